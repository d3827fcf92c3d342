/- Regions whose order is drawn, with several ways: each is followed. -/
import Derived.Test.YtakdhioafodhcaaGreatGiAU
set_option linter.unusedVariables false
set_option linter.unusedSimpArgs false
set_option linter.unusedSectionVars false
namespace Go.Gi
open Go
mutual
def exT (w : Cls) (T : Tab) (is : List IOp) : Tr → Env → HP → (Env → HP → Prop) → Prop
 | .done, tm, hp, K => K tm hp
 | .take i t, tm, hp, K => match is[i]? with
  | none => exT w T is t tm hp K
  | some o => ∃ r, exOp w T o tm hp = some r ∧ exT w T is t r.1 r.2 K
 | .fork l, tm, hp, K => exTs w T is l tm hp K
def exTs (w : Cls) (T : Tab) (is : List IOp) : List (Nat × Tr) → Env → HP → (Env → HP → Prop) → Prop
 | [], _, _, _ => True
 | (i, t) :: l, tm, hp, K => (match is[i]? with
  | none => exT w T is t tm hp K
  | some o => ∃ r, exOp w T o tm hp = some r ∧ exT w T is t r.1 r.2 K) ∧ exTs w T is l tm hp K
end
mutual
theorem exT_vops {P : Program} {T : Tab} (hT : TabOk P T) {w : Cls} {n : Nat} {is : List IOp} (hr : is.all (·.inR n) = true) {K : Env → HP → Prop} {Q : St → Prop} (hq : ∀ tm' hp' l', Is n tm' l' → K tm' hp' → Q ⟨l', hp'⟩) : ∀ (t : Tr) {tm : Env} {hp : HP} {l : List AV}, Is n tm l → exT w T is t tm hp K → vopsT P w is t ⟨l, hp⟩ Q
 | .done, tm, hp, l, hl, h => by
  simp only [exT] at h
  simp only [vopsT]
  exact hq _ _ _ hl h
 | .take i t, tm, hp, l, hl, h => by
  simp only [exT] at h
  simp only [vopsT, opA]
  cases hi : is[i]? with
  | none =>
   rw [hi] at h
   exact exT_vops hT hr hq t hl h
  | some o =>
   rw [hi] at h
   obtain ⟨⟨tm1, hp1⟩, h1, h2⟩ := h
   have ho : o.inR n = true := List.all_eq_true.1 hr o (List.mem_of_getElem? hi)
   obtain ⟨v, h3, h4⟩ := exOp_yields (w := w) hT ho hl h1
   exact ⟨v, hp1, h3, exT_vops hT hr hq t h4 h2⟩
 | .fork ls, tm, hp, l, hl, h => by
  simp only [exT] at h
  simp only [vopsT]
  exact exTs_vops hT hr hq ls hl h
theorem exTs_vops {P : Program} {T : Tab} (hT : TabOk P T) {w : Cls} {n : Nat} {is : List IOp} (hr : is.all (·.inR n) = true) {K : Env → HP → Prop} {Q : St → Prop} (hq : ∀ tm' hp' l', Is n tm' l' → K tm' hp' → Q ⟨l', hp'⟩) : ∀ (ls : List (Nat × Tr)) {tm : Env} {hp : HP} {l : List AV}, Is n tm l → exTs w T is ls tm hp K → vopsTs P w is ls ⟨l, hp⟩ Q
 | [], tm, hp, l, hl, h => by simp only [vopsTs]
 | (i, t) :: ls, tm, hp, l, hl, h => by
  simp only [exTs] at h
  simp only [vopsTs, opA]
  refine ⟨?_, exTs_vops hT hr hq ls hl h.2⟩
  have h := h.1
  cases hi : is[i]? with
  | none =>
   rw [hi] at h
   exact exT_vops hT hr hq t hl h
  | some o =>
   rw [hi] at h
   obtain ⟨⟨tm1, hp1⟩, h1, h2⟩ := h
   have ho : o.inR n = true := List.all_eq_true.1 hr o (List.mem_of_getElem? hi)
   obtain ⟨v, h3, h4⟩ := exOp_yields (w := w) hT ho hl h1
   exact ⟨v, hp1, h3, exT_vops hT hr hq t h4 h2⟩
end
theorem vcE.forks {P : Program} {hint : Nat → Nat} {T : Tab} {n : Nat} {w : Cls} {is : List IOp} {t : Tr} {tm : Env} {hp : HP} {Q : Exit → Env → HP → Prop} (K : Env → HP → Prop) (h : exT w T is t tm hp K) (k : ∀ tm' hp', K tm' hp' → Q .normal tm' hp') : vcE P hint T n (.regD w is t) tm hp Q :=
 vcE.drawn fun l Q' hl hq hT hr => exT_vops hT hr (fun tm' hp' l' h1 h2 => hq _ _ _ h1 (k _ _ h2)) t hl h
section
variable {w : Cls} {T : Tab} {is : List IOp} {i : Nat} {t : Tr} {l : List (Nat × Tr)} {o : IOp} {tm tm' : Env} {hp hp' : HP} {K : Env → HP → Prop}
theorem exT_done (h : K tm hp) : exT w T is .done tm hp K := by simp only [exT]; exact h
theorem exT_take (hi : is[i]? = some o) (h1 : exOp w T o tm hp = some (tm', hp')) (h2 : exT w T is t tm' hp' K) : exT w T is (.take i t) tm hp K := by
 simp only [exT, hi]
 exact ⟨_, h1, h2⟩
theorem exT_fork (h : exTs w T is l tm hp K) : exT w T is (.fork l) tm hp K := by simp only [exT]; exact h
theorem exTs_nil : exTs w T is [] tm hp K := by simp only [exTs]
theorem exTs_cons (hi : is[i]? = some o) (h1 : exOp w T o tm hp = some (tm', hp')) (h2 : exT w T is t tm' hp' K) (h3 : exTs w T is l tm hp K) : exTs w T is ((i, t) :: l) tm hp K := by
 simp only [exTs, hi]
 exact ⟨⟨_, h1, h2⟩, h3⟩
end
end Go.Gi
