/- Regions whose order is drawn, with several ways: each is followed. -/
import Derived.Test.YtakdhioafodhcaaGreatDoorGiAU
set_option linter.unusedVariables false
set_option linter.unusedSimpArgs false
namespace Go.Gi
open Go

mutual
/-- Each of the plan's ways leads to what K says. -/
def exT (w : Cls) (T : Tab) (is : List IOp) : Tr → Env → HP → (Env → HP → Prop) → Prop
  | .done, tm, hp, K => K tm hp
  | .take i t, tm, hp, K => match is[i]? with
    | none => exT w T is t tm hp K
    | some o => ∃ r, exOp w T o tm hp = some r ∧ exT w T is t r.1 r.2 K
  | .fork l, tm, hp, K => exTs w T is l tm hp K
def exTs (w : Cls) (T : Tab) (is : List IOp) : List (Nat × Tr) → Env → HP → (Env → HP → Prop) → Prop
  | [], _, _, _ => True
  | (i, t) :: l, tm, hp, K => (match is[i]? with
    | none => exT w T is t tm hp K
    | some o => ∃ r, exOp w T o tm hp = some r ∧ exT w T is t r.1 r.2 K) ∧ exTs w T is l tm hp K
end

mutual
theorem exT_vops {P : Program} {T : Tab} (hT : TabOk P T) {w : Cls} {n : Nat} {is : List IOp} (hr : is.all (·.inR n) = true) {K : Env → HP → Prop} {Q : St → Prop} (hq : ∀ tm' hp' l', Is n tm' l' → K tm' hp' → Q ⟨l', hp'⟩) : ∀ (t : Tr) {tm : Env} {hp : HP} {l : List AV}, Is n tm l → exT w T is t tm hp K → vopsT P w is t ⟨l, hp⟩ Q
  | .done, tm, hp, l, hl, h => by
    simp only [exT] at h
    simp only [vopsT]
    exact hq _ _ _ hl h
  | .take i t, tm, hp, l, hl, h => by
    simp only [exT] at h
    simp only [vopsT, opA]
    cases hi : is[i]? with
    | none =>
      rw [hi] at h
      exact exT_vops hT hr hq t hl h
    | some o =>
      rw [hi] at h
      obtain ⟨⟨tm1, hp1⟩, h1, h2⟩ := h
      have ho : o.inR n = true := List.all_eq_true.1 hr o (List.mem_of_getElem? hi)
      obtain ⟨v, h3, h4⟩ := exOp_yields (w := w) hT ho hl h1
      exact ⟨v, hp1, h3, exT_vops hT hr hq t h4 h2⟩
  | .fork ls, tm, hp, l, hl, h => by
    simp only [exT] at h
    simp only [vopsT]
    exact exTs_vops hT hr hq ls hl h
theorem exTs_vops {P : Program} {T : Tab} (hT : TabOk P T) {w : Cls} {n : Nat} {is : List IOp} (hr : is.all (·.inR n) = true) {K : Env → HP → Prop} {Q : St → Prop} (hq : ∀ tm' hp' l', Is n tm' l' → K tm' hp' → Q ⟨l', hp'⟩) : ∀ (ls : List (Nat × Tr)) {tm : Env} {hp : HP} {l : List AV}, Is n tm l → exTs w T is ls tm hp K → vopsTs P w is ls ⟨l, hp⟩ Q
  | [], tm, hp, l, hl, h => by simp only [vopsTs]
  | (i, t) :: ls, tm, hp, l, hl, h => by
    simp only [exTs] at h
    simp only [vopsTs, opA]
    refine ⟨?_, exTs_vops hT hr hq ls hl h.2⟩
    have h := h.1
    cases hi : is[i]? with
    | none =>
      rw [hi] at h
      exact exT_vops hT hr hq t hl h
    | some o =>
      rw [hi] at h
      obtain ⟨⟨tm1, hp1⟩, h1, h2⟩ := h
      have ho : o.inR n = true := List.all_eq_true.1 hr o (List.mem_of_getElem? hi)
      obtain ⟨v, h3, h4⟩ := exOp_yields (w := w) hT ho hl h1
      exact ⟨v, hp1, h3, exT_vops hT hr hq t h4 h2⟩
end
section
variable {w : Cls} {T : Tab} {is : List IOp} {i : Nat} {t : Tr} {l : List (Nat × Tr)} {o : IOp} {tm tm' : Env} {hp hp' : HP} {K : Env → HP → Prop}
end

end Go.Gi
