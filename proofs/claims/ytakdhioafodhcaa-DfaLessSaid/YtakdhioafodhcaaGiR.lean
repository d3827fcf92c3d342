/- Copies in memory of their own: slices.Clone. -/
import Derived.Test.YtakdhioafodhcaaGiT
set_option linter.unusedVariables false
set_option linter.unusedSimpArgs false
namespace Go.Gi
open Go

variable {α : Type}

def Weak (r : AV) (hp : HP) (r' : AV) (hp' : HP) : Prop := ∀ (Δ : Cx) (v : Value), HSim Δ hp → VRel Δ r v → ∃ Δ' : Cx, Δ'.w = Δ.w ∧ HSim Δ' hp' ∧ VRel Δ' r' v ∧ Ev Δ hp Δ' hp'

theorem Weak.trans {r r' r'' : AV} {hp hp' hp'' : HP} (h : Weak r hp r' hp') (k : Weak r' hp' r'' hp'') : Weak r hp r'' hp'' := fun Δ v h1 h2 => by
  obtain ⟨Δ', e1, h3, h4, h5⟩ := h Δ v h1 h2
  obtain ⟨Δ'', e2, h6, h7, h8⟩ := k Δ' v h3 h4
  exact ⟨Δ'', e2.trans e1, h6, h7, h5.trans h8⟩
theorem Weak.forget {r r' : AV} {hp hp' : HP} (hl : hp'.length = hp.length) (hg : ∀ (i : Nat) (x : Blk), hp'[i]? = some (some x) → hp[i]? = some (some x)) (hr : ∀ Δ v, HSim Δ hp → VRel Δ r v → VRel Δ r' v) : Weak r hp r' hp' := fun Δ v h1 h2 =>
  ⟨Δ, rfl, (h1.forget hp' hl hg).1, hr Δ v h1 h2, (h1.forget hp' hl hg).2⟩
theorem Weak.pad (r : AV) (hp : HP) : Weak r hp r (hp ++ [none]) := fun Δ v h1 h2 => by
  have le : Le Δ { Δ with n := Δ.n + 1 } := ⟨Nat.le_succ _, fun _ _ => rfl, fun _ h => h, fun _ _ => rfl, fun _ _ h => h, rfl⟩
  have old : ∀ (i : Nat) (x : Blk), (hp ++ [none])[i]? = some (some x) → hp[i]? = some (some x) := by
    intro i x hx
    rw [List.getElem?_append] at hx
    split at hx
    · exact hx
    · rename_i h
      cases hq : i - hp.length with
      | zero => rw [hq] at hx; simp at hx
      | succ n => rw [hq] at hx; simp at hx
  refine ⟨{ Δ with n := Δ.n + 1 }, rfl, ⟨by simp [h1.len], fun i x hx => ?_, fun i j x y hx hy e => h1.inj i j x y (old i x hx) (old j y hy) e, h1.fz, h1.gl.le le⟩, VRel.le le h2, ⟨le, rfl, rfl, rfl, Nat.le_refl _, fun _ _ _ => rfl, fun b ⟨i, x, hx, e⟩ => .inr ⟨i, x, old i x hx, e⟩, fun _ h => .inl h, rfl⟩⟩
  obtain ⟨k1, k2, k3⟩ := h1.blk i x (old i x hx)
  exact ⟨BRel.le le rfl k1, k2, k3⟩

theorem ACalls.weak {P : Program} {f : FuncId} {xs : List AV} {hp : HP} {r r' : AV} {hp1 hp2 : HP} (h : ACalls P f xs hp fun a b => a = r ∧ b = hp1) (hw : Weak r hp1 r' hp2) : ACalls P f xs hp fun a b => a = r' ∧ b = hp2 :=
  ⟨h.1, fun Γ vs hh hl hv => Calls.mono (h.2 Γ vs hh hl hv) fun e w' ⟨v, a, b, Δ, h1, h2, h3, h4, h5, h6, h7⟩ => by
    subst h6; subst h7
    obtain ⟨Δ', e1, k1, k2, k3⟩ := hw Δ v h4 h3
    exact ⟨v, r', hp2, Δ', h1, e1.trans h2, k2, k1, h5.trans k3, rfl, rfl⟩⟩

theorem ACalls.empty {P : Program} {f : FuncId} {hp : HP} {K : AV → HP → Prop} (h : ACalls P f [.nils] hp K) (k : ACalls P f [.enn] hp K) : ACalls P f [.fsl [] 0] hp K :=
  ⟨h.1, fun Γ vs hh hl hv => by
    simp only [VRels, VRel] at hv
    obtain ⟨v, vs', rfl, hv, rfl⟩ := hv
    rcases hv with ⟨hv | ⟨a, hv⟩, _⟩ | ⟨b, o, c, hv, _⟩
    · exact h.2 Γ _ hh hl (by simp only [VRels, VRel]; exact ⟨_, _, rfl, hv, rfl⟩)
    · exact k.2 Γ _ hh hl (by simp only [VRels, VRel]; exact ⟨_, _, rfl, ⟨a, 0, hv, .inl rfl⟩, rfl⟩)
    · exact k.2 Γ _ hh hl (by simp only [VRels, VRel]; exact ⟨_, _, rfl, ⟨_, c, hv, .inr rfl⟩, rfl⟩)⟩

abbrev cloneC (e : TypeId) (sz bytes : Nat) : IC :=
  (IC.reg [⟨some 2, .op .mov, [.c .nils], none⟩]).seq (((IC.reg [⟨some 3, .op .mov, [.t 0], none⟩, ⟨some 4, .op (.bin .eql .slice), [.t 3, .c .nils], none⟩]).seq (IC.cond (.t 4) ((IC.reg [⟨some 2, .op .mov, [.c .nils], none⟩]).seq IC.ret) IC.skip)).seq
    ((IC.reg [⟨some 5, .op (.bsl e sz false), [], none⟩, ⟨some 6, .op .mov, [.t 0], none⟩, ⟨some 7, .op (.app e sz bytes), [.t 5, .t 6], none⟩, ⟨some 2, .op .mov, [.t 7], none⟩]).seq IC.ret))

theorem clone_calls {P : Program} (hm : P.follows .mixedOrders = true) {hint : Nat → Nat} {f : FuncId} {e : TypeId} {bytes : Nat} (E : Enc α) (hf : compF P hint f = some ⟨cloneC e E.sz bytes, 8, [.t 2]⟩) {l : List α} (hb : l.length * bytes ≤ 140737488355328) (hn : l.length ≤ 9223372036854775807) (hp : HP) :
    ACalls P f [E.S l] hp fun r hp' => r = osl (hp.length + 1) l.length E.sz ∧ hp' = hp ++ [none, orow l.length e (E.cs l)] := by
  cases hl : l with
  | nil =>
    refine ACalls.empty ?_ ?_
    · refine ACalls.weak (r := .nils) (hp1 := hp) ?_ (((Weak.pad _ _).trans (Weak.pad _ _)).trans (Weak.forget (by simp) (by intro i x h; simpa [orow] using h) ?_))
      · refine calls_e hm (TabOk.none _) hf (by rfl) (by simp) ?_
        refine vcE.ex (by simp only [exC, exOps, exOp, wantedE, ↓reduceIte, ROp.run, evsE, evE, putE, ty, reduceCtorEq, List.getD_cons_zero, same, binA, eqA, isNilA, Option.map_some]; rfl) ?_
        exact ⟨_, rfl, rfl, rfl⟩
      · intro Δ v _ h
        simp only [VRel, osl, List.length_nil, if_true] at h ⊢
        exact .inl h
    · refine ACalls.weak (r := .sl hp.length 0 0 E.sz 0 true) (hp1 := hp ++ [some (.row e [])]) ?_ ((Weak.pad _ _).trans (Weak.forget (by simp) ?_ ?_))
      · refine calls_e hm (TabOk.none _) hf (by rfl) (by simp) ?_
        refine vcE.ex (by simp only [exC, exOps, exOp, wantedE, ↓reduceIte, ROp.run, evsE, evE, putE, ty, reduceCtorEq, List.getD_cons_zero, same, binA, eqA, isNilA, Option.map_some, bslA, List.length_nil, flatA, List.flatMap_nil, Nat.reduceEqDiff, appA, srcA]; rfl) ?_
        exact ⟨_, rfl, rfl, rfl⟩
      · intro i x h
        rw [List.getElem?_append] at h
        split at h
        · rw [List.append_assoc, List.getElem?_append]
          rename_i hi
          rw [if_pos hi]
          exact h
        · rename_i hi
          cases hq : i - hp.length with
          | zero => rw [hq] at h; simp at h
          | succ n => cases n with
            | zero => rw [hq] at h; simp [orow] at h
            | succ n => rw [hq] at h; simp at h
      · intro Δ v _ h
        simp only [VRel, osl, List.length_nil, if_true] at h ⊢
        obtain ⟨_, o, c, e', m, rfl, _, _, _, h3, _⟩ := h
        have := h3 trivial
        subst this
        exact .inr ⟨_, rfl⟩
  | cons a l' =>
    have h0 : 0 < l.length := by rw [hl]; simp
    rw [← hl]
    refine ACalls.weak (r := .sl (hp.length + 1) 0 l.length E.sz l.length false) (hp1 := hp ++ [some (.row e [])] ++ [some (.row e (E.cs l))]) ?_ (Weak.forget (by simp) ?_ ?_)
    · refine calls_e hm (TabOk.none _) hf (by rfl) (by simp) ?_
      have hsrc : ∀ hp, srcA hp E.sz (.fsl (E.cs l) l.length) = some (E.cs l, l.length) := fun hp => E.S_src hp l
      refine vcE.ex (by simp (disch := omega) only [exC, exOps, exOp, wantedE, ↓reduceIte, ROp.run, evsE, evE, putE, Enc.S, ty, reduceCtorEq, List.getD_cons_zero, same, binA, eqA, isNilA, if_neg, Option.map_some, bslA, List.length_nil, flatA, List.flatMap_nil, Nat.reduceEqDiff, appA, hsrc, List.getElem?_concat_length, Nat.zero_mul, Nat.zero_le, if_pos, List.take_zero, List.nil_append]; rfl) ?_
      refine ⟨_, rfl, ?_, rfl⟩
      simp only [upd_app, Nat.reduceEqDiff, ↓reduceIte, List.length_append, List.length_cons, List.length_nil]
    · intro i x h
      rw [orow_pos h0] at h
      rw [List.append_assoc]
      rw [List.getElem?_append] at h ⊢
      split at h
      · rename_i hi
        rw [if_pos hi]
        exact h
      · rename_i hi
        rw [if_neg hi]
        cases hq : i - hp.length with
        | zero => rw [hq] at h; simp at h
        | succ n => rw [hq] at h; simpa using h
    · intro Δ v _ h
      rw [osl_pos h0]
      exact h

def cloneT (E : Enc α) (e : TypeId) (bytes : Nat) (xs : List AV) : Option Res :=
  match xs with
  | [x] => match E.un x with
    | some l => if l.length * bytes ≤ 140737488355328 ∧ l.length ≤ 9223372036854775807 then some (.mk fun n => (osl (n + 1) l.length E.sz, [none, orow l.length e (E.cs l)])) else none
    | none => none
  | _ => none
theorem cloneT_S (E : Enc α) {e : TypeId} {bytes : Nat} {l : List α} (hb : l.length * bytes ≤ 140737488355328) (hn : l.length ≤ 9223372036854775807) : cloneT E e bytes [E.S l] = some (.mk fun n => (osl (n + 1) l.length E.sz, [none, orow l.length e (E.cs l)])) := by
  simp only [cloneT, E.un_S]
  rw [if_pos ⟨hb, hn⟩]
theorem cloneT_ok {P : Program} (hm : P.follows .mixedOrders = true) {hint : Nat → Nat} {f : FuncId} {e : TypeId} {bytes : Nat} (E : Enc α) (hf : compF P hint f = some ⟨cloneC e E.sz bytes, 8, [.t 2]⟩) (xs : List AV) (r : Res) (h : cloneT E e bytes xs = some r) : r.Ok P f xs := by
  unfold cloneT at h
  split at h
  · split at h
    · rename_i x l hu
      split at h
      · rename_i hb
        cases h
        rw [E.un_some hu]
        exact fun hp => clone_calls hm E hf hb.1 hb.2 hp
      · cases h
    · cases h
  · cases h

end Go.Gi
