/- A machine that runs compiled functions; what it runs is what the model does. -/
import Derived.Test.YtakdhioafodhcaaGreatDoorGiXA
set_option linter.unusedVariables false
set_option linter.unusedSimpArgs false
namespace Go.Gi
open Go
noncomputable section

/-- Temporaries as a tree: a number's binary digits tell the way. -/
inductive ET where
  | l
  | n (v : AV) (a b : ET)

def ET.get : ET → Nat → AV
  | .l, _ => .tup []
  | .n v _ _, 0 => v
  | .n _ a b, i + 1 => cond (Nat.beq (i % 2) 0) (a.get (i / 2)) (b.get (i / 2))
def ET.set : Nat → ET → Nat → AV → ET
  | 0, t, _, _ => t
  | _ + 1, .l, 0, v => .n v .l .l
  | _ + 1, .n _ a b, 0, v => .n v a b
  | k + 1, .l, i + 1, v => cond (Nat.beq (i % 2) 0) (.n (.tup []) (ET.set k .l (i / 2) v) .l) (.n (.tup []) .l (ET.set k .l (i / 2) v))
  | k + 1, .n u a b, i + 1, v => cond (Nat.beq (i % 2) 0) (.n u (ET.set k a (i / 2) v) b) (.n u a (ET.set k b (i / 2) v))

theorem ET.get_l (i : Nat) : ET.l.get i = .tup [] := by cases i <;> rfl
theorem half_ne {i j : Nat} (h : i % 2 = j % 2) : (i / 2 = j / 2) ↔ i = j := by omega
theorem ET.get_set : ∀ (k : Nat) (t : ET) (i j : Nat) (v : AV), i < k → (ET.set k t i v).get j = if j = i then v else t.get j
  | 0, t, i, j, v, h => absurd h (Nat.not_lt_zero i)
  | k + 1, .l, 0, 0, v, _ => by simp only [ET.set, ET.get, if_true]
  | k + 1, .l, 0, j + 1, v, _ => by
    simp only [ET.set, ET.get, ET.get_l]
    cases Nat.beq (j % 2) 0 <;> simp
  | k + 1, .n u a b, 0, 0, v, _ => by simp only [ET.set, ET.get, if_true]
  | k + 1, .n u a b, 0, j + 1, v, _ => by simp [ET.set, ET.get]
  | k + 1, .l, i + 1, 0, v, _ => by
    simp only [ET.set]
    cases Nat.beq (i % 2) 0 <;> simp [ET.get]
  | k + 1, .l, i + 1, j + 1, v, h => by
    have ih := ET.get_set k .l (i / 2) (j / 2) v (by omega)
    simp only [ET.set, ET.get_l] at ih ⊢
    rcases Nat.mod_two_eq_zero_or_one i with hi | hi <;> rcases Nat.mod_two_eq_zero_or_one j with hj | hj <;> simp only [hi, hj, Nat.beq, cond_true, cond_false, ET.get, ET.get_l, ih, Nat.add_right_cancel_iff]
    · simp only [half_ne (hj.trans hi.symm)]
    · rw [if_neg (by omega)]
    · rw [if_neg (by omega)]
    · simp only [half_ne (hj.trans hi.symm)]
  | k + 1, .n u a b, i + 1, 0, v, _ => by
    simp only [ET.set]
    cases Nat.beq (i % 2) 0 <;> simp [ET.get]
  | k + 1, .n u a b, i + 1, j + 1, v, h => by
    have iha := ET.get_set k a (i / 2) (j / 2) v (by omega)
    have ihb := ET.get_set k b (i / 2) (j / 2) v (by omega)
    simp only [ET.set]
    rcases Nat.mod_two_eq_zero_or_one i with hi | hi <;> rcases Nat.mod_two_eq_zero_or_one j with hj | hj <;> simp only [hi, hj, Nat.beq, cond_true, cond_false, ET.get, iha, ihb, Nat.add_right_cancel_iff]
    · simp only [half_ne (hj.trans hi.symm)]
    · rw [if_neg (by omega)]
    · rw [if_neg (by omega)]
    · simp only [half_ne (hj.trans hi.symm)]

def ET.of : Nat → List AV → ET → ET
  | _, [], t => t
  | i, x :: xs, t => ET.of (i + 1) xs (ET.set (i + 1) t i x)
theorem ET.get_of : ∀ (xs : List AV) (i : Nat) (t : ET) (j : Nat), (ET.of i xs t).get j = if i ≤ j ∧ j < i + xs.length then xs.getD (j - i) (.tup []) else t.get j
  | [], i, t, j => by
    simp only [ET.of, List.length_nil]
    rw [if_neg (by omega)]
  | x :: xs, i, t, j => by
    simp only [ET.of, List.length_cons]
    rw [ET.get_of xs (i + 1) _ j, ET.get_set _ _ _ _ _ (Nat.lt_succ_self i)]
    by_cases h1 : j = i
    · subst h1
      rw [if_neg (by omega), if_pos rfl, if_pos (by omega), Nat.sub_self]
      rfl
    · by_cases h2 : i + 1 ≤ j ∧ j < i + 1 + xs.length
      · rw [if_pos h2, if_pos (by omega)]
        obtain ⟨d, rfl⟩ : ∃ d, j = i + 1 + d := ⟨j - (i + 1), by omega⟩
        rw [show i + 1 + d - i = d + 1 by omega, Nat.add_sub_cancel_left]
        rfl
      · rw [if_neg h2, if_neg h1, if_neg (by omega)]
theorem ET.get_start (xs : List AV) : (ET.of 0 xs .l).get = start xs := by
  funext j
  rw [ET.get_of, ET.get_l]
  simp only [start, Nat.zero_le, true_and, Nat.zero_add, Nat.sub_zero]
  split
  · rfl
  · rename_i h
    rw [List.getD_eq_getElem?_getD, List.getElem?_eq_none (by omega)]
    rfl

/-- The same, without steps counted, where there is a place. -/
def ET.put : ET → Nat → AV → ET
  | .l, i, v => ET.set (i + 1) .l i v
  | .n _ a b, 0, v => .n v a b
  | .n u a b, i + 1, v => cond (Nat.beq (i % 2) 0) (.n u (a.put (i / 2) v) b) (.n u a (b.put (i / 2) v))
theorem ET.get_put : ∀ (t : ET) (i j : Nat) (v : AV), (t.put i v).get j = if j = i then v else t.get j
  | .l, i, j, v => by simp only [ET.put]; exact ET.get_set _ _ _ _ _ (Nat.lt_succ_self i)
  | .n u a b, 0, 0, v => by simp [ET.put, ET.get]
  | .n u a b, 0, j + 1, v => by simp [ET.put, ET.get]
  | .n u a b, i + 1, 0, v => by
    simp only [ET.put]
    cases Nat.beq (i % 2) 0 <;> simp [ET.get]
  | .n u a b, i + 1, j + 1, v => by
    have iha := ET.get_put a (i / 2) (j / 2) v
    have ihb := ET.get_put b (i / 2) (j / 2) v
    simp only [ET.put]
    rcases Nat.mod_two_eq_zero_or_one i with hi | hi <;> rcases Nat.mod_two_eq_zero_or_one j with hj | hj <;> simp only [hi, hj, Nat.beq, cond_true, cond_false, ET.get, iha, ihb, Nat.add_right_cancel_iff]
    · simp only [half_ne (hj.trans hi.symm)]
    · rw [if_neg (by omega)]
    · rw [if_neg (by omega)]
    · simp only [half_ne (hj.trans hi.symm)]
/-- Places for temporaries. -/
def ET.full : Nat → ET
  | 0 => .l
  | d + 1 => .n (.tup []) (ET.full d) (ET.full d)
theorem ET.get_full : ∀ (d i : Nat), (ET.full d).get i = .tup []
  | 0, i => ET.get_l i
  | d + 1, 0 => rfl
  | d + 1, i + 1 => by
    simp only [ET.full, ET.get]
    cases Nat.beq (i % 2) 0
    · exact ET.get_full d _
    · exact ET.get_full d _
theorem ET.get_begin (xs : List AV) (d : Nat) : (ET.of 0 xs (ET.full d)).get = start xs := by
  funext j
  rw [ET.get_of, ET.get_full]
  simp only [start, Nat.zero_le, true_and, Nat.zero_add, Nat.sub_zero]
  split
  · rfl
  · rename_i h
    rw [List.getD_eq_getElem?_getD, List.getElem?_eq_none (by omega)]
    rfl

/-- The same by the recursor itself (short ways for the kernel). -/
def ET.getR : ET → Nat → AV := fun t => ET.rec (motive := fun _ => Nat → AV) (fun _ => .tup []) (fun v _ _ ga gb i => Nat.rec (motive := fun _ => AV) v (fun j _ => cond (Nat.beq (j % 2) 0) (ga (j / 2)) (gb (j / 2))) i) t
theorem ET.getR_eq : ∀ (t : ET) (i : Nat), t.getR i = t.get i
  | .l, i => (ET.get_l i).symm
  | .n v a b, 0 => rfl
  | .n v a b, i + 1 => by
    show cond (Nat.beq (i % 2) 0) (a.getR (i / 2)) (b.getR (i / 2)) = _
    rw [ET.getR_eq a, ET.getR_eq b]
    rfl
def ET.putR : ET → Nat → AV → ET := fun t => ET.rec (motive := fun _ => Nat → AV → ET) (fun i v => ET.put ET.l i v) (fun u a b pa pb i v => Nat.rec (motive := fun _ => ET) (ET.n v a b) (fun j _ => cond (Nat.beq (j % 2) 0) (ET.n u (pa (j / 2) v) b) (ET.n u a (pb (j / 2) v))) i) t
theorem ET.putR_eq : ∀ (t : ET) (i : Nat) (v : AV), t.putR i v = t.put i v
  | .l, i, v => rfl
  | .n u a b, 0, v => rfl
  | .n u a b, i + 1, v => by
    show cond (Nat.beq (i % 2) 0) (ET.n u (a.putR (i / 2) v) b) (ET.n u a (b.putR (i / 2) v)) = _
    rw [ET.putR_eq a, ET.putR_eq b]
    rfl
def xput (t : ET) : Option Nat → AV → ET
  | none, _ => t
  | some i, v => t.putR i v
theorem xput_get (t : ET) (d : Option Nat) (v : AV) : (xput t d v).get = putE t.get d v := by
  cases d with
  | none => rfl
  | some i =>
    funext j
    simp only [xput, putE, upd, ET.putR_eq, ET.get_put]

/-- Compiled functions, by their numbers. -/
inductive FTr where
  | nil
  | node (k : Nat) (g : FC) (a b : FTr)
def FTr.get : FTr → Nat → Option FC
  | .nil, _ => none
  | .node k g a b, f => cond (Nat.beq f k) (some g) (cond (Nat.blt f k) (a.get f) (b.get f))
def FTr.All (p : FuncId → FC → Prop) : FTr → Prop
  | .nil => True
  | .node k g a b => p k g ∧ a.All p ∧ b.All p
theorem FTr.All.get {p : FuncId → FC → Prop} : ∀ {t : FTr}, t.All p → ∀ {f : Nat} {g : FC}, t.get f = some g → p f g
  | .nil, _, f, g, h => by simp [FTr.get] at h
  | .node k g' a b, h0, f, g, h => by
    simp only [FTr.All] at h0
    simp only [FTr.get] at h
    cases hk : Nat.beq f k
    · rw [hk] at h
      simp only [cond_false] at h
      cases hl : Nat.blt f k
      · rw [hl] at h; exact h0.2.2.get h
      · rw [hl] at h; exact h0.2.1.get h
    · rw [hk] at h
      simp only [cond_true, Option.some.injEq] at h
      subst h
      have := Nat.eq_of_beq_eq_true hk
      subst this
      exact h0.1

/-- It is what the compiler gives, for some hints. -/
def FOk (P : Program) (f : FuncId) (g : FC) : Prop := ∃ hint, compF P hint f = some g ∧ (okS g.ntmps g.code && g.res.all (resR g.ntmps)) = true ∧ (noR g.code = true ∨ KeysF P hint f)
def ltGet : List (Nat × LI) → Nat → Option LI
  | [], _ => none
  | (k, li) :: l, key => cond (Nat.beq key k) (some li) (ltGet l key)
def LAll (P : Program) : List (Nat × LI) → Prop
  | [] => True
  | (k, li) :: l => LOk P k li ∧ LAll P l
theorem LAll.get {P : Program} : ∀ {l : List (Nat × LI)}, LAll P l → ∀ {key : Nat} {li : LI}, ltGet l key = some li → LOk P key li
  | [], _, key, li, h => by simp [ltGet] at h
  | (k, li') :: l, h0, key, li, h => by
    simp only [ltGet] at h
    cases hb : Nat.beq key k <;> rw [hb] at h
    · exact LAll.get h0.2 h
    · cases h
      have := Nat.eq_of_beq_eq_true hb
      subst this
      exact h0.1
/-! ### Names of blocks -/
mutual
/-- It names only blocks below k. -/
def idsLt (k : Nat) : AV → Bool
  | .ptr id _ => Nat.blt id k
  | .sl id _ _ _ _ _ => Nat.blt id k
  | .map id => Nat.blt id k
  | .yld id => Nat.blt id k
  | .bound _ cs => idsLtL k cs
  | .fptr cs _ => idsLtL k cs
  | .fsl cs _ => idsLtL k cs
  | .func _ cs => idsLtL k cs
  | .agg cs => idsLtL k cs
  | .tup cs => idsLtL k cs
  | .iface _ a => idsLt k a
  | _ => true
def idsLtL (k : Nat) : List AV → Bool
  | [] => true
  | a :: as => idsLt k a && idsLtL k as
end
theorem blt_of {a b : Nat} (h : a < b) : Nat.blt a b = true := by
  unfold Nat.blt
  exact Nat.ble_eq_true_of_le h
theorem of_blt {a b : Nat} (h : Nat.blt a b = true) : a < b := by
  unfold Nat.blt at h
  exact Nat.le_of_ble_eq_true h
mutual
theorem VRel.idsLt {Γ : Cx} : ∀ {a : AV} {v : Value}, VRel Γ a v → Gi.idsLt Γ.n a = true
  | .int _ _, _, _ | .bool _, _, _ | .str _, _, _ | .nilp, _, _ | .nils, _, _ | .esl, _, _ | .enn, _, _ | .nilm, _, _ | .nilf, _, _ | .nili, _, _ | .unk, _, _ => by simp only [Gi.idsLt]
  | .ptr _ _, _, h | .sl .., _, h | .map _, _, h | .yld _, _, h => by simp only [VRel] at h; simp only [Gi.idsLt]; exact blt_of h.1
  | .bound _ cs, _, h => by
    simp only [VRel] at h
    obtain ⟨_, _, h⟩ := h
    simp only [Gi.idsLt]
    exact h.idsLt
  | .fptr cs _, _, h => by
    simp only [VRel] at h
    obtain ⟨_, _, _, _, h⟩ := h
    simp only [Gi.idsLt]
    exact h.idsLt
  | .fsl cs _, _, h => by
    simp only [VRel] at h
    simp only [Gi.idsLt]
    rcases h with ⟨_, _, rfl⟩ | ⟨_, _, _, _, _, _, h⟩
    · simp only [idsLtL]
    · exact h.idsLt
  | .func _ cs, _, h => by
    simp only [VRel] at h
    obtain ⟨_, _, h⟩ := h
    simp only [Gi.idsLt]
    exact h.idsLt
  | .agg cs, _, h => by
    simp only [VRel] at h
    obtain ⟨_, _, h, _⟩ := h
    simp only [Gi.idsLt]
    exact h.idsLt
  | .tup cs, _, h => by
    simp only [VRel] at h
    obtain ⟨_, _, h⟩ := h
    simp only [Gi.idsLt]
    exact h.idsLt
  | .iface _ a, _, h => by
    simp only [VRel] at h
    obtain ⟨_, _, h⟩ := h
    simp only [Gi.idsLt]
    exact h.idsLt
theorem VRels.idsLt {Γ : Cx} : ∀ {as : List AV} {vs : List Value}, VRels Γ as vs → idsLtL Γ.n as = true
  | [], _, _ => by simp only [idsLtL]
  | a :: as, _, h => by
    simp only [VRels] at h
    obtain ⟨_, _, _, h1, h2⟩ := h
    simp only [idsLtL, h1.idsLt, h2.idsLt, Bool.and_self]
theorem CellsAt.idsLt {Γ : Cx} : ∀ {as : List AV} {b o : Nat}, CellsAt Γ as b o → idsLtL Γ.n as = true
  | [], _, _, _ => by simp only [idsLtL]
  | a :: as, _, _, h => by
    simp only [CellsAt] at h
    obtain ⟨⟨_, _, _, h1⟩, h2⟩ := h
    simp only [idsLtL, h1.idsLt, h2.idsLt, Bool.and_self]
end
/-- Fewer blocks are known. -/
def Cx.cut (Γ : Cx) (k : Nat) : Cx := { Γ with n := k }
mutual
theorem VRel.cut {Γ : Cx} {k : Nat} : ∀ {a : AV} {v : Value}, VRel Γ a v → Gi.idsLt k a = true → VRel (Γ.cut k) a v
  | .int _ _, _, h, _ | .bool _, _, h, _ | .str _, _, h, _ | .nilp, _, h, _ | .nils, _, h, _ | .esl, _, h, _ | .enn, _, h, _ | .nilm, _, h, _ | .nilf, _, h, _ | .nili, _, h, _ | .unk, _, h, _ => by simpa only [VRel] using h
  | .bound _ cs, _, h, hk => by
    simp only [Gi.idsLt] at hk
    simp only [VRel] at h ⊢
    obtain ⟨vs, h1, h2⟩ := h
    exact ⟨vs, h1, h2.cut hk⟩
  | .ptr _ _, _, h, hk | .sl .., _, h, hk | .map _, _, h, hk | .yld _, _, h, hk => by
    simp only [Gi.idsLt] at hk
    simp only [VRel] at h ⊢
    exact ⟨of_blt hk, h.2⟩
  | .fptr cs _, _, h, hk => by
    simp only [Gi.idsLt] at hk
    simp only [VRel] at h ⊢
    obtain ⟨b, o, h1, h2, h3⟩ := h
    exact ⟨b, o, h1, h2, h3.cut hk⟩
  | .fsl cs _, _, h, hk => by
    simp only [Gi.idsLt] at hk
    simp only [VRel] at h ⊢
    rcases h with h | ⟨b, o, c, h1, h2, h3, h4⟩
    · exact .inl h
    · exact .inr ⟨b, o, c, h1, h2, h3, h4.cut hk⟩
  | .func _ cs, _, h, hk => by
    simp only [Gi.idsLt] at hk
    simp only [VRel] at h ⊢
    obtain ⟨vs, h1, h2⟩ := h
    exact ⟨vs, h1, h2.cut hk⟩
  | .agg cs, _, h, hk => by
    simp only [Gi.idsLt] at hk
    simp only [VRel] at h ⊢
    obtain ⟨vs, h1, h2, h3⟩ := h
    exact ⟨vs, h1, h2.cut hk, h3⟩
  | .tup cs, _, h, hk => by
    simp only [Gi.idsLt] at hk
    simp only [VRel] at h ⊢
    obtain ⟨vs, h1, h2⟩ := h
    exact ⟨vs, h1, h2.cut hk⟩
  | .iface _ a, _, h, hk => by
    simp only [Gi.idsLt] at hk
    simp only [VRel] at h ⊢
    obtain ⟨u, h1, h2⟩ := h
    exact ⟨u, h1, h2.cut hk⟩
theorem VRels.cut {Γ : Cx} {k : Nat} : ∀ {as : List AV} {vs : List Value}, VRels Γ as vs → idsLtL k as = true → VRels (Γ.cut k) as vs
  | [], _, h, _ => by simpa only [VRels] using h
  | a :: as, _, h, hk => by
    simp only [idsLtL, Bool.and_eq_true] at hk
    simp only [VRels] at h ⊢
    obtain ⟨v, vs, h0, h1, h2⟩ := h
    exact ⟨v, vs, h0, h1.cut hk.1, h2.cut hk.2⟩
theorem CellsAt.cut {Γ : Cx} {k : Nat} : ∀ {as : List AV} {b o : Nat}, CellsAt Γ as b o → idsLtL k as = true → CellsAt (Γ.cut k) as b o
  | [], _, _, h, _ => by simp only [CellsAt]
  | a :: as, _, _, h, hk => by
    simp only [idsLtL, Bool.and_eq_true] at hk
    simp only [CellsAt] at h ⊢
    obtain ⟨⟨v, h0, h1, h2⟩, h3⟩ := h
    exact ⟨⟨v, h0, h1, h2.cut hk.1⟩, h3.cut hk.2⟩
end

/-- What a call made and nobody names is forgotten. -/
theorem ACalls.cut {P : Program} {f : FuncId} {xs : List AV} {hp new : HP} {r : AV} (h : ACalls P f xs hp fun a b => a = r ∧ b = hp ++ new) (hr : idsLt hp.length r = true) : ACalls P f xs hp fun a b => a = r ∧ b = hp := by
  refine ⟨h.1, fun Γ vs hh hl hv => Calls.mono (h.2 Γ vs hh hl hv) ?_⟩
  rintro e w' ⟨v, a, b, Δ, rfl, rfl, h3, h4, h5, rfl, rfl⟩
  have hn : hp.length = Γ.n := hh.len
  have le : Le Γ (Δ.cut hp.length) := ⟨by show Γ.n ≤ hp.length; omega, fun i hi => h5.le.β i hi, h5.le.fz, h5.le.kept, h5.le.shape, h5.le.lc⟩
  have old : ∀ (i : Nat) (x : Blk), hp[i]? = some (some x) → (hp ++ new)[i]? = some (some x) := fun i x hx => by rw [List.getElem?_append_left (HP.lt hx)]; exact hx
  refine ⟨v, a, hp, Δ.cut hp.length, rfl, rfl, h3.cut hr, ⟨rfl, fun i x hx => ?_, fun i j x y hx hy e => h4.inj i j x y (old i x hx) (old j y hy) e, h4.fz, h4.gl.same rfl fun _ h => h⟩, ⟨le, h5.os, h5.tape, h5.output, h5.size, h5.frame, fun b ⟨i, x, hx, e⟩ => h5.live b ⟨i, x, old i x hx, e⟩, h5.fz, h5.s0⟩, rfl, rfl⟩
  obtain ⟨k1, k2, k3⟩ := h4.blk i x (old i x hx)
  refine ⟨?_, k2, k3⟩
  have hb := (hh.blk i x hx).1
  cases x with
  | row e cs =>
    simp only [BRel] at k1 hb ⊢
    refine ⟨k1.1, k1.2.cut ?_⟩
    rw [hn]
    exact hb.2.idsLt
  | iter is since seen last =>
    simp only [BRel] at k1 hb ⊢
    obtain ⟨mo, q1, q2⟩ := k1
    obtain ⟨_, _, p2⟩ := hb
    exact ⟨mo, q1, q2.cut (by rw [hn]; exact p2.idsLt)⟩
  | map es bs c =>
    simp only [BRel] at k1 hb ⊢
    obtain ⟨ms, clock, q1, q2, q3, q4, q5, q6⟩ := k1
    obtain ⟨_, _, _, _, _, p4, p5, _⟩ := hb
    refine ⟨ms, clock, q1, q2, q3, q4.cut ?_, q5.cut ?_, q6⟩
    · rw [hn]; exact p4.idsLt
    · rw [hn]; exact p5.idsLt
  | loop tms key st pend =>
    simp only [BRel] at k1 hb ⊢
    obtain ⟨fn, vs, d, q1, q2⟩ := k1
    obtain ⟨_, _, _, _, p2⟩ := hb
    exact ⟨fn, vs, d, q1, q2.cut (by rw [hn]; exact p2.idsLt)⟩

/-! ### Which block an operation writes -/
def lowOf : ROp → List AV → Option Nat
  | .store _, .ptr id _ :: _ => some id
  | .app _ _ _, .sl id _ _ _ _ _ :: _ => some id
  | .clear _, .sl id _ _ _ _ _ :: _ => some id
  | .cpy _, .sl id _ _ _ _ _ :: _ => some id
  | .mapup _, .map id :: _ => some id
  | .del _, .map id :: _ => some id
  | .nextm, .ptr id _ :: _ => some id
  | .nexts, .ptr id _ :: _ => some id
  | _, _ => none

/-- All but one block is as it was; some are new. -/
def Keeps (hp hp' : HP) (o : Option Nat) : Prop := hp.length ≤ hp'.length ∧ ∀ i, i < hp.length → o ≠ some i → hp'[i]? = hp[i]?
theorem Keeps.refl (hp : HP) (o : Option Nat) : Keeps hp hp o := ⟨Nat.le_refl _, fun _ _ _ => rfl⟩
theorem Keeps.app (hp new : HP) (o : Option Nat) : Keeps hp (hp ++ new) o := ⟨by simp, fun i hi _ => List.getElem?_append_left hi⟩
theorem Keeps.set (hp new : HP) (id : Nat) (x : Option Blk) : Keeps hp (hp.set id x ++ new) (some id) :=
  ⟨by simp, fun i hi hne => by
    rw [List.getElem?_append_left (by simpa using hi), List.getElem?_set, if_neg (fun e => hne (by rw [e]))]⟩
theorem Keeps.set' (hp : HP) (id : Nat) (x : Option Blk) : Keeps hp (hp.set id x) (some id) := by
  have := Keeps.set hp [] id x
  rwa [List.append_nil] at this

theorem run_keeps {r : ROp} {xs : List AV} {hp h : HP} {v : AV} (hr : r.run xs hp = some (v, h)) : Keeps hp h (lowOf r xs) := by
  have free : r.cls = .free → Keeps hp h (lowOf r xs) := fun hc => by rw [(free_spec hc hr hp).1]; exact Keeps.refl _ _
  have load : r.cls = .load → Keeps hp h (lowOf r xs) := fun hc => by rw [(load_spec hc hr).1]; exact Keeps.refl _ _
  have alloc : r.cls = .alloc → Keeps hp h (lowOf r xs) := fun hc => by obtain ⟨new, rfl⟩ := alloc_spec hc hr; exact Keeps.app _ _ _
  cases hc : r.cls with
  | free => exact free hc
  | load => exact load hc
  | alloc => exact alloc hc
  | pure => cases r <;> simp only [ROp.cls, reduceCtorEq] at hc; rename_i fz; cases fz <;> simp [ROp.cls] at hc
  | mix b m => cases r <;> simp only [ROp.cls, reduceCtorEq] at hc; rename_i fz; cases fz <;> simp [ROp.cls] at hc
  | wild =>
    cases r <;> simp only [ROp.cls, reduceCtorEq] at hc
    case bsl e sz fz => cases fz <;> simp [ROp.cls] at hc
    case store n =>
      simp only [ROp.run] at hr
      split at hr
      · rename_i p u
        cases hs : storeA hp n p u with
        | none => simp [hs] at hr
        | some h' =>
          simp only [hs, Option.map_some, Option.some.injEq, Prod.mk.injEq] at hr
          obtain ⟨_, rfl⟩ := hr
          cases p <;> simp only [storeA, reduceCtorEq] at hs
          split at hs
          · split at hs
            · cases hs
            · split at hs
              · cases hs; exact Keeps.set' _ _ _
              · cases hs
          · cases hs
      · cases hr
    case app e sz bytes =>
      simp only [ROp.run] at hr
      split at hr
      · rename_i d x
        simp only [appA] at hr
        split at hr
        · cases hr
        · rename_i new m hsrc
          cases d <;> simp only [reduceCtorEq] at hr
          case nils =>
            split at hr
            · cases hr; exact Keeps.refl _ _
            · split at hr
              · cases hr; exact Keeps.app _ _ _
              · cases hr
          case esl =>
            split at hr
            · cases hr; exact Keeps.refl _ _
            · split at hr
              · cases hr; exact Keeps.app _ _ _
              · cases hr
          case fsl =>
            split at hr
            · cases hr; exact Keeps.refl _ _
            · cases hr
          case sl id off len sz' lo ex =>
            split at hr
            · cases hr; exact Keeps.refl _ _
            · split at hr
              · split at hr
                · split at hr
                  · split at hr
                    · cases hr; exact Keeps.set' _ _ _
                    · cases hr
                  · split at hr
                    · split at hr
                      · cases hr; exact Keeps.app _ _ _
                      · split at hr
                        · cases hr; exact Keeps.set _ _ _ _
                        · cases hr
                    · cases hr
                · cases hr
              · cases hr
      · cases hr
    case clear Z =>
      simp only [ROp.run] at hr
      split at hr
      · rename_i x
        cases hs : clearA hp Z x with
        | none => simp [hs] at hr
        | some h' =>
          simp only [hs, Option.map_some, Option.some.injEq, Prod.mk.injEq] at hr
          obtain ⟨_, rfl⟩ := hr
          cases x <;> simp only [clearA, reduceCtorEq, Option.some.injEq] at hs
          case nils => subst hs; exact Keeps.refl _ _
          case esl => subst hs; exact Keeps.refl _ _
          case fsl => split at hs <;> cases hs; exact Keeps.refl _ _
          case sl =>
            split at hs
            · cases hs; exact Keeps.refl _ _
            · split at hs
              · split at hs
                · cases hs; exact Keeps.set' _ _ _
                · cases hs
              · cases hs
      · cases hr
    case del kk =>
      simp only [ROp.run] at hr
      split at hr
      · rename_i m k
        cases hs : delA hp kk m k with
        | none => simp [hs] at hr
        | some h' =>
          simp only [hs, Option.map_some, Option.some.injEq, Prod.mk.injEq] at hr
          obtain ⟨_, rfl⟩ := hr
          unfold delA at hs
          cases hk : keyA kk k <;> rw [hk] at hs
          · cases hs
          · simp only [cond_true] at hs
            split at hs
            · cases hs; exact Keeps.refl _ _
            · split at hs
              · split at hs
                · cases hs; exact Keeps.set' _ _ _
                · cases hs; exact Keeps.refl _ _
                · cases hs
              · cases hs
            · cases hs
      · cases hr
    case hav => simp [ROp.run] at hr
    case nexts =>
      simp only [ROp.run] at hr
      split at hr
      · unfold nextSA at hr
        split at hr
        · split at hr
          · split at hr
            · generalize Nat.blt _ _ = cb at hr
              cases cb
              · cases hr; exact Keeps.refl _ _
              · cases hr; exact Keeps.set' _ _ _
            · cases hr
          · cases hr
        · cases hr
      · cases hr
    case nextm =>
      simp only [ROp.run] at hr
      split at hr
      · unfold nextA at hr
        split at hr
        · split at hr
          · split at hr
            · cases hr; exact Keeps.refl _ _
            · split at hr
              · rename_i bs clock _
                rename_i es _ _ _
                generalize (bs.all _ && _) = cb at hr
                cases cb
                · cases hr
                · simp only [cond_true] at hr
                  split at hr
                  · cases hr; exact Keeps.refl _ _
                  · cases hr; exact Keeps.set' _ _ _
                  · cases hr
              · cases hr
            · cases hr
          · cases hr
        · cases hr
      · cases hr
    case mapup kk =>
      simp only [ROp.run] at hr
      split at hr
      · rename_i m k u
        cases hs : mapupA hp kk m k u with
        | none => simp [hs] at hr
        | some h' =>
          simp only [hs, Option.map_some, Option.some.injEq, Prod.mk.injEq] at hr
          obtain ⟨_, rfl⟩ := hr
          unfold mapupA at hs
          cases hk : keyA kk k <;> rw [hk] at hs
          · cases hs
          · simp only [cond_true] at hs
            split at hs
            · split at hs
              · split at hs
                · cases hs; exact Keeps.set' _ _ _
                · cases hs; exact Keeps.set' _ _ _
                · cases hs
              · cases hs
            · cases hs
      · cases hr
    case cpy sz =>
      simp only [ROp.run] at hr
      split at hr
      · rename_i d x
        unfold copyA at hr
        split at hr
        · split at hr
          · cases hr; exact Keeps.refl _ _
          · cases hr; exact Keeps.refl _ _
          · cases hr; exact Keeps.refl _ _
          · split at hr
            · split at hr
              · split at hr
                · split at hr
                  · cases hr; exact Keeps.set' _ _ _
                  · cases hr
                · cases hr
              · cases hr
            · cases hr
          · cases hr
        · cases hr
      · cases hr
    case cvs =>
      simp only [ROp.run] at hr
      split at hr
      · obtain ⟨_, rfl⟩ := same_some hr; exact Keeps.refl _ _
      · cases hr
    case never => simp [ROp.run] at hr
    case cap =>
      simp only [ROp.run] at hr
      split at hr
      · obtain ⟨_, rfl⟩ := same_some hr; exact Keeps.refl _ _
      · cases hr
    case appz e Z bytes =>
      simp only [ROp.run] at hr
      split at hr
      · unfold appzA at hr
        split at hr
        · split at hr
          · split at hr
            · split at hr
              · cases hr; exact Keeps.refl _ _
              · cases hr; exact Keeps.app _ _ _
            · cases hr
          · cases hr
        · cases hr
      · cases hr

/-! ### Calls -/
/-- What a call gives: its result, the memory, and below which block all is as it was. -/
abbrev XCall := FuncId → List AV → HP → Option (AV × HP × Nat)
def Kept (hp hp' : HP) (lo : Nat) : Prop := lo ≤ hp.length ∧ hp.length ≤ hp'.length ∧ ∀ i, i < lo → hp'[i]? = hp[i]?
def XOk (P : Program) (call : XCall) : Prop := ∀ f xs hp r hp' lo, call f xs hp = some (r, hp', lo) → (ACalls P f xs hp fun a b => a = r ∧ b = hp') ∧ Kept hp hp' lo
theorem Kept.refl (hp : HP) : Kept hp hp hp.length := ⟨Nat.le_refl _, Nat.le_refl _, fun _ _ => rfl⟩
theorem Kept.app {hp hp' : HP} {lo : Nat} (h : Kept hp hp' lo) (hl : hp.length ≤ lo) : ∃ new, hp' = hp ++ new := by
  refine ⟨hp'.drop hp.length, ?_⟩
  have ht : hp = hp'.take hp.length := by
    apply List.ext_getElem?
    intro i
    rw [List.getElem?_take]
    split
    · rename_i hi
      exact (h.2.2 i (by have := h.1; omega)).symm
    · rename_i hi
      exact List.getElem?_eq_none (by omega)
  conv => rhs; lhs; rw [ht]
  exact (List.take_append_drop _ _).symm
theorem Kept.same {hp hp' : HP} {lo : Nat} (h : Kept hp hp' lo) (hl : hp.length ≤ lo) (he : hp'.length = hp.length) : hp' = hp := by
  obtain ⟨new, rfl⟩ := h.app hl
  have : new = [] := List.eq_nil_of_length_eq_zero (by rw [List.length_append] at he; omega)
  rw [this, List.append_nil]

/-- A call that only reads: its arguments are taken for frozen, and so is what it gives. -/
def xview (call : XCall) (f : FuncId) (xs : List AV) (hp : HP) : Option AV :=
  match frzL hp xs with
  | some zs => cond (nidL zs) (match call f zs [] with
    | some (r, h0, _) => fresh h0 r
    | none => none) none
  | none => none
theorem xview_ok {P : Program} {call : XCall} (hc : XOk P call) {f : FuncId} {xs : List AV} {hp : HP} {v : AV} (h : xview call f xs hp = some v) : ∃ zs, frzL hp xs = some zs ∧ PCF P f zs v := by
  unfold xview at h
  split at h
  · rename_i zs hz
    cases hn : nidL zs
    · rw [hn] at h; cases h
    · rw [hn] at h
      simp only [cond_true] at h
      split at h
      · rename_i r h0 lo hr
        exact ⟨zs, hz, pcf_of (nidL_ok hn) ((hc _ _ _ _ _ _ hr).1.mono fun a b ⟨e1, e2⟩ => by subst e1; subst e2; exact fresh_ok h)⟩
      · cases h
  · cases h

/-- A function value's call. -/
abbrev XCallV := AV → List AV → HP → Option (AV × HP × Nat)
def XOkV (P : Program) (callv : XCallV) : Prop := ∀ fv xs hp r hp' lo, callv fv xs hp = some (r, hp', lo) → (ACallV P fv xs hp fun a b => a = r ∧ b = hp') ∧ Kept hp hp' lo

/-- A call, as a region's class wants it. -/
def xcall (call : XCall) (callv : XCallV) (w : Cls) (fv : AV) (xs : List AV) (hp : HP) : Option (AV × HP × Nat) :=
  match w with
  | .free => match fv with
    | .func f caps => cond (nidL (xs ++ caps)) (match xview call f (xs ++ caps) hp with
      | some v => some (v, hp, hp.length)
      | none => none) none
    | _ => none
  | .pure => match callv fv xs hp with
    | some (v, h, lo) => cond (Nat.ble hp.length lo && Nat.beq h.length hp.length) (some (v, h, lo)) none
    | none => none
  | .alloc => match callv fv xs hp with
    | some (v, h, lo) => cond (Nat.ble hp.length lo) (some (v, h, lo)) none
    | none => none
  | _ => callv fv xs hp

theorem xcall_ok {P : Program} {call : XCall} (hc : XOk P call) {callv : XCallV} (hv : XOkV P callv) {w : Cls} {fv : AV} {xs : List AV} {hp : HP} {v : AV} {h : HP} {lo : Nat} (hx : xcall call callv w fv xs hp = some (v, h, lo)) :
    (w = .free → h = hp ∧ ∀ hp, ACallV P fv xs hp fun r hp' => r = v ∧ hp' = hp) ∧ (w = .pure → h = hp) ∧ (w = .alloc → ∃ new, h = hp ++ new) ∧ (ACallV P fv xs hp fun r hp' => r = v ∧ hp' = h) ∧ Kept hp h lo := by
  cases w with
  | free =>
    simp only [xcall] at hx
    split at hx
    · rename_i f caps
      cases hn : nidL (xs ++ caps)
      · rw [hn] at hx; cases hx
      · rw [hn] at hx
        simp only [cond_true] at hx
        split at hx
        · rename_i u hu
          cases hx
          obtain ⟨zs, h2, h3⟩ := xview_ok hc hu
          exact ⟨fun _ => ⟨rfl, fun hp2 => Or.inl (h3.view (frzL_ok ((frzL_nid hn).trans h2)))⟩, (by intro h; cases h), (by intro h; cases h), Or.inl (h3.view (frzL_ok h2)), Kept.refl _⟩
        · cases hx
    · cases hx
  | pure =>
    simp only [xcall] at hx
    split at hx
    · rename_i u h' lo' hu
      cases hb : (Nat.ble hp.length lo' && Nat.beq h'.length hp.length) <;> rw [hb] at hx <;> cases hx
      simp only [Bool.and_eq_true] at hb
      obtain ⟨q1, q2⟩ := hv _ _ _ _ _ _ hu
      exact ⟨(by intro h; cases h), fun _ => q2.same (Nat.le_of_ble_eq_true hb.1) (Nat.eq_of_beq_eq_true hb.2), (by intro h; cases h), q1, q2⟩
    · cases hx
  | alloc =>
    simp only [xcall] at hx
    split at hx
    · rename_i u h' lo' hu
      cases hb : Nat.ble hp.length lo' <;> rw [hb] at hx <;> cases hx
      obtain ⟨q1, q2⟩ := hv _ _ _ _ _ _ hu
      exact ⟨(by intro h; cases h), (by intro h; cases h), fun _ => q2.app (Nat.le_of_ble_eq_true hb), q1, q2⟩
    · cases hx
  | load =>
    obtain ⟨q1, q2⟩ := hv _ _ _ _ _ _ hx
    exact ⟨(by intro h; cases h), (by intro h; cases h), (by intro h; cases h), q1, q2⟩
  | mix b m =>
    obtain ⟨q1, q2⟩ := hv _ _ _ _ _ _ hx
    exact ⟨(by intro h; cases h), (by intro h; cases h), (by intro h; cases h), q1, q2⟩
  | wild =>
    obtain ⟨q1, q2⟩ := hv _ _ _ _ _ _ hx
    exact ⟨(by intro h; cases h), (by intro h; cases h), (by intro h; cases h), q1, q2⟩

def evX (t : ET) : Opd → AV
  | .t i => t.getR i
  | .c v => v
  | .f g => .func g []
def evsX (t : ET) (l : List Opd) : List AV := List.rec (motive := fun _ => List AV) [] (fun x _ ih => evX t x :: ih) l
theorem evX_eq (t : ET) (x : Opd) : evX t x = evE t.get x := by cases x <;> first | exact ET.getR_eq _ _ | rfl
theorem evsX_eq (t : ET) : ∀ xs : List Opd, evsX t xs = evsE t.get xs
  | [] => rfl
  | x :: xs => by
    show evX t x :: evsX t xs = _
    rw [evX_eq, evsX_eq t xs]
    rfl
def wantedX (t : ET) : Option (Nat × Bool) → Bool
  | none => true
  | some (i, b) => match t.getR i with
    | .bool c => c == b
    | _ => false
theorem wantedX_eq (t : ET) (g : Option (Nat × Bool)) : wantedX t g = wantedE t.get g := by
  cases g with
  | none => rfl
  | some g =>
    obtain ⟨i, b⟩ := g
    simp only [wantedX, wantedE, ET.getR_eq]
    rfl

def lower (lo : Nat) : Option Nat → Nat
  | none => lo
  | some i => cond (Nat.blt i lo) i lo
def lower2 (lo i : Nat) : Nat := cond (Nat.blt i lo) i lo

/-- Numbers that fit stay as they are. -/
def capI (C : Nat) (n w : Int) : Int :=
  match n with
  | .ofNat m => cond (Nat.ble m C) (.ofNat m) w
  | .negSucc m => cond (Nat.ble m C) (.negSucc m) w
theorem capI_eq (C : Nat) (n w : Int) (h : ∀ m, m ≤ C → (n = (m : Int) ∨ n = -((m : Int) + 1)) → w = n) : capI C n w = w := by
  unfold capI
  split
  · rename_i m
    cases hb : Nat.ble m C
    · rfl
    · exact (h m (Nat.le_of_ble_eq_true hb) (.inl rfl)).symm
  · rename_i m
    cases hb : Nat.ble m C
    · rfl
    · exact (h m (Nat.le_of_ble_eq_true hb) (.inr (Int.negSucc_eq m))).symm
def fwrap (k : IntKind) (n : Int) : Int :=
  match k with
  | .i64 => capI 9223372036854775807 n (IntKind.wrap .i64 n)
  | .u8 => cond (Nat.ble n.toNat 255) (cond (Nat.beq n.toNat 0) (IntKind.wrap .u8 n) n) (IntKind.wrap .u8 n)
  | k => k.wrap n
theorem fwrap_eq (k : IntKind) (n : Int) : fwrap k n = k.wrap n := by
  cases k with
  | i64 =>
    refine capI_eq _ _ _ fun m hm hn => ?_
    rw [wrap_i64]
    · omega
    · omega
  | u8 =>
    simp only [fwrap]
    cases hb : Nat.ble n.toNat 255
    · rfl
    · cases h0 : Nat.beq n.toNat 0
      · have h1 := Nat.le_of_ble_eq_true hb
        have h2 := Nat.ne_of_beq_eq_false h0
        rw [wrap_u8 (by omega) (by omega)]
        rfl
      · rfl
  | _ => rfl
def ltI : Int → Int → Bool
  | .ofNat m, .ofNat n => Nat.blt m n
  | a, b => decide (a < b)
theorem ltI_eq (a b : Int) : ltI a b = decide (a < b) := by
  unfold ltI
  split
  · rename_i m n
    by_cases h : m < n
    · rw [blt_of h]; exact (decide_eq_true (Int.ofNat_lt.2 h)).symm
    · have h2 : Nat.blt m n = false := Bool.eq_false_iff.2 fun hb => h (of_blt hb)
      rw [h2]; exact (decide_eq_false (fun h3 => h (Int.ofNat_lt.1 h3))).symm
  · rfl
def eqI : Int → Int → Bool
  | .ofNat m, .ofNat n => Nat.beq m n
  | a, b => decide (a = b)
theorem eqI_eq (a b : Int) : eqI a b = decide (a = b) := by
  unfold eqI
  split
  · rename_i m n
    cases h : Nat.beq m n
    · exact (decide_eq_false (fun h3 => by have := Int.ofNat.inj h3; rw [this, Nat.beq_refl] at h; cases h)).symm
    · exact (decide_eq_true (by rw [Nat.eq_of_beq_eq_true h])).symm
  · rfl
/-- Two-place operations, by short ways where numbers are small. -/
def yAdd (K : EqK) (x y : AV) : Option AV :=
  match x, y with
  | .int k a, .int k' b => cond (kEq k k') (some (.int k (fwrap k (a + b)))) none
  | x, y => binA .add K x y
def ySub (K : EqK) (x y : AV) : Option AV :=
  match x, y with
  | .int k a, .int k' b => cond (kEq k k') (some (.int k (fwrap k (a - b)))) none
  | x, y => binA .sub K x y
def yMul (K : EqK) (x y : AV) : Option AV :=
  match x, y with
  | .int k a, .int k' b => cond (kEq k k') (some (.int k (fwrap k (a * b)))) none
  | x, y => binA .mul K x y
def yLss (K : EqK) (x y : AV) : Option AV :=
  match x, y with
  | .int k a, .int k' b => cond (kEq k k') (some (.bool (ltI a b))) none
  | x, y => binA .lss K x y
def yGtr (K : EqK) (x y : AV) : Option AV :=
  match x, y with
  | .int k a, .int k' b => cond (kEq k k') (some (.bool (ltI b a))) none
  | x, y => binA .gtr K x y
def yEql (K : EqK) (x y : AV) : Option AV :=
  match x, y with
  | .int k a, .int k' b => cond (kEq k k') (some (.bool (eqI a b))) none
  | .str a, .str b => some (.bool (bEqb a b))
  | x, y => binA .eql K x y
def yNeq (K : EqK) (x y : AV) : Option AV :=
  match x, y with
  | .int k a, .int k' b => cond (kEq k k') (some (.bool (!eqI a b))) none
  | .str a, .str b => some (.bool (!bEqb a b))
  | x, y => binA .neq K x y
def binX (op : BinOp) : EqK → AV → AV → Option AV :=
  match op with
  | .add => yAdd
  | .sub => ySub
  | .mul => yMul
  | .lss => yLss
  | .gtr => yGtr
  | .eql => yEql
  | .neq => yNeq
  | op => binA op
theorem kEq_if {α : Type} (k k' : IntKind) (x : Option α) : cond (kEq k k') x none = if k = k' then x else none := by
  cases h : kEq k k'
  · rw [if_neg (kEq_ne h)]; rfl
  · rw [if_pos (kEq_eq h)]; rfl
theorem binX_eq (op : BinOp) (K : EqK) (x y : AV) : binX op K x y = binA op K x y := by
  cases op <;> simp only [binX]
  · unfold yAdd; split
    · simp only [binA, intA, fwrap_eq, kEq_if]
    · rfl
  · unfold ySub; split
    · simp only [binA, intA, fwrap_eq, kEq_if]
    · rfl
  · unfold yMul; split
    · simp only [binA, intA, fwrap_eq, kEq_if]
    · rfl
  · unfold yEql; split
    · simp only [binA, intA, eqI_eq, kEq_if]
    · simp only [binA, strA, bEqb_eq]
    · rfl
  · unfold yNeq; split
    · simp only [binA, intA, eqI_eq, kEq_if]
    · simp only [binA, strA, bEqb_eq]
    · rfl
  · unfold yLss; split
    · simp only [binA, intA, ltI_eq, kEq_if]
    · rfl
  · unfold yGtr; split
    · simp only [binA, intA, ltI_eq, kEq_if, gt_iff_lt]
    · rfl
def fMov (xs : List AV) (hp : HP) : Option (AV × HP) := match xs with
  | [x] => some (x, hp)
  | _ => none
def fBin (op : BinOp) (K : EqK) (xs : List AV) (hp : HP) : Option (AV × HP) := match xs with
  | [x, y] => match binX op K x y with
    | some v => some (v, hp)
    | none => none
  | _ => none
def fToInt (k : IntKind) (xs : List AV) (hp : HP) : Option (AV × HP) := match xs with
  | [.int _ n] => some (.int k (fwrap k n), hp)
  | _ => none
def fLoad (sh : Option Nat) (xs : List AV) (hp : HP) : Option (AV × HP) := match xs with
  | [p] => same hp (loadA hp sh p)
  | _ => none
def fStore (n : Nat) (xs : List AV) (hp : HP) : Option (AV × HP) := match xs with
  | [p, v] => (storeA hp n p v).map fun hp' => (.tup [], hp')
  | _ => none
def fUn (op : UnOp) (xs : List AV) (hp : HP) : Option (AV × HP) := match xs with
  | [x] => same hp (unA op x)
  | _ => none
def fFaddr (off : Nat) (xs : List AV) (hp : HP) : Option (AV × HP) := match xs with
  | [x] => same hp (faddrA off x)
  | _ => none
def fField (off : Nat) (sh : Option Nat) (xs : List AV) (hp : HP) : Option (AV × HP) := match xs with
  | [x] => same hp (fieldA off sh x)
  | _ => none
def fIaddr (sz : Nat) (xs : List AV) (hp : HP) : Option (AV × HP) := match xs with
  | [x, i] => same hp (iaddrA sz x i)
  | _ => none
def fAaddr (n sz : Nat) (xs : List AV) (hp : HP) : Option (AV × HP) := match xs with
  | [x, i] => same hp (aaddrA n sz x i)
  | _ => none
def fIdxs (xs : List AV) (hp : HP) : Option (AV × HP) := match xs with
  | [x, i] => same hp (indexSA x i)
  | _ => none
def fExtract (i : Nat) (xs : List AV) (hp : HP) : Option (AV × HP) := match xs with
  | [.tup vs] => same hp vs[i]?
  | _ => none
def fLen (k : LenK) (xs : List AV) (hp : HP) : Option (AV × HP) := match xs with
  | [x] => cond (lenFits k x) (same hp (lenA hp x)) none
  | _ => none
def fApp (e : TypeId) (sz bytes : Nat) (xs : List AV) (hp : HP) : Option (AV × HP) := match xs with
  | [d, x] => appA e sz bytes hp d x
  | _ => none
def fBox (e : TypeId) (xs : List AV) (hp : HP) : Option (AV × HP) := match xs with
  | [x] => boxA hp e x
  | _ => none
def fMkfn (f : FuncId) (xs : List AV) (hp : HP) : Option (AV × HP) := some (.func f xs, hp)
def fNilchk (xs : List AV) (hp : HP) : Option (AV × HP) := match xs with
  | [x] => same hp (nilchkA x)
  | _ => none
def fPick (xs : List AV) (hp : HP) : Option (AV × HP) := match xs with
  | [.bool true, a, _] => some (a, hp)
  | [.bool false, _, b] => some (b, hp)
  | _ => none
/-- Each operation by itself, so that nothing long is written out. -/
def runX (r : ROp) : List AV → HP → Option (AV × HP) :=
  match r with
  | .mov => fMov
  | .bin op K => fBin op K
  | .toInt k => fToInt k
  | .load sh => fLoad sh
  | .store n => fStore n
  | .un op => fUn op
  | .faddr off => fFaddr off
  | .field off sh => fField off sh
  | .iaddr sz => fIaddr sz
  | .aaddr n sz => fAaddr n sz
  | .idxs => fIdxs
  | .extract i => fExtract i
  | .len k => fLen k
  | .app e sz bytes => fApp e sz bytes
  | .box e => fBox e
  | .mkfn f => fMkfn f
  | .nilchk => fNilchk
  | .pick => fPick
  | r => r.run
theorem runX_eq (r : ROp) (xs : List AV) (hp : HP) : runX r xs hp = r.run xs hp := by
  cases r
  case bin op K =>
    show fBin op K xs hp = _
    unfold fBin
    simp only [ROp.run]
    split
    · rename_i x y
      simp only [binX_eq, same]
      cases binA op K x y <;> rfl
    · rename_i hn
      split
      · rename_i x y; exact absurd rfl (hn x y)
      · rfl
  case toInt k =>
    show fToInt k xs hp = _
    unfold fToInt
    simp only [ROp.run, fwrap_eq]
    rfl
  case len k =>
    show fLen k xs hp = _
    unfold fLen
    simp only [ROp.run]
    split
    · rename_i x
      simp only
      cases lenFits k x <;> rfl
    · rename_i hn
      split
      · rename_i x; exact absurd rfl (hn x)
      · rfl
  all_goals rfl

/-- One operation. -/
def xOp (call : XCall) (callv : XCallV) (w : Cls) (o : IOp) (t : ET) (hp : HP) (lo : Nat) : Option (ET × HP × Nat) :=
  match o with
  | ⟨d, k, xs, g⟩ => cond (wantedX t g) (match k with
    | .op r => match runX r (evsX t xs) hp with
      | some (v, h) => some (xput t d v, h, lower lo (lowOf r (evsX t xs)))
      | none => none
    | .call ms => match evsX t xs with
      | fv :: ys => match xcall call callv (callCls w d) (meth ms fv) ys hp with
        | some (v, h, l) => some (xput t d v, h, lower2 lo l)
        | none => none
      | [] => none) (some (xput t d (.tup []), hp, lo))
def xOps (call : XCall) (callv : XCallV) (w : Cls) (l : List IOp) : ET → HP → Nat → Option (ET × HP × Nat) :=
  List.rec (motive := fun _ => ET → HP → Nat → Option (ET × HP × Nat)) (fun t hp lo => some (t, hp, lo)) (fun o _ ih t hp lo => match xOp call callv w o t hp lo with
    | some (t', hp', lo') => ih t' hp' lo'
    | none => none) l
theorem xOps_nil (call : XCall) (callv : XCallV) (w : Cls) (t : ET) (hp : HP) (lo : Nat) : xOps call callv w [] t hp lo = some (t, hp, lo) := rfl
theorem xOps_cons (call : XCall) (callv : XCallV) (w : Cls) (o : IOp) (os : List IOp) (t : ET) (hp : HP) (lo : Nat) : xOps call callv w (o :: os) t hp lo = match xOp call callv w o t hp lo with
    | some (t', hp', lo') => xOps call callv w os t' hp' lo'
    | none => none := rfl

/-- From one memory to a later one, all below 'lo' then is as it was. -/
def KeptC (hp : HP) (lo : Nat) (hp' : HP) (lo' : Nat) : Prop := lo ≤ hp.length → lo' ≤ lo ∧ hp.length ≤ hp'.length ∧ ∀ i, i < lo' → hp'[i]? = hp[i]?
theorem KeptC.refl (hp : HP) (lo : Nat) : KeptC hp lo hp lo := fun _ => ⟨Nat.le_refl _, Nat.le_refl _, fun _ _ => rfl⟩
theorem KeptC.trans {h1 h2 h3 : HP} {l1 l2 l3 : Nat} (p : KeptC h1 l1 h2 l2) (q : KeptC h2 l2 h3 l3) : KeptC h1 l1 h3 l3 := fun hl => by
  obtain ⟨p1, p2, p3⟩ := p hl
  obtain ⟨q1, q2, q3⟩ := q (by omega)
  exact ⟨by omega, by omega, fun i hi => (q3 i hi).trans (p3 i (by omega))⟩
theorem KeptC.op {hp h : HP} {o : Option Nat} (k : Keeps hp h o) (lo : Nat) : KeptC hp lo h (lower lo o) := fun hl => by
  cases o with
  | none => exact ⟨Nat.le_refl _, k.1, fun i hi => k.2 i (by simp only [lower] at hi; omega) (by simp)⟩
  | some j =>
    simp only [lower]
    cases hb : Nat.blt j lo
    · simp only [cond_false]
      have hj : ¬ j < lo := fun h => by rw [blt_of h] at hb; cases hb
      exact ⟨Nat.le_refl _, k.1, fun i hi => k.2 i (by omega) (by simp; omega)⟩
    · simp only [cond_true]
      have hj := of_blt hb
      exact ⟨by omega, k.1, fun i hi => k.2 i (by omega) (by simp; omega)⟩
theorem KeptC.call {hp h : HP} {l : Nat} (k : Kept hp h l) (lo : Nat) : KeptC hp lo h (lower2 lo l) := fun hl => by
  simp only [lower2]
  cases hb : Nat.blt l lo
  · simp only [cond_false]
    have hj : ¬ l < lo := fun h => by rw [blt_of h] at hb; cases hb
    exact ⟨Nat.le_refl _, k.2.1, fun i hi => k.2.2 i (by omega)⟩
  · simp only [cond_true]
    have hj := of_blt hb
    exact ⟨by omega, k.2.1, fun i hi => k.2.2 i hi⟩

theorem xOp_spec {P : Program} {call : XCall} (hc : XOk P call) {callv : XCallV} (hv : XOkV P callv) {w : Cls} {n : Nat} {o : IOp} (ho : o.inR n = true) {t t' : ET} {hp hp' : HP} {lo lo' : Nat} {l : List AV} (hl : Is n t.get l) (h : xOp call callv w o t hp lo = some (t', hp', lo')) : (∃ v, YieldsA P w o ⟨l, hp⟩ v hp' ∧ t'.get = putE t.get o.dst v) := by
  obtain ⟨d, k, xs, g⟩ := o
  simp only [IOp.inR, Bool.and_eq_true] at ho
  obtain ⟨⟨h1, h2⟩, h3⟩ := ho
  have e1 := hl.evs h1
  have e2 := hl.wanted h3
  rw [← evsX_eq] at e1
  rw [← wantedX_eq] at e2
  unfold YieldsA
  simp only at e1 e2 ⊢
  rw [e1, e2]
  simp only [xOp] at h
  cases hw : wantedX t g
  · rw [hw] at h
    simp only [cond_false, Option.some.injEq, Prod.mk.injEq] at h
    obtain ⟨rfl, rfl, rfl⟩ := h
    exact ⟨.tup [], by simp, xput_get _ _ _⟩
  · rw [hw] at h
    simp only [cond_true] at h
    cases k with
    | op r =>
      simp only [runX_eq] at h
      split at h
      · rename_i v h' hr
        cases h
        exact ⟨v, by simp only [if_true, hr], xput_get _ _ _⟩
      · cases h
    | call ms =>
      simp only at h
      split at h
      · rename_i fv ys he
        split at h
        · rename_i v h' l' hr
          cases h
          obtain ⟨q1, q2, q3, q4, _⟩ := xcall_ok hc hv hr
          refine ⟨v, ?_, xput_get _ _ _⟩
          simp only [if_true]
          exact ⟨fv, ys, he, q1, q2, q3, q4⟩
        · cases h
      · cases h
theorem xOp_kept {P : Program} {call : XCall} (hc : XOk P call) {callv : XCallV} (hv : XOkV P callv) {w : Cls} {o : IOp} {t t' : ET} {hp hp' : HP} {lo lo' : Nat} (h : xOp call callv w o t hp lo = some (t', hp', lo')) : KeptC hp lo hp' lo' := by
  obtain ⟨d, k, xs, g⟩ := o
  simp only [xOp] at h
  cases hw : wantedX t g
  · rw [hw] at h
    cases h
    exact KeptC.refl _ _
  · rw [hw] at h
    simp only [cond_true] at h
    cases k with
    | op r =>
      simp only [runX_eq] at h
      split at h
      · rename_i v h' hr
        cases h
        exact KeptC.op (run_keeps hr) lo
      · cases h
    | call ms =>
      simp only at h
      split at h
      · split at h
        · rename_i v h' l' hr
          cases h
          exact KeptC.call (xcall_ok hc hv hr).2.2.2.2 lo
        · cases h
      · cases h
theorem xOps_kept {P : Program} {call : XCall} (hc : XOk P call) {callv : XCallV} (hv : XOkV P callv) {w : Cls} : ∀ {os : List IOp} {t t' : ET} {hp hp' : HP} {lo lo' : Nat}, xOps call callv w os t hp lo = some (t', hp', lo') → KeptC hp lo hp' lo'
  | [], t, t', hp, hp', lo, lo', h => by
    simp only [xOps_nil, Option.some.injEq, Prod.mk.injEq] at h
    obtain ⟨rfl, rfl, rfl⟩ := h
    exact KeptC.refl _ _
  | o :: os, t, t', hp, hp', lo, lo', h => by
    simp only [xOps_cons] at h
    split at h
    · rename_i t1 hp1 lo1 h1
      exact (xOp_kept hc hv h1).trans (xOps_kept hc hv h)
    · cases h

theorem xOp_vop {P : Program} {call : XCall} (hc : XOk P call) {callv : XCallV} (hv : XOkV P callv) {w : Cls} {n : Nat} {o : IOp} (ho : o.inR n = true) {t t' : ET} {hp hp' : HP} {lo lo' : Nat} {l : List AV} (hl : Is n t.get l) (h : xOp call callv w o t hp lo = some (t', hp', lo')) {K : St → Prop} (hk : ∀ l', Is n t'.get l' → K ⟨l', hp'⟩) : vop P o ⟨l, hp⟩ K := by
  obtain ⟨v, h1, h2⟩ := xOp_spec hc hv ho hl h
  unfold YieldsA at h1
  unfold vop
  have hl' : Is n t'.get (putA l o.dst v) := by rw [h2]; exact hl.put
  split
  · rename_i hw
    rw [if_pos hw] at h1
    split
    · rename_i r hr
      rw [hr] at h1
      simp only at h1
      rw [h1]
      exact hk _ hl'
    · rename_i hr
      rw [hr] at h1
      obtain ⟨fv, xs, e1, _, _, _, e5⟩ := h1
      simp only [e1]
      exact e5.mono fun r hp'' ⟨a, b⟩ => by rw [a, b]; exact hk _ hl'
  · rename_i hw
    rw [if_neg hw] at h1
    obtain ⟨rfl, rfl⟩ := h1
    exact hk _ hl'

theorem xOps_vops {P : Program} {call : XCall} (hc : XOk P call) {callv : XCallV} (hv : XOkV P callv) {w : Cls} {n : Nat} : ∀ {is : List IOp}, is.all (·.inR n) = true → ∀ {t t' : ET} {hp hp' : HP} {lo lo' : Nat} {l : List AV}, Is n t.get l → xOps call callv w is t hp lo = some (t', hp', lo') → ∀ {Q : St → Prop}, (∀ l', Is n t'.get l' → Q ⟨l', hp'⟩) → vops P is ⟨l, hp⟩ Q
  | [], _, t, t', hp, hp', lo, lo', l, hl, h, Q, hq => by
    simp only [xOps_nil, Option.some.injEq, Prod.mk.injEq] at h
    obtain ⟨rfl, rfl, rfl⟩ := h
    exact hq l hl
  | o :: os, ho, t, t', hp, hp', lo, lo', l, hl, h, Q, hq => by
    simp only [List.all_cons, Bool.and_eq_true] at ho
    simp only [xOps_cons] at h
    split at h
    · rename_i t1 hp1 lo1 h1
      exact xOp_vop hc hv ho.1 hl h1 fun l' hl' => xOps_vops hc hv ho.2 hl' h hq
    · cases h

/-! ### Ways that come to the same -/
mutual
def AV.eqb : AV → AV → Bool
  | .int k n, .int k' n' => decide (k = k') && decide (n = n')
  | .bool b, .bool b' => b == b'
  | .str s, .str s' => decide (s = s')
  | .nilp, .nilp | .nils, .nils | .esl, .esl | .enn, .enn | .nilm, .nilm | .nilf, .nilf | .nili, .nili | .unk, .unk => true
  | .ptr i o, .ptr i' o' => Nat.beq i i' && Nat.beq o o'
  | .fptr cs o, .fptr cs' o' => Nat.beq o o' && AV.eqbL cs cs'
  | .sl a b c d e f, .sl a' b' c' d' e' f' => Nat.beq a a' && Nat.beq b b' && Nat.beq c c' && Nat.beq d d' && Nat.beq e e' && (f == f')
  | .fsl cs n, .fsl cs' n' => Nat.beq n n' && AV.eqbL cs cs'
  | .map i, .map i' => Nat.beq i i'
  | .yld i, .yld i' => Nat.beq i i'
  | .bound f cs, .bound f' cs' => Nat.beq f f' && AV.eqbL cs cs'
  | .func f cs, .func f' cs' => Nat.beq f f' && AV.eqbL cs cs'
  | .iface t a, .iface t' a' => Nat.beq t t' && AV.eqb a a'
  | .agg cs, .agg cs' => AV.eqbL cs cs'
  | .tup cs, .tup cs' => AV.eqbL cs cs'
  | _, _ => false
def AV.eqbL : List AV → List AV → Bool
  | [], [] => true
  | a :: as, b :: bs => AV.eqb a b && AV.eqbL as bs
  | _, _ => false
end
theorem nbeq {a b : Nat} (h : Nat.beq a b = true) : a = b := Nat.eq_of_beq_eq_true h
mutual
theorem AV.eqb_eq : ∀ {a b : AV}, AV.eqb a b = true → a = b := by
  intro a b h
  cases a <;> cases b <;> simp only [AV.eqb, Bool.and_eq_true, decide_eq_true_eq, beq_iff_eq, Bool.false_eq_true] at h
  case int.int => rw [h.1, h.2]
  case bool.bool => rw [h]
  case str.str => rw [h]
  case ptr.ptr => rw [nbeq h.1, nbeq h.2]
  case fptr.fptr => rw [nbeq h.1, AV.eqbL_eq h.2]
  case sl.sl => obtain ⟨⟨⟨⟨⟨h1, h2⟩, h3⟩, h4⟩, h5⟩, h6⟩ := h; rw [nbeq h1, nbeq h2, nbeq h3, nbeq h4, nbeq h5, h6]
  case fsl.fsl => rw [nbeq h.1, AV.eqbL_eq h.2]
  case map.map => rw [nbeq h]
  case yld.yld => rw [nbeq h]
  case bound.bound => rw [show _ = _ from nbeq h.1, AV.eqbL_eq h.2]
  case func.func => rw [show _ = _ from nbeq h.1, AV.eqbL_eq h.2]
  case iface.iface => rw [show _ = _ from nbeq h.1, AV.eqb_eq h.2]
  case agg.agg => rw [AV.eqbL_eq h]
  case tup.tup => rw [AV.eqbL_eq h]
  all_goals rfl
theorem AV.eqbL_eq : ∀ {as bs : List AV}, AV.eqbL as bs = true → as = bs
  | [], [], _ => rfl
  | a :: as, b :: bs, h => by
    simp only [AV.eqbL, Bool.and_eq_true] at h
    rw [AV.eqb_eq h.1, AV.eqbL_eq h.2]
  | [], _ :: _, h => by simp [AV.eqbL] at h
  | _ :: _, [], h => by simp [AV.eqbL] at h
end
def pairsEqb : List (AV × AV) → List (AV × AV) → Bool
  | [], [] => true
  | (a, b) :: l, (c, d) :: m => AV.eqb a c && AV.eqb b d && pairsEqb l m
  | _, _ => false
theorem pairsEqb_eq : ∀ {l m : List (AV × AV)}, pairsEqb l m = true → l = m
  | [], [], _ => rfl
  | (a, b) :: l, (c, d) :: m, h => by
    simp only [pairsEqb, Bool.and_eq_true] at h
    rw [AV.eqb_eq h.1.1, AV.eqb_eq h.1.2, pairsEqb_eq h.2]
  | [], _ :: _, h => by simp [pairsEqb] at h
  | _ :: _, [], h => by simp [pairsEqb] at h
def stN : LoopState → Nat
  | .ready => 0
  | .busy => 1
  | .done => 2
  | .exhausted => 3
theorem stN_inj : ∀ {a b : LoopState}, stN a = stN b → a = b := by intro a b h; cases a <;> cases b <;> first | rfl | cases h
def pendEqb : Option (Option Nat) → Option (Option Nat) → Bool
  | none, none => true
  | some none, some none => true
  | some (some a), some (some b) => Nat.beq a b
  | _, _ => false
theorem pendEqb_eq : ∀ {a b : Option (Option Nat)}, pendEqb a b = true → a = b
  | none, none, _ => rfl
  | some none, some none, _ => rfl
  | some (some a), some (some b), h => by simp only [pendEqb] at h; rw [nbeq h]
  | none, some none, h | none, some (some _), h | some none, none, h | some (some _), none, h | some none, some (some _), h | some (some _), some none, h => by simp [pendEqb] at h
def nsEqb : List Nat → List Nat → Bool
  | [], [] => true
  | a :: l, b :: m => Nat.beq a b && nsEqb l m
  | _, _ => false
theorem nsEqb_eq : ∀ {l m : List Nat}, nsEqb l m = true → l = m
  | [], [], _ => rfl
  | a :: l, b :: m, h => by
    simp only [nsEqb, Bool.and_eq_true] at h
    rw [nbeq h.1, nsEqb_eq h.2]
  | [], _ :: _, h => by simp [nsEqb] at h
  | _ :: _, [], h => by simp [nsEqb] at h
def blkEqb : Option Blk → Option Blk → Bool
  | none, none => true
  | some (.row e cs), some (.row e' cs') => Nat.beq e e' && AV.eqbL cs cs'
  | some (.map es bs c), some (.map es' bs' c') => pairsEqb es es' && (nsEqb bs bs' && Nat.beq c c')
  | some (.iter i a s l), some (.iter i' a' s' l') => AV.eqbL i i' && (Nat.beq a a' && (nsEqb s s' && Nat.beq l l'))
  | some (.loop t k s p), some (.loop t' k' s' p') => Nat.beq k k' && (Nat.beq (stN s) (stN s') && (pendEqb p p' && AV.eqbL t t'))
  | _, _ => false
theorem blkEqb_eq {a b : Option Blk} (h : blkEqb a b = true) : a = b := by
  rcases a with _ | ⟨e, cs⟩ | ⟨es, bs, c⟩ | ⟨i, a, s, l⟩ | ⟨t, k, s, p⟩ <;> rcases b with _ | ⟨e', cs'⟩ | ⟨es', bs', c'⟩ | ⟨i', a', s', l'⟩ | ⟨t', k', s', p'⟩ <;> simp only [blkEqb, Bool.and_eq_true, Bool.false_eq_true] at h
  · rfl
  · rw [show e = e' from nbeq h.1, AV.eqbL_eq h.2]
  · obtain ⟨h1, h2, h3⟩ := h
    rw [pairsEqb_eq h1, nsEqb_eq h2, nbeq h3]
  · obtain ⟨h1, h2, h3, h4⟩ := h
    rw [AV.eqbL_eq h1, nbeq h2, nsEqb_eq h3, nbeq h4]
  · obtain ⟨h1, h2, h3, h4⟩ := h
    rw [nbeq h1, stN_inj (nbeq h2), pendEqb_eq h3, AV.eqbL_eq h4]
def hpEqb : HP → HP → Bool
  | [], [] => true
  | a :: l, b :: m => blkEqb a b && hpEqb l m
  | _, _ => false
theorem hpEqb_eq : ∀ {l m : HP}, hpEqb l m = true → l = m
  | [], [], _ => rfl
  | a :: l, b :: m, h => by
    simp only [hpEqb, Bool.and_eq_true] at h
    rw [blkEqb_eq h.1, hpEqb_eq h.2]
  | [], _ :: _, h => by simp [hpEqb] at h
  | _ :: _, [], h => by simp [hpEqb] at h
def etEqb : ET → ET → Bool
  | .l, .l => true
  | .n v a b, .n v' a' b' => AV.eqb v v' && etEqb a a' && etEqb b b'
  | _, _ => false
theorem etEqb_eq : ∀ {s t : ET}, etEqb s t = true → s = t
  | .l, .l, _ => rfl
  | .n v a b, .n v' a' b', h => by
    simp only [etEqb, Bool.and_eq_true] at h
    rw [AV.eqb_eq h.1.1, etEqb_eq h.1.2, etEqb_eq h.2]
  | .l, .n .., h => by simp [etEqb] at h
  | .n .., .l, h => by simp [etEqb] at h

abbrev XSt := ET × HP × Nat
def xsEqb (a b : XSt) : Bool := etEqb a.1 b.1 && hpEqb a.2.1 b.2.1 && Nat.beq a.2.2 b.2.2
theorem xsEqb_eq {a b : XSt} (h : xsEqb a b = true) : a = b := by
  obtain ⟨t, hp, lo⟩ := a
  obtain ⟨t', hp', lo'⟩ := b
  simp only [xsEqb, Bool.and_eq_true] at h
  rw [etEqb_eq h.1.1, hpEqb_eq h.1.2, nbeq h.2]

/-! ### Which names are come to -/
mutual
def idsIn (K : Nat) : AV → List Nat → List Nat
  | .ptr id _, r => cond (Nat.blt id K) r (id :: r)
  | .sl id _ _ _ _ _, r => cond (Nat.blt id K) r (id :: r)
  | .map id, r => cond (Nat.blt id K) r (id :: r)
  | .yld id, r => cond (Nat.blt id K) r (id :: r)
  | .bound _ cs, r => idsInL K cs r
  | .fptr cs _, r => idsInL K cs r
  | .fsl cs _, r => idsInL K cs r
  | .func _ cs, r => idsInL K cs r
  | .agg cs, r => idsInL K cs r
  | .tup cs, r => idsInL K cs r
  | .iface _ a, r => idsIn K a r
  | _, r => r
def idsInL (K : Nat) : List AV → List Nat → List Nat
  | [], r => r
  | a :: as, r => idsIn K a (idsInL K as r)
end
def idsInB (K : Nat) (b : Option Blk) (r : List Nat) : List Nat :=
  match b with
  | some (.row _ cs) => idsInL K cs r
  | some (.map es _ _) => idsInL K (es.map (·.1)) (idsInL K (es.map (·.2)) r)
  | some (.iter is _ _ _) => idsInL K is r
  | some (.loop tms _ _ _) => idsInL K tms r
  | none => r
def idsInH (K : Nat) : HP → List Nat → List Nat
  | [], r => r
  | b :: hp, r => idsInB K b (idsInH K hp r)
def idsInT (K : Nat) : ET → List Nat → List Nat
  | .l, r => r
  | .n v a b, r => idsIn K v (idsInT K a (idsInT K b r))
def memN (i : Nat) : List Nat → Bool
  | [] => false
  | j :: l => cond (Nat.beq i j) true (memN i l)
def reach (hp : HP) (K : Nat) : Nat → List Nat → List Nat → List Nat
  | 0, _, seen => seen.reverse
  | _ + 1, [], seen => seen.reverse
  | n + 1, i :: todo, seen => cond (memN i seen) (reach hp K n todo seen) (reach hp K n (match hp[i]? with
    | some b => idsInB K b todo
    | none => todo) (i :: seen))

def renE (f : Nat → Option Nat) : ET → Option ET
  | .l => some .l
  | .n v a b => match ren f v, renE f a, renE f b with
    | some v', some a', some b' => some (.n v' a' b')
    | _, _, _ => none
theorem renE_get {f : Nat → Option Nat} : ∀ {t t' : ET}, renE f t = some t' → ∀ i, ren f (t.get i) = some (t'.get i)
  | .l, t', h, i => by
    simp only [renE, Option.some.injEq] at h
    subst h
    simp only [ET.get_l, ren, renL]
  | .n v a b, t', h, i => by
    simp only [renE] at h
    split at h
    · rename_i v' a' b' h1 h2 h3
      cases h
      cases i with
      | zero => simpa only [ET.get] using h1
      | succ i =>
        simp only [ET.get]
        cases Nat.beq (i % 2) 0
        · exact renE_get h3 _
        · exact renE_get h2 _
    · cases h
theorem renL_of {f : Nat → Option Nat} : ∀ {l : List AV} {g : Nat → AV}, (∀ i, i < l.length → ren f (l.getD i (.tup [])) = some (g i)) → ∃ l', renL f l = some l' ∧ l'.length = l.length ∧ ∀ i, i < l.length → l'.getD i (.tup []) = g i
  | [], g, _ => ⟨[], by simp only [renL], rfl, fun i hi => absurd hi (Nat.not_lt_zero i)⟩
  | a :: l, g, h => by
    have h0 := h 0 (by simp)
    simp only [List.getD_cons_zero] at h0
    obtain ⟨l', h1, h2, h3⟩ := renL_of (l := l) (g := fun i => g (i + 1)) (f := f) fun i hi => by
      have := h (i + 1) (by simpa using hi)
      simpa only [List.getD_cons_succ] using this
    refine ⟨g 0 :: l', by simp only [renL, h0, h1], by simp [h2], fun i hi => ?_⟩
    cases i with
    | zero => simp
    | succ i => simpa only [List.getD_cons_succ] using h3 i (by simpa using hi)

/-- The state under names that do not tell in which order blocks were made. -/
def xCanon (K : Nat) (t : ET) (hp : HP) (lo : Nat) : Option XSt :=
  match reach hp K 100000 (idsInT K t (idsInH K (hp.take K) [])) [] with
  | ord => match renamed K ord hp, renE (nameAs K ord) t with
    | some hp', some t' => cond (hpEqb (hp'.take lo) (hp.take lo)) (some (t', hp', lo)) none
    | _, _ => none
theorem xCanon_ok {K : Nat} {t : ET} {hp : HP} {lo : Nat} {s : XSt} (h : xCanon K t hp lo = some s) {n : Nat} {l : List AV} (hl : Is n t.get l) : ∃ l', RenOk K ⟨l, hp⟩ ⟨l', s.2.1⟩ ∧ Is n s.1.get l' := by
  unfold xCanon at h
  simp only at h
  split at h
  · rename_i hp' t' h1 h2
    cases hb : hpEqb (hp'.take lo) (hp.take lo) <;> rw [hb] at h <;> cases h
    obtain ⟨l', q1, q2, q3⟩ := renL_of (l := l) (g := t'.get) (f := nameAs K _) fun i hi => by
      rw [hl.2 i (by rw [← hl.1]; exact hi)]
      exact renE_get h2 i
    exact ⟨l', RenOk.of h1 q1, ⟨q2.trans hl.1, fun i hi => q3 i (by rw [hl.1]; exact hi)⟩⟩
  · cases h
theorem renamed_len {K : Nat} {ord : List Nat} {hp hp' : HP} (h : renamed K ord hp = some hp') : K ≤ hp'.length := by
  unfold renamed at h
  cases hb : (Nat.ble K hp.length && noDups ord && ord.all (fun i => Nat.ble K i && Nat.blt i hp.length)) <;> rw [hb] at h
  · cases h
  simp only [cond_true] at h
  simp only [Bool.and_eq_true] at hb
  have := Nat.le_of_ble_eq_true hb.1.1
  rw [renH_length h, List.length_append, List.length_take, Nat.min_eq_left this]
  omega
theorem xCanon_kept {K : Nat} {t : ET} {hp : HP} {lo : Nat} {s : XSt} (h : xCanon K t hp lo = some s) : s.2.2 = lo ∧ K ≤ s.2.1.length ∧ ∀ i, i < lo → s.2.1[i]? = hp[i]? := by
  unfold xCanon at h
  simp only at h
  split at h
  · rename_i hp' t' h1 h2
    cases hb : hpEqb (hp'.take lo) (hp.take lo) <;> rw [hb] at h <;> cases h
    have he := hpEqb_eq hb
    refine ⟨rfl, renamed_len h1, fun i hi => ?_⟩
    have h3 := congrArg (fun l : HP => l[i]?) he
    simp only [List.getElem?_take, if_pos hi] at h3
    exact h3
  · cases h

mutual
/-- A plan's ways, all of them: they come to the same ('c': under names that do not tell the order). -/
def xTr (call : XCall) (callv : XCallV) (w : Cls) (is : List IOp) (K : Nat) (c : Bool) : Tr → ET → HP → Nat → Option XSt
  | .done, t, hp, lo => cond c (xCanon K t hp lo) (some (t, hp, lo))
  | .take i p, t, hp, lo => match is[i]? with
    | some o => match xOp call callv w o t hp lo with
      | some (t', hp', lo') => xTr call callv w is K c p t' hp' lo'
      | none => none
    | none => xTr call callv w is K c p t hp lo
  | .fork l, t, hp, lo => xTrs call callv w is K c l t hp lo
def xTrs (call : XCall) (callv : XCallV) (w : Cls) (is : List IOp) (K : Nat) (c : Bool) : List (Nat × Tr) → ET → HP → Nat → Option XSt
  | [], _, _, _ => none
  | (i, p) :: l, t, hp, lo => match xTr call callv w is K c (.take i p) t hp lo with
    | some s => cond (xTrAll call callv w is K c l t hp lo s) (some s) none
    | none => none
def xTrAll (call : XCall) (callv : XCallV) (w : Cls) (is : List IOp) (K : Nat) (c : Bool) : List (Nat × Tr) → ET → HP → Nat → XSt → Bool
  | [], _, _, _, _ => true
  | (i, p) :: l, t, hp, lo, s => match xTr call callv w is K c (.take i p) t hp lo with
    | some s' => xsEqb s' s && xTrAll call callv w is K c l t hp lo s
    | none => false
end

/-- Below 'lo', all is as it was at the base. -/
def Base (hp0 : HP) (lo0 : Nat) (K : Nat) (hp : HP) (lo : Nat) : Prop := hp0.length = K ∧ KeptC hp0 lo0 hp lo

mutual
theorem xTr_kept {P : Program} {call : XCall} (hc : XOk P call) {callv : XCallV} (hv : XOkV P callv) {w : Cls} {is : List IOp} {K : Nat} {c : Bool} {hp0 : HP} {lo0 : Nat} : ∀ (p : Tr) {t t' : ET} {hp hp' : HP} {lo lo' : Nat}, Base hp0 lo0 K hp lo → xTr call callv w is K c p t hp lo = some (t', hp', lo') → KeptC hp0 lo0 hp' lo'
  | .done, t, t', hp, hp', lo, lo', hb, h => by
    simp only [xTr] at h
    cases c
    · simp only [cond_false, Option.some.injEq, Prod.mk.injEq] at h
      obtain ⟨rfl, rfl, rfl⟩ := h
      exact hb.2
    · obtain ⟨h1, h2, h3⟩ := xCanon_kept h
      simp only at h1 h2 h3
      subst h1
      intro hl
      obtain ⟨q1, q2, q3⟩ := hb.2 hl
      exact ⟨q1, by rw [hb.1]; exact h2, fun i hi => (h3 i hi).trans (q3 i hi)⟩
  | .take i p, t, t', hp, hp', lo, lo', hb, h => by
    simp only [xTr] at h
    split at h
    · split at h
      · rename_i t1 hp1 lo1 h1
        exact xTr_kept hc hv p ⟨hb.1, hb.2.trans (xOp_kept hc hv h1)⟩ h
      · cases h
    · exact xTr_kept hc hv p hb h
  | .fork l, t, t', hp, hp', lo, lo', hb, h => by
    simp only [xTr] at h
    exact xTrs_kept hc hv l hb h
theorem xTrs_kept {P : Program} {call : XCall} (hc : XOk P call) {callv : XCallV} (hv : XOkV P callv) {w : Cls} {is : List IOp} {K : Nat} {c : Bool} {hp0 : HP} {lo0 : Nat} : ∀ (l : List (Nat × Tr)) {t t' : ET} {hp hp' : HP} {lo lo' : Nat}, Base hp0 lo0 K hp lo → xTrs call callv w is K c l t hp lo = some (t', hp', lo') → KeptC hp0 lo0 hp' lo'
  | [], t, t', hp, hp', lo, lo', hb, h => by simp [xTrs] at h
  | (i, p) :: l, t, t', hp, hp', lo, lo', hb, h => by
    simp only [xTrs, xTr] at h
    split at h
    · rename_i s hs
      cases ha : xTrAll call callv w is K c l t hp lo s <;> rw [ha] at h <;> cases h
      split at hs
      · split at hs
        · rename_i t1 hp1 lo1 h1
          exact xTr_kept hc hv p ⟨hb.1, hb.2.trans (xOp_kept hc hv h1)⟩ hs
        · cases hs
      · exact xTr_kept hc hv p hb hs
    · cases h
end

theorem xTake_ok {P : Program} {call : XCall} (hc : XOk P call) {callv : XCallV} (hv : XOkV P callv) {w : Cls} {n : Nat} {is : List IOp} {K : Nat} {c : Bool} (hr : is.all (·.inR n) = true) {i : Nat} {p : Tr} {t : ET} {hp : HP} {lo : Nat} {s : XSt} {l : List AV} (hl : Is n t.get l)
    (hx : (match is[i]? with
    | some o => match xOp call callv w o t hp lo with
      | some (t', hp', lo') => xTr call callv w is K c p t' hp' lo'
      | none => none
    | none => xTr call callv w is K c p t hp lo) = some s) {Q : St → Prop} (hq : ∀ (t1 : ET) (hp1 : HP) (lo1 : Nat) (l1 : List AV), Is n t1.get l1 → xTr call callv w is K c p t1 hp1 lo1 = some s → vopsT P w is p ⟨l1, hp1⟩ Q) : opA P w is i (fun st' => vopsT P w is p st' Q) ⟨l, hp⟩ := by
  unfold opA
  split at hx
  · rename_i o hi
    rw [hi]
    split at hx
    · rename_i t1 hp1 lo1 h1
      have ho : o.inR n = true := List.all_eq_true.1 hr o (List.mem_of_getElem? hi)
      obtain ⟨v, h2, h3⟩ := xOp_spec (w := w) hc hv ho hl h1
      exact ⟨v, hp1, h2, hq _ _ _ _ (by rw [h3]; exact hl.put) hx⟩
    · cases hx
  · rename_i hi
    rw [hi]
    exact hq _ _ _ _ hl hx

mutual
theorem xTr_ok {P : Program} {call : XCall} (hc : XOk P call) {callv : XCallV} (hv : XOkV P callv) {w : Cls} {n : Nat} {is : List IOp} {K : Nat} {c : Bool} (hr : is.all (·.inR n) = true) : ∀ (p : Tr) {t : ET} {hp : HP} {lo : Nat} {s : XSt} {l : List AV}, Is n t.get l → xTr call callv w is K c p t hp lo = some s → ∀ {Q : St → Prop}, (∀ l', Is n s.1.get l' → Q ⟨l', s.2.1⟩) → vopsT P w is p ⟨l, hp⟩ (fun st' => ∃ st'', RenOk K st' st'' ∧ Q st'')
  | .done, t, hp, lo, s, l, hl, h, Q, hq => by
    simp only [xTr] at h
    simp only [vopsT]
    cases c
    · simp only [cond_false, Option.some.injEq] at h
      subst h
      exact ⟨_, RenOk.refl _ _, hq l hl⟩
    · obtain ⟨l', h1, h2⟩ := xCanon_ok h hl
      exact ⟨_, h1, hq l' h2⟩
  | .take i p, t, hp, lo, s, l, hl, h, Q, hq => by
    simp only [xTr] at h
    simp only [vopsT]
    exact xTake_ok hc hv hr hl h fun t1 hp1 lo1 l1 hl1 h1 => xTr_ok hc hv hr p hl1 h1 hq
  | .fork f, t, hp, lo, s, l, hl, h, Q, hq => by
    simp only [xTr] at h
    simp only [vopsT]
    exact xTrs_ok hc hv hr f hl h hq
theorem xTrs_ok {P : Program} {call : XCall} (hc : XOk P call) {callv : XCallV} (hv : XOkV P callv) {w : Cls} {n : Nat} {is : List IOp} {K : Nat} {c : Bool} (hr : is.all (·.inR n) = true) : ∀ (f : List (Nat × Tr)) {t : ET} {hp : HP} {lo : Nat} {s : XSt} {l : List AV}, Is n t.get l → xTrs call callv w is K c f t hp lo = some s → ∀ {Q : St → Prop}, (∀ l', Is n s.1.get l' → Q ⟨l', s.2.1⟩) → vopsTs P w is f ⟨l, hp⟩ (fun st' => ∃ st'', RenOk K st' st'' ∧ Q st'')
  | [], t, hp, lo, s, l, hl, h, Q, hq => by simp [xTrs] at h
  | (i, p) :: f, t, hp, lo, s, l, hl, h, Q, hq => by
    simp only [xTrs, xTr] at h
    simp only [vopsTs]
    split at h
    · rename_i s' hs
      cases hb : xTrAll call callv w is K c f t hp lo s' <;> rw [hb] at h <;> cases h
      exact ⟨xTake_ok hc hv hr hl hs fun t1 hp1 lo1 l1 hl1 h1 => xTr_ok hc hv hr p hl1 h1 hq, xTrAll_ok hc hv hr f hl hb hq⟩
    · cases h
theorem xTrAll_ok {P : Program} {call : XCall} (hc : XOk P call) {callv : XCallV} (hv : XOkV P callv) {w : Cls} {n : Nat} {is : List IOp} {K : Nat} {c : Bool} (hr : is.all (·.inR n) = true) : ∀ (f : List (Nat × Tr)) {t : ET} {hp : HP} {lo : Nat} {s : XSt} {l : List AV}, Is n t.get l → xTrAll call callv w is K c f t hp lo s = true → ∀ {Q : St → Prop}, (∀ l', Is n s.1.get l' → Q ⟨l', s.2.1⟩) → vopsTs P w is f ⟨l, hp⟩ (fun st' => ∃ st'', RenOk K st' st'' ∧ Q st'')
  | [], t, hp, lo, s, l, hl, h, Q, hq => by simp only [vopsTs]
  | (i, p) :: f, t, hp, lo, s, l, hl, h, Q, hq => by
    simp only [xTrAll, xTr] at h
    simp only [vopsTs]
    split at h
    · rename_i s' hs
      simp only [Bool.and_eq_true] at h
      have e := xsEqb_eq h.1
      subst e
      exact ⟨xTake_ok hc hv hr hl hs fun t1 hp1 lo1 l1 hl1 h1 => xTr_ok hc hv hr p hl1 h1 hq, xTrAll_ok hc hv hr f hl h.2 hq⟩
    · cases h
end

/-! ### What a call leaves -/
mutual
theorem ren_id {f : Nat → Option Nat} {K : Nat} (hf : ∀ i, i < K → f i = some i) : ∀ {a : AV}, idsLt K a = true → ren f a = some a
  | .int _ _, _ | .bool _, _ | .str _, _ | .nilp, _ | .nils, _ | .esl, _ | .enn, _ | .nilm, _ | .nilf, _ | .nili, _ | .unk, _ => by simp only [ren]
  | .ptr _ _, h | .sl .., h | .map _, h | .yld _, h => by simp only [idsLt] at h; simp only [ren, hf _ (of_blt h)]
  | .fptr cs _, h | .fsl cs _, h | .func _ cs, h | .agg cs, h | .tup cs, h | .bound _ cs, h => by simp only [idsLt] at h; simp only [ren, renL_id hf h]
  | .iface _ a, h => by simp only [idsLt] at h; simp only [ren, ren_id hf h]
theorem renL_id {f : Nat → Option Nat} {K : Nat} (hf : ∀ i, i < K → f i = some i) : ∀ {as : List AV}, idsLtL K as = true → renL f as = some as
  | [], _ => by simp only [renL]
  | a :: as, h => by
    simp only [idsLtL, Bool.and_eq_true] at h
    simp only [renL, ren_id hf h.1, renL_id hf h.2]
end
theorem zip_map (es : List (AV × AV)) : (es.map (·.1)).zip (es.map (·.2)) = es := by
  induction es with
  | nil => rfl
  | cons a es ih => simp [ih]
theorem renH_app {f : Nat → Option Nat} : ∀ {a b a' b' : HP}, renH f a = some a' → renH f b = some b' → renH f (a ++ b) = some (a' ++ b')
  | [], b, a', b', h, k => by simp only [renH, Option.some.injEq] at h; subst h; simpa using k
  | x :: a, b, a', b', h, k => by
    simp only [renH] at h
    split at h
    · rename_i x' a1 h1 h2
      cases h
      simp only [List.cons_append, renH, h1, renH_app h2 k]
    · cases h
theorem renH_id {f : Nat → Option Nat} {K : Nat} (hf : ∀ i, i < K → f i = some i) : ∀ {hp : HP}, (∀ (i : Nat) (x : Blk), hp[i]? = some (some x) → match x with
    | .row _ cs => idsLtL K cs = true
    | .map es _ _ => idsLtL K (es.map (·.1)) = true ∧ idsLtL K (es.map (·.2)) = true
    | .iter is _ _ _ => idsLtL K is = true
    | .loop tms _ _ _ => idsLtL K tms = true) → renH f hp = some hp
  | [], _ => by simp only [renH]
  | b :: hp, h => by
    have h1 : renB f b = some b := by
      rcases b with _ | ⟨e, cs⟩ | ⟨es, bs, c⟩ | ⟨is, since, seen, last⟩ | ⟨tms, key, st, pend⟩
      · rfl
      · have := h 0 _ rfl
        simp only at this
        simp only [renB, renL_id hf this]
      · have := h 0 _ rfl
        simp only at this
        simp only [renB, renL_id hf this.1, renL_id hf this.2, zip_map]
      · have := h 0 _ rfl
        simp only at this
        simp only [renB, renL_id hf this]
      · have := h 0 _ rfl
        simp only at this
        simp only [renB, renL_id hf this]
    have h2 := renH_id hf (hp := hp) fun i x hx => h (i + 1) x (by simpa using hx)
    simp only [renH, h1, h2]

/-- What it made, as far as it is named. -/
def xGc (hp : HP) (K : Nat) (r : AV) (h : HP) : Option (AV × HP) :=
  match reach h K 100000 (idsIn K r []) [] with
  | ord => cond (noDups ord && ord.all (fun i => Nat.ble K i && Nat.blt i h.length)) (match ren (nameAs K ord) r, renH (nameAs K ord) (picks h ord) with
    | some r', some q => some (r', hp ++ q)
    | _, _ => none) none
theorem ACalls.gc {P : Program} {f : FuncId} {xs : List AV} {hp new : HP} {r r' : AV} {hp' : HP} (h : ACalls P f xs hp fun a b => a = r ∧ b = hp ++ new) (hr : xGc hp hp.length r (hp ++ new) = some (r', hp')) : ACalls P f xs hp fun a b => a = r' ∧ b = hp' := by
  unfold xGc at hr
  simp only at hr
  cases hb : (noDups (reach (hp ++ new) hp.length 100000 (idsIn hp.length r []) []) && (reach (hp ++ new) hp.length 100000 (idsIn hp.length r []) []).all (fun i => Nat.ble hp.length i && Nat.blt i (hp ++ new).length))
  · rw [hb] at hr; cases hr
  rw [hb] at hr
  simp only [cond_true] at hr
  split at hr
  · rename_i r1 q h1 h2
    cases hr
    refine ⟨h.1, fun Γ vs hh hl hv => Calls.mono (h.2 Γ vs hh hl hv) ?_⟩
    rintro e w' ⟨v, a, b, Δ, rfl, rfl, h3, h4, h5, rfl, rfl⟩
    have hid : ∀ i, i < hp.length → nameAs hp.length (reach (hp ++ new) hp.length 100000 (idsIn hp.length a []) []) i = some i := fun i hi => by simp only [nameAs, blt_of hi, cond_true]
    have hn : hp.length = Γ.n := hh.len
    have hold : renH (nameAs hp.length (reach (hp ++ new) hp.length 100000 (idsIn hp.length a []) [])) hp = some hp := renH_id hid fun i x hx => by
      have hb := (hh.blk i x hx).1
      cases x with
      | row e cs =>
        simp only [BRel] at hb ⊢
        rw [hn]
        exact hb.2.idsLt
      | iter is since seen last =>
        simp only [BRel] at hb ⊢
        obtain ⟨_, _, p2⟩ := hb
        rw [hn]
        exact p2.idsLt
      | map es bs c =>
        simp only [BRel] at hb ⊢
        obtain ⟨_, _, _, _, _, p4, p5, _⟩ := hb
        rw [hn]
        exact ⟨p4.idsLt, p5.idsLt⟩
      | loop tms key st pend =>
        simp only [BRel] at hb ⊢
        obtain ⟨_, _, _, _, p2⟩ := hb
        rw [hn]
        exact p2.idsLt
    have hren : renamed hp.length (reach (hp ++ new) hp.length 100000 (idsIn hp.length a []) []) (hp ++ new) = some (hp ++ q) := by
      unfold renamed
      rw [Bool.and_assoc, hb, Bool.and_true, Nat.ble_eq_true_of_le (by simp), cond_true, List.take_left]
      exact renH_app hold h2
    obtain ⟨Θ, k1, k2, k3, k4, _⟩ := renamed_ok hren h4
    exact ⟨v, r', hp ++ q, Θ, rfl, k1, ren_rel k2 h1 h3, k3, k4 Γ hp (by omega) h5, rfl, rfl⟩
  · cases hr
theorem xGc_app {hp : HP} {K : Nat} {r r' : AV} {h hp' : HP} (hx : xGc hp K r h = some (r', hp')) : ∃ q, hp' = hp ++ q := by
  unfold xGc at hx
  simp only at hx
  cases hb : (noDups (reach h K 100000 (idsIn K r []) []) && (reach h K 100000 (idsIn K r []) []).all (fun i => Nat.ble K i && Nat.blt i h.length)) <;> rw [hb] at hx
  · cases hx
  · simp only [cond_true] at hx
    split at hx
    · cases hx
      exact ⟨_, rfl⟩
    · cases hx

/-- What a call leaves: what it made, if nobody names it, is forgotten. -/
def xRet (k : Nat) (hp : HP) (rs : List RV) (t : ET) (h : HP) (lo : Nat) : Option (AV × HP × Nat) :=
  match resE rs t.get h with
  | some r => cond (Nat.ble k lo) (cond (idsLt k r) (some (r, hp, k)) (match xGc hp k r h with
    | some (r', h') => some (r', h', k)
    | none => some (r, h, lo))) (some (r, h, lo))
  | none => none

abbrev XRun := IC → ET → HP → Nat → Option (Exit × ET × HP × Nat)
/-- What a call gives, by its code's run ('O': what is known of some calls). -/
def xF (T : FTr) (O : XCall) (rec : XRun) : XCall := fun f xs hp =>
  match T.get f with
  | some ⟨c, n, rs⟩ => cond (Nat.ble xs.length n) (match rec c (ET.of 0 xs (ET.full (n.log2 + 1))) hp hp.length with
    | some (.ret, t, h, lo) => xRet hp.length hp rs t h lo
    | some (.normal, t, h, lo) => xRet hp.length hp rs t h lo
    | _ => none) none
  | none => O f xs hp

/-- One round of a loop over a function. -/
def xRound (L : List (Nat × LI)) (rec : XRun) (id : Nat) (ys : List AV) (hp : HP) : Option (AV × HP × Nat) :=
  match hp[id]? with
  | some (some (.loop tms key .ready none)) => match ltGet L key with
    | some ⟨nt, ps, ia, ib⟩ => cond (Nat.beq (setPs tms ps ys).length nt && Nat.beq ys.length ps.length) (match rec ia (ET.of 0 (setPs tms ps ys) (ET.full (nt.log2 + 1))) hp hp.length with
      | some (.normal, t1, hp1, lo1) => match hp1[id]? with
        | some (some (.loop tms1 key1 .ready pd1)) => match rec ib t1 (hp1.set id (some (.loop tms1 key1 .busy pd1))) (lower2 lo1 id) with
          | some (e, _, hp3, lo3) => match pendOf e with
            | some pe => match hp3[id]? with
              | some (some (.loop tms3 key3 _ _)) => some (.bool pe.isNone, hp3.set id (some (.loop tms3 key3 (if pe.isNone then .ready else .done) pe)), lower2 lo3 id)
              | _ => none
            | none => none
          | none => none
        | _ => none
      | _ => none) none
    | none => none
  | _ => none

/-- What a function value's call gives ('E': what is known of the library's functions that the model knows by itself). -/
def xV (call : XCall) (E : XCall) (L : List (Nat × LI)) (rec : XRun) : XCallV := fun fv xs hp =>
  match fv with
  | .func g caps => match E g (xs ++ caps) hp with
    | some r => some r
    | none => call g (xs ++ caps) hp
  | .bound g first => call g (first ++ xs) hp
  | .yld id => xRound L rec id xs hp
  | _ => none
def EOk (P : Program) (E : XCall) : Prop := ∀ f xs hp r hp' lo, E f xs hp = some (r, hp', lo) → (AExt P f xs hp fun a b => a = r ∧ b = hp') ∧ Kept hp hp' lo

def toL (t : ET) : Nat → Nat → List AV
  | _, 0 => []
  | i, n + 1 => t.get i :: toL t (i + 1) n
theorem toL_eq {t : ET} : ∀ (n i : Nat) (l : List AV), l.length = n → (∀ j, j < n → l.getD j (.tup []) = t.get (i + j)) → toL t i n = l
  | 0, i, l, h, _ => by rw [List.eq_nil_of_length_eq_zero h]; rfl
  | n + 1, i, [], h, _ => by simp at h
  | n + 1, i, a :: l, h, hg => by
    have h0 := hg 0 (by omega)
    simp only [List.getD_cons_zero, Nat.add_zero] at h0
    simp only [toL, ← h0]
    rw [toL_eq n (i + 1) l (by simpa using h) fun j hj => by
      have := hg (j + 1) (by omega)
      simp only [List.getD_cons_succ] at this
      rw [this]
      congr 1
      omega]
def notBusy : LoopState → Bool
  | .busy => false
  | _ => true
/-- The one call of a loop over a function. -/
def xRCall (call : XCall) (fv : AV) (id : Nat) (hp : HP) : Option (AV × HP × Nat) :=
  match fv with
  | .func g caps => call g (.yld id :: caps) hp
  | .bound g first => call g (first ++ [.yld id]) hp
  | _ => none
/-- A loop over a function. -/
def xRange (call : XCall) (key nt : Nat) (fv : AV) (t : ET) (hp : HP) (lo : Nat) : Option (Exit × ET × HP × Nat) :=
  match xRCall call fv hp.length (hp ++ [some (.loop (toL t 0 nt) key .ready none)]) with
  | some (_, hp2, l2) => match hp2[hp.length]? with
    | some (some (.loop tms' key' ls pend)) => cond (notBusy ls) (some (exitOf pend, t, hp2.set hp.length (some (.loop tms' key' .exhausted pend)), lower2 lo l2)) none
    | _ => none
  | none => none

/-- Code's run: so many steps deep at most. -/
def xStep (T : FTr) (O E : XCall) (L : List (Nat × LI)) (n : Nat) (rec : XRun) (self : XRun) : XRun := fun c t hp lo => match c with
    | .skip => some (.normal, t, hp, lo)
    | .reg is => match xOps (xF T O rec) (xV (xF T O rec) E L rec) .wild is t hp lo with
      | some (t', hp', lo') => some (.normal, t', hp', lo')
      | none => none
    | .regD w is p => match xTr (xF T O rec) (xV (xF T O rec) E L rec) w is hp.length (!chain p) p t hp lo with
      | some (t', hp', lo') => some (.normal, t', hp', lo')
      | none => none
    | .seq a b => match rec a t hp lo with
      | some (.normal, t', hp', lo') => rec b t' hp' lo'
      | r => r
    | .cond o a b => match evX t o with
      | .bool true => rec a t hp lo
      | .bool false => rec b t hp lo
      | _ => none
    | .block id c => match rec c t hp lo with
      | some (.exit i, t', hp', lo') => cond (Nat.beq i id) (some (.normal, t', hp', lo')) (some (.exit i, t', hp', lo'))
      | r => r
    | .loop c => match rec c t hp lo with
      | some (.normal, t', hp', lo') => rec (.loop c) t' hp' lo'
      | r => r
    | .exit id => some (.exit id, t, hp, lo)
    | .ret => some (.ret, t, hp, lo)
    | .rangeF key nt o => xRange (xF T O rec) key nt (evX t o) t hp lo
def xC (T : FTr) (O E : XCall) (L : List (Nat × LI)) (n : Nat) : XRun :=
  Nat.rec (motive := fun _ => XRun) (fun _ _ _ _ => none) (fun n rec => xStep T O E L n rec rec) n
section
variable (T : FTr) (O E : XCall) (L : List (Nat × LI)) (n : Nat) (t : ET) (hp : HP) (lo : Nat)
theorem xC_zero (c : IC) : xC T O E L 0 c t hp lo = none := rfl
theorem xC_skip : xC T O E L (n + 1) .skip t hp lo = some (.normal, t, hp, lo) := rfl
theorem xC_reg (is : List IOp) : xC T O E L (n + 1) (.reg is) t hp lo = match xOps (xF T O (xC T O E L n)) (xV (xF T O (xC T O E L n)) E L (xC T O E L n)) .wild is t hp lo with
      | some (t', hp', lo') => some (.normal, t', hp', lo')
      | none => none := rfl
theorem xC_regD (w : Cls) (is : List IOp) (p : Tr) : xC T O E L (n + 1) (.regD w is p) t hp lo = match xTr (xF T O (xC T O E L n)) (xV (xF T O (xC T O E L n)) E L (xC T O E L n)) w is hp.length (!chain p) p t hp lo with
      | some (t', hp', lo') => some (.normal, t', hp', lo')
      | none => none := rfl
theorem xC_seq (a b : IC) : xC T O E L (n + 1) (.seq a b) t hp lo = match xC T O E L n a t hp lo with
      | some (.normal, t', hp', lo') => xC T O E L n b t' hp' lo'
      | r => r := rfl
theorem xC_cond (o : Opd) (a b : IC) : xC T O E L (n + 1) (.cond o a b) t hp lo = match evX t o with
      | .bool true => xC T O E L n a t hp lo
      | .bool false => xC T O E L n b t hp lo
      | _ => none := rfl
theorem xC_block (id : Nat) (c : IC) : xC T O E L (n + 1) (.block id c) t hp lo = match xC T O E L n c t hp lo with
      | some (.exit i, t', hp', lo') => cond (Nat.beq i id) (some (.normal, t', hp', lo')) (some (.exit i, t', hp', lo'))
      | r => r := rfl
theorem xC_loop (c : IC) : xC T O E L (n + 1) (.loop c) t hp lo = match xC T O E L n c t hp lo with
      | some (.normal, t', hp', lo') => xC T O E L n (.loop c) t' hp' lo'
      | r => r := rfl
theorem xC_exitc (id : Nat) : xC T O E L (n + 1) (.exit id) t hp lo = some (.exit id, t, hp, lo) := rfl
theorem xC_ret : xC T O E L (n + 1) .ret t hp lo = some (.ret, t, hp, lo) := rfl
theorem xC_rangeF (key nt : Nat) (o : Opd) : xC T O E L (n + 1) (.rangeF key nt o) t hp lo = xRange (xF T O (xC T O E L n)) key nt (evX t o) t hp lo := rfl
end

/-- It ends in this state. -/
def AtX (e : Exit) (t : ET) (hp : HP) : Exit → Env → HP → Prop := fun e' tm' hp' => e' = e ∧ tm' = t.get ∧ hp' = hp

theorem xRange_exit {call : XCall} {key nt : Nat} {fv : AV} {t : ET} {hp : HP} {lo : Nat} {e : Exit} {t' : ET} {hp' : HP} {lo' : Nat} (h : xRange call key nt fv t hp lo = some (e, t', hp', lo')) : ∀ l, e ≠ .goto l := by
  unfold xRange at h
  split at h
  · split at h
    · rename_i tms' key' ls pend _
      cases hb : notBusy ls <;> rw [hb] at h <;> cases h
      intro l hl
      rcases pend with _ | _ | i <;> cases hl
    · cases h
  · cases h

theorem xC_exit {T : FTr} {O E : XCall} {L : List (Nat × LI)} : ∀ (n : Nat) {c : IC} {t : ET} {hp : HP} {lo : Nat} {e : Exit} {t' : ET} {hp' : HP} {lo' : Nat}, xC T O E L n c t hp lo = some (e, t', hp', lo') → (∀ l, e ≠ .goto l)
  | 0, c, t, hp, lo, e, t', hp', lo', h => by simp [xC_zero, xC_skip, xC_reg, xC_regD, xC_seq, xC_cond, xC_block, xC_loop, xC_exitc, xC_ret, xC_rangeF] at h
  | n + 1, c, t, hp, lo, e, t', hp', lo', h => by
    have ih := fun {c : IC} {t : ET} {hp : HP} {lo : Nat} {e : Exit} {t' : ET} {hp' : HP} {lo' : Nat} => xC_exit (T := T) (O := O) (E := E) (L := L) n (c := c) (t := t) (hp := hp) (lo := lo) (e := e) (t' := t') (hp' := hp') (lo' := lo')
    cases c with
    | skip => simp only [xC_skip, Option.some.injEq, Prod.mk.injEq] at h; intro l hl; rw [← h.1] at hl; cases hl
    | reg is =>
      simp only [xC_zero, xC_skip, xC_reg, xC_regD, xC_seq, xC_cond, xC_block, xC_loop, xC_exitc, xC_ret, xC_rangeF] at h
      split at h
      · cases h; intro l hl; cases hl
      · cases h
    | regD w is p =>
      simp only [xC_zero, xC_skip, xC_reg, xC_regD, xC_seq, xC_cond, xC_block, xC_loop, xC_exitc, xC_ret, xC_rangeF] at h
      split at h
      · cases h; intro l hl; cases hl
      · cases h
    | seq a b =>
      simp only [xC_zero, xC_skip, xC_reg, xC_regD, xC_seq, xC_cond, xC_block, xC_loop, xC_exitc, xC_ret, xC_rangeF] at h
      split at h
      · exact ih h
      · exact ih h
    | cond o a b =>
      simp only [xC_zero, xC_skip, xC_reg, xC_regD, xC_seq, xC_cond, xC_block, xC_loop, xC_exitc, xC_ret, xC_rangeF] at h
      split at h
      · exact ih h
      · exact ih h
      · cases h
    | block id c =>
      simp only [xC_zero, xC_skip, xC_reg, xC_regD, xC_seq, xC_cond, xC_block, xC_loop, xC_exitc, xC_ret, xC_rangeF] at h
      split at h
      · rename_i i t1 hp1 lo1 h1
        cases hb : Nat.beq i id <;> rw [hb] at h <;> cases h <;> intro l hl <;> cases hl
      · exact ih h
    | loop c =>
      simp only [xC_zero, xC_skip, xC_reg, xC_regD, xC_seq, xC_cond, xC_block, xC_loop, xC_exitc, xC_ret, xC_rangeF] at h
      split at h
      · exact ih h
      · exact ih h
    | exit id => simp only [xC_exitc, Option.some.injEq, Prod.mk.injEq] at h; intro l hl; rw [← h.1] at hl; cases hl
    | ret => simp only [xC_ret, Option.some.injEq, Prod.mk.injEq] at h; intro l hl; rw [← h.1] at hl; cases hl
    | rangeF key nt o =>
      simp only [xC_zero, xC_skip, xC_reg, xC_regD, xC_seq, xC_cond, xC_block, xC_loop, xC_exitc, xC_ret, xC_rangeF] at h
      exact xRange_exit h

abbrev RunOk (P : Program) (rec : XRun) : Prop := ∀ (hint : Nat → Nat) (k : Nat) (c : IC) (t : ET) (hp : HP) (lo : Nat) (e : Exit) (t' : ET) (hp' : HP) (lo' : Nat), rec c t hp lo = some (e, t', hp', lo') → vcE P hint Tab.none k c t.get hp (AtX e t' hp') ∧ KeptC hp lo hp' lo' ∧ ∀ l, e ≠ .goto l

theorem xF_ok {P : Program} (hm : P.follows .mixedOrders = true) {T : FTr} (hT : T.All (FOk P)) {O : XCall} (hO : XOk P O) {rec : XRun} (ih : RunOk P rec) : XOk P (xF T O rec) := by
  intro f xs hp r hp' lo h
  unfold xF at h
  split at h
  · rename_i c n rs hg
    obtain ⟨hint, hcomp, hs, hkeys⟩ := hT.get hg
    have hkeys' : KeysF P hint f := hkeys.elim (fun h => noR_keysF hcomp h) id
    cases hb : Nat.ble xs.length n
    · rw [hb] at h; cases h
    · rw [hb] at h
      simp only [cond_true] at h
      have hl : xs.length ≤ n := Nat.le_of_ble_eq_true hb
      -- from where the code ends
      have key : ∀ (e : Exit) (t : ET) (h1 : HP) (lo1 : Nat), (e = .ret ∨ e = .normal) → rec c (ET.of 0 xs (ET.full (n.log2 + 1))) hp hp.length = some (e, t, h1, lo1) → xRet hp.length hp rs t h1 lo1 = some (r, hp', lo) → (ACalls P f xs hp fun a b => a = r ∧ b = hp') ∧ Kept hp hp' lo := by
        intro e t h1 lo1 he hr hx
        obtain ⟨q1, q2, _⟩ := ih hint n _ _ _ _ _ _ _ _ hr
        obtain ⟨q3, q4, q5⟩ := q2 (Nat.le_refl _)
        unfold xRet at hx
        split at hx
        · rename_i r' hr'
          have hc : ACalls P f xs hp fun a b => a = r' ∧ b = h1 := by
            refine calls_k hm (TabOk.none P) hcomp hkeys' hs hl ?_
            rw [← ET.get_begin xs (n.log2 + 1)]
            refine q1.mono ?_
            rintro e' tm hp2 ⟨rfl, rfl, rfl⟩
            rcases he with rfl | rfl
            · exact ⟨_, hr', rfl, rfl⟩
            · exact ⟨_, hr', rfl, rfl⟩
          have hk : Kept hp h1 lo1 := ⟨q3, q4, q5⟩
          cases hb : Nat.ble hp.length lo1
          · rw [hb] at hx
            cases hx
            exact ⟨hc, hk⟩
          · rw [hb] at hx
            simp only [cond_true] at hx
            obtain ⟨new, rfl⟩ := hk.app (Nat.le_of_ble_eq_true hb)
            cases hi : idsLt hp.length r'
            · rw [hi] at hx
              simp only [cond_false] at hx
              split at hx
              · rename_i r2 h2 hg
                cases hx
                refine ⟨hc.gc hg, ?_⟩
                obtain ⟨q, rfl⟩ := xGc_app hg
                exact ⟨Nat.le_refl _, by simp, fun i hi => List.getElem?_append_left hi⟩
              · cases hx
                exact ⟨hc, hk⟩
            · rw [hi] at hx
              cases hx
              exact ⟨hc.cut hi, Kept.refl _⟩
        · cases hx
      split at h
      · rename_i t h1 lo1 hr
        exact key _ _ _ _ (.inl rfl) hr h
      · rename_i t h1 lo1 hr
        exact key _ _ _ _ (.inr rfl) hr h
      · cases h
  · exact hO _ _ _ _ _ _ h

theorem AW.vcE {P : Program} (hm : P.follows .mixedOrders = true) {hint : Nat → Nat} {c : Code} {ic : IC} (hc : compC P hint c = some ic) (hpl : plainC c = true) {n : Nat} (hok : okS n ic = true) {t : ET} {hp : HP} {l : List AV} (hl : Is n t.get l) {e : Exit} (he : ∀ l, e ≠ .goto l) {t' : ET} {hp' : HP} (h : vcE P hint Tab.none n ic t.get hp (AtX e t' hp')) :
    AW P c ⟨l, hp⟩ fun e' st' => e' = e ∧ Is n t'.get st'.tm ∧ st'.hp = hp' := by
  refine vc_sound hm hc (fun x hx => by rw [plain_keys hpl] at hx; cases hx) (by rintro l st ⟨h1, _⟩; exact he l h1.symm) ?_
  refine h hm (TabOk.none P) hok l _ hl ?_
  rintro e' tm' hp2 l' hl' ⟨rfl, rfl, rfl⟩
  exact ⟨rfl, hl', rfl⟩

theorem set_kept {hp : HP} {id lo : Nat} (x : Option Blk) : KeptC hp lo (hp.set id x) (lower2 lo id) := by
  have := KeptC.op (Keeps.set' hp id x) lo
  exact this

theorem xRound_ok {P : Program} (hm : P.follows .mixedOrders = true) {L : List (Nat × LI)} (hL : LAll P L) {rec : XRun} (ih : RunOk P rec) {id : Nat} {ys : List AV} {hp : HP} {r : AV} {hp' : HP} {lo : Nat} (h : xRound L rec id ys hp = some (r, hp', lo)) : (ARound P id ys hp fun a b => a = r ∧ b = hp') ∧ Kept hp hp' lo := by
  unfold xRound at h
  split at h
  · rename_i tms key hb
    split at h
    · rename_i nt ps ia ib hli
      obtain ⟨hint, k1, k2, k3, k4, k5⟩ := hL.get hli
      simp only at k1 k3 k4 k5
      simp only [Bool.and_eq_true] at k5
      cases hlen : (Nat.beq (setPs tms ps ys).length nt && Nat.beq ys.length ps.length)
      · rw [hlen] at h; cases h
      rw [hlen] at h
      simp only [cond_true] at h
      simp only [Bool.and_eq_true] at hlen
      have hnt := Nat.eq_of_beq_eq_true hlen.1
      have hps := Nat.eq_of_beq_eq_true hlen.2
      split at h
      · rename_i t1 hp1 lo1 hr1
        split at h
        · rename_i tms1 key1 pd1 hb1
          split at h
          · rename_i e t3 hp3 lo3 hr3
            split at h
            · rename_i pe hpe
              split at h
              · rename_i tms3 key3 ls3 pd3 hb3
                cases h
                obtain ⟨p1, p2, _⟩ := ih hint nt _ _ _ _ _ _ _ _ hr1
                obtain ⟨q1, q2, q3⟩ := ih hint nt _ _ _ _ _ _ _ _ hr3
                have hk2 := k2
                simp only [Bool.and_eq_true] at hk2
                constructor
                · refine ARound.of hb (ps := (lcP P key).params) (assign := (lcP P key).assign) (body := (lcP P key).body) rfl k2 (by rw [hps, ← k1, Array.length_toList]) (t1 := fun tm => Is nt t1.get tm) (hp1 := hp1) (hp3 := hp3) ?_ hb1 hpe (fun tm htm => (AW.vcE hm k4 hk2.2 k5.2 htm q3 q1).mono fun e' st' ⟨a, _, b⟩ => ⟨a, b⟩) hb3
                  rw [k1]
                  refine AW.vcE hm k3 hk2.1 k5.1 ⟨hnt, fun i _ => ?_⟩ (by intro l h; cases h) p1
                  rw [ET.get_begin]
                  rfl
                · have s1 : KeptC hp hp.length (hp1.set id (some (.loop tms1 key1 .busy pd1))) (lower2 lo1 id) := p2.trans (set_kept _)
                  have s2 := (s1.trans q2).trans (set_kept (hp := hp3) (id := id) (lo := lo3) (some (.loop tms3 key3 (if pe.isNone then .ready else .done) pe)))
                  exact s2 (Nat.le_refl _)
              · cases h
            · cases h
          · cases h
        · cases h
      · cases h
    · cases h
  · cases h

theorem xV_ok {P : Program} (hm : P.follows .mixedOrders = true) {call : XCall} (hc : XOk P call) {E : XCall} (hE : EOk P E) {L : List (Nat × LI)} (hL : LAll P L) {rec : XRun} (ih : RunOk P rec) : XOkV P (xV call E L rec) := by
  intro fv xs hp r hp' lo h
  cases fv <;> simp only [xV, reduceCtorEq] at h
  case func g caps =>
    split at h
    · rename_i x hx
      cases h
      obtain ⟨h1, h2⟩ := hE _ _ _ _ _ _ hx
      exact ⟨Or.inr h1, h2⟩
    · obtain ⟨h1, h2⟩ := hc _ _ _ _ _ _ h
      exact ⟨Or.inl h1, h2⟩
  case bound g first => exact hc _ _ _ _ _ _ h
  case yld id => exact xRound_ok hm hL ih h

theorem xRange_ok {P : Program} {call : XCall} (hc : XOk P call) {key nt : Nat} {o : Opd} {t : ET} {hp : HP} {lo : Nat} {e : Exit} {t' : ET} {hp' : HP} {lo' : Nat} (h : xRange call key nt (evX t o) t hp lo = some (e, t', hp', lo')) (hint : Nat → Nat) (k : Nat) : vcE P hint Tab.none k (.rangeF key nt o) t.get hp (AtX e t' hp') ∧ KeptC hp lo hp' lo' := by
  unfold xRange at h
  split at h
  · rename_i r hp2 l2 hr
    split at h
    · rename_i tms' key' ls pend hb
      cases hn : notBusy ls <;> rw [hn] at h <;> cases h
      have hcall : ∃ g xs, xRCall call (evX t o) hp.length (hp ++ [some (.loop (toL t 0 nt) key .ready none)]) = call g xs (hp ++ [some (.loop (toL t 0 nt) key .ready none)]) := by
        cases hv : evX t o <;> rw [hv] at hr <;> first | cases hr | exact ⟨_, _, rfl⟩
      constructor
      · intro _ _ hok l Q' hl hq
        simp only [okS, Bool.and_eq_true] at hok
        have hnt := Nat.eq_of_beq_eq_true hok.1
        subst hnt
        have hL : toL t 0 nt = l := toL_eq nt 0 l hl.1 fun j hj => by rw [Nat.zero_add]; exact hl.2 j hj
        rw [hL] at hr
        show RangeW P key nt o ⟨l, hp⟩ Q'
        intro f ps a b ho hk
        have hev : o.ev l = evX t o := by rw [evX_eq]; exact hl.ev hok.2
        refine AW.range ho hk (st := ⟨l, hp⟩) (fv := evX t o) hev (r := r) (hp2 := hp2) ?_ hb (by intro h; subst h; cases hn) ?_
        · cases hv : evX t o <;> rw [hv] at hr <;> simp only [xRCall, RCall, reduceCtorEq] at hr ⊢ <;> exact (hc _ _ _ _ _ _ hr).1
        · rcases pend with _ | _ | i
          · exact hq _ _ _ _ hl ⟨rfl, rfl, rfl⟩
          · exact hq _ _ _ _ hl ⟨rfl, rfl, rfl⟩
          · exact hq _ _ _ _ hl ⟨rfl, rfl, rfl⟩
      · obtain ⟨g, xs, hg⟩ := hcall
        rw [hg] at hr
        obtain ⟨_, k1, k2, k3⟩ := hc _ _ _ _ _ _ hr
        intro hl
        simp only [List.length_append, List.length_cons, List.length_nil] at k1 k2
        have hlow : lower2 lo l2 ≤ lo ∧ lower2 lo l2 ≤ l2 := by
          simp only [lower2]
          cases hb : Nat.blt l2 lo
          · simp only [cond_false]
            have : ¬ l2 < lo := fun h => by rw [blt_of h] at hb; cases hb
            omega
          · simp only [cond_true]
            have := of_blt hb
            omega
        refine ⟨hlow.1, by rw [List.length_set]; omega, fun i hi => ?_⟩
        rw [List.getElem?_set_ne (by omega), k3 i (by omega), List.getElem?_append_left (by omega)]
    · cases h
  · cases h

theorem xC_ok {P : Program} (hm : P.follows .mixedOrders = true) {T : FTr} (hT : T.All (FOk P)) {O : XCall} (hO : XOk P O) {E : XCall} (hE : EOk P E) {L : List (Nat × LI)} (hL : LAll P L) : ∀ (n : Nat), RunOk P (xC T O E L n)
  | 0, hint, k, c, t, hp, lo, e, t', hp', lo', h => by simp [xC_zero, xC_skip, xC_reg, xC_regD, xC_seq, xC_cond, xC_block, xC_loop, xC_exitc, xC_ret, xC_rangeF] at h
  | n + 1, hint, k, c, t, hp, lo, e, t', hp', lo', h => by
    have ih := xC_ok hm hT hO hE hL n
    have hc : XOk P (xF T O (xC T O E L n)) := xF_ok hm hT hO ih
    have hv : XOkV P (xV (xF T O (xC T O E L n)) E L (xC T O E L n)) := xV_ok hm hc hE hL ih
    have hng := xC_exit (n + 1) h
    refine (fun (x : vcE P hint Tab.none k c t.get hp (AtX e t' hp') ∧ KeptC hp lo hp' lo') => ⟨x.1, x.2, hng⟩) ?_
    cases c with
    | skip =>
      simp only [xC_skip, Option.some.injEq, Prod.mk.injEq] at h
      obtain ⟨rfl, rfl, rfl, rfl⟩ := h
      exact ⟨vcE.ex rfl ⟨rfl, rfl, rfl⟩, KeptC.refl _ _⟩
    | exit id =>
      simp only [xC_exitc, Option.some.injEq, Prod.mk.injEq] at h
      obtain ⟨rfl, rfl, rfl, rfl⟩ := h
      exact ⟨vcE.ex rfl ⟨rfl, rfl, rfl⟩, KeptC.refl _ _⟩
    | ret =>
      simp only [xC_ret, Option.some.injEq, Prod.mk.injEq] at h
      obtain ⟨rfl, rfl, rfl, rfl⟩ := h
      exact ⟨vcE.ex rfl ⟨rfl, rfl, rfl⟩, KeptC.refl _ _⟩
    | rangeF key nt o =>
      simp only [xC_zero, xC_skip, xC_reg, xC_regD, xC_seq, xC_cond, xC_block, xC_loop, xC_exitc, xC_ret, xC_rangeF] at h
      exact xRange_ok hc h hint k
    | reg is =>
      simp only [xC_zero, xC_skip, xC_reg, xC_regD, xC_seq, xC_cond, xC_block, xC_loop, xC_exitc, xC_ret, xC_rangeF] at h
      split at h
      · rename_i t1 hp1 lo1 h1
        cases h
        refine ⟨?_, xOps_kept hc hv h1⟩
        intro _ _ hs l Q' hl hq
        exact xOps_vops hc hv hs hl h1 fun l' hl' => hq _ _ _ _ hl' ⟨rfl, rfl, rfl⟩
      · cases h
    | regD w is p =>
      simp only [xC_zero, xC_skip, xC_reg, xC_regD, xC_seq, xC_cond, xC_block, xC_loop, xC_exitc, xC_ret, xC_rangeF] at h
      split at h
      · rename_i t1 hp1 lo1 h1
        cases h
        refine ⟨?_, xTr_kept hc hv p ⟨rfl, KeptC.refl _ _⟩ h1⟩
        intro _ _ hs l Q' hl hq
        simp only [okS] at hs
        exact xTr_ok hc hv hs p hl h1 fun l' hl' => hq _ _ _ _ hl' ⟨rfl, rfl, rfl⟩
      · cases h
    | seq a b =>
      simp only [xC_zero, xC_skip, xC_reg, xC_regD, xC_seq, xC_cond, xC_block, xC_loop, xC_exitc, xC_ret, xC_rangeF] at h
      split at h
      · rename_i t1 hp1 lo1 h1
        obtain ⟨p1, p2, _⟩ := ih hint k _ _ _ _ _ _ _ _ h1
        obtain ⟨q1, q2, _⟩ := ih hint k _ _ _ _ _ _ _ _ h
        refine ⟨vcE.seq (p1.mono ?_), p2.trans q2⟩
        rintro e' tm2 hp2 ⟨rfl, rfl, rfl⟩
        exact q1
      · rename_i r h1
        obtain ⟨p1, p2, _⟩ := ih hint k _ _ _ _ _ _ _ _ h
        refine ⟨vcE.seq (p1.mono ?_), p2⟩
        rintro e' tm2 hp2 ⟨rfl, rfl, rfl⟩
        cases e' with
        | normal => exact absurd h (h1 _ _ _)
        | _ => exact ⟨rfl, rfl, rfl⟩
    | cond o a b =>
      simp only [xC_zero, xC_skip, xC_reg, xC_regD, xC_seq, xC_cond, xC_block, xC_loop, xC_exitc, xC_ret, xC_rangeF] at h
      split at h
      · rename_i ht
        rw [evX_eq] at ht
        obtain ⟨p1, p2, _⟩ := ih hint k _ _ _ _ _ _ _ _ h
        exact ⟨vcE.cond true ht (fun _ => p1) (by simp), p2⟩
      · rename_i ht
        rw [evX_eq] at ht
        obtain ⟨p1, p2, _⟩ := ih hint k _ _ _ _ _ _ _ _ h
        exact ⟨vcE.cond false ht (by simp) (fun _ => p1), p2⟩
      · cases h
    | block id c =>
      simp only [xC_zero, xC_skip, xC_reg, xC_regD, xC_seq, xC_cond, xC_block, xC_loop, xC_exitc, xC_ret, xC_rangeF] at h
      split at h
      · rename_i i t1 hp1 lo1 h1
        obtain ⟨p1, p2, _⟩ := ih hint k _ _ _ _ _ _ _ _ h1
        cases hb : Nat.beq i id
        · rw [hb] at h
          cases h
          refine ⟨vcE.block (p1.mono ?_), p2⟩
          rintro e' tm2 hp2 ⟨rfl, rfl, rfl⟩
          simp only
          rw [if_neg (by intro h; subst h; rw [Nat.beq_refl] at hb; cases hb)]
          exact ⟨rfl, rfl, rfl⟩
        · rw [hb] at h
          cases h
          refine ⟨vcE.block (p1.mono ?_), p2⟩
          rintro e' tm2 hp2 ⟨rfl, rfl, rfl⟩
          simp only
          rw [if_pos (Nat.eq_of_beq_eq_true hb)]
          exact ⟨rfl, rfl, rfl⟩
      · rename_i r h1
        obtain ⟨p1, p2, _⟩ := ih hint k _ _ _ _ _ _ _ _ h
        refine ⟨vcE.block (p1.mono ?_), p2⟩
        rintro e' tm2 hp2 ⟨rfl, rfl, rfl⟩
        cases e' with
        | exit i => exact absurd h (h1 _ _ _ _)
        | _ => exact ⟨rfl, rfl, rfl⟩
    | loop c =>
      have hkept : KeptC hp lo hp' lo' := by
        simp only [xC_zero, xC_skip, xC_reg, xC_regD, xC_seq, xC_cond, xC_block, xC_loop, xC_exitc, xC_ret, xC_rangeF] at h
        split at h
        · rename_i t1 hp1 lo1 h1
          exact (ih hint k _ _ _ _ _ _ _ _ h1).2.1.trans (ih hint k _ _ _ _ _ _ _ _ h).2.1
        · exact (ih hint k _ _ _ _ _ _ _ _ h).2.1
      refine ⟨vcE.loop (by rintro l tm hp2 ⟨h1, _⟩; exact hng l h1.symm) (fun j tm hp2 => j ≤ n + 1 ∧ ∃ (t2 : ET) (lo2 : Nat), tm = t2.get ∧ xC T O E L j (.loop c) t2 hp2 lo2 = some (e, t', hp', lo')) (n + 1) ⟨Nat.le_refl _, t, lo, rfl, h⟩ ?_, hkept⟩
      rintro j tm hp2 ⟨hj, t2, lo2, rfl, h2⟩
      cases j with
      | zero => simp [xC_zero, xC_skip, xC_reg, xC_regD, xC_seq, xC_cond, xC_block, xC_loop, xC_exitc, xC_ret, xC_rangeF] at h2
      | succ j =>
        have ihj := xC_ok hm hT hO hE hL j
        simp only [xC_zero, xC_skip, xC_reg, xC_regD, xC_seq, xC_cond, xC_block, xC_loop, xC_exitc, xC_ret, xC_rangeF] at h2
        split at h2
        · rename_i t3 hp3 lo3 h3
          refine (ihj hint k _ _ _ _ _ _ _ _ h3).1.mono ?_
          rintro e' tm4 hp4 ⟨rfl, rfl, rfl⟩
          exact ⟨j, Nat.lt_succ_self j, by omega, t3, lo3, rfl, h2⟩
        · rename_i r h3
          refine (ihj hint k _ _ _ _ _ _ _ _ h2).1.mono ?_
          rintro e' tm4 hp4 ⟨rfl, rfl, rfl⟩
          cases e' with
          | normal => exact absurd h2 (h3 _ _ _)
          | _ => exact ⟨rfl, rfl, rfl⟩
termination_by n => n
decreasing_by all_goals omega

def noO : XCall := fun _ _ _ => none
theorem noO_ok (P : Program) : XOk P noO := fun _ _ _ _ _ _ h => by cases h
/-- A call that the machine runs. -/
theorem run_ok {P : Program} (hm : P.follows .mixedOrders = true) {T : FTr} (hT : T.All (FOk P)) {O : XCall} (hO : XOk P O) {E : XCall} (hE : EOk P E) {L : List (Nat × LI)} (hL : LAll P L) {n : Nat} {f : FuncId} {xs : List AV} {hp : HP} {r : AV} {hp' : HP} {lo : Nat} (h : xF T O (xC T O E L n) f xs hp = some (r, hp', lo)) : ACalls P f xs hp fun a b => a = r ∧ b = hp' :=
  (xF_ok hm hT hO (xC_ok hm hT hO hE hL n) f xs hp r hp' lo h).1

end
end Go.Gi
