/- Constants, composite values, makes, and conversions between strings and bytes. -/
import Derived.Test.YtakdhioafodhcaaGreatDoorGiD
set_option linter.unusedVariables false
set_option linter.unusedSimpArgs false
namespace Go.Gi
open Go

theorem toList_length {α : Type} (xs : Array α) : xs.toList.length = xs.size := rfl

/-! ### Constants -/
def constS : Value → Option AV
  | .int k n => some (.int k n)
  | .bool b => some (.bool b)
  | .string s => some (.str s.data.toList)
  | .pointer none => some .nilp
  | .slice none 0 0 => some .nils
  | .map none => some .nilm
  | .nilFunc => some .nilf
  | .nilIface => some .nili
  | _ => none
def constL : List Value → Option (List AV)
  | [] => some []
  | v :: vs => match constS v, constL vs with
    | some a, some as => some (a :: as)
    | _, _ => none
def constA : Value → Option AV
  | .agg cs => (constL cs.toList).map .agg
  | .tuple cs => if cs.size = 0 then some (.tup []) else none
  | v => constS v

theorem constS_rel {Γ : Cx} {v : Value} {a : AV} (h : constS v = some a) : VRel Γ a v ∧ one v = true ∧ oneA a = true := by
  unfold constS at h
  split at h <;> simp only [Option.some.injEq, reduceCtorEq] at h <;> subst h <;> simp [VRel, one, oneA]
theorem constL_rel {Γ : Cx} : ∀ {vs : List Value} {as : List AV}, constL vs = some as → VRels Γ as vs ∧ ∀ u ∈ vs, one u = true
  | [], as, h => by simp only [constL, Option.some.injEq] at h; subst h; simp [VRels]
  | v :: vs, as, h => by
    simp only [constL] at h
    split at h
    · rename_i a as' h1 h2
      simp only [Option.some.injEq] at h
      subst h
      obtain ⟨k1, k2, _⟩ := constS_rel (Γ := Γ) h1
      obtain ⟨k3, k4⟩ := constL_rel (Γ := Γ) h2
      exact ⟨by simp only [VRels]; exact ⟨_, _, rfl, k1, k3⟩, fun u hu => (List.mem_cons.1 hu).elim (fun e => e ▸ k2) (k4 u)⟩
    · cases h
theorem constA_rel {Γ : Cx} {v : Value} {a : AV} (h : constA v = some a) : VRel Γ a v := by
  unfold constA at h
  split at h
  · rename_i cs
    cases hl : constL cs.toList with
    | none => simp [hl] at h
    | some as =>
      simp only [hl, Option.map_some, Option.some.injEq] at h
      subst h
      obtain ⟨h1, h2⟩ := constL_rel (Γ := Γ) hl
      simp only [VRel]
      exact ⟨cs.toList, by simp, h1, h2⟩
  · rename_i cs
    split at h
    · rename_i h0
      simp only [Option.some.injEq] at h
      subst h
      have : cs = #[] := Array.eq_empty_of_size_eq_zero h0
      subst this
      simp [VRel, VRels]
    · cases h
  · exact (constS_rel h).1

/-- An element type's zero value: its cells. -/
def zeroP (P : Program) (e : TypeId) : Option (List AV) :=
  match P.info? e with
  | some i => match i.zero with
    | some z => match constA z with
      | some (.tup _) => none
      | some a => if (cellsA a).length = i.size then some (cellsA a) else none
      | none => none
    | none => none
  | none => none

theorem zeroP_some {P : Program} {e : TypeId} {Z : List AV} (h : zeroP P e = some Z) : ∃ i z, P.info? e = some i ∧ i.zero = some z ∧ z.cells.size = i.size ∧ Z.length = i.size ∧
    ∀ Γ : Cx, VRels Γ Z z.cells.toList ∧ ∀ u ∈ z.cells.toList, one u = true := by
  unfold zeroP at h
  split at h
  · rename_i i hi
    split at h
    · rename_i z hz
      split at h
      · cases h
      · rename_i a hnt ha
        split at h
        · rename_i hl
          simp only [Option.some.injEq] at h
          subst h
          have hne : ∀ l, a ≠ .tup l := fun l e => hnt l e
          have key : ∀ Γ : Cx, VRels Γ (cellsA a) z.cells.toList ∧ ∀ u ∈ z.cells.toList, one u = true := fun Γ => cells_rel (constA_rel ha) hne
          refine ⟨i, z, hi, hz, ?_, hl, key⟩
          have := (key ⟨default, 0, fun _ => (0, 0), fun _ => False, fun _ => ⟨#[], .skip, .skip⟩, 0⟩).1.length
          rw [toList_length z.cells] at this
          omega
        · cases h
      · cases h
    · cases h
  · cases h

/-- So many zero values, as cells. -/
def zerosA (Z : List AV) (n : Nat) : List AV :=
  match Z with
  | [z] => List.replicate n z
  | Z => (List.replicate n Z).flatten

theorem zerosA_eq (Z : List AV) (n : Nat) : zerosA Z n = (List.replicate n Z).flatten := by
  unfold zerosA
  split
  · induction n with
    | zero => rfl
    | succ n ih => rw [List.replicate_succ, List.replicate_succ, List.flatten_cons, ← ih]; rfl
  · rfl

theorem cycle_list (z : Array Value) : ∀ n, ((Array.range (n * z.size)).map (fun i => z[i % z.size]!)).toList = (List.replicate n z.toList).flatten
  | 0 => by simp
  | n + 1 => by
    have ih := cycle_list z n
    simp only [Array.toList_map, Array.toList_range] at ih ⊢
    rw [Nat.add_mul, Nat.one_mul, List.range_add, List.map_append, ih, List.replicate_succ', List.flatten_append]
    congr 1
    simp only [List.flatten_cons, List.flatten_nil, List.append_nil, List.map_map]
    apply List.ext_getElem
    · simp
    · intro i h1 h2
      simp at h1
      simp [Nat.add_mod, Nat.mod_eq_of_lt h1, Nat.mul_mod_left, h1]

theorem zeros_rel {Γ : Cx} {Z : List AV} {z : List Value} (h : VRels Γ Z z) (h1 : ∀ u ∈ z, one u = true) (n : Nat) : VRels Γ (zerosA Z n) (List.replicate n z).flatten ∧ ∀ u ∈ (List.replicate n z).flatten, one u = true := by
  rw [zerosA_eq]
  induction n with
  | zero => simp [VRels]
  | succ n ih =>
    simp only [List.replicate_succ, List.flatten_cons]
    exact ⟨h.append ih.1, fun u hu => (List.mem_append.1 hu).elim (h1 u) (ih.2 u)⟩

def allocA (hp : HP) (e : TypeId) (Z : List AV) : AV × HP := (.ptr hp.length 0, hp ++ [some (.row e Z)])

theorem alloc_ok {P : Program} {Γ : Cx} {hp : HP} (h : HSim Γ hp) {e : TypeId} {Z : List AV} (hz : zeroP P e = some Z) : OpOk P Γ hp (Instr.alloc e true (.tuple #[])) (allocA hp e Z).1 (allocA hp e Z).2 := by
  obtain ⟨i, z, hi, hzz, hs, hl, key⟩ := zeroP_some hz
  obtain ⟨Δ, r1, r2, r3, r4, r5, _⟩ := newRow_ok (P := P) h e (key Γ).1 (key Γ).2 []
  refine ⟨.pointer (some ⟨Γ.w.heap.size, 0, none⟩), Δ, ?_, ?_, r2, r3⟩
  · have : (⟨z.cells.toList ++ []⟩ : Array Value) = z.cells := by simp
    rw [this] at r1
    simp [Instr.alloc, zeroValue, typeInfo, hi, hzz, newVar, r1]
  · simp only [VRel, allocA]
    refine ⟨?_, by rw [r5]⟩
    have := r2.len
    simp at this; omega

/-! ### Composite values -/
def aggCells : List AV → Option (List AV)
  | [] => some []
  | .tup _ :: _ => none
  | x :: xs => (aggCells xs).map (cellsA x ++ ·)

/-- 'all parts, each of this size'. -/
def partsOk (sz : Nat) : List AV → Bool
  | [] => true
  | .tup _ :: _ => false
  | x :: xs => (cellsA x).length == sz && partsOk sz xs

def flatA (xs : List AV) : List AV := xs.flatMap cellsA

theorem foldl_set (off : Nat) : ∀ (l : List Value) (k : Nat) (c : List Value), off + k + l.length ≤ c.length →
    ((l.zipIdx k).foldl (fun (cs : Array Value) (p : Value × Nat) => cs.setIfInBounds (off + p.2) p.1) ⟨c⟩) = ⟨over c (off + k) l⟩
  | [], k, c, _ => by simp [over_nil]
  | v :: l, k, c, h => by
    simp only [List.zipIdx_cons, List.foldl_cons]
    have hs : (⟨c⟩ : Array Value).setIfInBounds (off + k) v = ⟨c.set (off + k) v⟩ := by simp
    rw [hs, foldl_set off l (k + 1) (c.set (off + k) v) (by simp at h ⊢; omega), over_cons c (off + k) v l (by simp at h; omega)]
    rfl

theorem fill_all (sz : Nat) : ∀ (vs : List Value) (k : Nat) (c : List Value), (∀ v ∈ vs, v.cells.size = sz) → k * sz + vs.length * sz ≤ c.length →
    Instr.fill (fun i => some (i * sz, sz)) ⟨c⟩ ((List.range' k vs.length).zip vs) = some ⟨over c (k * sz) (vs.flatMap fun v => v.cells.toList)⟩
  | [], k, c, _, _ => by simp [Instr.fill, over_nil]
  | v :: vs, k, c, h1, h2 => by
    have hv : v.cells.size = sz := h1 v (by simp)
    have hlen : k * sz + sz ≤ c.length := by simp [Nat.add_mul] at h2; omega
    simp only [List.length_cons, List.range'_succ, List.zip_cons_cons, Instr.fill]
    rw [if_neg (by simp [hv]; omega)]
    have hf : (v.cells.zipIdx.foldl (fun (cs : Array Value) (p : Value × Nat) => cs.setIfInBounds (k * sz + p.2) p.1) ⟨c⟩) = ⟨over c (k * sz) v.cells.toList⟩ := by
      rw [← Array.foldl_toList, Array.toList_zipIdx]
      have := foldl_set (k * sz) v.cells.toList 0 c (by simp [hv]; omega)
      simpa using this
    have hf' : (v.cells.zipIdx.foldl (fun (cs : Array Value) (x : Value × Nat) => match x with | (c, j) => cs.setIfInBounds (k * sz + j) c) ⟨c⟩) = ⟨over c (k * sz) v.cells.toList⟩ := hf
    rw [hf', fill_all sz vs (k + 1) _ (fun u hu => h1 u (by simp [hu])) (by
      rw [over_length _ _ _ (by simp [hv]; omega)]
      simp [Nat.add_mul] at h2 ⊢; omega)]
    congr 2
    have hvl : v.cells.toList.length = sz := by simpa using hv
    apply List.ext_getElem?
    intro i
    have hfl : ∀ (l : List Value), (∀ v ∈ l, v.cells.size = sz) → (l.flatMap fun v => v.cells.toList).length = l.length * sz := by
      intro l
      induction l with
      | nil => simp
      | cons a l ih => intro h; simp [ih (fun v hv => h v (by simp [hv])), h a (by simp), Nat.add_mul, Nat.add_comm]
    have hfl' := hfl vs (fun u hu => h1 u (by simp [hu]))
    have e1 : (k + 1) * sz = k * sz + sz := by rw [Nat.add_mul, Nat.one_mul]
    rw [over_get _ _ _ (by rw [over_length _ _ _ (by simp [hv]; omega)]; omega), over_get _ _ _ (by omega), over_get _ _ _ (by omega)]
    simp only [List.flatMap_cons, List.length_append, hvl, hfl']
    by_cases c1 : (k + 1) * sz ≤ i ∧ i < (k + 1) * sz + vs.length * sz
    · rw [if_pos c1, if_pos (by omega), List.getElem?_append_right (by omega), hvl]
      congr 1; omega
    · rw [if_neg c1]
      by_cases c2 : k * sz ≤ i ∧ i < k * sz + sz
      · rw [if_pos c2, if_pos (by omega), List.getElem?_append_left (by omega)]
      · rw [if_neg c2, if_neg (by omega)]

theorem partsOk_rel {Γ : Cx} {sz : Nat} : ∀ {xs : List AV} {vs : List Value}, VRels Γ xs vs → partsOk sz xs = true →
    (∀ v ∈ vs, v.cells.size = sz) ∧ VRels Γ (flatA xs) (vs.flatMap fun v => v.cells.toList) ∧ (∀ u ∈ vs.flatMap fun v => v.cells.toList, one u = true) ∧ (flatA xs).length = xs.length * sz
  | [], vs, h, _ => by simp only [VRels] at h; subst h; simp [flatA, VRels]
  | x :: xs, vs, h, hp => by
    simp only [VRels] at h
    obtain ⟨v, vs', rfl, hv, h⟩ := h
    have ht : ∀ l, x ≠ .tup l := by rintro l rfl; simp [partsOk] at hp
    have hp' : (cellsA x).length = sz ∧ partsOk sz xs = true := by
      cases x <;> first | (simpa only [partsOk, Bool.and_eq_true, beq_iff_eq] using hp) | exact absurd rfl (ht _)
    obtain ⟨k1, k2⟩ := cells_rel hv ht
    obtain ⟨q1, q2, q3, q4⟩ := partsOk_rel h hp'.2
    have hl := k1.length
    rw [toList_length v.cells] at hl
    refine ⟨?_, ?_, ?_, ?_⟩
    · intro u hu
      rcases List.mem_cons.1 hu with rfl | hu
      · omega
      · exact q1 u hu
    · simp only [flatA, List.flatMap_cons]
      exact k1.append q2
    · intro u hu
      simp only [List.flatMap_cons, List.mem_append] at hu
      exact hu.elim (k2 u) (q3 u)
    · simp only [flatA, List.flatMap_cons, List.length_append, List.length_cons, Nat.add_mul, Nat.one_mul] at q4 ⊢
      omega

/-- A written-out slice that nobody will write: without elements it has no room either. -/
def litV (v : AV) : List AV → AV
  | [] => .esl
  | _ :: _ => v
/-- A slice written out, of our own ('fz': one that nobody will write). -/
def bslA (hp : HP) (e : TypeId) (sz : Nat) (fz : Bool) (xs : List AV) : Option (AV × HP) :=
  if partsOk sz xs then
    if fz then some (litV (.fsl (flatA xs) xs.length) xs, hp)
    else some (.sl hp.length 0 xs.length sz xs.length true, hp ++ [some (.row e (flatA xs))])
  else none

theorem bsl_ok {P : Program} {Γ : Cx} {hp hp' : HP} (h : HSim Γ hp) {t e : TypeId} {sz bytes : Nat} (ht : elemP P t = some (e, sz, bytes)) {fz : Bool} {xs : List AV} {vs : List Value} (hv : VRels Γ xs vs) (hsmall : xs.length * sz ≤ 16777216) {r : AV}
    (hr : bslA hp e sz fz xs = some (r, hp')) : OpOk P Γ hp (Instr.buildSlice t xs.length ⟨(List.range xs.length).zip vs⟩) r hp' := by
  obtain ⟨hut, i, z, hi, hz, hzs, rfl, rfl⟩ := elemP_some ht
  unfold bslA at hr
  split at hr
  · rename_i hp0
    obtain ⟨k1, k2, k3, k4⟩ := partsOk_rel hv hp0
    have hl := hv.length
    have hfill : ∀ zero : Array Value, Instr.fill (fun j => some (j * i.size, i.size)) ((Array.range (xs.length * i.size)).map (zero[· % zero.size]!)) ((List.range xs.length).zip vs) = some ⟨vs.flatMap fun v => v.cells.toList⟩ := by
      intro zero
      have hsize : ((Array.range (xs.length * i.size)).map (zero[· % zero.size]!)).toList.length = xs.length * i.size := by simp
      generalize ((Array.range (xs.length * i.size)).map (zero[· % zero.size]!)) = c at hsize
      obtain ⟨c⟩ := c
      have := fill_all i.size vs 0 c k1 (by simp at hsize ⊢; rw [← hl, hsize]; exact Nat.le_refl _)
      rw [List.range_eq_range', hl, this]
      congr 2
      have hfl := k2.length
      simp only [over, Nat.zero_mul, List.take_zero, List.nil_append]
      rw [List.drop_eq_nil_of_le, List.append_nil]
      simp at hsize
      rw [← hfl, k4, hsize]
      omega
    have hb : ¬ (xs.length * i.size > 2 ^ 24) := by omega
    have hsz : (sizeOf e).run P Γ.w = .ok i.size Γ.w := by simp [sizeOf, typeInfo, hi]
    have hrun : (Instr.buildSlice t xs.length ⟨(List.range xs.length).zip vs⟩).run P Γ.w =
        ((newRow e ⟨vs.flatMap fun v => v.cells.toList⟩).run P Γ.w).andThen fun a w => .ok (.slice (some a) xs.length xs.length) w := by
      simp only [Instr.buildSlice, Sem.run_bind, run_underlying hut, Result.andThen_ok, hsz, if_neg hb]
      split
      · simp only [Sem.run_bind, Sem.run_pure, Result.andThen_ok, hfill #[]]
      · have hzv : (zeroValue e).run P Γ.w = .ok z Γ.w := by simp [zeroValue, typeInfo, hi, hz]
        simp only [Sem.run_bind, Sem.run_pure, Result.andThen_ok, hzv, hfill z.cells]
    split at hr
    · simp only [Option.some.injEq, Prod.mk.injEq] at hr
      obtain ⟨rfl, rfl⟩ := hr
      obtain ⟨Δ, r1, r2, r3, r4, r5⟩ := newRowFz_ok (P := P) h e k2 k3
      refine ⟨.slice (some ⟨Γ.w.heap.size, 0, none⟩) xs.length xs.length, Δ, by rw [hrun, r1]; rfl, ?_, r2, r3⟩
      cases xs with
      | nil =>
        simp only [litV, VRel, List.length_nil]
        exact .inr ⟨_, rfl⟩
      | cons x xs =>
        simp only [litV, VRel]
        exact .inr ⟨_, 0, _, rfl, Nat.le_refl _, .inr r4, r5⟩
    · simp only [Option.some.injEq, Prod.mk.injEq] at hr
      obtain ⟨rfl, rfl⟩ := hr
      obtain ⟨Δ, r1, r2, r3, r4, r5, r6⟩ := newRow_ok (P := P) h e k2 k3 []
      simp only [List.append_nil] at r1 r6
      refine ⟨.slice (some ⟨Γ.w.heap.size, 0, none⟩) xs.length xs.length, Δ, by rw [hrun, r1]; rfl, ?_, r2, r3⟩
      simp only [VRel]
      refine ⟨by have := r2.len; simp at this; omega, 0, _, _, _, by rw [r5], .inr (by rw [r5]), Nat.le_refl _, Nat.le_refl _, by simp, by rw [r5]; exact r6, ?_⟩
      have hfl := k2.length
      rw [← hfl, k4]; omega
  · cases hr

end Go.Gi
