/- Slices: cutting, appending, making, and to and from strings. -/
import Derived.Test.YtakdhioafodhcaaGreatDoorGiC
import Derived.Deep.AppendSrc
import Derived.Laws.AppendOwn
import Derived.Laws.MakeOwn
import Derived.Laws.IdiomStrings
import Derived.Laws.BytesString
set_option linter.unusedVariables false
set_option linter.unusedSimpArgs false
namespace Go.Gi
open Go

/-! ### Cutting -/
/-- A bound: left out, or a number. -/
def bndA : Option AV → Option (Option Int)
  | none => some none
  | some (.int _ n) => some (some n)
  | _ => none

/-- 'x[lo:hi:mx]': where it begins, where it ends, where its room ends ('len', 'cap': what x has). -/
def cutA (len cap : Nat) (lo hi mx : Option Int) : Option (Nat × Nat × Nat) :=
  let m : Int := mx.getD cap
  let h : Int := hi.getD len
  let l : Int := lo.getD 0
  if (mx.isSome → hi.isSome) ∧ m ≤ cap ∧ 0 ≤ h ∧ (hi.isNone ∨ h ≤ m) ∧ 0 ≤ l ∧ l ≤ h then some (l.toNat, h.toNat, m.toNat) else none

def sliceA (sz : Nat) (x : AV) (lo hi mx : Option AV) : Option AV :=
  match bndA lo, bndA hi, bndA mx with
  | some lo, some hi, some mx =>
    match x with
    | .sl id off len sz' cap ex =>
      if sz' = sz then (cutA len cap lo hi mx).map fun (l, h, m) => .sl id (off + l * sz) (h - l) sz (m - l) (ex || mx.isSome) else none
    | .fsl cs len => (cutA len len lo hi mx).map fun (l, h, m) => if mx.isSome ∧ m = l then .esl else .fsl ((cs.drop (l * sz)).take ((h - l) * sz)) (h - l)
    | .nils => (cutA 0 0 lo hi mx).map fun _ => .nils
    | .esl => (cutA 0 0 lo hi mx).map fun _ => .esl
    | .str s => if mx.isSome then none else (cutA s.length s.length lo hi none).map fun (l, h, _) => .str ((s.drop l).take (h - l))
    | _ => none
  | _, _, _ => none

/-- The same bounds, in the model. -/
def bndV (a : Option AV) (v : Option Value) : Prop :=
  match a, v with
  | none, none => True
  | some (.int k n), some v => v = .int k n
  | some _, some _ => True
  | _, _ => False

theorem sliceBound_run {P : Program} {w : World} {k : IntKind} {n : Int} {y : Nat} {code : BoundsCode} (h0 : 0 ≤ n) (h1 : n ≤ y) : (Instr.sliceBound (.int k n) y code).run P w = .ok n.toNat w := by
  simp [Instr.sliceBound, asIntOf, h0, h1]

theorem sliceBounds_run {P : Program} {w : World} {isSlice : Bool} {len cap cap' : Nat} {lo hi mx : Option AV} {lo' hi' mx' : Option Int} {vl vh vm : Option Value} {l h m : Nat}
    (kl : bndA lo = some lo') (kh : bndA hi = some hi') (km : bndA mx = some mx') (hl : bndV lo vl) (hh : bndV hi vh) (hm : bndV mx vm) (hc : cutA len cap lo' hi' mx' = some (l, h, m)) (hcap : cap ≤ cap') (hlen : len ≤ cap) :
    (Instr.sliceBounds isSlice len cap' vl vh vm).run P w = .ok (l, h, if mx'.isSome then m else cap') w ∧ l ≤ h ∧ h ≤ m ∧ (mx'.isSome = true → m ≤ cap) ∧ (mx' = none → m = cap) := by
  unfold cutA at hc
  simp only at hc
  split at hc
  · rename_i hcond
    obtain ⟨c1, c2, c3, c4, c5, c6⟩ := hcond
    simp only [Option.some.injEq, Prod.mk.injEq] at hc
    obtain ⟨rfl, rfl, rfl⟩ := hc
    have num : ∀ (a : Option AV) (v : Option Value) (n' : Option Int), bndA a = some n' → bndV a v → (n' = none ∧ v = none) ∨ ∃ k n, n' = some n ∧ v = some (.int k n) := by
      intro a v n' h1 h2
      rcases a with _ | a
      · simp only [bndA, Option.some.injEq] at h1
        rcases v with _ | v
        · exact .inl ⟨h1.symm, rfl⟩
        · simp [bndV] at h2
      · cases a <;> simp only [bndA] at h1 <;> try contradiction
        rcases v with _ | v
        · simp [bndV] at h2
        · simp only [bndV] at h2
          simp only [Option.some.injEq] at h1
          exact .inr ⟨_, _, h1.symm, by rw [h2]⟩
    rcases num lo vl lo' kl hl with ⟨rfl, rfl⟩ | ⟨k1, n1, rfl, rfl⟩ <;> rcases num hi vh hi' kh hh with ⟨rfl, rfl⟩ | ⟨k2, n2, rfl, rfl⟩ <;> rcases num mx vm mx' km hm with ⟨rfl, rfl⟩ | ⟨k3, n3, rfl, rfl⟩ <;>
      simp only [Option.isSome_none, Bool.false_eq_true, false_implies, Option.getD_none, Option.isNone_none, true_or, Int.toNat_natCast, if_false, forall_const, and_true, Option.isSome_some, implies_true, Option.getD_some, Option.isNone_some, false_or, if_true, reduceCtorEq] at c1 c2 c3 c4 c5 c6 ⊢
    case inl.inl.inl => exact ⟨by simp [Instr.sliceBounds], by omega⟩
    case inl.inr.inl => exact ⟨by simp [Instr.sliceBounds, sliceBound_run c3 (show n2 ≤ (cap' : Int) by omega)], by omega⟩
    case inl.inr.inr =>
      refine ⟨?_, by omega⟩
      simp only [Instr.sliceBounds, Sem.run_bind, sliceBound_run (show 0 ≤ n3 by omega) (show n3 ≤ (cap' : Int) by omega), Sem.run_pure, Result.andThen_ok, sliceBound_run c3 (show n2 ≤ (n3.toNat : Int) by omega)]
      simp
    case inr.inl.inl =>
      refine ⟨?_, by omega⟩
      simp only [Instr.sliceBounds, Sem.run_bind, Sem.run_pure, Result.andThen_ok, sliceBound_run c5 c6]
    case inr.inr.inl =>
      refine ⟨?_, by omega⟩
      simp only [Instr.sliceBounds, Sem.run_bind, Sem.run_pure, Result.andThen_ok, sliceBound_run c3 (show n2 ≤ (cap' : Int) by omega), sliceBound_run c5 (show n1 ≤ (n2.toNat : Int) by omega)]
    case inr.inr.inr =>
      refine ⟨?_, by omega⟩
      simp only [Instr.sliceBounds, Sem.run_bind, sliceBound_run (show 0 ≤ n3 by omega) (show n3 ≤ (cap' : Int) by omega), Sem.run_pure, Result.andThen_ok, sliceBound_run c3 (show n2 ≤ (n3.toNat : Int) by omega), sliceBound_run c5 (show n1 ≤ (n2.toNat : Int) by omega)]
  · cases hc

theorem extract_data (s : List UInt8) (l h : Nat) (hl : l ≤ h) (hh : h ≤ s.length) : (⟨s.toArray⟩ : ByteArray).extract l h = ⟨((s.drop l).take (h - l)).toArray⟩ := by
  apply ByteArray.ext
  apply Array.ext'
  rw [ByteArray.data_extract]
  simp

theorem slice_ok {P : Program} {Γ : Cx} {hp : HP} (h : HSim Γ hp) {t : TypeId} {sz : Nat} (ht : (∃ e, sliceP P t = some (e, sz)) ∨ P.underlying t = some .string) {x r : AV} {lo hi mx : Option AV} {v : Value} {vl vh vm : Option Value}
    (hv : VRel Γ x v) (hl : bndV lo vl) (hh : bndV hi vh) (hm : bndV mx vm) (hr : sliceA sz x lo hi mx = some r) (hk : (∃ s, x = .str s) ↔ P.underlying t = some .string) :
    OpOk P Γ hp (Instr.sliceAt t v vl vh vm) r hp := by
  unfold sliceA at hr
  split at hr
  · rename_i lo' hi' mx' kl kh km
    have notstr : ∀ y, x = y → (∀ s, y ≠ .str s) → ∃ e, P.underlying t = some (.slice e) ∧ sizeP P e = some sz := by
      intro y hy hs
      rcases ht with ⟨e, ht⟩ | ht
      · exact ⟨e, sliceP_some ht⟩
      · obtain ⟨s, rfl⟩ := hk.2 ht
        exact absurd hy.symm (hs s)
    have nilrun : ∀ (e : TypeId), P.underlying t = some (.slice e) → sizeP P e = some sz → ∀ {l hq m : Nat}, cutA 0 0 lo' hi' mx' = some (l, hq, m) → (∀ a0 : Option Addr, (Instr.sliceAt t (.slice a0 0 0) vl vh vm).run P Γ.w = .ok (.slice a0 0 0) Γ.w) ∧ l = 0 ∧ hq = 0 ∧ m = 0 := by
      intro e hu hs l hq m hcut
      obtain ⟨hrun, b1, b2, b3, b4⟩ := sliceBounds_run (P := P) (w := Γ.w) (isSlice := true) kl kh km hl hh hm hcut (Nat.le_refl _) (Nat.le_refl _)
      have hm0 : (if mx'.isSome = true then m else 0) = 0 := by
        cases hmx : mx' with
        | none => simp
        | some y => rw [hmx] at b3; have := b3 rfl; simp; omega
      rw [hm0] at hrun
      have hl0 : m = 0 := by
        cases hmx : mx' with
        | none => exact b4 hmx
        | some y => rw [hmx] at b3; have := b3 rfl; omega
      obtain rfl : l = 0 := by omega
      obtain rfl : hq = 0 := by omega
      refine ⟨fun a0 => ?_, rfl, rfl, hl0⟩
      cases a0 <;> (simp only [Instr.sliceAt, Sem.run_bind, run_underlying hu, Result.andThen_ok, Instr.slice, hrun, sizeP_run hs, Sem.run_pure]; simp)
    split at hr
    · rename_i id off len sz' cap ex
      split at hr
      · rename_i hsz
        subst hsz
        obtain ⟨e, hu, hs⟩ := notstr _ rfl (by simp)
        cases hcut : cutA len cap lo' hi' mx' with
        | none => simp [hcut] at hr
        | some q =>
          obtain ⟨l, hq, m⟩ := q
          simp only [hcut, Option.map_some, Option.some.injEq] at hr
          subst hr
          simp only [VRel] at hv
          obtain ⟨hi0, o, c, e', m', rfl, ho, k1, k2, k3, k4, k5⟩ := hv
          obtain ⟨hrun, b1, b2, b3, b4⟩ := sliceBounds_run (P := P) (w := Γ.w) (isSlice := true) kl kh km hl hh hm hcut k2 k1
          generalize hM : (if mx'.isSome = true then m else c) = M at hrun
          have hMm : m ≤ M ∧ M ≤ c ∧ (mx'.isSome = true → M = m) ∧ (ex = true → M = m) := by
            cases hmx : mx' with
            | none => subst hmx; simp at hM; subst hM; have := b4 rfl; exact ⟨by omega, by omega, by simp, fun hex => by have := k3 hex; omega⟩
            | some y => rw [hmx] at hM b3; simp at hM; subst hM; have := b3 rfl; exact ⟨by omega, by omega, fun _ => rfl, fun _ => rfl⟩
          obtain ⟨q1, q2, q3, q4⟩ := hMm
          have e0 : (Instr.sliceAt t (.slice (some ⟨(Γ.β id).1, o, none⟩) len c) vl vh vm).run P Γ.w = .ok (.slice (some ⟨(Γ.β id).1, if M = l then o else o + l * sz', none⟩) (hq - l) (M - l)) Γ.w := by
            simp only [Instr.sliceAt, Sem.run_bind, run_underlying hu, Result.andThen_ok, Instr.slice, hrun, sizeP_run hs, Sem.run_pure]
            split <;> simp [add_at]
          refine OpOk.same h e0 ?_
          simp only [VRel]
          refine ⟨hi0, _, _, e', m', rfl, ?_, by omega, by omega, ?_, k4, ?_⟩
          · rcases ho with ho | ho
            · left; omega
            · by_cases hMl : M = l
              · left; omega
              · right; rw [if_neg hMl, ho]; omega
          · intro hex
            simp only [Bool.or_eq_true] at hex
            rcases hex with hex | hex
            · have := q4 hex; omega
            · have := q3 hex; omega
          · have hmul : M * sz' ≤ c * sz' := Nat.mul_le_mul_right _ q2
            have hmul2 : (M - l) * sz' = M * sz' - l * sz' := Nat.sub_mul _ _ _
            have hmul3 : l * sz' ≤ M * sz' := Nat.mul_le_mul_right _ (by omega)
            split <;> omega
      · cases hr
    · rename_i cs len
      obtain ⟨e, hu, hs⟩ := notstr _ rfl (by simp)
      cases hcut : cutA len len lo' hi' mx' with
      | none => simp [hcut] at hr
      | some q =>
        obtain ⟨l, hq, m⟩ := q
        simp only [hcut, Option.map_some, Option.some.injEq] at hr
        simp only [VRel] at hv
        rcases hv with ⟨hv, rfl, rfl⟩ | ⟨b, o, c, rfl, k1, k2, k3⟩
        · obtain ⟨e1, rfl, rfl, rfl⟩ := nilrun e hu hs hcut
          subst hr
          rcases hv with rfl | ⟨a0, rfl⟩
          · refine OpOk.same h (v := .slice none 0 0) (e1 _) ?_
            split <;> simp [VRel, NilS]
          · refine OpOk.same h (v := .slice (some a0) 0 0) (e1 _) ?_
            split <;> simp [VRel, NilS]
        obtain ⟨hrun, b1, b2, b3, b4⟩ := sliceBounds_run (P := P) (w := Γ.w) (isSlice := true) kl kh km hl hh hm hcut k1 (Nat.le_refl _)
        generalize hM : (if mx'.isSome = true then m else c) = M at hrun
        have hMm : m ≤ M ∧ M ≤ c := by
          cases hmx : mx' with
          | none => subst hmx; simp at hM; subst hM; have := b4 rfl; exact ⟨by omega, by omega⟩
          | some y => rw [hmx] at hM b3; simp at hM; subst hM; have := b3 rfl; exact ⟨by omega, by omega⟩
        have e0 : (Instr.sliceAt t (.slice (some ⟨b, o, none⟩) len c) vl vh vm).run P Γ.w = .ok (.slice (some ⟨b, if M = l then o else o + l * sz, none⟩) (hq - l) (M - l)) Γ.w := by
          simp only [Instr.sliceAt, Sem.run_bind, run_underlying hu, Result.andThen_ok, Instr.slice, hrun, sizeP_run hs, Sem.run_pure]
          split <;> simp [add_at]
        refine OpOk.same h e0 ?_
        subst hr
        split
        · rename_i hz
          have hMm' : M = m := by rw [if_pos hz.1] at hM; exact hM.symm
          have z1 : hq - l = 0 := by omega
          have z2 : M - l = 0 := by omega
          rw [z1, z2]
          simp only [VRel]
          exact .inr ⟨_, rfl⟩
        simp only [VRel]
        refine .inr ⟨b, _, _, rfl, by omega, ?_, ?_⟩
        · rcases k2 with rfl | k2
          · left; simp
          · exact .inr k2
        · by_cases hMl : M = l
          · have : hq - l = 0 := by omega
            rw [this]; simp [CellsAt]
          · rw [if_neg hMl]; exact (k3.drop (l * sz)).take _
    · obtain ⟨e, hu, hs⟩ := notstr _ rfl (by simp)
      cases hcut : cutA 0 0 lo' hi' mx' with
      | none => simp [hcut] at hr
      | some q =>
        obtain ⟨l, hq, m⟩ := q
        simp only [hcut, Option.map_some, Option.some.injEq] at hr
        subst hr
        simp only [VRel] at hv
        subst hv
        exact OpOk.same h (v := .slice none 0 0) ((nilrun e hu hs hcut).1 _) (by simp [VRel])
    · obtain ⟨e, hu, hs⟩ := notstr _ rfl (by simp)
      cases hcut : cutA 0 0 lo' hi' mx' with
      | none => simp [hcut] at hr
      | some q =>
        obtain ⟨l, hq, m⟩ := q
        simp only [hcut, Option.map_some, Option.some.injEq] at hr
        subst hr
        simp only [VRel] at hv
        rcases hv with rfl | ⟨a0, rfl⟩
        · exact OpOk.same h (v := .slice none 0 0) ((nilrun e hu hs hcut).1 _) (by simp [VRel, NilS])
        · exact OpOk.same h (v := .slice (some a0) 0 0) ((nilrun e hu hs hcut).1 _) (by simp [VRel, NilS])
    · rename_i s
      have hu : P.underlying t = some .string := hk.1 ⟨s, rfl⟩
      split at hr
      · cases hr
      · rename_i hmx
        have hmx' : mx' = none := by simpa using hmx
        subst hmx'
        have hvm : vm = none := by
          rcases mx with _ | a
          · rcases vm with _ | u
            · rfl
            · simp [bndV] at hm
          · cases a <;> simp [bndA] at km
        subst hvm
        cases hcut : cutA s.length s.length lo' hi' none with
        | none => simp [hcut] at hr
        | some q =>
          obtain ⟨l, hq, m⟩ := q
          simp only [hcut, Option.map_some, Option.some.injEq] at hr
          subst hr
          simp only [VRel] at hv
          subst hv
          obtain ⟨hrun, b1, b2, b3, b4⟩ := sliceBounds_run (P := P) (w := Γ.w) (isSlice := false) kl kh km hl hh hm hcut (Nat.le_refl _) (Nat.le_refl _)
          have hsz : (⟨s.toArray⟩ : ByteArray).size = s.length := by simp [ByteArray.size]
          refine OpOk.same h (v := .string ⟨((s.drop l).take (hq - l)).toArray⟩) ?_ (by simp [VRel])
          simp only [Instr.sliceAt, Instr.slice, Option.isSome_none, Bool.false_eq_true, if_false, Sem.run_bind, run_underlying hu, Result.andThen_ok, hsz, hrun, Sem.run_pure]
          rw [extract_data s l hq b1 (by have := b4 rfl; omega)]
    · cases hr
  · cases hr

/-! ### What an append takes -/
def byteA (b : UInt8) : AV := .int .u8 b.toNat

/-- The elements that a slice or a string has: their cells, and how many they are. -/
def srcA (hp : HP) (sz : Nat) : AV → Option (List AV × Nat)
  | .nils => some ([], 0)
  | .esl => some ([], 0)
  | .enn => some ([], 0)
  | .fsl cs len => if cs.length = len * sz then some (cs, len) else none
  | .sl id off len sz' _ _ => match hp[id]? with
    | some (some (.row _ cs)) => if sz' = sz ∧ off + len * sz ≤ cs.length then some ((cs.drop off).take (len * sz), len) else none
    | _ => none
  | .str s => if sz = 1 then some (s.map byteA, s.length) else none
  | _ => none

theorem one_oneCell' {v : Value} : v.oneCell' = one v := by cases v <;> rfl

/-- The cells of a slice of ours. -/
theorem sl_cells {Γ : Cx} {hp : HP} (h : HSim Γ hp) {id off len sz c o : Nat} {e : TypeId} {cs : List AV} (hx : hp[id]? = some (some (.row e cs))) (ho : c = 0 ∨ o = (Γ.β id).2 + off) (hlc : len ≤ c) (hl : off + len * sz ≤ cs.length) :
    CellsAt Γ ((cs.drop off).take (len * sz)) (Γ.β id).1 o := by
  have hb := (h.blk id _ hx).1
  simp only [BRel] at hb
  rcases ho with ho | ho
  · have : len = 0 := by omega
    subst this; simp [CellsAt]
  · subst ho
    exact (hb.2.drop off).take _

theorem srcA_src {P : Program} {Γ : Cx} {hp : HP} (h : HSim Γ hp) {sz : Nat} {tx : TypeId} (hk : (∃ e', P.underlying tx = some (.slice e')) ∨ P.underlying tx = some .string) {x : AV} {v : Value} (hv : VRel Γ x v) {as : List AV} {n : Nat} (hs : srcA hp sz x = some (as, n)) :
    ∃ news, Src P sz tx v n news Γ.w ∧ VRels Γ as news ∧ ∀ u ∈ news, one u = true := by
  have mk : ∀ (a : Addr) (c : Nat) (vs : List Value) (b o : Nat), a = ⟨b, o, none⟩ → VRels Γ as vs → (∀ u ∈ vs, one u = true) → (∀ j u, vs[j]? = some u → Γ.w.cell? ⟨b, o + j, none⟩ = some u) → vs.length = n * sz →
      v = .slice (some a) n c → ∃ news, Src P sz tx v n news Γ.w ∧ VRels Γ as news ∧ ∀ u ∈ news, one u = true := by
    intro a c vs b o ha h1 h2 h3 h4 hv
    subst hv ha
    exact ⟨vs, ⟨hk, fun _ => rfl, run_firstCells_some _ sz n _ n c vs h4 (fun j u hj => by rw [add_at]; exact h3 j u hj), run_firstCells_some _ sz n _ n c vs h4 (fun j u hj => by rw [add_at]; exact h3 j u hj), h4, fun u hu => by rw [one_oneCell']; exact h2 u hu⟩, h1, h2⟩
  have none_ : as = [] → n = 0 → NilS v → ∃ news, Src P sz tx v n news Γ.w ∧ VRels Γ as news ∧ ∀ u ∈ news, one u = true := by
    rintro rfl rfl (rfl | ⟨a, rfl⟩)
    · exact ⟨[], ⟨hk, fun _ => rfl, run_firstCells_none _ sz 0 0 0, run_firstCells_none _ sz 0 0 0, by simp, fun _ hu => by cases hu⟩, by simp [VRels], fun _ hu => by cases hu⟩
    · exact ⟨[], ⟨hk, fun _ => rfl, run_firstCells_some _ sz 0 _ 0 0 [] (by simp) (fun j u hj => by simp at hj), run_firstCells_some _ sz 0 _ 0 0 [] (by simp) (fun j u hj => by simp at hj), by simp, fun _ hu => by cases hu⟩, by simp [VRels], fun _ hu => by cases hu⟩
  cases x <;> simp only [srcA] at hs <;> try contradiction
  case nils =>
    simp only [Option.some.injEq, Prod.mk.injEq] at hs
    obtain ⟨rfl, rfl⟩ := hs
    simp only [VRel] at hv
    subst hv
    exact ⟨[], ⟨hk, fun _ => rfl, run_firstCells_none _ sz 0 0 0, run_firstCells_none _ sz 0 0 0, by simp, fun _ hu => by cases hu⟩, by simp [VRels], fun _ hu => by cases hu⟩
  case enn =>
    simp only [Option.some.injEq, Prod.mk.injEq] at hs
    obtain ⟨rfl, rfl⟩ := hs
    simp only [VRel] at hv
    obtain ⟨a, c, rfl, _⟩ := hv
    exact ⟨[], ⟨hk, fun _ => rfl, run_firstCells_some _ sz 0 _ 0 c [] (by simp) (fun j u hj => by simp at hj), run_firstCells_some _ sz 0 _ 0 c [] (by simp) (fun j u hj => by simp at hj), by simp, fun _ hu => by cases hu⟩, by simp [VRels], fun _ hu => by cases hu⟩
  case esl =>
    simp only [Option.some.injEq, Prod.mk.injEq] at hs
    obtain ⟨rfl, rfl⟩ := hs
    simp only [VRel] at hv
    exact none_ rfl rfl hv
  case fsl cs len =>
    split at hs
    · rename_i hl
      simp only [Option.some.injEq, Prod.mk.injEq] at hs
      obtain ⟨rfl, rfl⟩ := hs
      simp only [VRel] at hv
      rcases hv with ⟨hv, rfl, rfl⟩ | ⟨b, o, c, rfl, k1, k2, k3⟩
      · exact none_ rfl rfl hv
      obtain ⟨vs, q1, q2, q3, q4⟩ := k3.list
      exact mk _ c vs b o rfl q1 q3 q4 (by rw [q2, hl]) rfl
    · cases hs
  case sl id off len sz' lo ex =>
    split at hs
    · rename_i e cs hx
      split at hs
      · rename_i hl
        simp only [Option.some.injEq, Prod.mk.injEq] at hs
        obtain ⟨rfl, rfl⟩ := hs
        simp only [VRel] at hv
        obtain ⟨hi, o, c, e', m, rfl, ho, k1, k2, k3, k4, k5⟩ := hv
        obtain ⟨vs, q1, q2, q3, q4⟩ := (sl_cells h hx ho (Nat.le_trans k1 k2) hl.2).list
        exact mk _ c vs _ o rfl q1 q3 q4 (by rw [q2]; simp; omega) rfl
      · cases hs
    · cases hs
  case str s =>
    split at hs
    · rename_i h1
      subst h1
      simp only [Option.some.injEq, Prod.mk.injEq] at hs
      obtain ⟨rfl, rfl⟩ := hs
      simp only [VRel] at hv
      subst hv
      have hn : (⟨s.toArray⟩ : ByteArray).size = s.length := by simp [ByteArray.size]
      have hb : byteCells ⟨s.toArray⟩ = s.map fun b => Value.int .u8 b.toNat := by simp [byteCells]
      have hr : ∀ s : List UInt8, VRels Γ (s.map byteA) (s.map fun b => Value.int .u8 b.toNat) := by
        intro s
        induction s with
        | nil => simp [VRels]
        | cons b s ih => simp only [List.map_cons, VRels]; exact ⟨_, _, rfl, by simp [byteA, VRel], ih⟩
      refine ⟨s.map fun b => Value.int .u8 b.toNat, ⟨hk, fun _ => by simp [Builtin.lenOf, hn], ?_, ?_, by simp, fun u hu => ?_⟩, hr s, fun u hu => ?_⟩
      · have := firstCells_string (P := P) ⟨s.toArray⟩ Γ.w; rw [hn, hb] at this; exact this
      · have := firstCells_string (P := P) ⟨s.toArray⟩ Γ.w.drew; rw [hn, hb] at this; exact this
      · obtain ⟨_, _, rfl⟩ := List.mem_map.1 hu; rfl
      · obtain ⟨_, _, rfl⟩ := List.mem_map.1 hu; rfl
    · cases hs

/-! ### Appending -/
def appA (e : TypeId) (sz bytes : Nat) (hp : HP) (d x : AV) : Option (AV × HP) :=
  match srcA hp sz x with
  | none => none
  | some (new, m) =>
    match d with
    | .nils => if m = 0 then some (.nils, hp) else
      if m * bytes ≤ 140737488355328 ∧ m ≤ 9223372036854775807 then some (.sl hp.length 0 m sz m false, hp ++ [some (.row e new)]) else none
    | .fsl cs len => if m = 0 then some (.fsl cs len, hp) else none
    | .esl => if m = 0 then some (.esl, hp) else
      if m * bytes ≤ 140737488355328 ∧ m ≤ 9223372036854775807 then some (.sl hp.length 0 m sz m false, hp ++ [some (.row e new)]) else none
    | .sl id off len sz' lo ex =>
      if m = 0 then some (.sl id off len sz' lo ex, hp) else
      match hp[id]? with
      | some (some (.row e' cs)) =>
        if sz' = sz ∧ off + len * sz ≤ cs.length then
          if len + m ≤ lo then
            if off + (len + m) * sz ≤ cs.length then some (.sl id off (len + m) sz lo ex, hp.set id (some (.row e' (over cs (off + len * sz) new)))) else none
          else if (len + m) * bytes ≤ 140737488355328 ∧ len + m ≤ 9223372036854775807 then
            if ex then some (.sl hp.length 0 (len + m) sz (len + m) false, hp ++ [some (.row e ((cs.drop off).take (len * sz) ++ new))])
            else if off + len * sz = cs.length ∧ e' = e then some (.sl hp.length 0 (len + m) sz (len + m) false, hp.set id none ++ [some (.row e (cs.drop off ++ new))]) else none
          else none
        else none
      | _ => none
    | _ => none

/-- What is known of a slice's element type: its size, its bytes, and that there is a zero value of that size. -/
def elemP (P : Program) (t : TypeId) : Option (TypeId × Nat × Nat) :=
  match P.underlying t with
  | some (.slice e) => match P.info? e with
    | some i => match i.zero with
      | some z => if z.cells.size = i.size then some (e, i.size, i.bytes) else none
      | none => none
    | none => none
  | _ => none
theorem elemP_some {P : Program} {t e : TypeId} {sz bytes : Nat} (h : elemP P t = some (e, sz, bytes)) :
    P.underlying t = some (.slice e) ∧ ∃ i z, P.info? e = some i ∧ i.zero = some z ∧ z.cells.size = sz ∧ i.size = sz ∧ i.bytes = bytes := by
  unfold elemP at h
  split at h
  · rename_i e' hu
    split at h
    · rename_i i hi
      split at h
      · rename_i z hz
        split at h
        · rename_i hs
          simp only [Option.some.injEq, Prod.mk.injEq] at h
          obtain ⟨rfl, rfl, rfl⟩ := h
          exact ⟨hu, i, z, hi, hz, hs, rfl, rfl⟩
        · cases h
      · cases h
    · cases h
  · cases h

def seqP (P : Program) (t : TypeId) : Bool :=
  match P.underlying t with
  | some (.slice _) | some .string => true
  | _ => false
theorem seqP_some {P : Program} {t : TypeId} (h : seqP P t = true) : (∃ e', P.underlying t = some (.slice e')) ∨ P.underlying t = some .string := by
  unfold seqP at h
  split at h
  · rename_i e hu; exact .inl ⟨e, hu⟩
  · rename_i hu; exact .inr hu
  · cases h

theorem size_zeroCells (z : Array Value) (n : Nat) : (Builtin.zeroCells z n).size = n * z.size := by simp [Builtin.zeroCells]

/-- A new row, behind a draw. -/
theorem grown_row {P : Program} {Γ : Cx} {hp : HP} (h : HSim Γ hp) (e : TypeId) {as : List AV} {vs : List Value} (hvs : VRels Γ as vs) (h1 : ∀ u ∈ vs, one u = true) (more : List Value) (c len sz : Nat) (hc : c * sz ≤ (vs ++ more).length) (hlc : len ≤ c) :
    ∃ Δ : Cx, Δ.w = Γ.w.drew.alloc (.cells ⟨vs ++ more⟩ e) ∧ VRel Δ (.sl hp.length 0 len sz len false) (.slice (some ⟨Γ.w.heap.size, 0, none⟩) len c) ∧ HSim Δ (hp ++ [some (.row e as)]) ∧ Ev Γ hp Δ (hp ++ [some (.row e as)]) := by
  have h' := h.drewN 1
  obtain ⟨Δ, r1, r2, r3, r4, r5, r6⟩ := newRow_ok (P := P) h' e (hvs.le (Le.drewN Γ 1)) h1 more
  have hw : Δ.w = Γ.w.drew.alloc (.cells ⟨vs ++ more⟩ e) := by
    simp only [newRow, Sem.run_bind, run_newObj, Result.andThen_ok, Sem.run_pure, Result.ok.injEq] at r1
    exact r1.2.symm
  refine ⟨Δ, hw, ?_, r2, (Ev.drewN Γ hp 1).trans r3⟩
  simp only [VRel]
  refine ⟨by have := h.len; simp [Cx.drewN] at r4; omega, 0, c, e, (vs ++ more).length, ?_, .inr ?_, Nat.le_refl _, hlc, by simp, ?_, ?_⟩
  · rw [r5]; rfl
  · rw [r5]
  · rw [r5]; exact r6
  · omega

set_option maxHeartbeats 1000000 in
theorem app_ok {P : Program} {Γ : Cx} {hp hp' : HP} (h : HSim Γ hp) {t tx ty e : TypeId} {sz bytes : Nat} (ht : elemP P t = some (e, sz, bytes)) (hk : seqP P tx = true) {d x r : AV} {v u : Value} (hv : VRel Γ d v) (hu : VRel Γ x u)
    (hr : appA e sz bytes hp d x = some (r, hp')) : OpOk P Γ hp (Builtin.append_ #[t, tx] ty #[v, u]) r hp' := by
  obtain ⟨hut, i, z, hi, hz, hzs, rfl, rfl⟩ := elemP_some ht
  unfold appA at hr
  split at hr
  · cases hr
  · rename_i new m hsrc
    obtain ⟨news, hS, hN, hO⟩ := srcA_src h (seqP_some hk) hu hsrc
    have hNl := hN.length
    have grow : ∀ (base : Option Addr) (len c : Nat) (olds : List Value) (as : List AV), VRels Γ as olds → (∀ u ∈ olds, one u = true) → olds.length = len * i.size →
        (Builtin.firstCells i.size len (.slice base len c)).run P Γ.w.drew = .ok olds.toArray Γ.w.drew → c < len + m → (len + m) * i.bytes ≤ 140737488355328 → len + m ≤ 9223372036854775807 →
        ∃ v' Δ, (Builtin.append_ #[t, tx] ty #[.slice base len c, u]).run P Γ.w = .ok v' Δ.w ∧ VRel Δ (.sl hp.length 0 (len + m) i.size (len + m) false) v' ∧ HSim Δ (hp ++ [some (.row e (as ++ new))]) ∧ Ev Γ hp Δ (hp ++ [some (.row e (as ++ new))]) := by
      intro base len c olds as ho h1 hol hf hc hb h63
      have hrun := run_append_grow_src (P := P) Γ.w t tx ty e i z hut hi hz base len c olds hf u m news hS hc (by omega) (growslice_fits hc hb)
      have hge := grownCap_ge Γ.w (len + m) c e
      obtain ⟨Δ, q1, q2, q3, q4⟩ := grown_row (P := P) h e (ho.append hN) (fun u hu => (List.mem_append.1 hu).elim (h1 u) (hO u)) (Builtin.zeroCells z.cells (grownCap Γ.w (len + m) c e - (len + m))).toList (grownCap Γ.w (len + m) c e) (len + m) i.size (by
        have hzl : (Builtin.zeroCells z.cells (grownCap Γ.w (len + m) c e - (len + m))).toList.length = (grownCap Γ.w (len + m) c e - (len + m)) * i.size := by
          rw [Array.length_toList, size_zeroCells, hzs]
        rw [List.length_append, List.length_append, hzl, hol, hS.newsLen, ← Nat.add_mul, ← Nat.add_mul]
        exact Nat.mul_le_mul_right _ (by omega)) hge
      refine ⟨_, Δ, ?_, q2, q3, q4⟩
      rw [hrun, q1]
      congr 3
      apply Array.ext'
      simp
    split at hr
    · -- nil
      simp only [VRel] at hv
      subst hv
      split at hr
      · rename_i hm
        simp only [Option.some.injEq, Prod.mk.injEq] at hr
        obtain ⟨rfl, rfl⟩ := hr
        subst hm
        have hn0 : news = [] := List.eq_nil_of_length_eq_zero (by rw [hS.newsLen]; simp)
        subst hn0
        refine OpOk.same h (v := .slice none 0 0) ?_ (by simp [VRel])
        rcases hS.kind with ⟨e', hk'⟩ | hk' <;> simp [Builtin.append_, run_underlying hut, run_underlying hk', sizeOf, typeInfo, hi, hS.len, hS.cells]
      · rename_i hm
        split at hr
        · rename_i hb
          simp only [Option.some.injEq, Prod.mk.injEq] at hr
          obtain ⟨rfl, rfl⟩ := hr
          have hg := grow none 0 0 [] [] (by simp [VRels]) (fun _ hu => by cases hu) (by simp) (run_firstCells_none _ i.size 0 0 0) (by omega) (by simpa using hb.1) (by omega)
          unfold OpOk
          simpa using hg
        · cases hr
    · -- frozen
      rename_i cs len
      split at hr
      · rename_i hm
        simp only [Option.some.injEq, Prod.mk.injEq] at hr
        obtain ⟨rfl, rfl⟩ := hr
        subst hm
        have hn0 : news = [] := List.eq_nil_of_length_eq_zero (by rw [hS.newsLen]; simp)
        subst hn0
        have hv' := hv
        simp only [VRel] at hv
        rcases hv with ⟨rfl | ⟨a0, rfl⟩, _⟩ | ⟨b, o, c, rfl, k1, k2, k3⟩
        · refine OpOk.same h (v := .slice none 0 0) ?_ hv'
          rcases hS.kind with ⟨e', hk'⟩ | hk' <;> simp [Builtin.append_, run_underlying hut, run_underlying hk', sizeOf, typeInfo, hi, hS.len, hS.cells]
        · refine OpOk.same h (v := .slice (some a0) 0 0) ?_ hv'
          rcases hS.kind with ⟨e', hk'⟩ | hk' <;> simp [Builtin.append_, run_underlying hut, run_underlying hk', sizeOf, typeInfo, hi, hS.len, hS.cells, storeCells]
        refine OpOk.same h (v := .slice (some ⟨b, o, none⟩) len c) ?_ hv'
        rcases hS.kind with ⟨e', hk'⟩ | hk' <;> simp [Builtin.append_, run_underlying hut, run_underlying hk', sizeOf, typeInfo, hi, hS.len, hS.cells, k1, storeCells]
      · cases hr
    · -- no room
      simp only [VRel] at hv
      have hv' : ∃ a : Option Addr, v = .slice a 0 0 ∧ (a = none ∨ ∃ b, a = some b) := by
        rcases hv with rfl | ⟨b, rfl⟩
        · exact ⟨none, rfl, .inl rfl⟩
        · exact ⟨_, rfl, .inr ⟨b, rfl⟩⟩
      obtain ⟨a, rfl, ha⟩ := hv'
      split at hr
      · rename_i hm
        simp only [Option.some.injEq, Prod.mk.injEq] at hr
        obtain ⟨rfl, rfl⟩ := hr
        subst hm
        have hn0 : news = [] := List.eq_nil_of_length_eq_zero (by rw [hS.newsLen]; simp)
        subst hn0
        refine OpOk.same h (v := .slice a 0 0) ?_ (by simpa only [VRel] using hv)
        rcases hS.kind with ⟨e', hk'⟩ | hk' <;> rcases ha with rfl | ⟨b, rfl⟩ <;> simp [Builtin.append_, run_underlying hut, run_underlying hk', sizeOf, typeInfo, hi, hS.len, hS.cells, storeCells]
      · rename_i hm
        split at hr
        · rename_i hb
          simp only [Option.some.injEq, Prod.mk.injEq] at hr
          obtain ⟨rfl, rfl⟩ := hr
          have hfirst : (Builtin.firstCells i.size 0 (.slice a 0 0)).run P Γ.w.drew = .ok ([] : List Value).toArray Γ.w.drew := by
            rcases ha with rfl | ⟨b, rfl⟩
            · exact run_firstCells_none _ i.size 0 0 0
            · exact run_firstCells_some _ i.size 0 _ 0 0 [] (by simp) (fun j u hj => by simp at hj)
          have hg := grow a 0 0 [] [] (by simp [VRels]) (fun _ hu => by cases hu) (by simp) hfirst (by omega) (by simpa using hb.1) (by omega)
          unfold OpOk
          simpa using hg
        · cases hr
    · -- ours
      rename_i id off len sz' lo ex
      have hv' := hv
      simp only [VRel] at hv
      obtain ⟨hi0, o, c, e2, mm, rfl, ho, k1, k2, k3, k4, k5⟩ := hv
      split at hr
      · rename_i hm
        simp only [Option.some.injEq, Prod.mk.injEq] at hr
        obtain ⟨rfl, rfl⟩ := hr
        subst hm
        have hn0 : news = [] := List.eq_nil_of_length_eq_zero (by rw [hS.newsLen]; simp)
        subst hn0
        have hlc : len ≤ c := Nat.le_trans k1 k2
        refine OpOk.same h (v := .slice (some ⟨(Γ.β id).1, o, none⟩) len c) ?_ hv'
        rcases hS.kind with ⟨e', hk'⟩ | hk' <;> simp [Builtin.append_, run_underlying hut, run_underlying hk', sizeOf, typeInfo, hi, hS.len, hS.cells, hlc, storeCells]
      · rename_i hm
        split at hr
        · rename_i e' cs hx
          split at hr
          · rename_i hl
            obtain ⟨rfl, hl⟩ := hl
            have hadd : len * i.size + m * i.size = (len + m) * i.size := (Nat.add_mul _ _ _).symm
            have hnl : new.length = m * i.size := by rw [hNl, hS.newsLen]
            -- in place
            have place : len + m ≤ c → (off + (len + m) * i.size ≤ cs.length ∨ ∃ e' m', Γ.w.shape? (Γ.β id).1 = some (e', m') ∧ (Γ.β id).2 + (off + len * i.size) + new.length ≤ m') →
                ∃ Δ : Cx, (Builtin.append_ #[t, tx] ty #[.slice (some ⟨(Γ.β id).1, o, none⟩) len c, u]).run P Γ.w = .ok (.slice (some ⟨(Γ.β id).1, o, none⟩) (len + m) c) Δ.w ∧ HSim Δ (hp.set id (some (.row e' (over cs (off + len * i.size) new)))) ∧
                  Ev Γ hp Δ (hp.set id (some (.row e' (over cs (off + len * i.size) new)))) ∧ Δ.β = Γ.β ∧ Δ.n = Γ.n ∧ Δ.Fz = Γ.Fz := by
              intro hc
              have ho' : o = (Γ.β id).2 + off := by rcases ho with ho | ho
                                                    · omega
                                                    · exact ho
              have hpl : (Γ.β id).2 + (off + len * i.size) = o + len * i.size := by omega
              have hfl : off + (len + m) * i.size ≤ cs.length → off + len * i.size + new.length ≤ cs.length := by intro h'; omega
              intro hroom
              obtain ⟨Δ, r1, r2, r3, r4⟩ := write_row (P := P) (off := off + len * i.size) h hx hN hO hl (hroom.imp hfl (fun h' => h'))
              refine ⟨Δ, ?_, r2, r3, r4⟩
              rw [hpl] at r1
              rcases hS.kind with ⟨e3, hk'⟩ | hk' <;> simp [Builtin.append_, run_underlying hut, run_underlying hk', sizeOf, typeInfo, hi, hS.len, hS.cells, hc, add_at, r1]
            split at hr
            · rename_i hin
              split at hr
              · rename_i hfit
                simp only [Option.some.injEq, Prod.mk.injEq] at hr
                obtain ⟨rfl, rfl⟩ := hr
                obtain ⟨Δ, r1, r2, r3, r4, r5, r6⟩ := place (by omega) (.inl hfit)
                refine ⟨_, Δ, r1, ?_, r2, r3⟩
                simp only [VRel]
                rw [r4, r5]
                exact ⟨hi0, o, c, e2, mm, rfl, ho, hin, k2, k3, r3.le.shape _ _ k4, k5⟩
              · cases hr
            · rename_i hin
              split at hr
              · rename_i hb
                have hcells := sl_cells h hx ho (Nat.le_trans k1 k2) hl
                obtain ⟨olds, p1, p2, p3, p4⟩ := hcells.list
                have hol : olds.length = len * i.size := by rw [p2]; simp; omega
                have hfirst : (Builtin.firstCells i.size len (.slice (some ⟨(Γ.β id).1, o, none⟩) len c)).run P Γ.w.drew = .ok olds.toArray Γ.w.drew :=
                  run_firstCells_some _ i.size len _ len c olds hol (fun j u hj => by rw [add_at]; exact p4 j u hj)
                split at hr
                · rename_i hex
                  simp only [Option.some.injEq, Prod.mk.injEq] at hr
                  obtain ⟨rfl, rfl⟩ := hr
                  exact grow _ len c olds _ p1 p3 hol hfirst (by have := k3 hex; omega) hb.1 hb.2
                · split at hr
                  · rename_i hex hfr
                    obtain ⟨hfr, rfl⟩ := hfr
                    simp only [Option.some.injEq, Prod.mk.injEq] at hr
                    obtain ⟨rfl, rfl⟩ := hr
                    by_cases hc : len + m ≤ c
                    · -- there was room: the row gets a new name
                      have ho' : o = (Γ.β id).2 + off := by rcases ho with ho | ho
                                                            · omega
                                                            · exact ho
                      obtain ⟨Δ, r1, r2, r3, r4, r5, r6⟩ := place hc (.inr ⟨e2, mm, k4, by
                        have : (len + m) * i.size ≤ c * i.size := Nat.mul_le_mul_right _ hc
                        omega⟩)
                      have hx' : (hp.set id (some (.row e' (over cs (off + len * i.size) new))))[id]? = some (some (.row e' (over cs (off + len * i.size) new))) := by
                        rw [List.getElem?_set]; simp [HP.lt hx]
                      have hov : over cs (off + len * i.size) new = cs ++ new := by
                        simp only [over]
                        rw [hfr, List.take_length, List.drop_eq_nil_of_le (by omega), List.append_nil]
                      have hB := (r2.blk id _ hx').1
                      have hre := r2.rename hx' ((Δ.β id).1, (Δ.β id).2 + off) rfl (.row e' (cs.drop off ++ new)) (by
                        simp only [BRel] at hB ⊢
                        refine ⟨hB.1, ?_⟩
                        have hd := (hB.2.drop off)
                        rw [hov, List.drop_append_of_le_length (by omega)] at hd
                        exact CellsAt.le (Le.know _ _) (fun _ => rfl) hd)
                      have hset : (hp.set id (some (.row e' (over cs (off + len * i.size) new)))).set id none = hp.set id none := by simp
                      rw [hset] at hre
                      refine ⟨_, Δ.know ((Δ.β id).1, (Δ.β id).2 + off), r1, ?_, hre.1, r3.trans hre.2⟩
                      have hn : Δ.n = hp.length := by rw [r5, h.len]
                      simp only [VRel, Cx.know, hn, if_true]
                      refine ⟨by omega, o, c, e2, mm, by rw [r4], .inr (by rw [r4]; omega), Nat.le_refl _, hc, by simp, ?_, k5⟩
                      rw [r4]; exact r3.le.shape _ _ k4
                    · -- there was none
                      obtain ⟨v', Δ, r1, r2, r3, r4⟩ := grow _ len c olds _ p1 p3 hol hfirst (by omega) hb.1 hb.2
                      have hdt : (cs.drop off).take (len * i.size) = cs.drop off := List.take_of_length_le (by simp; omega)
                      rw [hdt] at r3 r4
                      have hf := r3.forget (hp.set id none ++ [some (.row e' (cs.drop off ++ new))]) (by simp) (by
                        intro j y hy
                        rcases HP.get_snoc hy with ⟨ej, ey⟩ | hy
                        · simp only [List.length_set] at ej
                          subst ej
                          rw [List.getElem?_append_right (Nat.le_refl _)]
                          simpa using ey
                        · rw [List.getElem?_set] at hy
                          split at hy
                          · split at hy <;> cases hy
                          · rw [List.getElem?_append_left (HP.lt hy)]; exact hy)
                      exact ⟨v', Δ, r1, r2, hf.1, r4.trans hf.2⟩
                  · cases hr
              · cases hr
          · cases hr
        · cases hr
    · cases hr

end Go.Gi
