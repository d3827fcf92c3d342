/- The operations as a compiled list: what each is, and that it does what it says. -/
import Derived.Test.YtakdhioafodhcaaGreatDoorGiH
set_option linter.unusedVariables false
set_option linter.unusedSimpArgs false
namespace Go.Gi
open Go

/-! ### The small ones -/
def unA (op : UnOp) : AV → Option AV
  | .bool b => match op with
    | .not => some (.bool (!b))
    | _ => none
  | .int k n => match op with
    | .neg => some (.int k (k.wrap (0 - n)))
    | _ => none
  | _ => none
theorem un_ok {P : Program} {Γ : Cx} {hp : HP} (h : HSim Γ hp) {op : UnOp} {x r : AV} {u : Value} (hx : VRel Γ x u) (hr : unA op x = some r) : OpOk P Γ hp (Op.unary op u) r hp := by
  cases x <;> simp only [unA, reduceCtorEq] at hr <;> cases op <;> simp only [reduceCtorEq, Option.some.injEq] at hr <;> subst hr <;> simp only [VRel] at hx <;> subst hx
  · exact OpOk.same h (v := .int _ _) (by simp only [Op.unary, Op.intArith, Sem.run_pure]; rfl) (by simp [VRel])
  · exact OpOk.same h (v := .bool _) (by simp only [Op.unary, Sem.run_pure]; rfl) (by simp [VRel])

def nilchkA : AV → Option AV
  | .ptr id off => some (.ptr id off)
  | .fptr cs off => some (.fptr cs off)
  | .func f cs => some (.func f cs)
  | .iface t v => some (.iface t v)
  | _ => none

def fieldA (off : Nat) (sh : Option Nat) : AV → Option AV
  | .agg cs => pickA sh cs off
  | _ => none

/-- A part of a struct's value. -/
theorem pick_part {P : Program} {Γ : Cx} {t : TypeId} {sh : Option Nat} (hsh : shapeP P t = some sh) {cs : List AV} {vs : List Value} (hv : VRels Γ cs vs) (h1 : ∀ u ∈ vs, one u = true) {off : Nat} {r : AV} (h : pickA sh cs off = some r) :
    ∃ v, (part t ⟨vs⟩ off).run P Γ.w = .ok v Γ.w ∧ VRel Γ r v := by
  have hl := hv.length
  cases sh with
  | none =>
    simp only [pickA] at h
    cases ha : cs[off]? with
    | none => simp [ha] at h
    | some a =>
      rw [ha] at h
      simp only at h
      split at h
      · cases h
        have hlt : off < vs.length := by rw [← hl]; exact (List.getElem?_eq_some_iff.1 ha).1
        have hg := hv.get off
        simp only [List.getD, ha, List.getElem?_eq_getElem hlt, Option.getD_some] at hg
        exact ⟨vs[off], by simp [part, shapeP_one hsh, hlt], hg⟩
      · cases h
  | some n =>
    simp only [pickA] at h
    split at h
    · cases h
      refine ⟨.agg ⟨(vs.drop off).take n⟩, ?_, ?_⟩
      · simp only [part, Sem.run_bind, (shapeP_agg hsh Γ.w).1, (shapeP_agg hsh Γ.w).2, Result.andThen_ok, if_true, Sem.run_pure]
        congr 2
        apply Array.ext'
        simp [List.extract]
      · simp only [VRel]
        exact ⟨_, rfl, (hv.drop off).take n, fun u hu => h1 u (List.mem_of_mem_drop (List.mem_of_mem_take hu))⟩
    · cases h

theorem field_ok {P : Program} {Γ : Cx} {hp : HP} (h : HSim Γ hp) {s : TypeId} {f off : Nat} {sh : Option Nat} (hf : fieldP P s f = some (off, sh)) {x r : AV} {v : Value} (hv : VRel Γ x v) (hr : fieldA off sh x = some r) : OpOk P Γ hp (Instr.field s v f) r hp := by
  unfold fieldP at hf
  split at hf
  · rename_i fs hu
    split at hf
    · rename_i fd hfd
      split at hf
      · rename_i n sh' hsz hsh
        simp only [Option.some.injEq, Prod.mk.injEq] at hf
        obtain ⟨rfl, rfl⟩ := hf
        cases x <;> simp only [fieldA, reduceCtorEq] at hr
        case agg cs =>
          simp only [VRel] at hv
          obtain ⟨vs, rfl, hvs, h1⟩ := hv
          obtain ⟨u, q1, q2⟩ := pick_part (P := P) hsh hvs h1 hr
          exact OpOk.same h (by simp [Instr.field, run_underlying hu, hfd, asAgg, q1]) q2
      · cases hf
    · cases hf
  · cases hf

def indexSA (x i : AV) : Option AV :=
  match x, i with
  | .str s, .int _ i => if 0 ≤ i then match s[i.toNat]? with
    | some b => some (byteA b)
    | none => none else none
  | _, _ => none

theorem indexS_ok {P : Program} {Γ : Cx} {hp : HP} (h : HSim Γ hp) {t : TypeId} (ht : P.underlying t = some .string) {x i r : AV} {u v : Value} (hx : VRel Γ x u) (hi : VRel Γ i v) (hr : indexSA x i = some r) : OpOk P Γ hp (Instr.index t u v) r hp := by
  cases x <;> cases i <;> simp only [indexSA, reduceCtorEq] at hr
  case str.int s k n =>
    split at hr
    · rename_i h0
      split at hr
      · rename_i b hb
        simp only [Option.some.injEq] at hr; subst hr
        simp only [VRel] at hx hi
        subst hx hi
        have hlt := (List.getElem?_eq_some_iff.1 hb).1
        have hget : (⟨s.toArray⟩ : ByteArray)[n.toNat]? = some b := by
          have h1 : n.toNat < (⟨s.toArray⟩ : ByteArray).size := by rw [byteSize]; exact hlt
          rw [getElem?_pos (⟨s.toArray⟩ : ByteArray) n.toNat h1]
          have := (List.getElem?_eq_some_iff.1 hb).2
          rw [← this]
          rfl
        refine OpOk.same h (v := .int .u8 b.toNat) ?_ (by simp [VRel, byteA])
        simp only [Instr.index, asIntOf, Sem.run_bind, Sem.run_pure, Result.andThen_ok, run_underlying ht, if_pos h0, hget]
      · cases hr
    · cases hr

/-- An element of an array's value. -/
def indexAA (n sz : Nat) (sh : Option Nat) (x i : AV) : Option AV :=
  match x, i with
  | .agg cs, .int _ i => if 0 ≤ i ∧ i < n then pickA sh cs (i.toNat * sz) else none
  | _, _ => none
def arrayP (P : Program) (t : TypeId) : Option (Nat × Nat × Option Nat) :=
  match P.underlying t with
  | some (.array n e) => match sizeP P e, shapeP P e with
    | some sz, some sh => some (n, sz, sh)
    | _, _ => none
  | _ => none
theorem indexA_ok {P : Program} {Γ : Cx} {hp : HP} (h : HSim Γ hp) {t : TypeId} {n sz : Nat} {sh : Option Nat} (ht : arrayP P t = some (n, sz, sh)) {x i r : AV} {u v : Value} (hx : VRel Γ x u) (hi : VRel Γ i v) (hr : indexAA n sz sh x i = some r) :
    OpOk P Γ hp (Instr.index t u v) r hp := by
  unfold arrayP at ht
  split at ht
  · rename_i m e hu
    split at ht
    · rename_i sz' sh' hsz hsh
      simp only [Option.some.injEq, Prod.mk.injEq] at ht
      obtain ⟨rfl, rfl, rfl⟩ := ht
      cases x <;> cases i <;> simp only [indexAA, reduceCtorEq] at hr
      case agg.int cs k j =>
        split at hr
        · rename_i hj
          simp only [VRel] at hx hi
          obtain ⟨vs, rfl, hvs, h1⟩ := hx
          subst hi
          obtain ⟨y, q1, q2⟩ := pick_part (P := P) hsh hvs h1 hr
          refine OpOk.same h ?_ q2
          simp only [Instr.index, asIntOf, Sem.run_bind, Sem.run_pure, Result.andThen_ok, run_underlying hu, if_pos hj, sizeP_run hsz, q1]
        · cases hr
    · cases ht
  · cases ht

/-- The address of an element of an array that lies in memory. -/
def aaddrA (n sz : Nat) (x i : AV) : Option AV :=
  match i with
  | .int _ i => if 0 ≤ i ∧ i < n then faddrA (i.toNat * sz) x else none
  | _ => none
theorem aaddr_ok {P : Program} {Γ : Cx} {hp : HP} (h : HSim Γ hp) {t : TypeId} {n sz : Nat} {sh : Option Nat} (ht : arrayP P t = some (n, sz, sh)) {x i r : AV} {u v : Value} (hx : VRel Γ x u) (hi : VRel Γ i v) (hr : aaddrA n sz x i = some r) :
    OpOk P Γ hp (Instr.indexAt t u v) r hp := by
  unfold arrayP at ht
  split at ht
  · rename_i m e hu
    split at ht
    · rename_i sz' sh' hsz hsh
      simp only [Option.some.injEq, Prod.mk.injEq] at ht
      obtain ⟨rfl, rfl, rfl⟩ := ht
      unfold aaddrA at hr
      split at hr
      · rename_i k j
        split at hr
        · rename_i hj
          simp only [VRel] at hi
          subst hi
          have key : ∀ a : Addr, u = .pointer (some a) → (Instr.indexAt t u (.int k j)).run P Γ.w = .ok (.pointer (some (a.add (j.toNat * sz')))) Γ.w := by
            rintro a rfl
            simp only [Instr.indexAt, asIntOf, Instr.sureAddr, Sem.run_bind, Sem.run_pure, run_underlying hu, Result.andThen_ok, if_pos hj, sizeP_run hsz]
          cases x <;> simp only [faddrA, reduceCtorEq, Option.some.injEq] at hr
          case ptr id o =>
            subst hr
            simp only [VRel] at hx
            obtain ⟨hid, rfl⟩ := hx
            refine OpOk.same h (key _ rfl) ?_
            simp only [VRel, add_at]
            exact ⟨hid, by rw [Nat.add_assoc]⟩
          case fptr cs o =>
            subst hr
            simp only [VRel] at hx
            obtain ⟨b, o', rfl, hb, hc⟩ := hx
            refine OpOk.same h (key _ rfl) ?_
            simp only [VRel, add_at]
            exact ⟨b, o', by rw [Nat.add_assoc], hb, hc⟩
        · cases hr
      · cases hr
    · cases ht
  · cases ht

/-- 'a[lo:hi]' of an array in memory. -/
def asliceA (hp : HP) (n sz : Nat) (x : AV) (lo hi mx : Option AV) : Option AV :=
  match bndA lo, bndA hi, bndA mx with
  | some lo, some hi, some mx =>
    match x with
    | .ptr id off => match hp[id]? with
      | some (some (.row _ cs)) => if off + n * sz ≤ cs.length ∧ 0 < n * sz then (cutA n n lo hi mx).map fun (l, h, m) => .sl id (off + l * sz) (h - l) sz (m - l) true else none
      | _ => none
    | _ => none
  | _, _, _ => none

theorem aslice_ok {P : Program} {Γ : Cx} {hp : HP} (h : HSim Γ hp) {t : TypeId} {n sz : Nat} {sh : Option Nat} (ht : arrayP P t = some (n, sz, sh)) {x r : AV} {lo hi mx : Option AV} {v : Value} {vl vh vm : Option Value}
    (hv : VRel Γ x v) (hl : bndV lo vl) (hh : bndV hi vh) (hm : bndV mx vm) (hr : asliceA hp n sz x lo hi mx = some r) : OpOk P Γ hp (Instr.sliceAt t v vl vh vm) r hp := by
  unfold arrayP at ht
  split at ht
  · rename_i m' e hu
    split at ht
    · rename_i sz' sh' hsz hsh
      simp only [Option.some.injEq, Prod.mk.injEq] at ht
      obtain ⟨rfl, rfl, rfl⟩ := ht
      unfold asliceA at hr
      split at hr
      · rename_i lo' hi' mx' kl kh km
        split at hr
        · rename_i id off
          split at hr
          · rename_i e' cs hx
            split at hr
            · rename_i hfit
              cases hcut : cutA m' m' lo' hi' mx' with
              | none => simp [hcut] at hr
              | some q =>
                obtain ⟨l, hq, m⟩ := q
                simp only [hcut, Option.map_some, Option.some.injEq] at hr
                subst hr
                simp only [VRel] at hv
                obtain ⟨hid, rfl⟩ := hv
                obtain ⟨hrun, b1, b2, b3, b4⟩ := sliceBounds_run (P := P) (w := Γ.w) (isSlice := false) kl kh km hl hh hm hcut (Nat.le_refl _) (Nat.le_refl _)
                have hM : (if mx'.isSome = true then m else m') = m := by
                  cases hmx : mx' with
                  | none => simp [b4 hmx]
                  | some y => simp
                rw [hM] at hrun
                have hmn : m ≤ m' := by
                  cases hmx : mx' with
                  | none => rw [b4 hmx]; exact Nat.le_refl _
                  | some y => exact b3 (by rw [hmx]; rfl)
                have hb := (h.blk id _ hx).1
                simp only [BRel] at hb
                obtain ⟨⟨c, fr, hc, _⟩, hcs⟩ := hb
                obtain ⟨c⟩ := c
                have hfits := row_fits hcs hc
                refine OpOk.same h (v := .slice (some (if m = l then ⟨(Γ.β id).1, (Γ.β id).2 + off, none⟩ else (⟨(Γ.β id).1, (Γ.β id).2 + off, none⟩ : Addr).add (l * sz'))) (hq - l) (m - l)) ?_ ?_
                · simp only [Instr.sliceAt, Sem.run_bind, run_underlying hu, Result.andThen_ok, Instr.sureAddr, Sem.run_pure, hrun, sizeP_run hsz]
                · simp only [VRel]
                  have hmul : m * sz' ≤ m' * sz' := Nat.mul_le_mul_right _ hmn
                  have hmul2 : (m - l) * sz' = m * sz' - l * sz' := Nat.sub_mul _ _ _
                  have hmul3 : l * sz' ≤ m * sz' := Nat.mul_le_mul_right _ (by omega)
                  have hcl : (Γ.β id).2 + cs.length ≤ c.length := by
                    rcases hfits with hf | hf
                    · exact hf
                    · subst hf; simp only [List.length_nil] at hfit; omega
                  by_cases hml : m = l
                  · rw [if_pos hml]
                    exact ⟨hid, _, _, e', c.length, rfl, .inl (by omega), by omega, Nat.le_refl _, by simp, by simp [World.shape?, hc], by omega⟩
                  · rw [if_neg hml, add_at]
                    exact ⟨hid, _, _, e', c.length, rfl, .inr (by omega), by omega, Nat.le_refl _, by simp, by simp [World.shape?, hc], by omega⟩
            · cases hr
          · cases hr
        · cases hr
      · cases hr
    · cases ht
  · cases ht

def minmaxA (mx : Bool) : List AV → Option AV
  | [] => none
  | .int k a :: rest => go k a rest
  | _ => none
where
  go (k : IntKind) (a : Int) : List AV → Option AV
    | [] => some (.int k a)
    | .int _ b :: rest => go k (if mx then (if b > a then b else a) else (if b < a then b else a)) rest
    | _ => none

theorem min_ok {P : Program} {Γ : Cx} {hp : HP} (h : HSim Γ hp) {ts : Array TypeId} {ty : TypeId} {xs : List AV} {vs : List Value} (hv : VRels Γ xs vs) {r : AV} (hr : minmaxA false xs = some r) : OpOk P Γ hp (Builtin.min_ ts ty ⟨vs⟩) r hp := by
  have go : ∀ (rest : List AV) (us : List Value) (k : IntKind) (a : Int) (r : AV), VRels Γ rest us → minmaxA.go false k a rest = some r → ∃ v, (us.foldlM Builtin.min2 (.int k a)).run P Γ.w = .ok v Γ.w ∧ VRel Γ r v := by
    intro rest
    induction rest with
    | nil => intro us k a r hu hr; simp only [VRels] at hu; subst hu; simp only [minmaxA.go, Option.some.injEq] at hr; subst hr; exact ⟨_, rfl, by simp [VRel]⟩
    | cons x rest ih =>
      intro us k a r hu hr
      simp only [VRels] at hu
      obtain ⟨v, us', rfl, hv, hu⟩ := hu
      cases x <;> simp only [minmaxA.go, reduceCtorEq] at hr
      simp only [VRel] at hv
      subst hv
      obtain ⟨v', q1, q2⟩ := ih us' k _ r hu hr
      exact ⟨v', by simp only [List.foldlM_cons, Builtin.min2, Sem.run_bind, Sem.run_pure, Result.andThen_ok]; simpa using q1, q2⟩
  rcases xs with _ | ⟨x, xs⟩
  · simp [minmaxA] at hr
  · cases x <;> simp only [minmaxA, reduceCtorEq] at hr
    simp only [VRels] at hv
    obtain ⟨v, vs', rfl, hv, hvs⟩ := hv
    simp only [VRel] at hv
    subst hv
    obtain ⟨v', q1, q2⟩ := go _ _ _ _ _ hvs hr
    exact OpOk.same h (by simpa [Builtin.min_] using q1) q2

theorem max_ok {P : Program} {Γ : Cx} {hp : HP} (h : HSim Γ hp) {ts : Array TypeId} {ty : TypeId} {xs : List AV} {vs : List Value} (hv : VRels Γ xs vs) {r : AV} (hr : minmaxA true xs = some r) : OpOk P Γ hp (Builtin.max_ ts ty ⟨vs⟩) r hp := by
  have go : ∀ (rest : List AV) (us : List Value) (k : IntKind) (a : Int) (r : AV), VRels Γ rest us → minmaxA.go true k a rest = some r → ∃ v, (us.foldlM Builtin.max2 (.int k a)).run P Γ.w = .ok v Γ.w ∧ VRel Γ r v := by
    intro rest
    induction rest with
    | nil => intro us k a r hu hr; simp only [VRels] at hu; subst hu; simp only [minmaxA.go, Option.some.injEq] at hr; subst hr; exact ⟨_, rfl, by simp [VRel]⟩
    | cons x rest ih =>
      intro us k a r hu hr
      simp only [VRels] at hu
      obtain ⟨v, us', rfl, hv, hu⟩ := hu
      cases x <;> simp only [minmaxA.go, reduceCtorEq] at hr
      simp only [VRel] at hv
      subst hv
      obtain ⟨v', q1, q2⟩ := ih us' k _ r hu hr
      exact ⟨v', by simp only [List.foldlM_cons, Builtin.max2, Sem.run_bind, Sem.run_pure, Result.andThen_ok]; simpa using q1, q2⟩
  rcases xs with _ | ⟨x, xs⟩
  · simp [minmaxA] at hr
  · cases x <;> simp only [minmaxA, reduceCtorEq] at hr
    simp only [VRels] at hv
    obtain ⟨v, vs', rfl, hv, hvs⟩ := hv
    simp only [VRel] at hv
    subst hv
    obtain ⟨v', q1, q2⟩ := go _ _ _ _ _ hvs hr
    exact OpOk.same h (by simpa [Builtin.max_] using q1) q2

end Go.Gi
