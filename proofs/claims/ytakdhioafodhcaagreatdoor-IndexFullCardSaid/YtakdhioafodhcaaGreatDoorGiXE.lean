/- Functions of the library that the model knows by itself: bytealg.Count, MakeNoZero. -/
import Derived.Test.YtakdhioafodhcaaGreatDoorGiX
import Derived.Test.YtakdhioafodhcaaGreatDoorGiXB
import Derived.Lib.Bytealg
set_option linter.unusedVariables false
set_option linter.unusedSimpArgs false
namespace Go.Gi
open Go
theorem count_ext {P : Program} {g : FuncId} {fn : Func} (hfn : P.funcs[g]? = some fn) (hname : (fn.name == "runtime.NumGoroutine") = false) (hb : fn.body.isNone = true) (hn : (Extern.findNext fn).isNone = true) (hf : Extern.find fn = some Extern.BytealgCount.count) {xs : List AV} {hp : HP} {r : AV} {hp' : HP} {lo : Nat}
    (h : countE hp xs = some (r, hp', lo)) : (AExt P g xs hp fun a b => a = r ∧ b = hp') ∧ Kept hp hp' lo := by
  unfold countE at h
  split at h
  · rename_i x c
    split at h
    · rename_i as n hs
      split at h
      · rename_i bs hu
        cases h
        refine ⟨fun Γ vs hh hl hv => ?_, Kept.refl _⟩
        obtain ⟨v, u, rfl, h1, h2⟩ := hv.two'
        simp only [VRel] at h2
        subst h2
        refine ⟨.int .i64 (countB c.toNat.toUInt8 bs), _, hp, Γ, ?_, by simp only [VRel], hh, Ev.refl _ _, rfl, rfl⟩
        refine run_extern hfn hname hb hn hf _ _ ?_
        have he : Extern.BytealgCount.count ⟨[v, .int .u8 c]⟩ = (do
            let b ← Extern.Bytes.bytesOf v
            let c ← Extern.Bytes.asByte (.int .u8 c)
            pure (goInt (b.foldl (fun n x => if x == c then n + 1 else n) (0 : Nat)))) := rfl
        have hc : (Extern.Bytes.asByte (.int .u8 c)).run P Γ.w = .ok c.toNat.toUInt8 Γ.w := rfl
        rw [he]
        simp only [Sem.run_bind, bytesA_run hh h1 hs hu, Result.andThen_ok, hc, Sem.run_pure, goInt, countB]
        rw [Lib.foldl_data]
        simp
      · cases h
    · cases h
  · cases h

/-- Where a byte is. -/
def idxB (c : UInt8) : List UInt8 → Nat → Int
  | [], _ => -1
  | x :: xs, i => cond (Nat.beq x.toNat c.toNat) i (idxB c xs (i + 1))
def idxE (hp : HP) (xs : List AV) : Option (AV × HP × Nat) :=
  match xs with
  | [x, .int .u8 c] => match srcA hp 1 x with
    | some (as, _) => match unbyte as with
      | some bs => some (.int .i64 (idxB c.toNat.toUInt8 bs 0), hp, hp.length)
      | none => none
    | none => none
  | _ => none
theorem idxB_eq (c : UInt8) (pre bs : List UInt8) : (match (List.range' pre.length bs.length).find? (fun i => (⟨(pre ++ bs).toArray⟩ : ByteArray)[i]! == c) with
    | some i => goInt i
    | none => goInt (-1)) = .int .i64 (idxB c bs pre.length) := by
  induction bs generalizing pre with
  | nil => rfl
  | cons x xs ih =>
    have hx : (⟨(pre ++ x :: xs).toArray⟩ : ByteArray)[pre.length]! = x := by
      have : pre.length < (⟨(pre ++ x :: xs).toArray⟩ : ByteArray).size := by simp [ByteArray.size]
      rw [getElem!_pos (⟨(pre ++ x :: xs).toArray⟩ : ByteArray) pre.length this]
      show (pre ++ x :: xs)[pre.length]'_ = x
      simp
    have h2 := ih (pre ++ [x])
    simp only [List.append_assoc, List.cons_append, List.nil_append, List.length_append, List.length_cons, List.length_nil, Nat.zero_add] at h2
    simp only [List.length_cons, List.range'_succ, List.find?_cons, hx, idxB]
    cases hb : Nat.beq x.toNat c.toNat
    · have hne : (x == c) = false := by
        refine Bool.eq_false_iff.2 fun h => ?_
        have := LawfulBEq.eq_of_beq h
        subst this
        rw [Nat.beq_refl] at hb
        cases hb
      simp only [hne, cond_false]
      exact h2
    · have : x = c := UInt8.toNat_inj.1 (Nat.eq_of_beq_eq_true hb)
      subst this
      simp only [beq_self_eq_true, cond_true]
      rfl
theorem idx_ext {P : Program} {g : FuncId} {fn : Func} (hfn : P.funcs[g]? = some fn) (hname : (fn.name == "runtime.NumGoroutine") = false) (hb : fn.body.isNone = true) (hn : (Extern.findNext fn).isNone = true) (hf : Extern.find fn = some Extern.BytealgIndexByte.indexByte) {xs : List AV} {hp : HP} {r : AV} {hp' : HP} {lo : Nat}
    (h : idxE hp xs = some (r, hp', lo)) : (AExt P g xs hp fun a b => a = r ∧ b = hp') ∧ Kept hp hp' lo := by
  unfold idxE at h
  split at h
  · rename_i x c
    split at h
    · rename_i as n hs
      split at h
      · rename_i bs hu
        cases h
        refine ⟨fun Γ vs hh hl hv => ?_, Kept.refl _⟩
        obtain ⟨v, u, rfl, h1, h2⟩ := hv.two'
        simp only [VRel] at h2
        subst h2
        refine ⟨.int .i64 (idxB c.toNat.toUInt8 bs 0), _, hp, Γ, ?_, by simp only [VRel], hh, Ev.refl _ _, rfl, rfl⟩
        refine run_extern hfn hname hb hn hf _ _ ?_
        have he : Extern.BytealgIndexByte.indexByte ⟨[v, .int .u8 c]⟩ = (do
            let b ← Extern.Bytes.bytesOf v
            let c ← Extern.Bytes.asByte (.int .u8 c)
            match (List.range b.size).find? fun i => b[i]! == c with
            | some i => pure (goInt i)
            | none => pure (goInt (-1))) := rfl
        have hc : (Extern.Bytes.asByte (.int .u8 c)).run P Γ.w = .ok c.toNat.toUInt8 Γ.w := rfl
        rw [he]
        simp only [Sem.run_bind, bytesA_run hh h1 hs hu, Result.andThen_ok, hc]
        have h3 := idxB_eq c.toNat.toUInt8 [] bs
        rw [List.length_nil, List.nil_append] at h3
        have h4 : (⟨bs.toArray⟩ : ByteArray).size = bs.length := rfl
        rw [h4, List.range_eq_range', ← h3]
        split <;> rfl
      · cases h
    · cases h
  · cases h
def extI (n : Nat) : XCall := fun f xs hp => cond (Nat.beq f n) (idxE hp xs) none
theorem extI_ok {P : Program} {n : Nat} {fn : Func} (c1 : P.funcs[n]? = some fn) (c2 : (fn.name == "runtime.NumGoroutine") = false) (c3 : fn.body.isNone = true) (c4 : (Extern.findNext fn).isNone = true) (c5 : Extern.find fn = some Extern.BytealgIndexByte.indexByte) : EOk P (extI n) := by
  intro f xs hp r hp' lo h
  unfold extI at h
  cases hc : Nat.beq f n <;> rw [hc] at h
  · cases h
  · have := Nat.eq_of_beq_eq_true hc
    subst this
    exact idx_ext c1 c2 c3 c4 c5 h
def extOr (a b : XCall) : XCall := fun f xs hp => match a f xs hp with
  | some r => some r
  | none => b f xs hp
theorem extOr_ok {P : Program} {a b : XCall} (ha : EOk P a) (hb : EOk P b) : EOk P (extOr a b) := by
  intro f xs hp r hp' lo h
  unfold extOr at h
  split at h
  · rename_i q hq
    cases h
    exact ha _ _ _ _ _ _ hq
  · exact hb _ _ _ _ _ _ h

/-- A row of so many bytes, whatever they are. -/
def mnzE (e : TypeId) (hp : HP) (xs : List AV) : Option (AV × HP × Nat) :=
  match xs with
  | [.int .i64 n] => if 0 ≤ n ∧ n ≤ 1099511627776 then some (.sl hp.length 0 n.toNat 1 n.toNat false, hp ++ [some (.row e (List.replicate n.toNat .unk))], hp.length) else none
  | _ => none

theorem digits_spec : ∀ (n t : Nat) (acc : Array Value), ∃ l : List Value, (Extern.BytealgMakeNoZero.digits n t acc).toList = acc.toList ++ l ∧ l.length = n ∧ ∀ v ∈ l, ∃ x : Nat, v = .int .u8 (Int.ofNat x)
  | 0, t, acc => ⟨[], by simp [Extern.BytealgMakeNoZero.digits], rfl, by simp⟩
  | n + 1, t, acc => by
    obtain ⟨l, h1, h2, h3⟩ := digits_spec n (t / 256) (acc.push (.int .u8 (Int.ofNat (t % 256))))
    refine ⟨.int .u8 (Int.ofNat (t % 256)) :: l, ?_, by simp [h2], ?_⟩
    · simp only [Extern.BytealgMakeNoZero.digits, h1]
      simp
    · intro v hv
      rcases List.mem_cons.1 hv with rfl | hv
      · exact ⟨_, rfl⟩
      · exact h3 v hv

theorem mnz_ext {P : Program} {g : FuncId} {fn : Func} (hfn : P.funcs[g]? = some fn) (hname : (fn.name == "runtime.NumGoroutine") = false) (hb : fn.body.isNone = true) (hn : (Extern.findNext fn).isNone = true) (hf : Extern.find fn = some (Extern.BytealgMakeNoZero.makeNoZero fn.params fn.resultTypes)) {t e : TypeId} (ht : fn.resultTypes[0]? = some t) (hu : P.underlying t = some (.slice e)) {xs : List AV} {hp : HP} {r : AV} {hp' : HP} {lo : Nat}
    (h : mnzE e hp xs = some (r, hp', lo)) : (AExt P g xs hp fun a b => a = r ∧ b = hp') ∧ Kept hp hp' lo := by
  unfold mnzE at h
  split at h
  · rename_i n
    split at h
    · rename_i hb2
      cases h
      refine ⟨fun Γ vs hh hl hv => ?_, Nat.le_refl _, by simp, fun i hi => List.getElem?_append_left hi⟩
      obtain ⟨v, rfl, h1⟩ := hv.one'
      simp only [VRel] at h1
      subst h1
      have hh1 := hh.drewN 1
      -- what was drawn
      let cap := grownCap Γ.w n.toNat 0 e
      let q : Question := .extern "internal/bytealg.MakeNoZero.bytes" 0
      let bytes := q.cut (Γ.w.drew.tape Γ.w.drew.drawn q)
      obtain ⟨l, d1, d2, d3⟩ := digits_spec cap bytes #[]
      have hge : n.toNat ≤ cap := grownCap_ge Γ.w n.toNat 0 e
      have hrel : ∀ (k : Nat) (l : List Value), k ≤ l.length → (∀ v ∈ l, ∃ x : Nat, v = .int .u8 (Int.ofNat x)) → VRels (Γ.drewN 1) (List.replicate k .unk) (l.take k) := by
        intro k
        induction k with
        | zero => intro l _ _; simp [VRels]
        | succ k ih =>
          intro l hk hl3
          cases l with
          | nil => simp at hk
          | cons a l =>
            obtain ⟨x, hx⟩ := hl3 a (by simp)
            simp only [List.replicate_succ, List.take_succ_cons, VRels]
            exact ⟨_, _, rfl, by simp only [VRel]; exact ⟨_, _, hx⟩, ih l (by simpa using hk) fun v hv => hl3 v (by simp [hv])⟩
      have hone : ∀ u ∈ l.take n.toNat, one u = true := fun u hu' => by
        obtain ⟨x, rfl⟩ := d3 u (List.mem_of_mem_take hu')
        rfl
      obtain ⟨Δ, p1, p2, p3, p4⟩ := grown_row (P := P) hh1 e (hrel n.toNat l (by omega) d3) hone (l.drop n.toNat) cap n.toNat 1 (by rw [List.take_append_drop]; omega) hge
      refine ⟨.slice (some ⟨Γ.w.heap.size, 0, none⟩) n.toNat cap, _, _, Δ, ?_, p2, p3, (Ev.drewN Γ hp 1).trans p4, rfl, rfl⟩
      refine run_extern hfn hname hb hn hf _ _ ?_
      have hlit : ¬ (n < 0 ∨ n > 2 ^ 48) := by
        have : (2 : Int) ^ 48 = 281474976710656 := by decide
        omega
      rw [List.take_append_drop] at p1
      have he : Extern.BytealgMakeNoZero.makeNoZero fn.params fn.resultTypes ⟨[.int .i64 n]⟩ = (do
          let some t := fn.resultTypes[0]? | stuck "bytealg.MakeNoZero: no result type"
          let .slice elem ← underlying t | stuck "bytealg.MakeNoZero: slice type expected"
          if n < 0 || n > 2 ^ 48 then runtimePanic (.error "makeslice: len out of range")
          let cap ← choose (.appendCap n.toNat 0 elem)
          askRoom cap
          let bytes ← choose (.extern "internal/bytealg.MakeNoZero.bytes" 0)
          let a ← newRow elem (Extern.BytealgMakeNoZero.digits cap bytes #[])
          pure (.slice (some a) n.toNat cap)) := rfl
      rw [he]
      have hforced : (Question.appendCap n.toNat 0 e).forced = false := rfl
      have hforced2 : (Question.extern "internal/bytealg.MakeNoZero.bytes" 0).forced = false := by simp [Question.forced]
      have hc1 : (choose (.appendCap n.toNat 0 e)).run P Γ.w = .ok cap Γ.w.drew := by
        rw [run_choose, hforced]
        rfl
      have hc2 : (choose (.extern "internal/bytealg.MakeNoZero.bytes" 0)).run P Γ.w.drew = .ok bytes Γ.w.drew.drew := by
        rw [run_choose, hforced2]
        rfl
      have hdig : Extern.BytealgMakeNoZero.digits cap bytes #[] = ⟨l⟩ := by
        apply Array.ext'
        rw [d1]
        simp
      have hcond : (decide (n < 0) || decide (n > 2 ^ 48)) = false := by
        simp only [not_or] at hlit
        simp only [decide_eq_false hlit.1, decide_eq_false hlit.2, Bool.or_self]
      simp only [ht, hcond, Bool.false_eq_true, newRow, if_false, Sem.run_bind, run_underlying hu, Result.andThen_ok, hc1, run_askRoom, Sem.run_pure, hc2, hdig]
      rw [p1]
      rfl
    · cases h
  · cases h

/-- Both, by their numbers. -/
def extE (cnt mnz e : Nat) : XCall := fun f xs hp => cond (Nat.beq f cnt) (countE hp xs) (cond (Nat.beq f mnz) (mnzE e hp xs) none)
theorem extE_ok {P : Program} {cnt mnz e t : Nat} {fc fm : Func}
    (c1 : P.funcs[cnt]? = some fc) (c2 : (fc.name == "runtime.NumGoroutine") = false) (c3 : fc.body.isNone = true) (c4 : (Extern.findNext fc).isNone = true) (c5 : Extern.find fc = some Extern.BytealgCount.count)
    (m1 : P.funcs[mnz]? = some fm) (m2 : (fm.name == "runtime.NumGoroutine") = false) (m3 : fm.body.isNone = true) (m4 : (Extern.findNext fm).isNone = true) (m5 : Extern.find fm = some (Extern.BytealgMakeNoZero.makeNoZero fm.params fm.resultTypes)) (m6 : fm.resultTypes[0]? = some t) (m7 : P.underlying t = some (.slice e)) : EOk P (extE cnt mnz e) := by
  intro f xs hp r hp' lo h
  unfold extE at h
  cases hc : Nat.beq f cnt <;> rw [hc] at h
  · cases hm : Nat.beq f mnz <;> rw [hm] at h
    · cases h
    · have := Nat.eq_of_beq_eq_true hm
      subst this
      exact mnz_ext m1 m2 m3 m4 m5 m6 m7 h
  · have := Nat.eq_of_beq_eq_true hc
    subst this
    exact count_ext c1 c2 c3 c4 c5 h

end Go.Gi
