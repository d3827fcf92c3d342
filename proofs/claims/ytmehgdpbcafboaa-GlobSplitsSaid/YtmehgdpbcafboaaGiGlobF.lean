/- GlobSplits: what the law's function gives. -/
import Derived.Test.YtmehgdpbcafboaaGiGlobE
set_option linter.unusedVariables false
set_option linter.unusedSimpArgs false
namespace Go.Gi
open Go Go.Proofs

theorem sslice_hi {s : List UInt8} {k : IntKind} {i : Nat} (h : i ≤ s.length) : sliceA 0 (.str s) none (some (.int k (i : Int))) none = some (.str (s.take i)) := by
  simp only [sliceA, bndA, cutA, Option.isSome_none, Bool.false_eq_true, if_false, Option.map_some]
  rw [if_pos ⟨by simp, by simp, by simp, .inr (by simpa using h), by simp, by simp⟩]
  simp
theorem sslice_lo {s : List UInt8} {k : IntKind} {i : Nat} (h : i ≤ s.length) : sliceA 0 (.str s) (some (.int k (i : Int))) none none = some (.str (s.drop i)) := by
  simp only [sliceA, bndA, cutA, Option.isSome_none, Bool.false_eq_true, if_false, Option.map_some]
  rw [if_pos ⟨by simp, by simp, by simp, .inl (by simp), by simp, by simpa using h⟩]
  simp only [Option.map_some, Option.getD_some, Option.getD_none, Int.toNat_natCast]
  rw [List.take_of_length_le (by rw [List.length_drop]; omega)]

def anyTo (s : UInt8 → UInt8 → Bool) (p q t : List UInt8) (i : Nat) : Bool := (List.range i).any fun k => gm s p (t.take k) && gm s q (t.drop k)
theorem anyTo_succ (s : UInt8 → UInt8 → Bool) (p q t : List UInt8) (i : Nat) : anyTo s p q t (i + 1) = (anyTo s p q t i || (gm s p (t.take i) && gm s q (t.drop i))) := by
  simp [anyTo, List.range_succ]
theorem anyTo_all (s : UInt8 → UInt8 → Bool) (p q t : List UInt8) : gm s (p ++ q) t = anyTo s p q t (t.length + 1) := by
  rw [Bool.eq_iff_iff, gm_append]
  simp only [anyTo, List.any_eq_true, List.mem_range, Bool.and_eq_true]
  constructor
  · rintro ⟨k, h1, h2⟩
    exact ⟨k, by omega, h2⟩
  · rintro ⟨k, h1, h2⟩
    exact ⟨k, by omega, h2⟩

theorem pc4 (p q t : List UInt8) (f : Bool) : PC Try.prog 4 [.str p, .str q, .str t, .bool f] (.bool true) := by
  refine pc_e hmT TJ_ok comp4 (by decide) (by simp) (NoIdL.cons (NoId.str _) (NoIdL.cons (NoId.str _) (NoIdL.cons (NoId.str _) (NoIdL.cons (NoId.bool _) NoIdL.nil)))) ?_
  refine vcE.step (by simp only [exC, exOps, exOp, evE, evsE, putE, wantedE, upd_app, Nat.reduceEqDiff, ↓reduceIte, ROp.run, same, binA, intA, strA, eqA, lenA, lenFits, indexSA, byteA, unA, isStrA, bounds3, Option.map_some, Option.map_none, dec_true, dec_false, wrap_i64, Int.toNat_natCast, Int.natCast_nonneg, beq_self_eq_true, List.append_nil, Bool.false_eq_true, beq_iff_eq, reduceCtorEq, Bool.true_eq_false, Bool.not_false, Bool.not_true, start_app, List.getD_cons_zero, List.getD_cons_succ, loadA, rowA, pickA, oneA, Nat.mul_one, bslA, partsOk, flatA, cellsA, List.length_cons, List.length_nil, Nat.reduceAdd, Nat.zero_add, List.flatMap_cons, List.flatMap_nil, Bool.and_self, Bool.and_true, BEq.rfl, List.cons_append, List.nil_append, if_pos, if_neg]; rfl) ?_
  refine vcE.step (by simp (disch := omega) only [exC, exOps, exOp, evE, evsE, putE, wantedE, upd_app, Nat.reduceEqDiff, ↓reduceIte, ROp.run, same, binA, intA, strA, eqA, lenA, lenFits, indexSA, byteA, unA, isStrA, bounds3, Option.map_some, Option.map_none, dec_true, dec_false, wrap_i64, Int.toNat_natCast, Int.natCast_nonneg, beq_self_eq_true, List.append_nil, Bool.false_eq_true, beq_iff_eq, reduceCtorEq, Bool.true_eq_false, Bool.not_false, Bool.not_true, start_app, List.getD_cons_zero, List.getD_cons_succ, loadA, rowA, pickA, oneA, Nat.mul_one, bslA, partsOk, flatA, cellsA, List.length_cons, List.length_nil, Nat.reduceAdd, Nat.zero_add, List.flatMap_cons, List.flatMap_nil, Bool.and_self, Bool.and_true, BEq.rfl, List.cons_append, List.nil_append, if_pos, if_neg, TJ_15]; rfl) ?_
  by_cases hl : p.length ≤ 60 ∧ q.length ≤ 60 ∧ t.length ≤ 60
  · obtain ⟨hp, hq, ht⟩ := hl
    have T17 : ∀ {p t : List UInt8}, p.length ≤ 2000 → t.length ≤ 2000 → TJ 17 [.str p, .str t, .bool f] = some (.bool (gm (sameB f) p t)) := fun h1 h2 => TJ_17 (by omega) (by omega) f
    refine vcE.step (by simp (disch := omega) only [exC, exOps, exOp, evE, evsE, putE, wantedE, upd_app, Nat.reduceEqDiff, ↓reduceIte, ROp.run, same, binA, intA, strA, eqA, lenA, lenFits, indexSA, byteA, unA, isStrA, bounds3, Option.map_some, Option.map_none, dec_true, dec_false, wrap_i64, Int.toNat_natCast, Int.natCast_nonneg, beq_self_eq_true, List.append_nil, Bool.false_eq_true, beq_iff_eq, reduceCtorEq, Bool.true_eq_false, Bool.not_false, Bool.not_true, start_app, List.getD_cons_zero, List.getD_cons_succ, loadA, rowA, pickA, oneA, Nat.mul_one, bslA, partsOk, flatA, cellsA, List.length_cons, List.length_nil, Nat.reduceAdd, Nat.zero_add, List.flatMap_cons, List.flatMap_nil, Bool.and_self, Bool.and_true, BEq.rfl, List.cons_append, List.nil_append, if_pos, if_neg]; rfl) ?_
    refine vcE.step (by simp (disch := omega) only [exC, exOps, exOp, evE, evsE, putE, wantedE, upd_app, Nat.reduceEqDiff, ↓reduceIte, ROp.run, same, binA, intA, strA, eqA, lenA, lenFits, indexSA, byteA, unA, isStrA, bounds3, Option.map_some, Option.map_none, dec_true, dec_false, wrap_i64, Int.toNat_natCast, Int.natCast_nonneg, beq_self_eq_true, List.append_nil, Bool.false_eq_true, beq_iff_eq, reduceCtorEq, Bool.true_eq_false, Bool.not_false, Bool.not_true, start_app, List.getD_cons_zero, List.getD_cons_succ, loadA, rowA, pickA, oneA, Nat.mul_one, bslA, partsOk, flatA, cellsA, List.length_cons, List.length_nil, Nat.reduceAdd, Nat.zero_add, List.flatMap_cons, List.flatMap_nil, Bool.and_self, Bool.and_true, BEq.rfl, List.cons_append, List.nil_append, if_pos, if_neg]; rfl) ?_
    refine vcE.then (fun e tm hp => e = .normal ∧ hp = [] ∧ tm 0 = .str p ∧ tm 1 = .str q ∧ tm 2 = .str t ∧ tm 3 = .bool f ∧ tm 9 = .bool (anyTo (sameB f) p q t (t.length + 1))) ?_ ?_
    · refine vcE.step (by simp (disch := omega) only [exC, exOps, exOp, evE, evsE, putE, wantedE, upd_app, Nat.reduceEqDiff, ↓reduceIte, ROp.run, same, binA, intA, strA, eqA, lenA, lenFits, indexSA, byteA, unA, isStrA, bounds3, Option.map_some, Option.map_none, dec_true, dec_false, wrap_i64, Int.toNat_natCast, Int.natCast_nonneg, beq_self_eq_true, List.append_nil, Bool.false_eq_true, beq_iff_eq, reduceCtorEq, Bool.true_eq_false, Bool.not_false, Bool.not_true, start_app, List.getD_cons_zero, List.getD_cons_succ, loadA, rowA, pickA, oneA, Nat.mul_one, bslA, partsOk, flatA, cellsA, List.length_cons, List.length_nil, Nat.reduceAdd, Nat.zero_add, List.flatMap_cons, List.flatMap_nil, Bool.and_self, Bool.and_true, BEq.rfl, List.cons_append, List.nil_append, if_pos, if_neg]; rfl) (vcE.block (vcE.loop (by intro l tm hp h; simp at h)
        (fun m tm hp => ∃ i : Nat, hp = [] ∧ tm 0 = .str p ∧ tm 1 = .str q ∧ tm 2 = .str t ∧ tm 3 = .bool f ∧ tm 9 = .bool (anyTo (sameB f) p q t i) ∧ tm 10 = .int .i64 i ∧ i ≤ t.length + 1 ∧ m = t.length + 1 - i) (t.length + 1) ⟨0, rfl, ?_, ?_, ?_, ?_, ?_, ?_, by omega, by omega⟩ ?_))
      all_goals try simp only [upd_app, Nat.reduceEqDiff, ↓reduceIte, start_app, List.getD_cons_zero, List.getD_cons_succ]
      · rfl
      · rfl
      rintro m tm hp ⟨i, rfl, e0, e1, e2, e3, e9, e10, hi, hm⟩
      by_cases hlt : i ≤ t.length
      · have hs := anyTo_succ (sameB f) p q t i
        have l1 : (t.take i).length ≤ 2000 := by rw [List.length_take]; omega
        have l2 : (t.drop i).length ≤ 2000 := by rw [List.length_drop]; omega
        cases ha : anyTo (sameB f) p q t i
        · cases h1 : gm (sameB f) p (t.take i)
          · rw [ha, h1] at hs
            refine vcE.ex (by simp (disch := first | assumption | omega) only [exC, exOps, exOp, evE, evsE, putE, wantedE, upd_app, Nat.reduceEqDiff, ↓reduceIte, ROp.run, same, binA, intA, strA, eqA, lenA, lenFits, indexSA, byteA, unA, isStrA, bounds3, Option.map_some, Option.map_none, dec_true, dec_false, wrap_i64, Int.toNat_natCast, Int.natCast_nonneg, beq_self_eq_true, List.append_nil, Bool.false_eq_true, beq_iff_eq, reduceCtorEq, Bool.true_eq_false, Bool.not_false, Bool.not_true, start_app, List.getD_cons_zero, List.getD_cons_succ, loadA, rowA, pickA, oneA, Nat.mul_one, bslA, partsOk, flatA, cellsA, List.length_cons, List.length_nil, Nat.reduceAdd, Nat.zero_add, List.flatMap_cons, List.flatMap_nil, Bool.and_self, Bool.and_true, BEq.rfl, List.cons_append, List.nil_append, if_pos, if_neg, e0, e1, e2, e3, e9, e10, ha, sslice_hi, T17, h1]; rfl) ?_
            refine ⟨t.length + 1 - (i + 1), by omega, i + 1, rfl, ?_, ?_, ?_, ?_, ?_, ?_, by omega, rfl⟩
            all_goals simp only [upd_app, Nat.reduceEqDiff, ↓reduceIte, e0, e1, e2, e3, hs]
            all_goals rfl
          · cases h2 : gm (sameB f) q (t.drop i)
            · rw [ha, h1, h2] at hs
              refine vcE.ex (by simp (disch := first | assumption | omega) only [exC, exOps, exOp, evE, evsE, putE, wantedE, upd_app, Nat.reduceEqDiff, ↓reduceIte, ROp.run, same, binA, intA, strA, eqA, lenA, lenFits, indexSA, byteA, unA, isStrA, bounds3, Option.map_some, Option.map_none, dec_true, dec_false, wrap_i64, Int.toNat_natCast, Int.natCast_nonneg, beq_self_eq_true, List.append_nil, Bool.false_eq_true, beq_iff_eq, reduceCtorEq, Bool.true_eq_false, Bool.not_false, Bool.not_true, start_app, List.getD_cons_zero, List.getD_cons_succ, loadA, rowA, pickA, oneA, Nat.mul_one, bslA, partsOk, flatA, cellsA, List.length_cons, List.length_nil, Nat.reduceAdd, Nat.zero_add, List.flatMap_cons, List.flatMap_nil, Bool.and_self, Bool.and_true, BEq.rfl, List.cons_append, List.nil_append, if_pos, if_neg, e0, e1, e2, e3, e9, e10, ha, sslice_hi, sslice_lo, T17, h1, h2]; rfl) ?_
              refine ⟨t.length + 1 - (i + 1), by omega, i + 1, rfl, ?_, ?_, ?_, ?_, ?_, ?_, by omega, rfl⟩
              all_goals simp only [upd_app, Nat.reduceEqDiff, ↓reduceIte, e0, e1, e2, e3, hs]
              all_goals rfl
            · rw [ha, h1, h2] at hs
              refine vcE.ex (by simp (disch := first | assumption | omega) only [exC, exOps, exOp, evE, evsE, putE, wantedE, upd_app, Nat.reduceEqDiff, ↓reduceIte, ROp.run, same, binA, intA, strA, eqA, lenA, lenFits, indexSA, byteA, unA, isStrA, bounds3, Option.map_some, Option.map_none, dec_true, dec_false, wrap_i64, Int.toNat_natCast, Int.natCast_nonneg, beq_self_eq_true, List.append_nil, Bool.false_eq_true, beq_iff_eq, reduceCtorEq, Bool.true_eq_false, Bool.not_false, Bool.not_true, start_app, List.getD_cons_zero, List.getD_cons_succ, loadA, rowA, pickA, oneA, Nat.mul_one, bslA, partsOk, flatA, cellsA, List.length_cons, List.length_nil, Nat.reduceAdd, Nat.zero_add, List.flatMap_cons, List.flatMap_nil, Bool.and_self, Bool.and_true, BEq.rfl, List.cons_append, List.nil_append, if_pos, if_neg, e0, e1, e2, e3, e9, e10, ha, sslice_hi, sslice_lo, T17, h1, h2]; rfl) ?_
              refine ⟨t.length + 1 - (i + 1), by omega, i + 1, rfl, ?_, ?_, ?_, ?_, ?_, ?_, by omega, rfl⟩
              all_goals simp only [upd_app, Nat.reduceEqDiff, ↓reduceIte, e0, e1, e2, e3, hs]
              all_goals rfl
        · rw [ha, Bool.true_or] at hs
          refine vcE.ex (by simp (disch := first | assumption | omega) only [exC, exOps, exOp, evE, evsE, putE, wantedE, upd_app, Nat.reduceEqDiff, ↓reduceIte, ROp.run, same, binA, intA, strA, eqA, lenA, lenFits, indexSA, byteA, unA, isStrA, bounds3, Option.map_some, Option.map_none, dec_true, dec_false, wrap_i64, Int.toNat_natCast, Int.natCast_nonneg, beq_self_eq_true, List.append_nil, Bool.false_eq_true, beq_iff_eq, reduceCtorEq, Bool.true_eq_false, Bool.not_false, Bool.not_true, start_app, List.getD_cons_zero, List.getD_cons_succ, loadA, rowA, pickA, oneA, Nat.mul_one, bslA, partsOk, flatA, cellsA, List.length_cons, List.length_nil, Nat.reduceAdd, Nat.zero_add, List.flatMap_cons, List.flatMap_nil, Bool.and_self, Bool.and_true, BEq.rfl, List.cons_append, List.nil_append, if_pos, if_neg, e0, e1, e2, e3, e9, e10, ha]; rfl) ?_
          refine ⟨t.length + 1 - (i + 1), by omega, i + 1, rfl, ?_, ?_, ?_, ?_, ?_, ?_, by omega, rfl⟩
          all_goals simp only [upd_app, Nat.reduceEqDiff, ↓reduceIte, e0, e1, e2, e3, hs]
          all_goals rfl
      · obtain rfl : i = t.length + 1 := by omega
        refine vcE.ex (by simp (disch := first | assumption | omega) only [exC, exOps, exOp, evE, evsE, putE, wantedE, upd_app, Nat.reduceEqDiff, ↓reduceIte, ROp.run, same, binA, intA, strA, eqA, lenA, lenFits, indexSA, byteA, unA, isStrA, bounds3, Option.map_some, Option.map_none, dec_true, dec_false, wrap_i64, Int.toNat_natCast, Int.natCast_nonneg, beq_self_eq_true, List.append_nil, Bool.false_eq_true, beq_iff_eq, reduceCtorEq, Bool.true_eq_false, Bool.not_false, Bool.not_true, start_app, List.getD_cons_zero, List.getD_cons_succ, loadA, rowA, pickA, oneA, Nat.mul_one, bslA, partsOk, flatA, cellsA, List.length_cons, List.length_nil, Nat.reduceAdd, Nat.zero_add, List.flatMap_cons, List.flatMap_nil, Bool.and_self, Bool.and_true, BEq.rfl, List.cons_append, List.nil_append, if_pos, if_neg, e2, e10]; rfl) ?_
        refine ⟨trivial, rfl, ?_, ?_, ?_, ?_, ?_⟩
        all_goals simp only [upd_app, Nat.reduceEqDiff, ↓reduceIte, e0, e1, e2, e3, e9]
    · rintro e tm hp ⟨rfl, rfl, e0, e1, e2, e3, e9⟩
      rw [← anyTo_all] at e9
      refine vcE.ex (by simp (disch := (try simp only [List.length_append]); omega) only [exC, exOps, exOp, evE, evsE, putE, wantedE, upd_app, Nat.reduceEqDiff, ↓reduceIte, ROp.run, same, binA, intA, strA, eqA, lenA, lenFits, indexSA, byteA, unA, isStrA, bounds3, Option.map_some, Option.map_none, dec_true, dec_false, wrap_i64, Int.toNat_natCast, Int.natCast_nonneg, beq_self_eq_true, List.append_nil, Bool.false_eq_true, beq_iff_eq, reduceCtorEq, Bool.true_eq_false, Bool.not_false, Bool.not_true, start_app, List.getD_cons_zero, List.getD_cons_succ, loadA, rowA, pickA, oneA, Nat.mul_one, bslA, partsOk, flatA, cellsA, List.length_cons, List.length_nil, Nat.reduceAdd, Nat.zero_add, List.flatMap_cons, List.flatMap_nil, Bool.and_self, Bool.and_true, BEq.rfl, List.cons_append, List.nil_append, if_pos, if_neg, e0, e1, e2, e3, e9, T17, BEq.rfl]; rfl) ?_
      refine ⟨_, rfl, ?_⟩
      simp only [upd_app, Nat.reduceEqDiff, ↓reduceIte]
      exact Frz.bool _ _
  · by_cases h1 : p.length ≤ 60
    · by_cases h2 : q.length ≤ 60
      · refine vcE.ex (by simp (disch := omega) only [exC, exOps, exOp, evE, evsE, putE, wantedE, upd_app, Nat.reduceEqDiff, ↓reduceIte, ROp.run, same, binA, intA, strA, eqA, lenA, lenFits, indexSA, byteA, unA, isStrA, bounds3, Option.map_some, Option.map_none, dec_true, dec_false, wrap_i64, Int.toNat_natCast, Int.natCast_nonneg, beq_self_eq_true, List.append_nil, Bool.false_eq_true, beq_iff_eq, reduceCtorEq, Bool.true_eq_false, Bool.not_false, Bool.not_true, start_app, List.getD_cons_zero, List.getD_cons_succ, loadA, rowA, pickA, oneA, Nat.mul_one, bslA, partsOk, flatA, cellsA, List.length_cons, List.length_nil, Nat.reduceAdd, Nat.zero_add, List.flatMap_cons, List.flatMap_nil, Bool.and_self, Bool.and_true, BEq.rfl, List.cons_append, List.nil_append, if_pos, if_neg]; rfl) ?_
        exact ⟨_, rfl, Frz.bool _ _⟩
      · refine vcE.ex (by simp (disch := omega) only [exC, exOps, exOp, evE, evsE, putE, wantedE, upd_app, Nat.reduceEqDiff, ↓reduceIte, ROp.run, same, binA, intA, strA, eqA, lenA, lenFits, indexSA, byteA, unA, isStrA, bounds3, Option.map_some, Option.map_none, dec_true, dec_false, wrap_i64, Int.toNat_natCast, Int.natCast_nonneg, beq_self_eq_true, List.append_nil, Bool.false_eq_true, beq_iff_eq, reduceCtorEq, Bool.true_eq_false, Bool.not_false, Bool.not_true, start_app, List.getD_cons_zero, List.getD_cons_succ, loadA, rowA, pickA, oneA, Nat.mul_one, bslA, partsOk, flatA, cellsA, List.length_cons, List.length_nil, Nat.reduceAdd, Nat.zero_add, List.flatMap_cons, List.flatMap_nil, Bool.and_self, Bool.and_true, BEq.rfl, List.cons_append, List.nil_append, if_pos, if_neg]; rfl) ?_
        exact ⟨_, rfl, Frz.bool _ _⟩
    · refine vcE.ex (by simp (disch := omega) only [exC, exOps, exOp, evE, evsE, putE, wantedE, upd_app, Nat.reduceEqDiff, ↓reduceIte, ROp.run, same, binA, intA, strA, eqA, lenA, lenFits, indexSA, byteA, unA, isStrA, bounds3, Option.map_some, Option.map_none, dec_true, dec_false, wrap_i64, Int.toNat_natCast, Int.natCast_nonneg, beq_self_eq_true, List.append_nil, Bool.false_eq_true, beq_iff_eq, reduceCtorEq, Bool.true_eq_false, Bool.not_false, Bool.not_true, start_app, List.getD_cons_zero, List.getD_cons_succ, loadA, rowA, pickA, oneA, Nat.mul_one, bslA, partsOk, flatA, cellsA, List.length_cons, List.length_nil, Nat.reduceAdd, Nat.zero_add, List.flatMap_cons, List.flatMap_nil, Bool.and_self, Bool.and_true, BEq.rfl, List.cons_append, List.nil_append, if_pos, if_neg]; rfl) ?_
      exact ⟨_, rfl, Frz.bool _ _⟩

end Go.Gi
