import Derived.Test.YtmehgdpbcafboaaGoA
import Derived.Test.YtmehgdpbcafboaaGiO
set_option linter.unusedVariables false
set_option linter.unusedSimpArgs false
namespace Go.Gi
open Go Go.Proofs

theorem hmT : Try.prog.follows .mixedOrders = true := by kernel_rfl

def foldI (n : Int) : Int := if 65 ≤ n ∧ n ≤ 90 then n + 32 else n

theorem pc70 (n : Int) (h0 : 0 ≤ n) : PC Try.prog 70 [.int .u8 n] (.int .u8 (foldI n)) := by
  refine pc_e hmT (TabOk.none _) comp70 (by decide) (by simp) (NoIdL.cons (NoId.int _ _) NoIdL.nil) ?_
  unfold foldI
  by_cases h1 : 65 ≤ n
  · by_cases h2 : n ≤ 90
    · refine vcE.ex (by simp (disch := omega) only [exC, exOps, exOp, evE, evsE, putE, wantedE, upd_app, Nat.reduceEqDiff, ↓reduceIte, ROp.run, same, binA, intA, strA, eqA, lenA, lenFits, indexSA, byteA, unA, isStrA, bounds3, Option.map_some, Option.map_none, dec_true, dec_false, wrap_i64, Int.toNat_natCast, Int.natCast_nonneg, beq_self_eq_true, List.append_nil, Bool.false_eq_true, beq_iff_eq, reduceCtorEq, Bool.true_eq_false, Bool.not_false, Bool.not_true, start_app, List.getD_cons_zero, List.getD_cons_succ, loadA, rowA, pickA, oneA, Nat.mul_one, wrap_u8]; rfl) ?_
      refine ⟨_, rfl, ?_⟩
      simp only [upd_app, Nat.reduceEqDiff, ↓reduceIte, h1, h2, and_self]
      exact Frz.int _ _ _
    · refine vcE.ex (by simp (disch := omega) only [exC, exOps, exOp, evE, evsE, putE, wantedE, upd_app, Nat.reduceEqDiff, ↓reduceIte, ROp.run, same, binA, intA, strA, eqA, lenA, lenFits, indexSA, byteA, unA, isStrA, bounds3, Option.map_some, Option.map_none, dec_true, dec_false, wrap_i64, Int.toNat_natCast, Int.natCast_nonneg, beq_self_eq_true, List.append_nil, Bool.false_eq_true, beq_iff_eq, reduceCtorEq, Bool.true_eq_false, Bool.not_false, Bool.not_true, start_app, List.getD_cons_zero, List.getD_cons_succ, loadA, rowA, pickA, oneA, Nat.mul_one, wrap_u8]; rfl) ?_
      refine ⟨_, rfl, ?_⟩
      simp only [upd_app, Nat.reduceEqDiff, ↓reduceIte, h1, h2, and_false]
      exact Frz.int _ _ _
  · refine vcE.ex (by simp (disch := omega) only [exC, exOps, exOp, evE, evsE, putE, wantedE, upd_app, Nat.reduceEqDiff, ↓reduceIte, ROp.run, same, binA, intA, strA, eqA, lenA, lenFits, indexSA, byteA, unA, isStrA, bounds3, Option.map_some, Option.map_none, dec_true, dec_false, wrap_i64, Int.toNat_natCast, Int.natCast_nonneg, beq_self_eq_true, List.append_nil, Bool.false_eq_true, beq_iff_eq, reduceCtorEq, Bool.true_eq_false, Bool.not_false, Bool.not_true, start_app, List.getD_cons_zero, List.getD_cons_succ, loadA, rowA, pickA, oneA, Nat.mul_one, wrap_u8]; rfl) ?_
    refine ⟨_, rfl, ?_⟩
    simp only [upd_app, Nat.reduceEqDiff, ↓reduceIte, h1, false_and]
    exact Frz.int _ _ _

def T70 : Tab := Tab.none.add 70 fun xs => match xs with
  | [.int .u8 n] => if 0 ≤ n then some (.int .u8 (foldI n)) else none
  | _ => none
theorem T70_ok : TabOk Try.prog T70 := (TabOk.none _).add fun xs r h => by
  split at h
  · split at h
    · cases h
      exact pc70 _ (by assumption)
    · cases h
  · cases h
theorem T70_70 {n : Int} (h : 0 ≤ n) : T70 70 [.int .u8 n] = some (.int .u8 (foldI n)) := by
  simp only [T70, Tab.add_app, if_true, if_pos h]

theorem pc68 (a b : Int) : PC Try.prog 68 [.int .u8 a, .int .u8 b] (.bool (decide (a = b))) := by
  refine pc_e hmT (TabOk.none _) comp68 (by decide) (by simp) (NoIdL.cons (NoId.int _ _) (NoIdL.cons (NoId.int _ _) NoIdL.nil)) ?_
  refine vcE.ex (by simp only [exC, exOps, exOp, evE, evsE, putE, wantedE, upd_app, Nat.reduceEqDiff, ↓reduceIte, ROp.run, same, binA, intA, strA, eqA, lenA, lenFits, indexSA, byteA, unA, isStrA, bounds3, Option.map_some, Option.map_none, dec_true, dec_false, wrap_i64, Int.toNat_natCast, Int.natCast_nonneg, beq_self_eq_true, List.append_nil, Bool.false_eq_true, beq_iff_eq, reduceCtorEq, Bool.true_eq_false, Bool.not_false, Bool.not_true, start_app, List.getD_cons_zero, List.getD_cons_succ, loadA, rowA, pickA, oneA, Nat.mul_one]; rfl) ?_
  exact ⟨_, rfl, Frz.bool _ _⟩
theorem pc69 (a b : Int) (ha : 0 ≤ a) (hb : 0 ≤ b) : PC Try.prog 69 [.int .u8 a, .int .u8 b] (.bool (decide (foldI a = foldI b))) := by
  refine pc_e hmT T70_ok comp69 (by decide) (by simp) (NoIdL.cons (NoId.int _ _) (NoIdL.cons (NoId.int _ _) NoIdL.nil)) ?_
  refine vcE.ex (by simp (disch := omega) only [exC, exOps, exOp, evE, evsE, putE, wantedE, upd_app, Nat.reduceEqDiff, ↓reduceIte, ROp.run, same, binA, intA, strA, eqA, lenA, lenFits, indexSA, byteA, unA, isStrA, bounds3, Option.map_some, Option.map_none, dec_true, dec_false, wrap_i64, Int.toNat_natCast, Int.natCast_nonneg, beq_self_eq_true, List.append_nil, Bool.false_eq_true, beq_iff_eq, reduceCtorEq, Bool.true_eq_false, Bool.not_false, Bool.not_true, start_app, List.getD_cons_zero, List.getD_cons_succ, loadA, rowA, pickA, oneA, Nat.mul_one, T70_70]; rfl) ?_
  exact ⟨_, rfl, Frz.bool _ _⟩

end Go.Gi
