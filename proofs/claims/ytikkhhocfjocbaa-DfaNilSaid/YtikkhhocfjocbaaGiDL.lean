/- DfaNil's function returns true, whatever the text is. No condition. -/
import Derived.Test.YtikkhhocfjocbaaGiDLrun
set_option linter.unusedVariables false
set_option linter.unusedSimpArgs false
namespace Go.Gi
open Go Go.Proofs
theorem pLives : PCF Try.prog 5 [] (.bool true) := pcf_of NoIdL.nil (names_true.mono fun r hp' h => by subst h; exact fresh_ok (a := .bool true) (a' := .bool true) rfl)
set_option maxRecDepth 100000 in
theorem r6 (s : List UInt8) : xF FT noO (xC FT noO noO LT 100) 6 [.nilp, .str s] [] = some (.bool false, [], 0) := by kernel_rfl
theorem p6 (s : List UInt8) : PCF Try.prog 6 [.nilp, .str s] (.bool false) := pcf_run hmT FT_ok (noO_ok _) (noE_ok _) LT_ok rfl (r6 s) rfl
set_option maxRecDepth 100000 in
theorem r7 : xF FT noO (xC FT noO noO LT 100) 7 [.nilp] [] = some (.bool false, [], 0) := by kernel_rfl
theorem p7 : PCF Try.prog 7 [.nilp] (.bool false) := pcf_run hmT FT_ok (noO_ok _) (noE_ok _) LT_ok rfl r7 rfl
set_option maxRecDepth 100000 in
theorem r8 : xF FT noO (xC FT noO noO LT 100) 8 [.nilp] [] = some (.int .i64 0, [], 0) := by kernel_rfl
theorem p8 : PCF Try.prog 8 [.nilp] (.int .i64 0) := pcf_run hmT FT_ok (noO_ok _) (noE_ok _) LT_ok rfl r8 rfl
def s5 : List AV → Option Res
  | [] => some (.rd true (.bool true))
  | _ => none
def s6 : List AV → Option Res
  | [.nilp, .str _] => some (.rd true (.bool false))
  | _ => none
def s7 : List AV → Option Res
  | [.nilp] => some (.rd true (.bool false))
  | _ => none
def s8 : List AV → Option Res
  | [.nilp] => some (.rd true (.int .i64 0))
  | _ => none
def TD : Tab := (((Tab.none.add 5 s5).add 6 s6).add 7 s7).add 8 s8
theorem TD_ok : TabOk Try.prog TD := by
  refine ((((TabOk.none _).add ?_).add ?_).add ?_).add ?_
  · intro xs r h
    unfold s5 at h
    split at h
    · cases h; exact pLives
    · cases h
  · intro xs r h
    unfold s6 at h
    split at h
    · cases h; exact p6 _
    · cases h
  · intro xs r h
    unfold s7 at h
    split at h
    · cases h; exact p7
    · cases h
  · intro xs r h
    unfold s8 at h
    split at h
    · cases h; exact p8
    · cases h
theorem TD_5 : TD 5 [] = some (.rd true (.bool true)) := rfl
theorem TD_6 (s : List UInt8) : TD 6 [.nilp, .str s] = some (.rd true (.bool false)) := rfl
theorem TD_7 : TD 7 [.nilp] = some (.rd true (.bool false)) := rfl
theorem TD_8 : TD 8 [.nilp] = some (.rd true (.int .i64 0)) := rfl
theorem nil_pc (s : List UInt8) : PC Try.prog 3 [.str s] (.bool true) := by
  refine pc_e hmT TD_ok comp3 (by decide) (by simp) (NoIdL.cons (NoId.str _) NoIdL.nil) ?_
  by_cases h : s.length ≤ 200
  · refine vcE.ex (by simp (disch := omega) only [exC, exOps, exOp, evE, evsE, putE, wantedE, upd_app, Nat.reduceEqDiff, ↓reduceIte, ROp.run, same, binA, intA, strA, eqA, indexSA, byteA, unA, bounds3, Option.map_some, Option.map_none, dec_true, dec_false, wrap_i64, Int.toNat_natCast, Int.natCast_nonneg, beq_self_eq_true, List.append_nil, Bool.false_eq_true, beq_iff_eq, reduceCtorEq, Bool.true_eq_false, Bool.not_false, Bool.not_true, start_app, List.getD_cons_zero, List.getD_cons_succ, loadA, rowA, pickA, Nat.mul_one, bslA, notTup_int, notTup_bool, notTup_str, notTup_nilp, notTup_ptr, notTup_fptr, notTup_nils, notTup_sl, notTup_fsl, notTup_esl, notTup_enn, notTup_nilm, notTup_map, notTup_func, notTup_nilf, notTup_iface, notTup_nili, notTup_agg, notTup_tup, storeA_eq, boxA_eq, partsOk_nil, partsOk_cons, Enc.S_notTup, osl_notTup, decide_true, and_self, flatA, List.length_cons, List.length_nil, Nat.reduceAdd, Nat.zero_add, List.flatMap_cons, List.flatMap_nil, Bool.and_self, Bool.and_true, BEq.rfl, List.cons_append, List.nil_append, if_pos, if_neg, ordered, List.getElem?_cons_zero, List.getElem?_cons_succ, frzL, nidL, oneA_int, cellsA_int, frz_int, fresh_int, nid_int, oneA_bool, cellsA_bool, frz_bool, fresh_bool, nid_bool, oneA_str, cellsA_str, frz_str, fresh_str, nid_str, oneA_nilp, cellsA_nilp, frz_nilp, fresh_nilp, nid_nilp, oneA_ptr, cellsA_ptr, nid_ptr, oneA_fptr, cellsA_fptr, nid_fptr, oneA_nils, cellsA_nils, frz_nils, fresh_nils, nid_nils, oneA_sl, cellsA_sl, nid_sl, oneA_fsl, cellsA_fsl, nid_fsl, oneA_esl, cellsA_esl, frz_esl, fresh_esl, nid_esl, oneA_enn, cellsA_enn, frz_enn, fresh_enn, nid_enn, oneA_nilm, cellsA_nilm, frz_nilm, fresh_nilm, nid_nilm, oneA_map, cellsA_map, nid_map, oneA_func, cellsA_func, nid_func, oneA_nilf, cellsA_nilf, frz_nilf, fresh_nilf, nid_nilf, oneA_iface, cellsA_iface, nid_iface, oneA_nili, cellsA_nili, frz_nili, fresh_nili, nid_nili, oneA_agg, cellsA_agg, nid_agg, oneA_tup, nid_tup, lenA_str, lenA_nils, lenA_esl, lenA_enn, lenA_sl, lenA_fsl, lenFits_str, lenFits_nils, lenFits_sl, lenFits_fsl, lenFits_esl, lenFits_enn, isStrA_str, isStrA_nils, isStrA_sl, isStrA_fsl, isStrA_esl, isStrA_enn, frz_func, frz_agg, frz_tup, frz_iface, fresh_func, fresh_agg, fresh_tup, fresh_iface, frz_fsl, frz_fptr, frz_ptr, frz_sl, fresh_sl, Enc.S_one, Enc.S_cells, Enc.S_str, Enc.S_len, Enc.S_fits, Enc.S_nid, Enc.S_frz, Enc.S_src, Enc.S_iaddr, osl_one, osl_cells, osl_str, osl_len, osl_fits, Cls.isFree, Cls.makes, callCls, chain, cond_true, Bool.and_false, Bool.false_and, Bool.true_and, Bool.or_true, Bool.true_or, Bool.or_false, Bool.false_or, TD_5, TD_6, TD_7, TD_8]; rfl) ?_
    exact ⟨_, rfl, rfl⟩
  · refine vcE.ex (by simp (disch := omega) only [exC, exOps, exOp, evE, evsE, putE, wantedE, upd_app, Nat.reduceEqDiff, ↓reduceIte, ROp.run, same, binA, intA, strA, eqA, indexSA, byteA, unA, bounds3, Option.map_some, Option.map_none, dec_true, dec_false, wrap_i64, Int.toNat_natCast, Int.natCast_nonneg, beq_self_eq_true, List.append_nil, Bool.false_eq_true, beq_iff_eq, reduceCtorEq, Bool.true_eq_false, Bool.not_false, Bool.not_true, start_app, List.getD_cons_zero, List.getD_cons_succ, loadA, rowA, pickA, Nat.mul_one, bslA, notTup_int, notTup_bool, notTup_str, notTup_nilp, notTup_ptr, notTup_fptr, notTup_nils, notTup_sl, notTup_fsl, notTup_esl, notTup_enn, notTup_nilm, notTup_map, notTup_func, notTup_nilf, notTup_iface, notTup_nili, notTup_agg, notTup_tup, storeA_eq, boxA_eq, partsOk_nil, partsOk_cons, Enc.S_notTup, osl_notTup, decide_true, and_self, flatA, List.length_cons, List.length_nil, Nat.reduceAdd, Nat.zero_add, List.flatMap_cons, List.flatMap_nil, Bool.and_self, Bool.and_true, BEq.rfl, List.cons_append, List.nil_append, if_pos, if_neg, ordered, List.getElem?_cons_zero, List.getElem?_cons_succ, frzL, nidL, oneA_int, cellsA_int, frz_int, fresh_int, nid_int, oneA_bool, cellsA_bool, frz_bool, fresh_bool, nid_bool, oneA_str, cellsA_str, frz_str, fresh_str, nid_str, oneA_nilp, cellsA_nilp, frz_nilp, fresh_nilp, nid_nilp, oneA_ptr, cellsA_ptr, nid_ptr, oneA_fptr, cellsA_fptr, nid_fptr, oneA_nils, cellsA_nils, frz_nils, fresh_nils, nid_nils, oneA_sl, cellsA_sl, nid_sl, oneA_fsl, cellsA_fsl, nid_fsl, oneA_esl, cellsA_esl, frz_esl, fresh_esl, nid_esl, oneA_enn, cellsA_enn, frz_enn, fresh_enn, nid_enn, oneA_nilm, cellsA_nilm, frz_nilm, fresh_nilm, nid_nilm, oneA_map, cellsA_map, nid_map, oneA_func, cellsA_func, nid_func, oneA_nilf, cellsA_nilf, frz_nilf, fresh_nilf, nid_nilf, oneA_iface, cellsA_iface, nid_iface, oneA_nili, cellsA_nili, frz_nili, fresh_nili, nid_nili, oneA_agg, cellsA_agg, nid_agg, oneA_tup, nid_tup, lenA_str, lenA_nils, lenA_esl, lenA_enn, lenA_sl, lenA_fsl, lenFits_str, lenFits_nils, lenFits_sl, lenFits_fsl, lenFits_esl, lenFits_enn, isStrA_str, isStrA_nils, isStrA_sl, isStrA_fsl, isStrA_esl, isStrA_enn, frz_func, frz_agg, frz_tup, frz_iface, fresh_func, fresh_agg, fresh_tup, fresh_iface, frz_fsl, frz_fptr, frz_ptr, frz_sl, fresh_sl, Enc.S_one, Enc.S_cells, Enc.S_str, Enc.S_len, Enc.S_fits, Enc.S_nid, Enc.S_frz, Enc.S_src, Enc.S_iaddr, osl_one, osl_cells, osl_str, osl_len, osl_fits, Cls.isFree, Cls.makes, callCls, chain, cond_true, Bool.and_false, Bool.false_and, Bool.true_and, Bool.or_true, Bool.true_or, Bool.or_false, Bool.false_or, TD_5, TD_6, TD_7, TD_8]; rfl) ?_
    exact ⟨_, rfl, rfl⟩
end Go.Gi
