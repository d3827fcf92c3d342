/- Queues: Put. -/
import Derived.Test.YtakdhioafodhcaaGiQuC
set_option linter.unusedVariables false
set_option linter.unusedSimpArgs false
namespace Go.Gi
open Go Go.Proofs

theorem pickA5 (a : Act) : pickA (some 5) a.c 0 = some (.agg a.c) := rfl
theorem acts_le {q : Que} (h : Fits q) : q.acts.length ≤ 3 * most := by
  obtain ⟨h1, h2, h3⟩ := h
  simp only [Que.acts, List.length_append, List.length_map]
  omega
theorem job_new (x : Int) (a : Act) (y : Int) : fillA [(0, 1), (1, 5), (6, 1), (7, 1), (8, 1), (9, 1)] [.int .i64 0, .int .i64 0, .str [], .str [], .str [], .str [], .bool false, .bool false, .int .i64 0, .int .i64 0] ([0, 1, 5].zip [.int .i64 x, .agg a.c, .int .i64 y]) = some (Job.c ⟨x, a, false, false, 0, y⟩) := rfl
theorem oslJ_app {hp : HP} {id k : Nat} {l : List Job} {j : Job} (h : hp[id]? = some (orow l.length 42 (encJ.cs l))) (hx : hp[k]? = some (some (.row 42 j.c))) (hl : l.length ≤ 1073741824) : appA 42 10 104 hp (osl id l.length 10) (.sl k 0 1 10 1 true) = some (.sl hp.length 0 (l.length + 1) 10 (l.length + 1) false, hp.set id none ++ [some (.row 42 (encJ.cs (l ++ [j])))]) := by
  have hc : encJ.cs [j] = j.c := List.append_nil _
  have := encJ.osl_app (bytes := 104) h (encJ.sl_src (l := [j]) (lo := 1) (ex := true) (e := 42) (by rw [hc]; exact hx)) (by simp) (by simp only [List.length_cons, List.length_nil]; omega) (by simp only [List.length_cons, List.length_nil]; omega)
  rw [List.length_append] at this
  exact this
theorem slJ_fresh {hp : HP} {id : Nat} {l : List Job} {lo : Nat} {ex : Bool} (h : hp[id]? = some (some (.row 42 (encJ.cs l)))) : fresh hp (.sl id 0 l.length 10 lo ex) = some (encJ.S l) := encJ.sl_fresh h
theorem slJ1_fresh {hp : HP} {id : Nat} {l : List Job} {j : Job} {lo : Nat} {ex : Bool} (h : hp[id]? = some (some (.row 42 (encJ.cs (l ++ [j]))))) : fresh hp (.sl id 0 (l.length + 1) 10 lo ex) = some (encJ.S (l ++ [j])) := by
  have := encJ.sl_fresh (lo := lo) (ex := ex) h
  rw [List.length_append] at this
  exact this

theorem pPut (q : Que) (hq : Fits q) (a : Act) (h1 : 0 ≤ q.next) (h2 : q.next ≤ 1152921504606846976) : PCF Try.prog 12 [.agg q.c, .agg a.c] (.tup [.agg (q.put a).1.c, .int .i64 (q.put a).2.1, .int .i64 (q.put a).2.2]) := by
  refine pcf_e hmG T4_ok comp12 (by decide) (by simp) (nidL_ok (by rw [nidL, queN]; rfl)) ?_
  have hcl := T4_clone hq
  have hkn := T4_known a
  have hac : T4 59 [.agg [encJ.S q.jobs, .int .i64 q.next, .int .i64 q.now, encA.S q.failed, encA.S q.settled, .bool q.resync]] = _ := T4_actions hq
  have hha : T4 58 [encA.S q.acts, .func 60 [.fptr a.c 0]] = _ := T4_has (acts_le hq) true a
  have hjl := hq.j
  simp only [most] at hjl
  unfold Que.put
  cases hk : a.known <;> rw [hk] at hkn
  · refine vcE.ex (by simp (disch := first | assumption | omega | with_unfolding_all rfl) only [exC, exOps, exOp, evE, evsE, putE, wantedE, Nat.reduceEqDiff, ↓reduceIte, ROp.run, same, binA, intA, strA, eqA, indexSA, byteA, unA, bounds3, Option.map_some, Option.map_none, dec_true, dec_false, Int.toNat_natCast, Int.natCast_nonneg, beq_self_eq_true, List.append_nil, beq_iff_eq, reduceCtorEq, List.getD_cons_zero, List.getD_cons_succ, loadA, rowA, pickA, bslA, storeA_eq, decide_true, flatA, List.length_cons, List.length_nil, Nat.reduceAdd, List.flatMap_cons, List.flatMap_nil, BEq.rfl, List.cons_append, List.nil_append, if_pos, if_neg, ordered, List.getElem?_cons_zero, List.getElem?_cons_succ, frzL, nidL, frz_func, frz_agg, frz_tup, frz_iface, fresh_func, fresh_agg, fresh_tup, fresh_iface, frz_ptr, frz_sl, fresh_sl, Cls.isFree, Cls.makes, callCls, chain, cond_true, tz, ty, faddrA, allocA, over, List.take_succ_cons, List.take_zero, List.drop_succ_cons, List.drop_zero, List.drop_nil, List.set_cons_zero, List.set_cons_succ, Nat.reduceLeDiff, and_self, Que.c_len, Act.c_len, Job.c_len, boxA_eq, ↓pickQ, ↓pickA5, queL_frz, queL_nid, actL_frz, actL_nid, jobL_frz, jobL_nid, hcl, cloneV, cloneH, ↓overQ, osl_one, osl_notTup, osl_cells, oslJ_frz, oslA_frz, dropQ, hkn, Bool.not_false]; rfl) ?_
    refine ⟨_, rfl, ?_⟩
    (simp (disch := with_unfolding_all rfl) only [upd_app, Nat.reduceEqDiff, ↓reduceIte, fresh_tup, freshL, fresh_agg, fresh_int, fresh_bool, fresh_str, List.take_succ_cons, List.take_zero, List.drop_succ_cons, List.drop_zero, start_app, List.getD_cons_zero, List.getD_cons_succ, oslJ_fresh, oslA_fresh, if_true])
    rfl
  cases ht : q.acts.any (fun x => a.alike x) <;> rw [ht] at hha
  rotate_left
  · refine vcE.ex (by simp (disch := first | assumption | omega | with_unfolding_all rfl) only [exC, exOps, exOp, evE, evsE, putE, wantedE, Nat.reduceEqDiff, ↓reduceIte, ROp.run, same, binA, intA, strA, eqA, indexSA, byteA, unA, bounds3, Option.map_some, Option.map_none, dec_true, dec_false, Int.toNat_natCast, Int.natCast_nonneg, beq_self_eq_true, List.append_nil, beq_iff_eq, reduceCtorEq, List.getD_cons_zero, List.getD_cons_succ, loadA, rowA, pickA, bslA, storeA_eq, decide_true, flatA, List.length_cons, List.length_nil, Nat.reduceAdd, List.flatMap_cons, List.flatMap_nil, BEq.rfl, List.cons_append, List.nil_append, if_pos, if_neg, ordered, List.getElem?_cons_zero, List.getElem?_cons_succ, frzL, nidL, frz_func, frz_agg, frz_tup, frz_iface, fresh_func, fresh_agg, fresh_tup, fresh_iface, frz_ptr, frz_sl, fresh_sl, Cls.isFree, Cls.makes, callCls, chain, cond_true, tz, ty, faddrA, allocA, over, List.take_succ_cons, List.take_zero, List.drop_succ_cons, List.drop_zero, List.drop_nil, List.set_cons_zero, List.set_cons_succ, Nat.reduceLeDiff, and_self, Que.c_len, Act.c_len, Job.c_len, boxA_eq, ↓pickQ, ↓pickA5, queL_frz, queL_nid, actL_frz, actL_nid, jobL_frz, jobL_nid, hcl, cloneV, cloneH, ↓overQ, osl_one, osl_notTup, osl_cells, oslJ_frz, oslA_frz, dropQ, hkn, hac, hha, Bool.not_true, Enc.S_nid, Enc.S_frz]; rfl) ?_
    refine ⟨_, rfl, ?_⟩
    (simp (disch := with_unfolding_all rfl) only [upd_app, Nat.reduceEqDiff, ↓reduceIte, fresh_tup, freshL, fresh_agg, fresh_int, fresh_bool, fresh_str, List.take_succ_cons, List.take_zero, List.drop_succ_cons, List.drop_zero, start_app, List.getD_cons_zero, List.getD_cons_succ, oslJ_fresh, oslA_fresh, if_true, if_false, reduceCtorEq])
    rfl
  have hg : ∀ x y : Int, (x ≥ y) = (y ≤ x) := fun _ _ => rfl
  by_cases hf1 : 32 ≤ q.jobs.length
  · refine vcE.ex (by simp (disch := first | assumption | omega | with_unfolding_all rfl) only [exC, exOps, exOp, evE, evsE, putE, wantedE, Nat.reduceEqDiff, ↓reduceIte, ROp.run, same, binA, intA, strA, eqA, indexSA, byteA, unA, bounds3, Option.map_some, Option.map_none, dec_true, dec_false, Int.toNat_natCast, Int.natCast_nonneg, beq_self_eq_true, List.append_nil, beq_iff_eq, reduceCtorEq, List.getD_cons_zero, List.getD_cons_succ, loadA, rowA, pickA, bslA, storeA_eq, decide_true, flatA, List.length_cons, List.length_nil, Nat.reduceAdd, List.flatMap_cons, List.flatMap_nil, BEq.rfl, List.cons_append, List.nil_append, if_pos, if_neg, ordered, List.getElem?_cons_zero, List.getElem?_cons_succ, frzL, nidL, frz_func, frz_agg, frz_tup, frz_iface, fresh_func, fresh_agg, fresh_tup, fresh_iface, frz_ptr, frz_sl, fresh_sl, Cls.isFree, Cls.makes, callCls, chain, cond_true, tz, ty, faddrA, allocA, over, List.take_succ_cons, List.take_zero, List.drop_succ_cons, List.drop_zero, List.drop_nil, List.set_cons_zero, List.set_cons_succ, Nat.reduceLeDiff, and_self, Que.c_len, Act.c_len, Job.c_len, boxA_eq, ↓pickQ, ↓pickA5, queL_frz, queL_nid, actL_frz, actL_nid, jobL_frz, jobL_nid, hcl, cloneV, cloneH, ↓overQ, osl_one, osl_notTup, osl_cells, oslJ_frz, oslA_frz, dropQ, hkn, hac, hha, Bool.not_true, Enc.S_nid, Enc.S_frz, osl_len, osl_fits, hg]; rfl) ?_
    refine ⟨_, rfl, ?_⟩
    (simp (disch := with_unfolding_all rfl) only [upd_app, Nat.reduceEqDiff, ↓reduceIte, fresh_tup, freshL, fresh_agg, fresh_int, fresh_bool, fresh_str, List.take_succ_cons, List.take_zero, List.drop_succ_cons, List.drop_zero, start_app, List.getD_cons_zero, List.getD_cons_succ, oslJ_fresh, oslA_fresh, if_true, if_false, reduceCtorEq, hf1, true_or, Bool.false_eq_true])
    rfl
  by_cases hf2 : 1152921504606846976 ≤ q.next
  · refine vcE.ex (by simp (disch := first | assumption | omega | with_unfolding_all rfl) only [exC, exOps, exOp, evE, evsE, putE, wantedE, Nat.reduceEqDiff, ↓reduceIte, ROp.run, same, binA, intA, strA, eqA, indexSA, byteA, unA, bounds3, Option.map_some, Option.map_none, dec_true, dec_false, Int.toNat_natCast, Int.natCast_nonneg, beq_self_eq_true, List.append_nil, beq_iff_eq, reduceCtorEq, List.getD_cons_zero, List.getD_cons_succ, loadA, rowA, pickA, bslA, storeA_eq, decide_true, flatA, List.length_cons, List.length_nil, Nat.reduceAdd, List.flatMap_cons, List.flatMap_nil, BEq.rfl, List.cons_append, List.nil_append, if_pos, if_neg, ordered, List.getElem?_cons_zero, List.getElem?_cons_succ, frzL, nidL, frz_func, frz_agg, frz_tup, frz_iface, fresh_func, fresh_agg, fresh_tup, fresh_iface, frz_ptr, frz_sl, fresh_sl, Cls.isFree, Cls.makes, callCls, chain, cond_true, tz, ty, faddrA, allocA, over, List.take_succ_cons, List.take_zero, List.drop_succ_cons, List.drop_zero, List.drop_nil, List.set_cons_zero, List.set_cons_succ, Nat.reduceLeDiff, and_self, Que.c_len, Act.c_len, Job.c_len, boxA_eq, ↓pickQ, ↓pickA5, queL_frz, queL_nid, actL_frz, actL_nid, jobL_frz, jobL_nid, hcl, cloneV, cloneH, ↓overQ, osl_one, osl_notTup, osl_cells, oslJ_frz, oslA_frz, dropQ, hkn, hac, hha, Bool.not_true, Enc.S_nid, Enc.S_frz, osl_len, osl_fits, hg]; rfl) ?_
    refine ⟨_, rfl, ?_⟩
    (simp (disch := with_unfolding_all rfl) only [upd_app, Nat.reduceEqDiff, ↓reduceIte, fresh_tup, freshL, fresh_agg, fresh_int, fresh_bool, fresh_str, List.take_succ_cons, List.take_zero, List.drop_succ_cons, List.drop_zero, start_app, List.getD_cons_zero, List.getD_cons_succ, oslJ_fresh, oslA_fresh, if_true, if_false, reduceCtorEq, hf2, or_true, Bool.false_eq_true])
    rfl
  have hor : ¬ (32 ≤ q.jobs.length ∨ 1152921504606846976 ≤ q.next) := by omega
  have hw : IntKind.wrap .i64 (q.next + 1) = q.next + 1 := wrap_i64 (by omega) (by omega)
  refine vcE.ex (by simp (disch := first | assumption | omega | with_unfolding_all rfl) only [exC, exOps, exOp, evE, evsE, putE, wantedE, Nat.reduceEqDiff, ↓reduceIte, ROp.run, same, binA, intA, strA, eqA, indexSA, byteA, unA, bounds3, Option.map_some, Option.map_none, dec_true, dec_false, Int.toNat_natCast, Int.natCast_nonneg, beq_self_eq_true, List.append_nil, beq_iff_eq, reduceCtorEq, List.getD_cons_zero, List.getD_cons_succ, loadA, rowA, pickA, bslA, storeA_eq, decide_true, flatA, List.length_cons, List.length_nil, Nat.reduceAdd, List.flatMap_cons, List.flatMap_nil, BEq.rfl, List.cons_append, List.nil_append, if_pos, if_neg, ordered, List.getElem?_cons_zero, List.getElem?_cons_succ, frzL, nidL, frz_func, frz_agg, frz_tup, frz_iface, fresh_func, fresh_agg, fresh_tup, fresh_iface, frz_ptr, frz_sl, fresh_sl, Cls.isFree, Cls.makes, callCls, chain, cond_true, tz, ty, faddrA, allocA, over, List.take_succ_cons, List.take_zero, List.drop_succ_cons, List.drop_zero, List.drop_nil, List.set_cons_zero, List.set_cons_succ, Nat.reduceLeDiff, and_self, Que.c_len, Act.c_len, Job.c_len, boxA_eq, ↓pickQ, ↓pickA5, queL_frz, queL_nid, actL_frz, actL_nid, jobL_frz, jobL_nid, hcl, cloneV, cloneH, ↓overQ, osl_one, osl_notTup, osl_cells, oslJ_frz, oslA_frz, dropQ, hkn, hac, hha, Bool.not_true, Enc.S_nid, Enc.S_frz, osl_len, osl_fits, hg, hw, job_new, oslJ_app]; rfl) ?_
  refine ⟨_, rfl, ?_⟩
  (simp (disch := with_unfolding_all rfl) only [upd_app, Nat.reduceEqDiff, ↓reduceIte, fresh_tup, freshL, fresh_agg, fresh_int, fresh_bool, fresh_str, List.take_succ_cons, List.take_zero, List.drop_succ_cons, List.drop_zero, start_app, List.getD_cons_zero, List.getD_cons_succ, slJ1_fresh, oslA_fresh, if_false, reduceCtorEq, hor, Bool.false_eq_true])
  rfl

end Go.Gi
