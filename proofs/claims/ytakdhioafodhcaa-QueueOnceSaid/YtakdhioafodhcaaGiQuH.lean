/- Queues: Land, Next. -/
import Derived.Test.YtakdhioafodhcaaGiQuG
set_option linter.unusedVariables false
set_option linter.unusedSimpArgs false
namespace Go.Gi
open Go Go.Proofs

/-- The jobs, of which so many have landed. -/
def landed (l : List Job) (i : Nat) : List Job := (l.take i).map landJ ++ l.drop i
theorem landed_len (l : List Job) (i : Nat) : (landed l i).length = l.length := by
  simp only [landed, List.length_append, List.length_map, List.length_take, List.length_drop]; omega
theorem landed_get {l : List Job} {i : Nat} {j : Job} (h : l[i]? = some j) : (landed l i)[i]? = some j := by
  have hi := (List.getElem?_eq_some_iff.1 h).1
  rw [landed, List.getElem?_append_right (by simp; omega), List.getElem?_drop, ← h]
  congr 1
  simp only [List.length_map, List.length_take]
  omega
theorem landed_step {l : List Job} {i : Nat} {j : Job} (h : l[i]? = some j) : (landed l i).set i (landJ j) = landed l (i + 1) := by
  obtain ⟨hi, he⟩ := List.getElem?_eq_some_iff.1 h
  have hl : ((l.take i).map landJ).length = i := by simp; omega
  rw [landed, landed, List.set_append_right _ _ (by omega), hl, Nat.sub_self, List.drop_eq_getElem_cons hi, List.set_cons_zero, List.take_add_one, h, List.map_append, List.append_assoc]
  rfl
theorem landed_all (l : List Job) : landed l l.length = l.map landJ := by simp [landed]
theorem landed_zero (l : List Job) : landed l 0 = l := by simp [landed]

theorem slJn_frz {hp : HP} {id n lo : Nat} {l : List Job} {ex : Bool} (h : hp[id]? = some (some (.row 42 (encJ.cs l)))) (hn : l.length = n) : fresh hp (.sl id 0 n 10 lo ex) = some (encJ.S l) := by
  subst hn; exact encJ.sl_fresh h

theorem pLand (q : Que) (hq : Fits q) : PCF Try.prog 55 [.agg q.c] (.agg q.land.c) := by
  have hx : NoIdL [.agg q.c] := nidL_ok (by rw [nidL, queN]; rfl)
  refine pcf_of hx ((calls_e hmG T4_ok comp55 (by decide) (by simp) (K := fun r' hp' => fresh hp' r' = some (.agg q.land.c)) ?_).mono fun _ _ => fresh_ok)
  have hcl := T4_clone hq
  have hjl := hq.j
  simp only [most] at hjl
  by_cases h0 : q.jobs.length = 0
  · have hj0 := List.eq_nil_of_length_eq_zero h0
    have he : q.land = q := by
      unfold Que.land
      rw [hj0, List.map_nil, ← hj0]
    rw [he]
    refine vcE.step (by simp (disch := first | assumption | omega | with_unfolding_all rfl) only [exC, exOps, exOp, evE, evsE, putE, wantedE, Nat.reduceEqDiff, ↓reduceIte, ROp.run, same, binA, intA, strA, eqA, indexSA, byteA, unA, bounds3, Option.map_some, Option.map_none, dec_true, dec_false, Int.toNat_natCast, Int.natCast_nonneg, beq_self_eq_true, List.append_nil, beq_iff_eq, reduceCtorEq, List.getD_cons_zero, List.getD_cons_succ, loadA, rowA, pickA, bslA, storeA_eq, decide_true, flatA, List.length_cons, List.length_nil, Nat.reduceAdd, List.flatMap_cons, List.flatMap_nil, BEq.rfl, List.cons_append, List.nil_append, if_pos, if_neg, ordered, List.getElem?_cons_zero, List.getElem?_cons_succ, frzL, nidL, frz_func, frz_agg, frz_tup, frz_iface, fresh_func, fresh_agg, fresh_tup, fresh_iface, frz_ptr, frz_sl, fresh_sl, Cls.isFree, Cls.makes, callCls, chain, cond_true, tz, ty, faddrA, allocA, over, List.take_succ_cons, List.take_zero, List.drop_succ_cons, List.drop_zero, List.drop_nil, List.set_cons_zero, List.set_cons_succ, Nat.reduceLeDiff, and_self, Que.c_len, Act.c_len, Job.c_len, boxA_eq, ↓pickQ, ↓pickA5, queL_frz, queL_nid, actL_frz, actL_nid, jobL_frz, jobL_nid, hcl, cloneV, cloneH, ↓overQ, osl_one, osl_notTup, osl_cells, oslJ_frz, oslA_frz, dropQ]; rfl) (vcE.step (by simp (disch := first | assumption | omega | with_unfolding_all rfl) only [exC, exOps, exOp, evE, evsE, putE, wantedE, Nat.reduceEqDiff, ↓reduceIte, ROp.run, same, binA, intA, strA, eqA, indexSA, byteA, unA, bounds3, Option.map_some, Option.map_none, dec_true, dec_false, Int.toNat_natCast, Int.natCast_nonneg, beq_self_eq_true, List.append_nil, beq_iff_eq, reduceCtorEq, List.getD_cons_zero, List.getD_cons_succ, loadA, rowA, pickA, bslA, storeA_eq, decide_true, flatA, List.length_cons, List.length_nil, Nat.reduceAdd, List.flatMap_cons, List.flatMap_nil, BEq.rfl, List.cons_append, List.nil_append, if_pos, if_neg, ordered, List.getElem?_cons_zero, List.getElem?_cons_succ, frzL, nidL, frz_func, frz_agg, frz_tup, frz_iface, fresh_func, fresh_agg, fresh_tup, fresh_iface, frz_ptr, frz_sl, fresh_sl, Cls.isFree, Cls.makes, callCls, chain, cond_true, tz, ty, faddrA, allocA, over, List.take_succ_cons, List.take_zero, List.drop_succ_cons, List.drop_zero, List.drop_nil, List.set_cons_zero, List.set_cons_succ, Nat.reduceLeDiff, and_self, Que.c_len, Act.c_len, Job.c_len, boxA_eq, ↓pickQ, ↓pickA5, queL_frz, queL_nid, actL_frz, actL_nid, jobL_frz, jobL_nid, hcl, cloneV, cloneH, ↓overQ, osl_one, osl_notTup, osl_cells, oslJ_frz, oslA_frz, dropQ]; rfl) (vcE.then (fun e tm hp => e = .normal ∧ tm 1 = .ptr 0 0 ∧ tm 2 = .ptr 1 0 ∧ hp = [some (.row 29 [osl 5 q.jobs.length 10, .int .i64 q.next, .int .i64 q.now, osl 7 q.failed.length 5, osl 9 q.settled.length 5, .bool q.resync]), some (.row 29 [.nils, .int .i64 0, .int .i64 0, .nils, .nils, .bool false]), none, none, none, orow q.jobs.length 42 (encJ.cs q.jobs), none, orow q.failed.length 23 (encA.cs q.failed), none, orow q.settled.length 23 (encA.cs q.settled)]) ?_ ?_))
    · refine vcE.step (by simp (disch := first | assumption | omega | with_unfolding_all rfl) only [exC, exOps, exOp, evE, evsE, putE, wantedE, Nat.reduceEqDiff, ↓reduceIte, ROp.run, same, binA, intA, strA, eqA, indexSA, byteA, unA, bounds3, Option.map_some, Option.map_none, dec_true, dec_false, Int.toNat_natCast, Int.natCast_nonneg, beq_self_eq_true, List.append_nil, beq_iff_eq, reduceCtorEq, List.getD_cons_zero, List.getD_cons_succ, loadA, rowA, pickA, bslA, storeA_eq, decide_true, flatA, List.length_cons, List.length_nil, Nat.reduceAdd, List.flatMap_cons, List.flatMap_nil, BEq.rfl, List.cons_append, List.nil_append, if_pos, if_neg, ordered, List.getElem?_cons_zero, List.getElem?_cons_succ, frzL, nidL, frz_func, frz_agg, frz_tup, frz_iface, fresh_func, fresh_agg, fresh_tup, fresh_iface, frz_ptr, frz_sl, fresh_sl, Cls.isFree, Cls.makes, callCls, chain, cond_true, tz, ty, faddrA, allocA, over, List.take_succ_cons, List.take_zero, List.drop_succ_cons, List.drop_zero, List.drop_nil, List.set_cons_zero, List.set_cons_succ, Nat.reduceLeDiff, and_self, Que.c_len, Act.c_len, Job.c_len, boxA_eq, ↓pickQ, ↓pickA5, queL_frz, queL_nid, actL_frz, actL_nid, jobL_frz, jobL_nid, hcl, cloneV, cloneH, ↓overQ, osl_one, osl_notTup, osl_cells, oslJ_frz, oslA_frz, dropQ, osl_len, osl_fits]; rfl) (vcE.block (vcE.count (by intro l tm hp h; simp at h) (fun i tm hp' => hp' = _ ∧ tm 1 = .ptr 0 0 ∧ tm 2 = .ptr 1 0 ∧ tm 9 = .int .i64 q.jobs.length ∧ tm 10 = .int .i64 i) 0 ⟨rfl, rfl, rfl, rfl, rfl⟩ (by intro i tm hp hi; omega) ?_))
      rintro tm hp ⟨rfl, t1, t2, t9, t10⟩
      refine vcE.ex (by simp (disch := first | assumption | omega | with_unfolding_all rfl) only [exC, exOps, exOp, evE, evsE, putE, wantedE, Nat.reduceEqDiff, ↓reduceIte, ROp.run, same, binA, intA, strA, eqA, indexSA, byteA, unA, bounds3, Option.map_some, Option.map_none, dec_true, dec_false, Int.toNat_natCast, Int.natCast_nonneg, beq_self_eq_true, List.append_nil, beq_iff_eq, reduceCtorEq, List.getD_cons_zero, List.getD_cons_succ, loadA, rowA, pickA, bslA, storeA_eq, decide_true, flatA, List.length_cons, List.length_nil, Nat.reduceAdd, List.flatMap_cons, List.flatMap_nil, BEq.rfl, List.cons_append, List.nil_append, if_pos, if_neg, ordered, List.getElem?_cons_zero, List.getElem?_cons_succ, frzL, nidL, frz_func, frz_agg, frz_tup, frz_iface, fresh_func, fresh_agg, fresh_tup, fresh_iface, frz_ptr, frz_sl, fresh_sl, Cls.isFree, Cls.makes, callCls, chain, cond_true, tz, ty, faddrA, allocA, over, List.take_succ_cons, List.take_zero, List.drop_succ_cons, List.drop_zero, List.drop_nil, List.set_cons_zero, List.set_cons_succ, Nat.reduceLeDiff, and_self, Que.c_len, Act.c_len, Job.c_len, boxA_eq, ↓pickQ, ↓pickA5, queL_frz, queL_nid, actL_frz, actL_nid, jobL_frz, jobL_nid, hcl, cloneV, cloneH, ↓overQ, osl_one, osl_notTup, osl_cells, oslJ_frz, oslA_frz, dropQ, t9, t10]; rfl) ?_
      exact ⟨rfl, t1, t2, rfl⟩
    · rintro e tm hp ⟨rfl, t1, t2, rfl⟩
      refine vcE.ex (by simp (disch := first | assumption | omega | with_unfolding_all rfl) only [exC, exOps, exOp, evE, evsE, putE, wantedE, Nat.reduceEqDiff, ↓reduceIte, ROp.run, same, binA, intA, strA, eqA, indexSA, byteA, unA, bounds3, Option.map_some, Option.map_none, dec_true, dec_false, Int.toNat_natCast, Int.natCast_nonneg, beq_self_eq_true, List.append_nil, beq_iff_eq, reduceCtorEq, List.getD_cons_zero, List.getD_cons_succ, loadA, rowA, pickA, bslA, storeA_eq, decide_true, flatA, List.length_cons, List.length_nil, Nat.reduceAdd, List.flatMap_cons, List.flatMap_nil, BEq.rfl, List.cons_append, List.nil_append, if_pos, if_neg, ordered, List.getElem?_cons_zero, List.getElem?_cons_succ, frzL, nidL, frz_func, frz_agg, frz_tup, frz_iface, fresh_func, fresh_agg, fresh_tup, fresh_iface, frz_ptr, frz_sl, fresh_sl, Cls.isFree, Cls.makes, callCls, chain, cond_true, tz, ty, faddrA, allocA, over, List.take_succ_cons, List.take_zero, List.drop_succ_cons, List.drop_zero, List.drop_nil, List.set_cons_zero, List.set_cons_succ, Nat.reduceLeDiff, and_self, Que.c_len, Act.c_len, Job.c_len, boxA_eq, ↓pickQ, ↓pickA5, queL_frz, queL_nid, actL_frz, actL_nid, jobL_frz, jobL_nid, hcl, cloneV, cloneH, ↓overQ, osl_one, osl_notTup, osl_cells, oslJ_frz, oslA_frz, dropQ, t1, t2]; rfl) ?_
      refine ⟨_, by simp only [resE, resEL, resE1, upd_app, Nat.reduceEqDiff, ↓reduceIte, t2]; rfl, ?_⟩
      (simp (disch := first | assumption | with_unfolding_all rfl) only [upd_app, Nat.reduceEqDiff, ↓reduceIte, fresh_tup, freshL, fresh_agg, fresh_int, fresh_bool, fresh_str, List.take_succ_cons, List.take_zero, List.drop_succ_cons, List.drop_zero, start_app, List.getD_cons_zero, List.getD_cons_succ, oslJ_fresh, oslA_fresh, t2])
      rfl
  · have hso : ∀ id, osl id q.jobs.length 10 = .sl id 0 q.jobs.length 10 q.jobs.length false := fun id => osl_pos (by omega)
    have hro : orow q.jobs.length 42 (encJ.cs q.jobs) = some (.row 42 (encJ.cs q.jobs)) := orow_pos (by omega)
    refine vcE.step (by simp (disch := first | assumption | omega | with_unfolding_all rfl) only [exC, exOps, exOp, evE, evsE, putE, wantedE, Nat.reduceEqDiff, ↓reduceIte, ROp.run, same, binA, intA, strA, eqA, indexSA, byteA, unA, bounds3, Option.map_some, Option.map_none, dec_true, dec_false, Int.toNat_natCast, Int.natCast_nonneg, beq_self_eq_true, List.append_nil, beq_iff_eq, reduceCtorEq, List.getD_cons_zero, List.getD_cons_succ, loadA, rowA, pickA, bslA, storeA_eq, decide_true, flatA, List.length_cons, List.length_nil, Nat.reduceAdd, List.flatMap_cons, List.flatMap_nil, BEq.rfl, List.cons_append, List.nil_append, if_pos, if_neg, ordered, List.getElem?_cons_zero, List.getElem?_cons_succ, frzL, nidL, frz_func, frz_agg, frz_tup, frz_iface, fresh_func, fresh_agg, fresh_tup, fresh_iface, frz_ptr, frz_sl, fresh_sl, Cls.isFree, Cls.makes, callCls, chain, cond_true, tz, ty, faddrA, allocA, over, List.take_succ_cons, List.take_zero, List.drop_succ_cons, List.drop_zero, List.drop_nil, List.set_cons_zero, List.set_cons_succ, Nat.reduceLeDiff, and_self, Que.c_len, Act.c_len, Job.c_len, boxA_eq, ↓pickQ, ↓pickA5, queL_frz, queL_nid, actL_frz, actL_nid, jobL_frz, jobL_nid, hcl, cloneV, cloneH, ↓overQ, osl_one, osl_notTup, osl_cells, oslJ_frz, oslA_frz, dropQ]; rfl) (vcE.step (by simp (disch := first | assumption | omega | with_unfolding_all rfl) only [exC, exOps, exOp, evE, evsE, putE, wantedE, Nat.reduceEqDiff, ↓reduceIte, ROp.run, same, binA, intA, strA, eqA, indexSA, byteA, unA, bounds3, Option.map_some, Option.map_none, dec_true, dec_false, Int.toNat_natCast, Int.natCast_nonneg, beq_self_eq_true, List.append_nil, beq_iff_eq, reduceCtorEq, List.getD_cons_zero, List.getD_cons_succ, loadA, rowA, pickA, bslA, storeA_eq, decide_true, flatA, List.length_cons, List.length_nil, Nat.reduceAdd, List.flatMap_cons, List.flatMap_nil, BEq.rfl, List.cons_append, List.nil_append, if_pos, if_neg, ordered, List.getElem?_cons_zero, List.getElem?_cons_succ, frzL, nidL, frz_func, frz_agg, frz_tup, frz_iface, fresh_func, fresh_agg, fresh_tup, fresh_iface, frz_ptr, frz_sl, fresh_sl, Cls.isFree, Cls.makes, callCls, chain, cond_true, tz, ty, faddrA, allocA, over, List.take_succ_cons, List.take_zero, List.drop_succ_cons, List.drop_zero, List.drop_nil, List.set_cons_zero, List.set_cons_succ, Nat.reduceLeDiff, and_self, Que.c_len, Act.c_len, Job.c_len, boxA_eq, ↓pickQ, ↓pickA5, queL_frz, queL_nid, actL_frz, actL_nid, jobL_frz, jobL_nid, hcl, cloneV, cloneH, ↓overQ, osl_one, osl_notTup, osl_cells, oslJ_frz, oslA_frz, dropQ]; rfl) (vcE.then (fun e tm hp => e = .normal ∧ tm 1 = .ptr 0 0 ∧ tm 2 = .ptr 1 0 ∧ hp = [some (.row 29 [.sl 5 0 q.jobs.length 10 q.jobs.length false, .int .i64 q.next, .int .i64 q.now, osl 7 q.failed.length 5, osl 9 q.settled.length 5, .bool q.resync]), some (.row 29 [.nils, .int .i64 0, .int .i64 0, .nils, .nils, .bool false]), none, none, none, some (.row 42 (encJ.cs (q.jobs.map landJ))), none, orow q.failed.length 23 (encA.cs q.failed), none, orow q.settled.length 23 (encA.cs q.settled)]) ?_ ?_))
    · refine vcE.step (by simp (disch := first | assumption | omega | with_unfolding_all rfl) only [exC, exOps, exOp, evE, evsE, putE, wantedE, Nat.reduceEqDiff, ↓reduceIte, ROp.run, same, binA, intA, strA, eqA, indexSA, byteA, unA, bounds3, Option.map_some, Option.map_none, dec_true, dec_false, Int.toNat_natCast, Int.natCast_nonneg, beq_self_eq_true, List.append_nil, beq_iff_eq, reduceCtorEq, List.getD_cons_zero, List.getD_cons_succ, loadA, rowA, pickA, bslA, storeA_eq, decide_true, flatA, List.length_cons, List.length_nil, Nat.reduceAdd, List.flatMap_cons, List.flatMap_nil, BEq.rfl, List.cons_append, List.nil_append, if_pos, if_neg, ordered, List.getElem?_cons_zero, List.getElem?_cons_succ, frzL, nidL, frz_func, frz_agg, frz_tup, frz_iface, fresh_func, fresh_agg, fresh_tup, fresh_iface, frz_ptr, frz_sl, fresh_sl, Cls.isFree, Cls.makes, callCls, chain, cond_true, tz, ty, faddrA, allocA, over, List.take_succ_cons, List.take_zero, List.drop_succ_cons, List.drop_zero, List.drop_nil, List.set_cons_zero, List.set_cons_succ, Nat.reduceLeDiff, and_self, Que.c_len, Act.c_len, Job.c_len, boxA_eq, ↓pickQ, ↓pickA5, queL_frz, queL_nid, actL_frz, actL_nid, jobL_frz, jobL_nid, hcl, cloneV, cloneH, ↓overQ, osl_one, osl_notTup, osl_cells, oslJ_frz, oslA_frz, dropQ, hso, hro]; rfl) (vcE.block (vcE.count (by intro l tm hp h; simp at h) (fun i tm hp' => tm 1 = .ptr 0 0 ∧ tm 2 = .ptr 1 0 ∧ tm 9 = .int .i64 q.jobs.length ∧ tm 10 = .int .i64 i ∧ hp' = [some (.row 29 [.sl 5 0 q.jobs.length 10 q.jobs.length false, .int .i64 q.next, .int .i64 q.now, osl 7 q.failed.length 5, osl 9 q.settled.length 5, .bool q.resync]), some (.row 29 [.nils, .int .i64 0, .int .i64 0, .nils, .nils, .bool false]), none, none, none, some (.row 42 (encJ.cs (landed q.jobs i))), none, orow q.failed.length 23 (encA.cs q.failed), none, orow q.settled.length 23 (encA.cs q.settled)]) q.jobs.length ⟨rfl, rfl, rfl, rfl, ?_⟩ ?_ ?_))
      · rw [landed_zero]
      · rintro i tm hp hi ⟨t1, t2, t9, t10, rfl⟩
        obtain ⟨j, hj⟩ : ∃ j, q.jobs[i]? = some j := ⟨_, List.getElem?_eq_getElem hi⟩
        have hlj := landed_get hj
        have hst := landed_step hj
        have hll := landed_len q.jobs i
        generalize landed q.jobs i = L at *
        have hni : nilchkA (.ptr 5 (i * 10)) = some (.ptr 5 (i * 10)) := rfl
        obtain ⟨x, a, f, d, n, m⟩ := j
        have hs2 : (L.set i ⟨x, a, false, d, n, m⟩)[i]? = some ⟨x, a, false, d, n, m⟩ := by
          rw [List.getElem?_set]; simp; omega
        cases d
        all_goals refine vcE.ex (by simp (disch := first | assumption | omega | with_unfolding_all rfl) only [exC, exOps, exOp, evE, evsE, putE, wantedE, Nat.reduceEqDiff, ↓reduceIte, ROp.run, same, binA, intA, strA, eqA, indexSA, byteA, unA, bounds3, Option.map_some, Option.map_none, dec_true, dec_false, Int.toNat_natCast, Int.natCast_nonneg, beq_self_eq_true, List.append_nil, beq_iff_eq, reduceCtorEq, List.getD_cons_zero, List.getD_cons_succ, loadA, rowA, pickA, bslA, storeA_eq, decide_true, flatA, List.length_cons, List.length_nil, Nat.reduceAdd, List.flatMap_cons, List.flatMap_nil, BEq.rfl, List.cons_append, List.nil_append, if_pos, if_neg, ordered, List.getElem?_cons_zero, List.getElem?_cons_succ, frzL, nidL, frz_func, frz_agg, frz_tup, frz_iface, fresh_func, fresh_agg, fresh_tup, fresh_iface, frz_ptr, frz_sl, fresh_sl, Cls.isFree, Cls.makes, callCls, chain, cond_true, tz, ty, faddrA, allocA, over, List.take_succ_cons, List.take_zero, List.drop_succ_cons, List.drop_zero, List.drop_nil, List.set_cons_zero, List.set_cons_succ, Nat.reduceLeDiff, and_self, Que.c_len, Act.c_len, Job.c_len, boxA_eq, ↓pickQ, ↓pickA5, queL_frz, queL_nid, actL_frz, actL_nid, jobL_frz, jobL_nid, hcl, cloneV, cloneH, ↓overQ, osl_one, osl_notTup, osl_cells, oslJ_frz, oslA_frz, dropQ, t1, t2, t9, t10, ↓iaddrJ, hni, ↓slJ_part, ↓slJ_fly, ↓slJ_doubt, Job.c, List.set_set]; rfl) ?_
        all_goals refine ⟨?_, ?_, ?_, ?_, ?_⟩
        all_goals first | (rw [← hst]; simp only [landJ, Bool.false_or, Bool.true_or]; done) | (simp only [upd_app, Nat.reduceEqDiff, ↓reduceIte, t1, t2, t9]; done) | (simp only [upd_app, Nat.reduceEqDiff, ↓reduceIte]; rfl)
      · rintro tm hp ⟨t1, t2, t9, t10, rfl⟩
        refine vcE.ex (by simp (disch := first | assumption | omega | with_unfolding_all rfl) only [exC, exOps, exOp, evE, evsE, putE, wantedE, Nat.reduceEqDiff, ↓reduceIte, ROp.run, same, binA, intA, strA, eqA, indexSA, byteA, unA, bounds3, Option.map_some, Option.map_none, dec_true, dec_false, Int.toNat_natCast, Int.natCast_nonneg, beq_self_eq_true, List.append_nil, beq_iff_eq, reduceCtorEq, List.getD_cons_zero, List.getD_cons_succ, loadA, rowA, pickA, bslA, storeA_eq, decide_true, flatA, List.length_cons, List.length_nil, Nat.reduceAdd, List.flatMap_cons, List.flatMap_nil, BEq.rfl, List.cons_append, List.nil_append, if_pos, if_neg, ordered, List.getElem?_cons_zero, List.getElem?_cons_succ, frzL, nidL, frz_func, frz_agg, frz_tup, frz_iface, fresh_func, fresh_agg, fresh_tup, fresh_iface, frz_ptr, frz_sl, fresh_sl, Cls.isFree, Cls.makes, callCls, chain, cond_true, tz, ty, faddrA, allocA, over, List.take_succ_cons, List.take_zero, List.drop_succ_cons, List.drop_zero, List.drop_nil, List.set_cons_zero, List.set_cons_succ, Nat.reduceLeDiff, and_self, Que.c_len, Act.c_len, Job.c_len, boxA_eq, ↓pickQ, ↓pickA5, queL_frz, queL_nid, actL_frz, actL_nid, jobL_frz, jobL_nid, hcl, cloneV, cloneH, ↓overQ, osl_one, osl_notTup, osl_cells, oslJ_frz, oslA_frz, dropQ, t9, t10]; rfl) ?_
        refine ⟨rfl, ?_, ?_, by rw [landed_all]⟩
        · simp only [upd_app, Nat.reduceEqDiff, ↓reduceIte, t1]
        · simp only [upd_app, Nat.reduceEqDiff, ↓reduceIte, t2]
    · rintro e tm hp ⟨rfl, t1, t2, rfl⟩
      refine vcE.ex (by simp (disch := first | assumption | omega | with_unfolding_all rfl) only [exC, exOps, exOp, evE, evsE, putE, wantedE, Nat.reduceEqDiff, ↓reduceIte, ROp.run, same, binA, intA, strA, eqA, indexSA, byteA, unA, bounds3, Option.map_some, Option.map_none, dec_true, dec_false, Int.toNat_natCast, Int.natCast_nonneg, beq_self_eq_true, List.append_nil, beq_iff_eq, reduceCtorEq, List.getD_cons_zero, List.getD_cons_succ, loadA, rowA, pickA, bslA, storeA_eq, decide_true, flatA, List.length_cons, List.length_nil, Nat.reduceAdd, List.flatMap_cons, List.flatMap_nil, BEq.rfl, List.cons_append, List.nil_append, if_pos, if_neg, ordered, List.getElem?_cons_zero, List.getElem?_cons_succ, frzL, nidL, frz_func, frz_agg, frz_tup, frz_iface, fresh_func, fresh_agg, fresh_tup, fresh_iface, frz_ptr, frz_sl, fresh_sl, Cls.isFree, Cls.makes, callCls, chain, cond_true, tz, ty, faddrA, allocA, over, List.take_succ_cons, List.take_zero, List.drop_succ_cons, List.drop_zero, List.drop_nil, List.set_cons_zero, List.set_cons_succ, Nat.reduceLeDiff, and_self, Que.c_len, Act.c_len, Job.c_len, boxA_eq, ↓pickQ, ↓pickA5, queL_frz, queL_nid, actL_frz, actL_nid, jobL_frz, jobL_nid, hcl, cloneV, cloneH, ↓overQ, osl_one, osl_notTup, osl_cells, oslJ_frz, oslA_frz, dropQ, t1, t2]; rfl) ?_
      refine ⟨_, by simp only [resE, resEL, resE1, upd_app, Nat.reduceEqDiff, ↓reduceIte, t2]; rfl, ?_⟩
      have hlm : (q.jobs.map landJ).length = q.jobs.length := List.length_map _
      (simp (disch := first | assumption | with_unfolding_all rfl) only [upd_app, Nat.reduceEqDiff, ↓reduceIte, fresh_tup, freshL, fresh_agg, fresh_int, fresh_bool, fresh_str, List.take_succ_cons, List.take_zero, List.drop_succ_cons, List.drop_zero, start_app, List.getD_cons_zero, List.getD_cons_succ, ↓slJn_frz, oslA_fresh, t2])
      rfl

/-! ### Contains; Next -/
theorem pInI {l : List Int} (h : l.length ≤ most) (n : Int) : PCF Try.prog 68 [encI.S l, .int .i64 n] (.bool (decide (n ∈ l))) := by
  rw [← any_mem, ← idx_ge]
  exact contains_pc hmG T5_ok comp68 (encI.S_nid l) rfl (encI.S_frz _ l) rfl (T5_idxI h n)
theorem pInA {l : List Act} (h : l.length ≤ most) (a : Act) : PCF Try.prog 113 [encA.S l, .agg a.c] (.bool (decide (a ∈ l))) := by
  rw [← any_mem, ← idx_ge]
  exact containsS_pc hmG T5_ok elA rfl comp113 (encA.S_nid l) (fun hp => encA.S_frz hp l) (T5_idxA h a)
theorem pNext1 (j : Job) : PCF Try.prog 66 [.agg j.c] (.bool (j.doubt && !j.fly)) := by
  refine pcf_e hmG T5_ok comp66 (by decide) (by simp) (nidL_ok rfl) ?_
  obtain ⟨x, a, f, d, n, m⟩ := j
  cases d
  all_goals refine vcE.ex (by simp (disch := first | assumption | omega) only [exC, exOps, exOp, evE, evsE, putE, wantedE, Nat.reduceEqDiff, ↓reduceIte, ROp.run, same, binA, intA, strA, eqA, indexSA, byteA, unA, bounds3, Option.map_some, Option.map_none, dec_true, dec_false, Int.toNat_natCast, Int.natCast_nonneg, beq_self_eq_true, List.append_nil, beq_iff_eq, reduceCtorEq, List.getD_cons_zero, List.getD_cons_succ, loadA, rowA, pickA, bslA, storeA_eq, decide_true, flatA, List.length_cons, List.length_nil, Nat.reduceAdd, List.flatMap_cons, List.flatMap_nil, BEq.rfl, List.cons_append, List.nil_append, if_pos, if_neg, ordered, List.getElem?_cons_zero, List.getElem?_cons_succ, frzL, nidL, frz_func, frz_agg, frz_tup, frz_iface, fresh_func, fresh_agg, fresh_tup, fresh_iface, frz_ptr, frz_sl, fresh_sl, Cls.isFree, Cls.makes, callCls, chain, cond_true, tz, ty, faddrA, allocA, over, List.take_succ_cons, List.take_zero, List.drop_succ_cons, List.drop_zero, List.drop_nil, List.set_cons_zero, List.set_cons_succ, Nat.reduceLeDiff, and_self, Job.c]; rfl) ?_
  all_goals exact ⟨_, rfl, rfl⟩
theorem pNext2 (q : Que) (j : Job) : PCF Try.prog 67 [.agg j.c, .fptr q.c 0] (.bool (j.waits && decide (j.at_ ≤ q.now))) := by
  refine pcf_e hmG T5_ok comp67 (by decide) (by simp) (nidL_ok (by simp only [nidL, jobN, nid_fptr, queL_nid, Bool.and_self])) ?_
  have hw := (T5_ne rfl).trans (T4_waits j)
  simp only [Job.c] at hw
  cases hj : j.waits <;> rw [hj] at hw
  all_goals refine vcE.ex (by simp (disch := first | assumption | omega) only [exC, exOps, exOp, evE, evsE, putE, wantedE, Nat.reduceEqDiff, ↓reduceIte, ROp.run, same, binA, intA, strA, eqA, indexSA, byteA, unA, bounds3, Option.map_some, Option.map_none, dec_true, dec_false, Int.toNat_natCast, Int.natCast_nonneg, beq_self_eq_true, List.append_nil, beq_iff_eq, reduceCtorEq, List.getD_cons_zero, List.getD_cons_succ, loadA, rowA, pickA, bslA, storeA_eq, decide_true, flatA, List.length_cons, List.length_nil, Nat.reduceAdd, List.flatMap_cons, List.flatMap_nil, BEq.rfl, List.cons_append, List.nil_append, if_pos, if_neg, ordered, List.getElem?_cons_zero, List.getElem?_cons_succ, frzL, nidL, frz_func, frz_agg, frz_tup, frz_iface, fresh_func, fresh_agg, fresh_tup, fresh_iface, frz_ptr, frz_sl, fresh_sl, Cls.isFree, Cls.makes, callCls, chain, cond_true, tz, ty, faddrA, allocA, over, List.take_succ_cons, List.take_zero, List.drop_succ_cons, List.drop_zero, List.drop_nil, List.set_cons_zero, List.set_cons_succ, Nat.reduceLeDiff, and_self, Job.c, Que.c, hw]; rfl) ?_
  all_goals exact ⟨_, rfl, rfl⟩
abbrev R1.fq : R1 Que := ⟨fun q => .fptr q.c 0, fun | .fptr cs 0 => R1.que.un (.agg cs) | _ => none, fun q => R1.que.un_v q, fun x q h => by
  split at h
  · have := R1.que.un_some _ _ h
    cases this
    rfl
  · cases h⟩
def T6 : Tab := (((T5.addO 68 (.cons (.S encI) (.cons .i64 .nil)) fun p => if p.1.length ≤ most then some (.rd true (.bool (decide (p.2.1 ∈ p.1)))) else none).addO
  113 (.cons (.S encA) (.cons .act .nil)) fun p => if p.1.length ≤ most then some (.rd true (.bool (decide (p.2.1 ∈ p.1)))) else none).addR
  66 (.cons .job .nil) fun p => .rd true (.bool (p.1.doubt && !p.1.fly))).addR 67 (.cons .job (.cons .fq .nil)) fun p => .rd true (.bool (p.1.waits && decide (p.1.at_ ≤ p.2.1.now)))
theorem T6_ok : TabOk Try.prog T6 := by
  refine TabOk.addR (TabOk.addR (TabOk.addO (TabOk.addO T5_ok ?_) ?_) ?_) ?_
  · intro p r h
    split at h
    · rename_i hv; cases h; exact pInI hv _
    · cases h
  · intro p r h
    split at h
    · rename_i hv; cases h; exact pInA hv _
    · cases h
  · exact fun p => pNext1 p.1
  · exact fun p => pNext2 p.2.1 p.1
theorem T6_next2 (q : Que) (j : Job) : T6 67 [.agg j.c, .fptr q.c 0] = some (.rd true (.bool (j.waits && decide (j.at_ ≤ q.now)))) := Tab.addR_self _ _ (.cons .job (.cons .fq .nil)) _ (j, q, ())
theorem T6_next1 (j : Job) : T6 66 [.agg j.c] = some (.rd true (.bool (j.doubt && !j.fly))) := rfl
theorem T6_inA {l : List Act} (h : l.length ≤ most) (a : Act) : T6 113 [encA.S l, .agg a.c] = some (.rd true (.bool (decide (a ∈ l)))) := by
  rw [T6, Tab.addR_ne _ _ _ _ rfl, Tab.addR_ne _ _ _ _ rfl]
  exact (Tab.addO_self _ _ (.cons (.S encA) (.cons .act .nil)) _ (l, a, ())).trans (if_pos h)
theorem T6_inI {l : List Int} (h : l.length ≤ most) (n : Int) : T6 68 [encI.S l, .int .i64 n] = some (.rd true (.bool (decide (n ∈ l)))) := by
  rw [T6, Tab.addR_ne _ _ _ _ rfl, Tab.addR_ne _ _ _ _ rfl, Tab.addO_ne _ _ _ _ rfl]
  exact (Tab.addO_self _ _ (.cons (.S encI) (.cons .i64 .nil)) _ (l, n, ())).trans (if_pos h)
theorem T6_ne {g : FuncId} {xs : List AV} (h : (Nat.beq g 68 || Nat.beq g 113 || Nat.beq g 66 || Nat.beq g 67) = false) : T6 g xs = T5 g xs := by
  simp only [Bool.or_eq_false_iff] at h
  obtain ⟨⟨⟨h1, h2⟩, h3⟩, h4⟩ := h
  rw [T6, Tab.addR_ne _ _ _ _ h4, Tab.addR_ne _ _ _ _ h3, Tab.addO_ne _ _ _ _ h2, Tab.addO_ne _ _ _ _ h1]
theorem T6_T4 {g : FuncId} {xs : List AV} (h : (Nat.beq g 68 || Nat.beq g 113 || Nat.beq g 66 || Nat.beq g 67) = false) (h2 : (Nat.beq g 72 || Nat.beq g 73 || Nat.beq g 110 || Nat.beq g 130) = false) : T6 g xs = T4 g xs := (T6_ne h).trans (T5_ne h2)

def Job.zc : List AV := [.int .i64 0, .int .i64 0, .str [], .str [], .str [], .str [], .bool false, .bool false, .int .i64 0, .int .i64 0]
/-- The inner loop of Next: the first job that a function picks, if it isn't barred. -/
theorem next_inner {hint : Nat → Nat} {q : Que} {barred : List Int} (hq : Fits q) (hbl : barred.length ≤ most) {f : FuncId} {caps caps' : List AV} {pr : Job → Bool} (hfr : ∀ hp : HP, hp[0]? = some (some (.row 29 q.c)) → frzL hp caps = some caps') (hT : ∀ j : Job, T6 f (.agg j.c :: caps') = some (.rd true (.bool (pr j))))
    {tm : Env} {hp : HP} (h0 : hp[0]? = some (some (.row 29 q.c))) (h1 : hp[1]? = some (some (.row 42 Job.zc))) (t1 : tm 1 = encI.S barred) (t2 : tm 2 = .ptr 0 0) (t4 : tm 4 = .ptr 1 0) (t7 : tm 7 = .func f caps) :
    vcE Try.prog hint T6 40 (IC.seq (IC.reg r20_6) (IC.block 2 (IC.loop b20_0))) tm hp fun e tm' hp' => (∃ j, q.jobs.find? (fun j => pr j && !decide (j.txn ∈ barred)) = some j ∧ e = .ret ∧ hp'[1]? = some (some (.row 42 j.c)) ∧ tm' 4 = .ptr 1 0 ∧ tm' 5 = .bool true) ∨
      (q.jobs.find? (fun j => pr j && !decide (j.txn ∈ barred)) = none ∧ e = .normal ∧ hp'[0]? = some (some (.row 29 q.c)) ∧ hp'[1]? = some (some (.row 42 Job.zc)) ∧ (∀ k, k < 6 → tm' k = tm k) ∧ tm' 15 = tm 15 ∧ tm' 16 = tm 16) := by
  have hjl := hq.j
  simp only [most] at hjl
  refine vcE.step (by simp (disch := first | assumption | omega) only [exC, exOps, exOp, evE, evsE, putE, wantedE, Nat.reduceEqDiff, ↓reduceIte, ROp.run, same, binA, intA, strA, eqA, indexSA, byteA, unA, bounds3, Option.map_some, Option.map_none, dec_true, dec_false, Int.toNat_natCast, Int.natCast_nonneg, beq_self_eq_true, List.append_nil, beq_iff_eq, reduceCtorEq, List.getD_cons_zero, List.getD_cons_succ, loadA, rowA, pickA, bslA, storeA_eq, decide_true, flatA, List.length_cons, List.length_nil, Nat.reduceAdd, List.flatMap_cons, List.flatMap_nil, BEq.rfl, List.cons_append, List.nil_append, if_pos, if_neg, ordered, List.getElem?_cons_zero, List.getElem?_cons_succ, frzL, nidL, frz_func, frz_agg, frz_tup, frz_iface, fresh_func, fresh_agg, fresh_tup, fresh_iface, frz_ptr, frz_sl, fresh_sl, Cls.isFree, Cls.makes, callCls, chain, cond_true, tz, ty, faddrA, allocA, over, List.take_succ_cons, List.take_zero, List.drop_succ_cons, List.drop_zero, List.drop_nil, List.set_cons_zero, List.set_cons_succ, Nat.reduceLeDiff, and_self, t2, h0, Que.c]; rfl) (vcE.block (vcE.count (by intro l tm hp h; simp at h)
    (fun i tm' hp' => hp'[0]? = some (some (.row 29 q.c)) ∧ hp'[1]? = some (some (.row 42 Job.zc)) ∧ (∀ k, k < 6 → tm' k = tm k) ∧ tm' 15 = tm 15 ∧ tm' 16 = tm 16 ∧ tm' 7 = .func f caps ∧ tm' 20 = encJ.S q.jobs ∧ tm' 21 = .int .i64 q.jobs.length ∧ tm' 22 = .int .i64 i ∧ ∀ j ∈ q.jobs.take i, (pr j && !decide (j.txn ∈ barred)) = false) q.jobs.length ⟨h0, h1, ?_, ?_, ?_, ?_, ?_, ?_, ?_, by simp⟩ ?_ ?_))
  · intro k hk
    simp only [upd_app]
    repeat rw [if_neg (by omega)]
  · simp only [upd_app, Nat.reduceEqDiff, ↓reduceIte]
  · simp only [upd_app, Nat.reduceEqDiff, ↓reduceIte]
  · simp only [upd_app, Nat.reduceEqDiff, ↓reduceIte, t7]
  · simp only [upd_app, Nat.reduceEqDiff, ↓reduceIte]
  · simp only [upd_app, Nat.reduceEqDiff, ↓reduceIte]
  · simp only [upd_app, Nat.reduceEqDiff, ↓reduceIte]; rfl
  · rintro i tm' hp' hi ⟨k0, k1, kk, k15, k16, k7, k20, k21, k22, hno⟩
    obtain ⟨j, hj⟩ : ∃ j, q.jobs[i]? = some j := ⟨_, List.getElem?_eq_getElem hi⟩
    have hpick : pickA (some 10) (encJ.cs q.jobs) (i * 10) = some (.agg j.c) := encJ.pick hj
    have hi1 : iaddrA 10 (encJ.S q.jobs) (.int .i64 i) = some (.fptr (encJ.cs q.jobs) (i * 10)) := encJ.S_iaddr hi
    have hst : storeA (hp' ++ [some (.row 42 [.int .i64 0, .int .i64 0, .str [], .str [], .str [], .str [], .bool false, .bool false, .int .i64 0, .int .i64 0])]) 10 (.ptr hp'.length 0) (.agg j.c) = some (hp' ++ [some (.row 42 j.c)]) := alloc_store (E := encJ) rfl
    have hl10 : loadA (hp' ++ [some (.row 42 j.c)]) (some 10) (.ptr hp'.length 0) = some (.agg j.c) := by
      simp [loadA, rowA, pickA, Job.c]
    have hl0 : loadA (hp' ++ [some (.row 42 j.c)]) none (.ptr hp'.length 0) = some (.int .i64 j.txn) := by
      simp [loadA, rowA, pickA, Job.c, oneA]
    have hfr' := hfr (hp' ++ [some (.row 42 j.c)]) (app_get k0)
    have hTj := hT j
    have hin := T6_inI hbl j.txn
    have e1 := (kk 1 (by omega)).trans t1
    have e4 := (kk 4 (by omega)).trans t4
    have hjn := jobL_nid j
    have hjf := jobL_frz j
    cases hpr : pr j <;> rw [hpr] at hTj
    · refine vcE.ex (by simp (disch := first | assumption | omega) only [exC, exOps, exOp, evE, evsE, putE, wantedE, Nat.reduceEqDiff, ↓reduceIte, ROp.run, same, binA, intA, strA, eqA, indexSA, byteA, unA, bounds3, Option.map_some, Option.map_none, dec_true, dec_false, Int.toNat_natCast, Int.natCast_nonneg, beq_self_eq_true, List.append_nil, beq_iff_eq, reduceCtorEq, List.getD_cons_zero, List.getD_cons_succ, loadA, rowA, pickA, bslA, storeA_eq, decide_true, flatA, List.length_cons, List.length_nil, Nat.reduceAdd, List.flatMap_cons, List.flatMap_nil, BEq.rfl, List.cons_append, List.nil_append, if_pos, if_neg, ordered, List.getElem?_cons_zero, List.getElem?_cons_succ, frzL, nidL, frz_func, frz_agg, frz_tup, frz_iface, fresh_func, fresh_agg, fresh_tup, fresh_iface, frz_ptr, frz_sl, fresh_sl, Cls.isFree, Cls.makes, callCls, chain, cond_true, tz, ty, faddrA, allocA, over, List.take_succ_cons, List.take_zero, List.drop_succ_cons, List.drop_zero, List.drop_nil, List.set_cons_zero, List.set_cons_succ, Nat.reduceLeDiff, and_self, k7, k20, k21, k22, allocA, hi1, ↓hpick, ↓hst, ↓hl10, hfr', hTj, Bool.true_or, hjf]; rfl) ?_
      refine ⟨app_get k0, app_get k1, ?_, ?_, ?_, ?_, ?_, ?_, ?_, ?_⟩
      · intro k hk
        simp only [upd_app]
        repeat rw [if_neg (by omega)]
        exact kk k hk
      · simp only [upd_app, Nat.reduceEqDiff, ↓reduceIte, k15]
      · simp only [upd_app, Nat.reduceEqDiff, ↓reduceIte, k16]
      · simp only [upd_app, Nat.reduceEqDiff, ↓reduceIte, k7]
      · simp only [upd_app, Nat.reduceEqDiff, ↓reduceIte, k20]
      · simp only [upd_app, Nat.reduceEqDiff, ↓reduceIte, k21]
      · simp only [upd_app, Nat.reduceEqDiff, ↓reduceIte]; rfl
      · intro x hx
        rw [List.take_add_one, hj] at hx
        rcases List.mem_append.1 hx with hx | hx
        · exact hno x hx
        · simp only [Option.toList_some, List.mem_singleton] at hx
          rw [hx, hpr]; rfl
    · by_cases hb : j.txn ∈ barred
      · rw [decide_eq_true hb] at hin
        refine vcE.ex (by simp (disch := first | assumption | omega) only [exC, exOps, exOp, evE, evsE, putE, wantedE, Nat.reduceEqDiff, ↓reduceIte, ROp.run, same, binA, intA, strA, eqA, indexSA, byteA, unA, bounds3, Option.map_some, Option.map_none, dec_true, dec_false, Int.toNat_natCast, Int.natCast_nonneg, beq_self_eq_true, List.append_nil, beq_iff_eq, reduceCtorEq, List.getD_cons_zero, List.getD_cons_succ, loadA, rowA, pickA, bslA, storeA_eq, decide_true, flatA, List.length_cons, List.length_nil, Nat.reduceAdd, List.flatMap_cons, List.flatMap_nil, BEq.rfl, List.cons_append, List.nil_append, if_pos, if_neg, ordered, List.getElem?_cons_zero, List.getElem?_cons_succ, frzL, nidL, frz_func, frz_agg, frz_tup, frz_iface, fresh_func, fresh_agg, fresh_tup, fresh_iface, frz_ptr, frz_sl, fresh_sl, Cls.isFree, Cls.makes, callCls, chain, cond_true, tz, ty, faddrA, allocA, over, List.take_succ_cons, List.take_zero, List.drop_succ_cons, List.drop_zero, List.drop_nil, List.set_cons_zero, List.set_cons_succ, Nat.reduceLeDiff, and_self, k7, k20, k21, k22, e1, allocA, hi1, ↓hpick, ↓hst, ↓hl10, ↓hl0, hfr', hTj, hin, Bool.true_or, hjf, Enc.S_frz, Enc.S_nid, Bool.not_true]; rfl) ?_
        refine ⟨app_get k0, app_get k1, ?_, ?_, ?_, ?_, ?_, ?_, ?_, ?_⟩
        · intro k hk
          simp only [upd_app]
          repeat rw [if_neg (by omega)]
          exact kk k hk
        · simp only [upd_app, Nat.reduceEqDiff, ↓reduceIte, k15]
        · simp only [upd_app, Nat.reduceEqDiff, ↓reduceIte, k16]
        · simp only [upd_app, Nat.reduceEqDiff, ↓reduceIte, k7]
        · simp only [upd_app, Nat.reduceEqDiff, ↓reduceIte, k20]
        · simp only [upd_app, Nat.reduceEqDiff, ↓reduceIte, k21]
        · simp only [upd_app, Nat.reduceEqDiff, ↓reduceIte]; rfl
        · intro x hx
          rw [List.take_add_one, hj] at hx
          rcases List.mem_append.1 hx with hx | hx
          · exact hno x hx
          · simp only [Option.toList_some, List.mem_singleton] at hx
            rw [hx, hpr, decide_eq_true hb]; rfl
      · rw [decide_eq_false hb] at hin
        have hs1 : storeA (hp' ++ [some (.row 42 j.c)]) 10 (.ptr 1 0) (.agg j.c) = some (List.set (hp' ++ [some (Blk.row 42 j.c)]) 1 (some (Blk.row 42 j.c))) := by
          simp only [storeA_eq, app_get k1]
          rfl
        have hfd : q.jobs.find? (fun j => pr j && !decide (j.txn ∈ barred)) = some j := by
          rw [List.find?_eq_some_iff_getElem]
          refine ⟨by rw [hpr, decide_eq_false hb]; rfl, i, hi, (List.getElem?_eq_some_iff.1 hj).2, fun k hk => ?_⟩
          have := hno (q.jobs[k]'(by omega)) (List.mem_iff_getElem.2 ⟨k, by rw [List.length_take]; omega, by rw [List.getElem_take]⟩)
          simp only [this, Bool.not_false]
        refine vcE.ex (by simp (disch := first | assumption | omega) only [exC, exOps, exOp, evE, evsE, putE, wantedE, Nat.reduceEqDiff, ↓reduceIte, ROp.run, same, binA, intA, strA, eqA, indexSA, byteA, unA, bounds3, Option.map_some, Option.map_none, dec_true, dec_false, Int.toNat_natCast, Int.natCast_nonneg, beq_self_eq_true, List.append_nil, beq_iff_eq, reduceCtorEq, List.getD_cons_zero, List.getD_cons_succ, loadA, rowA, pickA, bslA, storeA_eq, decide_true, flatA, List.length_cons, List.length_nil, Nat.reduceAdd, List.flatMap_cons, List.flatMap_nil, BEq.rfl, List.cons_append, List.nil_append, if_pos, if_neg, ordered, List.getElem?_cons_zero, List.getElem?_cons_succ, frzL, nidL, frz_func, frz_agg, frz_tup, frz_iface, fresh_func, fresh_agg, fresh_tup, fresh_iface, frz_ptr, frz_sl, fresh_sl, Cls.isFree, Cls.makes, callCls, chain, cond_true, tz, ty, faddrA, allocA, over, List.take_succ_cons, List.take_zero, List.drop_succ_cons, List.drop_zero, List.drop_nil, List.set_cons_zero, List.set_cons_succ, Nat.reduceLeDiff, and_self, k7, k20, k21, k22, e1, e4, allocA, hi1, ↓hpick, ↓hst, ↓hl10, ↓hl0, hfr', hTj, hin, Bool.true_or, hjf, Enc.S_frz, Enc.S_nid, Bool.not_false, ↓hs1]; rfl) ?_
        refine .inl ⟨j, hfd, rfl, set_get (app_get k1), ?_, ?_⟩
        · simp only [upd_app, Nat.reduceEqDiff, ↓reduceIte, e4]
        · simp only [upd_app, Nat.reduceEqDiff, ↓reduceIte]
  · rintro tm' hp' ⟨k0, k1, kk, k15, k16, k7, k20, k21, k22, hno⟩
    have hfd : q.jobs.find? (fun j => pr j && !decide (j.txn ∈ barred)) = none := by
      rw [List.find?_eq_none]
      intro x hx
      rw [List.take_length] at hno
      rw [hno x hx]
      simp
    refine vcE.ex (by simp (disch := first | assumption | omega) only [exC, exOps, exOp, evE, evsE, putE, wantedE, Nat.reduceEqDiff, ↓reduceIte, ROp.run, same, binA, intA, strA, eqA, indexSA, byteA, unA, bounds3, Option.map_some, Option.map_none, dec_true, dec_false, Int.toNat_natCast, Int.natCast_nonneg, beq_self_eq_true, List.append_nil, beq_iff_eq, reduceCtorEq, List.getD_cons_zero, List.getD_cons_succ, loadA, rowA, pickA, bslA, storeA_eq, decide_true, flatA, List.length_cons, List.length_nil, Nat.reduceAdd, List.flatMap_cons, List.flatMap_nil, BEq.rfl, List.cons_append, List.nil_append, if_pos, if_neg, ordered, List.getElem?_cons_zero, List.getElem?_cons_succ, frzL, nidL, frz_func, frz_agg, frz_tup, frz_iface, fresh_func, fresh_agg, fresh_tup, fresh_iface, frz_ptr, frz_sl, fresh_sl, Cls.isFree, Cls.makes, callCls, chain, cond_true, tz, ty, faddrA, allocA, over, List.take_succ_cons, List.take_zero, List.drop_succ_cons, List.drop_zero, List.drop_nil, List.set_cons_zero, List.set_cons_succ, Nat.reduceLeDiff, and_self, k21, k22]; rfl) ?_
    refine .inr ⟨hfd, rfl, k0, k1, ?_, ?_, ?_⟩
    · intro k hk
      simp only [upd_app]
      repeat rw [if_neg (by omega)]
      exact kk k hk
    · simp only [upd_app, Nat.reduceEqDiff, ↓reduceIte, k15]
    · simp only [upd_app, Nat.reduceEqDiff, ↓reduceIte, k16]

theorem fill_zero : fillA [(0, 1), (1, 5), (6, 1), (7, 1), (8, 1), (9, 1)] [.int .i64 0, .int .i64 0, .str [], .str [], .str [], .str [], .bool false, .bool false, .int .i64 0, .int .i64 0] (([] : List Nat).zip ([] : List AV)) = some [.int .i64 0, .int .i64 0, .str [], .str [], .str [], .str [], .bool false, .bool false, .int .i64 0, .int .i64 0] := rfl
def pick2 (F1 F2 : Option Job) : Job × Bool := match F1 with
  | some j => (j, true)
  | none => match F2 with
    | some j => (j, true)
    | none => (Job.zero, false)
theorem nxt_eq (q : Que) (barred : List Int) : q.nxt barred = if 4 ≤ flyers q.jobs then (.zero, false)
  else pick2 (q.jobs.find? (fun j => (j.doubt && !j.fly) && !decide (j.txn ∈ barred))) (q.jobs.find? (fun j => (j.waits && decide (j.at_ ≤ q.now)) && !decide (j.txn ∈ barred))) := rfl
theorem cell_fresh {hp : HP} {j : Job} {b : Bool} {tm : Env} (h : hp[1]? = some (some (.row 42 j.c))) (t4 : tm 4 = .ptr 1 0) (t5 : tm 5 = .bool b) : ∃ r, resE [.cell 4 (some 10), .t 5] tm hp = some r ∧ fresh hp r = some (.tup [.agg j.c, .bool b]) := by
  refine ⟨.tup [.agg j.c, .bool b], ?_, rfl⟩
  simp only [resE, resEL, resE1, t4, t5, loadA, rowA, h]
  rfl
theorem pNext (q : Que) (hq : Fits q) (barred : List Int) (hbl : barred.length ≤ most) : PCF Try.prog 20 [.agg q.c, encI.S barred] (.tup [.agg (q.nxt barred).1.c, .bool (q.nxt barred).2]) := by
  have hx : NoIdL [.agg q.c, encI.S barred] := nidL_ok (by simp only [nidL, queN, Enc.S_nid, Bool.and_self])
  refine pcf_of hx ((calls_e hmG T6_ok comp20 (by decide) (by simp) (K := fun r' hp' => fresh hp' r' = some (.tup [.agg (q.nxt barred).1.c, .bool (q.nxt barred).2])) ?_).mono fun _ _ => fresh_ok)
  rw [nxt_eq]
  have hfl : T6 63 [.agg q.c] = _ := (T6_T4 rfl rfl).trans (T4_flying hq)
  have hcl := T4_clone hq
  have hg : ∀ x y : Int, (x ≥ y) = (y ≤ x) := fun _ _ => rfl
  by_cases h4 : 4 ≤ flyers q.jobs
  · rw [if_pos h4]
    refine vcE.ex (by simp (disch := first | assumption | omega | with_unfolding_all rfl) only [exC, exOps, exOp, evE, evsE, putE, wantedE, Nat.reduceEqDiff, ↓reduceIte, ROp.run, same, binA, intA, strA, eqA, indexSA, byteA, unA, bounds3, Option.map_some, Option.map_none, dec_true, dec_false, Int.toNat_natCast, Int.natCast_nonneg, beq_self_eq_true, List.append_nil, beq_iff_eq, reduceCtorEq, List.getD_cons_zero, List.getD_cons_succ, loadA, rowA, pickA, bslA, storeA_eq, decide_true, flatA, List.length_cons, List.length_nil, Nat.reduceAdd, List.flatMap_cons, List.flatMap_nil, BEq.rfl, List.cons_append, List.nil_append, if_pos, if_neg, ordered, List.getElem?_cons_zero, List.getElem?_cons_succ, frzL, nidL, frz_func, frz_agg, frz_tup, frz_iface, fresh_func, fresh_agg, fresh_tup, fresh_iface, frz_ptr, frz_sl, fresh_sl, Cls.isFree, Cls.makes, callCls, chain, cond_true, tz, ty, faddrA, allocA, over, List.take_succ_cons, List.take_zero, List.drop_succ_cons, List.drop_zero, List.drop_nil, List.set_cons_zero, List.set_cons_succ, Nat.reduceLeDiff, and_self, Que.c_len, Act.c_len, Job.c_len, boxA_eq, ↓pickQ, ↓pickA5, queL_frz, queL_nid, actL_frz, actL_nid, jobL_frz, jobL_nid, hcl, cloneV, cloneH, ↓overQ, osl_one, osl_notTup, osl_cells, oslJ_frz, oslA_frz, dropQ, hfl, hg, allocA, fillA]; rfl) ?_
    exact ⟨_, rfl, rfl⟩
  rw [if_neg h4]
  have in1 := fun {hint} {tm : Env} {hp : HP} => next_inner (hint := hint) (tm := tm) (hp := hp) hq hbl (f := 66) (caps := []) (caps' := []) (fun hp _ => rfl) T6_next1
  have in2 := fun {hint} {tm : Env} {hp : HP} => next_inner (hint := hint) (tm := tm) (hp := hp) hq hbl (f := 67) (caps := [.ptr 0 0]) (caps' := [.fptr q.c 0]) (fun hp h => by simp only [frzL, frz_ptr, h, queL_nid, if_true]) (T6_next2 q)
  generalize q.jobs.find? (fun j => (j.doubt && !j.fly) && !decide (j.txn ∈ barred)) = F1 at *
  generalize q.jobs.find? (fun j => (j.waits && decide (j.at_ ≤ q.now)) && !decide (j.txn ∈ barred)) = F2 at *
  generalize hR : pick2 F1 F2 = R
  have hix0 : indexAA 2 1 none (.agg [.func 66 [], .func 67 [.ptr 0 0]]) (.int .i64 ((0 : Nat) : Int)) = some (.func 66 []) := rfl
  have hix1 : indexAA 2 1 none (.agg [.func 66 [], .func 67 [.ptr 0 0]]) (.int .i64 ((1 : Nat) : Int)) = some (.func 67 [.ptr 0 0]) := rfl
  refine vcE.step (by simp (disch := first | assumption | omega | with_unfolding_all rfl) only [exC, exOps, exOp, evE, evsE, putE, wantedE, Nat.reduceEqDiff, ↓reduceIte, ROp.run, same, binA, intA, strA, eqA, indexSA, byteA, unA, bounds3, Option.map_some, Option.map_none, dec_true, dec_false, Int.toNat_natCast, Int.natCast_nonneg, beq_self_eq_true, List.append_nil, beq_iff_eq, reduceCtorEq, List.getD_cons_zero, List.getD_cons_succ, loadA, rowA, pickA, bslA, storeA_eq, decide_true, flatA, List.length_cons, List.length_nil, Nat.reduceAdd, List.flatMap_cons, List.flatMap_nil, BEq.rfl, List.cons_append, List.nil_append, if_pos, if_neg, ordered, List.getElem?_cons_zero, List.getElem?_cons_succ, frzL, nidL, frz_func, frz_agg, frz_tup, frz_iface, fresh_func, fresh_agg, fresh_tup, fresh_iface, frz_ptr, frz_sl, fresh_sl, Cls.isFree, Cls.makes, callCls, chain, cond_true, tz, ty, faddrA, allocA, over, List.take_succ_cons, List.take_zero, List.drop_succ_cons, List.drop_zero, List.drop_nil, List.set_cons_zero, List.set_cons_succ, Nat.reduceLeDiff, and_self, Que.c_len, Act.c_len, Job.c_len, boxA_eq, ↓pickQ, ↓pickA5, queL_frz, queL_nid, actL_frz, actL_nid, jobL_frz, jobL_nid, hcl, cloneV, cloneH, ↓overQ, osl_one, osl_notTup, osl_cells, oslJ_frz, oslA_frz, dropQ, allocA]; rfl) (vcE.step (by simp (disch := first | assumption | omega | with_unfolding_all rfl) only [exC, exOps, exOp, evE, evsE, putE, wantedE, Nat.reduceEqDiff, ↓reduceIte, ROp.run, same, binA, intA, strA, eqA, indexSA, byteA, unA, bounds3, Option.map_some, Option.map_none, dec_true, dec_false, Int.toNat_natCast, Int.natCast_nonneg, beq_self_eq_true, List.append_nil, beq_iff_eq, reduceCtorEq, List.getD_cons_zero, List.getD_cons_succ, loadA, rowA, pickA, bslA, storeA_eq, decide_true, flatA, List.length_cons, List.length_nil, Nat.reduceAdd, List.flatMap_cons, List.flatMap_nil, BEq.rfl, List.cons_append, List.nil_append, if_pos, if_neg, ordered, List.getElem?_cons_zero, List.getElem?_cons_succ, frzL, nidL, frz_func, frz_agg, frz_tup, frz_iface, fresh_func, fresh_agg, fresh_tup, fresh_iface, frz_ptr, frz_sl, fresh_sl, Cls.isFree, Cls.makes, callCls, chain, cond_true, tz, ty, faddrA, allocA, over, List.take_succ_cons, List.take_zero, List.drop_succ_cons, List.drop_zero, List.drop_nil, List.set_cons_zero, List.set_cons_succ, Nat.reduceLeDiff, and_self, Que.c_len, Act.c_len, Job.c_len, boxA_eq, ↓pickQ, ↓pickA5, queL_frz, queL_nid, actL_frz, actL_nid, jobL_frz, jobL_nid, hcl, cloneV, cloneH, ↓overQ, osl_one, osl_notTup, osl_cells, oslJ_frz, oslA_frz, dropQ, hfl, hg]; rfl) (vcE.then (fun e tm hp => (e = .ret ∧ ∃ j, R = (j, true) ∧ hp[1]? = some (some (.row 42 (Job.c j))) ∧ tm 4 = .ptr 1 0 ∧ tm 5 = .bool true) ∨ (e = .normal ∧ R = (Job.zero, false) ∧ hp[1]? = some (some (.row 42 Job.zc)) ∧ tm 4 = .ptr 1 0)) ?_ ?_))
  · refine vcE.step (by simp (disch := first | assumption | omega) only [exC, exOps, exOp, evE, evsE, putE, wantedE, Nat.reduceEqDiff, ↓reduceIte, ROp.run, same, binA, intA, strA, eqA, indexSA, byteA, unA, bounds3, Option.map_some, Option.map_none, dec_true, dec_false, Int.toNat_natCast, Int.natCast_nonneg, beq_self_eq_true, List.append_nil, beq_iff_eq, reduceCtorEq, List.getD_cons_zero, List.getD_cons_succ, loadA, rowA, pickA, bslA, storeA_eq, decide_true, flatA, List.length_cons, List.length_nil, Nat.reduceAdd, List.flatMap_cons, List.flatMap_nil, BEq.rfl, List.cons_append, List.nil_append, if_pos, if_neg, ordered, List.getElem?_cons_zero, List.getElem?_cons_succ, frzL, nidL, frz_func, frz_agg, frz_tup, frz_iface, fresh_func, fresh_agg, fresh_tup, fresh_iface, frz_ptr, frz_sl, fresh_sl, Cls.isFree, Cls.makes, callCls, chain, cond_true, tz, ty, faddrA, allocA, over, List.take_succ_cons, List.take_zero, List.drop_succ_cons, List.drop_zero, List.drop_nil, List.set_cons_zero, List.set_cons_succ, Nat.reduceLeDiff, and_self, fillA]; rfl) (vcE.block (vcE.count (by intro l tm hp h; simp at h)
      (fun k tm hp => hp[0]? = some (some (.row 29 q.c)) ∧ hp[1]? = some (some (.row 42 Job.zc)) ∧ tm 1 = encI.S barred ∧ tm 2 = .ptr 0 0 ∧ tm 4 = .ptr 1 0 ∧ tm 15 = .agg [.func 66 [], .func 67 [.ptr 0 0]] ∧ tm 16 = .int .i64 (k : Int) ∧ (1 ≤ k → F1 = none) ∧ (2 ≤ k → F2 = none)) 2 ⟨rfl, rfl, rfl, rfl, rfl, rfl, rfl, by omega, by omega⟩ ?_ ?_))
    · rintro k tm hp hk ⟨k0, k1, t1, t2, t4, t15, t16, hn1, hn2⟩
      obtain rfl | rfl : k = 0 ∨ k = 1 := by omega
      · refine vcE.step (by simp (disch := first | assumption | omega) only [exC, exOps, exOp, evE, evsE, putE, wantedE, Nat.reduceEqDiff, ↓reduceIte, ROp.run, same, binA, intA, strA, eqA, indexSA, byteA, unA, bounds3, Option.map_some, Option.map_none, dec_true, dec_false, Int.toNat_natCast, Int.natCast_nonneg, beq_self_eq_true, List.append_nil, beq_iff_eq, reduceCtorEq, List.getD_cons_zero, List.getD_cons_succ, loadA, rowA, pickA, bslA, storeA_eq, decide_true, flatA, List.length_cons, List.length_nil, Nat.reduceAdd, List.flatMap_cons, List.flatMap_nil, BEq.rfl, List.cons_append, List.nil_append, if_pos, if_neg, ordered, List.getElem?_cons_zero, List.getElem?_cons_succ, frzL, nidL, frz_func, frz_agg, frz_tup, frz_iface, fresh_func, fresh_agg, fresh_tup, fresh_iface, frz_ptr, frz_sl, fresh_sl, Cls.isFree, Cls.makes, callCls, chain, cond_true, tz, ty, faddrA, allocA, over, List.take_succ_cons, List.take_zero, List.drop_succ_cons, List.drop_zero, List.drop_nil, List.set_cons_zero, List.set_cons_succ, Nat.reduceLeDiff, and_self, t16]; rfl) (vcE.step (by simp (disch := first | assumption | omega) only [exC, exOps, exOp, evE, evsE, putE, wantedE, Nat.reduceEqDiff, ↓reduceIte, ROp.run, same, binA, intA, strA, eqA, indexSA, byteA, unA, bounds3, Option.map_some, Option.map_none, dec_true, dec_false, Int.toNat_natCast, Int.natCast_nonneg, beq_self_eq_true, List.append_nil, beq_iff_eq, reduceCtorEq, List.getD_cons_zero, List.getD_cons_succ, loadA, rowA, pickA, bslA, storeA_eq, decide_true, flatA, List.length_cons, List.length_nil, Nat.reduceAdd, List.flatMap_cons, List.flatMap_nil, BEq.rfl, List.cons_append, List.nil_append, if_pos, if_neg, ordered, List.getElem?_cons_zero, List.getElem?_cons_succ, frzL, nidL, frz_func, frz_agg, frz_tup, frz_iface, fresh_func, fresh_agg, fresh_tup, fresh_iface, frz_ptr, frz_sl, fresh_sl, Cls.isFree, Cls.makes, callCls, chain, cond_true, tz, ty, faddrA, allocA, over, List.take_succ_cons, List.take_zero, List.drop_succ_cons, List.drop_zero, List.drop_nil, List.set_cons_zero, List.set_cons_succ, Nat.reduceLeDiff, and_self]; rfl) (vcE.seq (vcE.block (vcE.step (by simp (disch := first | assumption | omega) only [exC, exOps, exOp, evE, evsE, putE, wantedE, Nat.reduceEqDiff, ↓reduceIte, ROp.run, same, binA, intA, strA, eqA, indexSA, byteA, unA, bounds3, Option.map_some, Option.map_none, dec_true, dec_false, Int.toNat_natCast, Int.natCast_nonneg, beq_self_eq_true, List.append_nil, beq_iff_eq, reduceCtorEq, List.getD_cons_zero, List.getD_cons_succ, loadA, rowA, pickA, bslA, storeA_eq, decide_true, flatA, List.length_cons, List.length_nil, Nat.reduceAdd, List.flatMap_cons, List.flatMap_nil, BEq.rfl, List.cons_append, List.nil_append, if_pos, if_neg, ordered, List.getElem?_cons_zero, List.getElem?_cons_succ, frzL, nidL, frz_func, frz_agg, frz_tup, frz_iface, fresh_func, fresh_agg, fresh_tup, fresh_iface, frz_ptr, frz_sl, fresh_sl, Cls.isFree, Cls.makes, callCls, chain, cond_true, tz, ty, faddrA, allocA, over, List.take_succ_cons, List.take_zero, List.drop_succ_cons, List.drop_zero, List.drop_nil, List.set_cons_zero, List.set_cons_succ, Nat.reduceLeDiff, and_self, t15, t16, ↓hix0]; rfl) ((in1 k0 k1 ?_ ?_ ?_ ?_).mono ?_)))))
        · simp only [upd_app, Nat.reduceEqDiff, ↓reduceIte, t1]
        · simp only [upd_app, Nat.reduceEqDiff, ↓reduceIte, t2]
        · simp only [upd_app, Nat.reduceEqDiff, ↓reduceIte, t4]
        · simp only [upd_app, Nat.reduceEqDiff, ↓reduceIte]
        · rintro e tm' hp' (⟨j, hj, rfl, h1, h2, h3⟩ | ⟨hj, rfl, h1, h2, h3, h4, h5⟩)
          · refine .inl ⟨rfl, j, ?_, h1, h2, h3⟩
            rw [← hR, hj]; rfl
          · have e16 := h5
            simp only [upd_app, Nat.reduceEqDiff, ↓reduceIte, t16] at e16
            have e15 := h4
            simp only [upd_app, Nat.reduceEqDiff, ↓reduceIte, t15] at e15
            refine vcE.ex (by simp (disch := first | assumption | omega) only [exC, exOps, exOp, evE, evsE, putE, wantedE, Nat.reduceEqDiff, ↓reduceIte, ROp.run, same, binA, intA, strA, eqA, indexSA, byteA, unA, bounds3, Option.map_some, Option.map_none, dec_true, dec_false, Int.toNat_natCast, Int.natCast_nonneg, beq_self_eq_true, List.append_nil, beq_iff_eq, reduceCtorEq, List.getD_cons_zero, List.getD_cons_succ, loadA, rowA, pickA, bslA, storeA_eq, decide_true, flatA, List.length_cons, List.length_nil, Nat.reduceAdd, List.flatMap_cons, List.flatMap_nil, BEq.rfl, List.cons_append, List.nil_append, if_pos, if_neg, ordered, List.getElem?_cons_zero, List.getElem?_cons_succ, frzL, nidL, frz_func, frz_agg, frz_tup, frz_iface, fresh_func, fresh_agg, fresh_tup, fresh_iface, frz_ptr, frz_sl, fresh_sl, Cls.isFree, Cls.makes, callCls, chain, cond_true, tz, ty, faddrA, allocA, over, List.take_succ_cons, List.take_zero, List.drop_succ_cons, List.drop_zero, List.drop_nil, List.set_cons_zero, List.set_cons_succ, Nat.reduceLeDiff, and_self, e16]; rfl) ?_
            refine ⟨h1, h2, ?_, ?_, ?_, ?_, ?_, fun _ => hj, by omega⟩
            · have := h3 1 (by omega)
              simp only [upd_app, Nat.reduceEqDiff, ↓reduceIte, t1] at this ⊢
              exact this
            · have := h3 2 (by omega)
              simp only [upd_app, Nat.reduceEqDiff, ↓reduceIte, t2] at this ⊢
              exact this
            · have := h3 4 (by omega)
              simp only [upd_app, Nat.reduceEqDiff, ↓reduceIte, t4] at this ⊢
              exact this
            · simp only [upd_app, Nat.reduceEqDiff, ↓reduceIte, e15]
            · simp only [upd_app, Nat.reduceEqDiff, ↓reduceIte]; rfl
      · refine vcE.step (by simp (disch := first | assumption | omega) only [exC, exOps, exOp, evE, evsE, putE, wantedE, Nat.reduceEqDiff, ↓reduceIte, ROp.run, same, binA, intA, strA, eqA, indexSA, byteA, unA, bounds3, Option.map_some, Option.map_none, dec_true, dec_false, Int.toNat_natCast, Int.natCast_nonneg, beq_self_eq_true, List.append_nil, beq_iff_eq, reduceCtorEq, List.getD_cons_zero, List.getD_cons_succ, loadA, rowA, pickA, bslA, storeA_eq, decide_true, flatA, List.length_cons, List.length_nil, Nat.reduceAdd, List.flatMap_cons, List.flatMap_nil, BEq.rfl, List.cons_append, List.nil_append, if_pos, if_neg, ordered, List.getElem?_cons_zero, List.getElem?_cons_succ, frzL, nidL, frz_func, frz_agg, frz_tup, frz_iface, fresh_func, fresh_agg, fresh_tup, fresh_iface, frz_ptr, frz_sl, fresh_sl, Cls.isFree, Cls.makes, callCls, chain, cond_true, tz, ty, faddrA, allocA, over, List.take_succ_cons, List.take_zero, List.drop_succ_cons, List.drop_zero, List.drop_nil, List.set_cons_zero, List.set_cons_succ, Nat.reduceLeDiff, and_self, t16]; rfl) (vcE.step (by simp (disch := first | assumption | omega) only [exC, exOps, exOp, evE, evsE, putE, wantedE, Nat.reduceEqDiff, ↓reduceIte, ROp.run, same, binA, intA, strA, eqA, indexSA, byteA, unA, bounds3, Option.map_some, Option.map_none, dec_true, dec_false, Int.toNat_natCast, Int.natCast_nonneg, beq_self_eq_true, List.append_nil, beq_iff_eq, reduceCtorEq, List.getD_cons_zero, List.getD_cons_succ, loadA, rowA, pickA, bslA, storeA_eq, decide_true, flatA, List.length_cons, List.length_nil, Nat.reduceAdd, List.flatMap_cons, List.flatMap_nil, BEq.rfl, List.cons_append, List.nil_append, if_pos, if_neg, ordered, List.getElem?_cons_zero, List.getElem?_cons_succ, frzL, nidL, frz_func, frz_agg, frz_tup, frz_iface, fresh_func, fresh_agg, fresh_tup, fresh_iface, frz_ptr, frz_sl, fresh_sl, Cls.isFree, Cls.makes, callCls, chain, cond_true, tz, ty, faddrA, allocA, over, List.take_succ_cons, List.take_zero, List.drop_succ_cons, List.drop_zero, List.drop_nil, List.set_cons_zero, List.set_cons_succ, Nat.reduceLeDiff, and_self]; rfl) (vcE.seq (vcE.block (vcE.step (by simp (disch := first | assumption | omega) only [exC, exOps, exOp, evE, evsE, putE, wantedE, Nat.reduceEqDiff, ↓reduceIte, ROp.run, same, binA, intA, strA, eqA, indexSA, byteA, unA, bounds3, Option.map_some, Option.map_none, dec_true, dec_false, Int.toNat_natCast, Int.natCast_nonneg, beq_self_eq_true, List.append_nil, beq_iff_eq, reduceCtorEq, List.getD_cons_zero, List.getD_cons_succ, loadA, rowA, pickA, bslA, storeA_eq, decide_true, flatA, List.length_cons, List.length_nil, Nat.reduceAdd, List.flatMap_cons, List.flatMap_nil, BEq.rfl, List.cons_append, List.nil_append, if_pos, if_neg, ordered, List.getElem?_cons_zero, List.getElem?_cons_succ, frzL, nidL, frz_func, frz_agg, frz_tup, frz_iface, fresh_func, fresh_agg, fresh_tup, fresh_iface, frz_ptr, frz_sl, fresh_sl, Cls.isFree, Cls.makes, callCls, chain, cond_true, tz, ty, faddrA, allocA, over, List.take_succ_cons, List.take_zero, List.drop_succ_cons, List.drop_zero, List.drop_nil, List.set_cons_zero, List.set_cons_succ, Nat.reduceLeDiff, and_self, t15, t16, ↓hix1]; rfl) ((in2 k0 k1 ?_ ?_ ?_ ?_).mono ?_)))))
        · simp only [upd_app, Nat.reduceEqDiff, ↓reduceIte, t1]
        · simp only [upd_app, Nat.reduceEqDiff, ↓reduceIte, t2]
        · simp only [upd_app, Nat.reduceEqDiff, ↓reduceIte, t4]
        · simp only [upd_app, Nat.reduceEqDiff, ↓reduceIte]
        · rintro e tm' hp' (⟨j, hj, rfl, h1, h2, h3⟩ | ⟨hj, rfl, h1, h2, h3, h4, h5⟩)
          · refine .inl ⟨rfl, j, ?_, h1, h2, h3⟩
            rw [← hR, hn1 (by omega), hj]; rfl
          · have e16 := h5
            simp only [upd_app, Nat.reduceEqDiff, ↓reduceIte, t16] at e16
            have e15 := h4
            simp only [upd_app, Nat.reduceEqDiff, ↓reduceIte, t15] at e15
            refine vcE.ex (by simp (disch := first | assumption | omega) only [exC, exOps, exOp, evE, evsE, putE, wantedE, Nat.reduceEqDiff, ↓reduceIte, ROp.run, same, binA, intA, strA, eqA, indexSA, byteA, unA, bounds3, Option.map_some, Option.map_none, dec_true, dec_false, Int.toNat_natCast, Int.natCast_nonneg, beq_self_eq_true, List.append_nil, beq_iff_eq, reduceCtorEq, List.getD_cons_zero, List.getD_cons_succ, loadA, rowA, pickA, bslA, storeA_eq, decide_true, flatA, List.length_cons, List.length_nil, Nat.reduceAdd, List.flatMap_cons, List.flatMap_nil, BEq.rfl, List.cons_append, List.nil_append, if_pos, if_neg, ordered, List.getElem?_cons_zero, List.getElem?_cons_succ, frzL, nidL, frz_func, frz_agg, frz_tup, frz_iface, fresh_func, fresh_agg, fresh_tup, fresh_iface, frz_ptr, frz_sl, fresh_sl, Cls.isFree, Cls.makes, callCls, chain, cond_true, tz, ty, faddrA, allocA, over, List.take_succ_cons, List.take_zero, List.drop_succ_cons, List.drop_zero, List.drop_nil, List.set_cons_zero, List.set_cons_succ, Nat.reduceLeDiff, and_self, e16]; rfl) ?_
            refine ⟨h1, h2, ?_, ?_, ?_, ?_, ?_, fun _ => hn1 (by omega), fun _ => hj⟩
            · have := h3 1 (by omega)
              simp only [upd_app, Nat.reduceEqDiff, ↓reduceIte, t1] at this ⊢
              exact this
            · have := h3 2 (by omega)
              simp only [upd_app, Nat.reduceEqDiff, ↓reduceIte, t2] at this ⊢
              exact this
            · have := h3 4 (by omega)
              simp only [upd_app, Nat.reduceEqDiff, ↓reduceIte, t4] at this ⊢
              exact this
            · simp only [upd_app, Nat.reduceEqDiff, ↓reduceIte, e15]
            · simp only [upd_app, Nat.reduceEqDiff, ↓reduceIte]; rfl
    · rintro tm hp ⟨k0, k1, t1, t2, t4, t15, t16, hn1, hn2⟩
      refine vcE.ex (by simp (disch := first | assumption | omega) only [exC, exOps, exOp, evE, evsE, putE, wantedE, Nat.reduceEqDiff, ↓reduceIte, ROp.run, same, binA, intA, strA, eqA, indexSA, byteA, unA, bounds3, Option.map_some, Option.map_none, dec_true, dec_false, Int.toNat_natCast, Int.natCast_nonneg, beq_self_eq_true, List.append_nil, beq_iff_eq, reduceCtorEq, List.getD_cons_zero, List.getD_cons_succ, loadA, rowA, pickA, bslA, storeA_eq, decide_true, flatA, List.length_cons, List.length_nil, Nat.reduceAdd, List.flatMap_cons, List.flatMap_nil, BEq.rfl, List.cons_append, List.nil_append, if_pos, if_neg, ordered, List.getElem?_cons_zero, List.getElem?_cons_succ, frzL, nidL, frz_func, frz_agg, frz_tup, frz_iface, fresh_func, fresh_agg, fresh_tup, fresh_iface, frz_ptr, frz_sl, fresh_sl, Cls.isFree, Cls.makes, callCls, chain, cond_true, tz, ty, faddrA, allocA, over, List.take_succ_cons, List.take_zero, List.drop_succ_cons, List.drop_zero, List.drop_nil, List.set_cons_zero, List.set_cons_succ, Nat.reduceLeDiff, and_self, t16]; rfl) ?_
      refine .inr ⟨rfl, ?_, k1, ?_⟩
      · rw [← hR, hn1 (by omega), hn2 (by omega)]; rfl
      · simp only [upd_app, Nat.reduceEqDiff, ↓reduceIte, t4]
  · rintro e tm hp (⟨rfl, j, hr, h1, t4, t5⟩ | ⟨rfl, hr, h1, t4⟩)
    · rw [hr]
      exact cell_fresh h1 t4 t5
    · rw [hr]
      have hs1 : storeA hp 10 (.ptr 1 0) (.agg Job.zc) = some (List.set hp 1 (some (Blk.row 42 Job.zc))) := by
        simp only [storeA_eq, h1]
        rfl
      simp only [Job.zc] at hs1
      refine vcE.ex (by simp (disch := first | assumption | omega) only [exC, exOps, exOp, evE, evsE, putE, wantedE, Nat.reduceEqDiff, ↓reduceIte, ROp.run, same, binA, intA, strA, eqA, indexSA, byteA, unA, bounds3, Option.map_some, Option.map_none, dec_true, dec_false, Int.toNat_natCast, Int.natCast_nonneg, beq_self_eq_true, List.append_nil, beq_iff_eq, reduceCtorEq, List.getD_cons_zero, List.getD_cons_succ, loadA, rowA, pickA, bslA, storeA_eq, decide_true, flatA, List.length_cons, List.length_nil, Nat.reduceAdd, List.flatMap_cons, List.flatMap_nil, BEq.rfl, List.cons_append, List.nil_append, if_pos, if_neg, ordered, List.getElem?_cons_zero, List.getElem?_cons_succ, frzL, nidL, frz_func, frz_agg, frz_tup, frz_iface, fresh_func, fresh_agg, fresh_tup, fresh_iface, frz_ptr, frz_sl, fresh_sl, Cls.isFree, Cls.makes, callCls, chain, cond_true, tz, ty, faddrA, allocA, over, List.take_succ_cons, List.take_zero, List.drop_succ_cons, List.drop_zero, List.drop_nil, List.set_cons_zero, List.set_cons_succ, Nat.reduceLeDiff, and_self, t4, fill_zero, ↓hs1]; rfl) ?_
      refine cell_fresh (j := Job.zero) (set_get h1) ?_ ?_
      · simp only [upd_app, Nat.reduceEqDiff, ↓reduceIte, t4]
      · simp only [upd_app, Nat.reduceEqDiff, ↓reduceIte]

end Go.Gi
