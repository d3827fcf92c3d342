/- Queues: Find, Same, Land, Next. -/
import Derived.Test.YtakdhioafodhcaaGiQuF
set_option linter.unusedVariables false
set_option linter.unusedSimpArgs false
namespace Go.Gi
open Go Go.Proofs

theorem pFind (q : Que) (hq : Fits q) (t : Int) : PCF Try.prog 35 [.agg q.c, .int .i64 t] (.tup [.agg (q.find t).1.c, .bool (q.find t).2]) := by
  refine pcf_e hmG T4_ok comp35 (by decide) (by simp) (nidL_ok (by rw [nidL, queN]; rfl)) ?_
  have hcl := T4_clone hq
  have hat : T4 61 [.agg [encJ.S q.jobs, .int .i64 q.next, .int .i64 q.now, encA.S q.failed, encA.S q.settled, .bool q.resync], .int .i64 t] = _ := T4_at hq t
  have hg : ∀ x y : Int, (x ≥ y) = (y ≤ x) := fun _ _ => rfl
  rw [idx_place] at hat
  unfold Que.find
  cases hp : place q.jobs t with
  | none =>
    rw [hp] at hat
    refine vcE.ex (by simp (disch := first | assumption | omega | with_unfolding_all rfl) only [exC, exOps, exOp, evE, evsE, putE, wantedE, Nat.reduceEqDiff, ↓reduceIte, ROp.run, same, binA, intA, strA, eqA, indexSA, byteA, unA, bounds3, Option.map_some, Option.map_none, dec_true, dec_false, Int.toNat_natCast, Int.natCast_nonneg, beq_self_eq_true, List.append_nil, beq_iff_eq, reduceCtorEq, List.getD_cons_zero, List.getD_cons_succ, loadA, rowA, pickA, bslA, storeA_eq, decide_true, flatA, List.length_cons, List.length_nil, Nat.reduceAdd, List.flatMap_cons, List.flatMap_nil, BEq.rfl, List.cons_append, List.nil_append, if_pos, if_neg, ordered, List.getElem?_cons_zero, List.getElem?_cons_succ, frzL, nidL, frz_func, frz_agg, frz_tup, frz_iface, fresh_func, fresh_agg, fresh_tup, fresh_iface, frz_ptr, frz_sl, fresh_sl, Cls.isFree, Cls.makes, callCls, chain, cond_true, tz, ty, faddrA, allocA, over, List.take_succ_cons, List.take_zero, List.drop_succ_cons, List.drop_zero, List.drop_nil, List.set_cons_zero, List.set_cons_succ, Nat.reduceLeDiff, and_self, Que.c_len, Act.c_len, Job.c_len, boxA_eq, ↓pickQ, ↓pickA5, queL_frz, queL_nid, actL_frz, actL_nid, jobL_frz, jobL_nid, hcl, cloneV, cloneH, ↓overQ, osl_one, osl_notTup, osl_cells, oslJ_frz, oslA_frz, dropQ, hat, hg, fillA, Que.c, Enc.S_frz, Enc.S_nid]; rfl) ?_
    exact ⟨_, rfl, rfl⟩
  | some i =>
    rw [hp] at hat
    obtain ⟨hi, _, hj⟩ := place_some hp
    simp only
    generalize q.jobs.getD i .zero = j at *
    have hpick : pickA (some 10) (encJ.cs q.jobs) (i * 10) = some (.agg j.c) := encJ.pick hj
    have hi1 : iaddrA 10 (encJ.S q.jobs) (.int .i64 i) = some (.fptr (encJ.cs q.jobs) (i * 10)) := encJ.S_iaddr hi
    refine vcE.ex (by simp (disch := first | assumption | omega | with_unfolding_all rfl) only [exC, exOps, exOp, evE, evsE, putE, wantedE, Nat.reduceEqDiff, ↓reduceIte, ROp.run, same, binA, intA, strA, eqA, indexSA, byteA, unA, bounds3, Option.map_some, Option.map_none, dec_true, dec_false, Int.toNat_natCast, Int.natCast_nonneg, beq_self_eq_true, List.append_nil, beq_iff_eq, reduceCtorEq, List.getD_cons_zero, List.getD_cons_succ, loadA, rowA, pickA, bslA, storeA_eq, decide_true, flatA, List.length_cons, List.length_nil, Nat.reduceAdd, List.flatMap_cons, List.flatMap_nil, BEq.rfl, List.cons_append, List.nil_append, if_pos, if_neg, ordered, List.getElem?_cons_zero, List.getElem?_cons_succ, frzL, nidL, frz_func, frz_agg, frz_tup, frz_iface, fresh_func, fresh_agg, fresh_tup, fresh_iface, frz_ptr, frz_sl, fresh_sl, Cls.isFree, Cls.makes, callCls, chain, cond_true, tz, ty, faddrA, allocA, over, List.take_succ_cons, List.take_zero, List.drop_succ_cons, List.drop_zero, List.drop_nil, List.set_cons_zero, List.set_cons_succ, Nat.reduceLeDiff, and_self, Que.c_len, Act.c_len, Job.c_len, boxA_eq, ↓pickQ, ↓pickA5, queL_frz, queL_nid, actL_frz, actL_nid, jobL_frz, jobL_nid, hcl, cloneV, cloneH, ↓overQ, osl_one, osl_notTup, osl_cells, oslJ_frz, oslA_frz, dropQ, hat, hg, allocA, Que.c, hi1, ↓hpick, Enc.S_frz, Enc.S_nid]; rfl) ?_
    exact ⟨_, rfl, rfl⟩

def T5 : Tab := (((T4.addO 72 (.cons (.S encJ) (.cons (.S encJ) .nil)) fun p => if p.1.length ≤ most ∧ p.2.1.length ≤ most then some (.rd true (.bool (decide (p.1 = p.2.1)))) else none).addO
  73 (.cons (.S encA) (.cons (.S encA) .nil)) fun p => if p.1.length ≤ most ∧ p.2.1.length ≤ most then some (.rd true (.bool (decide (p.1 = p.2.1)))) else none).addO
  110 (.cons (.S encI) (.cons .i64 .nil)) fun p => if p.1.length ≤ most then some (.rd true (.int .i64 (idx (fun a => decide (p.2.1 = a)) p.1))) else none).addO
  130 (.cons (.S encA) (.cons .act .nil)) fun p => if p.1.length ≤ most then some (.rd true (.int .i64 (idx (fun a => decide (p.2.1 = a)) p.1))) else none
theorem T5_ok : TabOk Try.prog T5 := by
  refine TabOk.addO (TabOk.addO (TabOk.addO (TabOk.addO T4_ok ?_) ?_) ?_) ?_
  · intro p r h
    split at h
    · rename_i hv; cases h
      simp only [most] at hv
      exact equal_pc hmG elJ true comp72 (by omega) (by omega)
    · cases h
  · intro p r h
    split at h
    · rename_i hv; cases h
      simp only [most] at hv
      exact equal_pc hmG elA true comp73 (by omega) (by omega)
    · cases h
  · intro p r h
    split at h
    · rename_i hv; cases h
      simp only [most] at hv
      exact index1_pc hmG elI false comp110 (by omega)
    · cases h
  · intro p r h
    split at h
    · rename_i hv; cases h
      simp only [most] at hv
      exact indexS_pc hmG elA 23 true rfl comp130 (by omega)
    · cases h
theorem T5_idxA {l : List Act} (h : l.length ≤ most) (a : Act) : T5 130 [encA.S l, .agg a.c] = some (.rd true (.int .i64 (idx (fun x => decide (a = x)) l))) :=
  (Tab.addO_self _ _ (.cons (.S encA) (.cons .act .nil)) _ (l, a, ())).trans (if_pos h)
theorem T5_idxI {l : List Int} (h : l.length ≤ most) (a : Int) : T5 110 [encI.S l, .int .i64 a] = some (.rd true (.int .i64 (idx (fun x => decide (a = x)) l))) := by
  rw [T5, Tab.addO_ne _ _ _ _ rfl]
  exact (Tab.addO_self _ _ (.cons (.S encI) (.cons .i64 .nil)) _ (l, a, ())).trans (if_pos h)
theorem T5_eqA {l m : List Act} (h : l.length ≤ most) (h2 : m.length ≤ most) : T5 73 [encA.S l, encA.S m] = some (.rd true (.bool (decide (l = m)))) := by
  rw [T5, Tab.addO_ne _ _ _ _ rfl, Tab.addO_ne _ _ _ _ rfl]
  exact (Tab.addO_self _ _ (.cons (.S encA) (.cons (.S encA) .nil)) _ (l, m, ())).trans (if_pos ⟨h, h2⟩)
theorem T5_eqJ {l m : List Job} (h : l.length ≤ most) (h2 : m.length ≤ most) : T5 72 [encJ.S l, encJ.S m] = some (.rd true (.bool (decide (l = m)))) := by
  rw [T5, Tab.addO_ne _ _ _ _ rfl, Tab.addO_ne _ _ _ _ rfl, Tab.addO_ne _ _ _ _ rfl]
  exact (Tab.addO_self _ _ (.cons (.S encJ) (.cons (.S encJ) .nil)) _ (l, m, ())).trans (if_pos ⟨h, h2⟩)
theorem T5_ne {g : FuncId} {xs : List AV} (h : (Nat.beq g 72 || Nat.beq g 73 || Nat.beq g 110 || Nat.beq g 130) = false) : T5 g xs = T4 g xs := by
  simp only [Bool.or_eq_false_iff] at h
  obtain ⟨⟨⟨h1, h2⟩, h3⟩, h4⟩ := h
  rw [T5, Tab.addO_ne _ _ _ _ h4, Tab.addO_ne _ _ _ _ h3, Tab.addO_ne _ _ _ _ h2, Tab.addO_ne _ _ _ _ h1]

theorem que_ext (a b : Que) : (a = b) ↔ (a.next = b.next ∧ a.now = b.now ∧ a.resync = b.resync ∧ a.jobs = b.jobs ∧ a.failed = b.failed ∧ a.settled = b.settled) := by
  cases a; cases b
  simp only [Que.mk.injEq]
  constructor
  · rintro ⟨h1, h2, h3, h4, h5, h6⟩; exact ⟨h2, h3, h6, h1, h4, h5⟩
  · rintro ⟨h2, h3, h6, h1, h4, h5⟩; exact ⟨h1, h2, h3, h4, h5, h6⟩
theorem pSame (a b : Que) (ha : Fits a) (hb : Fits b) : PCF Try.prog 28 [.agg a.c, .agg b.c] (.bool (decide (a = b))) := by
  refine pcf_e hmG T5_ok comp28 (by decide) (by simp) (nidL_ok (by rw [nidL, queN, nidL, queN]; rfl)) ?_
  have e1 := T5_eqJ ha.j hb.j
  have e2 := T5_eqA ha.f hb.f
  have e3 := T5_eqA ha.s hb.s
  have hcl := T4_clone ha
  have hbb : ∀ x y : Bool, x ≠ y → (x == y) = false := fun x y h => by simpa using h
  refine vcE.step (by simp (disch := first | assumption | omega | with_unfolding_all rfl) only [exC, exOps, exOp, evE, evsE, putE, wantedE, Nat.reduceEqDiff, ↓reduceIte, ROp.run, same, binA, intA, strA, eqA, indexSA, byteA, unA, bounds3, Option.map_some, Option.map_none, dec_true, dec_false, Int.toNat_natCast, Int.natCast_nonneg, beq_self_eq_true, List.append_nil, beq_iff_eq, reduceCtorEq, List.getD_cons_zero, List.getD_cons_succ, loadA, rowA, pickA, bslA, storeA_eq, decide_true, flatA, List.length_cons, List.length_nil, Nat.reduceAdd, List.flatMap_cons, List.flatMap_nil, BEq.rfl, List.cons_append, List.nil_append, if_pos, if_neg, ordered, List.getElem?_cons_zero, List.getElem?_cons_succ, frzL, nidL, frz_func, frz_agg, frz_tup, frz_iface, fresh_func, fresh_agg, fresh_tup, fresh_iface, frz_ptr, frz_sl, fresh_sl, Cls.isFree, Cls.makes, callCls, chain, cond_true, tz, ty, faddrA, allocA, over, List.take_succ_cons, List.take_zero, List.drop_succ_cons, List.drop_zero, List.drop_nil, List.set_cons_zero, List.set_cons_succ, Nat.reduceLeDiff, and_self, Que.c_len, Act.c_len, Job.c_len, boxA_eq, ↓pickQ, ↓pickA5, queL_frz, queL_nid, actL_frz, actL_nid, jobL_frz, jobL_nid, hcl, cloneV, cloneH, ↓overQ, osl_one, osl_notTup, osl_cells, oslJ_frz, oslA_frz, dropQ]; rfl) ?_
  have fin : ∀ c : Bool, c = decide (a = b) → fresh [some (.row 29 a.c), some (.row 29 b.c)] (.bool c) = some (.bool (decide (a = b))) := fun c h => by rw [h]; rfl
  have no : (¬ (a.next = b.next ∧ a.now = b.now ∧ a.resync = b.resync ∧ a.jobs = b.jobs ∧ a.failed = b.failed ∧ a.settled = b.settled)) → false = decide (a = b) := fun h => by rw [decide_eq_false]; rw [que_ext]; exact h
  by_cases h1 : a.next = b.next
  · by_cases h2 : a.now = b.now
    · by_cases h3 : a.resync = b.resync
      · by_cases h4 : a.jobs = b.jobs
        · rw [decide_eq_true h4] at e1
          by_cases h5 : a.failed = b.failed
          · rw [decide_eq_true h5] at e2
            by_cases h6 : a.settled = b.settled
            · rw [decide_eq_true h6] at e3
              refine vcE.ex (by simp (disch := first | assumption | omega | with_unfolding_all rfl) only [exC, exOps, exOp, evE, evsE, putE, wantedE, Nat.reduceEqDiff, ↓reduceIte, ROp.run, same, binA, intA, strA, eqA, indexSA, byteA, unA, bounds3, Option.map_some, Option.map_none, dec_true, dec_false, Int.toNat_natCast, Int.natCast_nonneg, beq_self_eq_true, List.append_nil, beq_iff_eq, reduceCtorEq, List.getD_cons_zero, List.getD_cons_succ, loadA, rowA, pickA, bslA, storeA_eq, decide_true, flatA, List.length_cons, List.length_nil, Nat.reduceAdd, List.flatMap_cons, List.flatMap_nil, BEq.rfl, List.cons_append, List.nil_append, if_pos, if_neg, ordered, List.getElem?_cons_zero, List.getElem?_cons_succ, frzL, nidL, frz_func, frz_agg, frz_tup, frz_iface, fresh_func, fresh_agg, fresh_tup, fresh_iface, frz_ptr, frz_sl, fresh_sl, Cls.isFree, Cls.makes, callCls, chain, cond_true, tz, ty, faddrA, allocA, over, List.take_succ_cons, List.take_zero, List.drop_succ_cons, List.drop_zero, List.drop_nil, List.set_cons_zero, List.set_cons_succ, Nat.reduceLeDiff, and_self, Que.c_len, Act.c_len, Job.c_len, boxA_eq, ↓pickQ, ↓pickA5, queL_frz, queL_nid, actL_frz, actL_nid, jobL_frz, jobL_nid, hcl, cloneV, cloneH, ↓overQ, osl_one, osl_notTup, osl_cells, oslJ_frz, oslA_frz, dropQ, Que.c, h1, h2, h3, e1, e2, e3, Enc.S_nid, Enc.S_frz, Bool.true_or]; rfl) ?_
              refine ⟨_, rfl, ?_⟩
              exact fin _ (by rw [decide_eq_true ((que_ext a b).2 ⟨h1, h2, h3, h4, h5, h6⟩)])
            · rw [decide_eq_false h6] at e3
              refine vcE.ex (by simp (disch := first | assumption | omega | with_unfolding_all rfl) only [exC, exOps, exOp, evE, evsE, putE, wantedE, Nat.reduceEqDiff, ↓reduceIte, ROp.run, same, binA, intA, strA, eqA, indexSA, byteA, unA, bounds3, Option.map_some, Option.map_none, dec_true, dec_false, Int.toNat_natCast, Int.natCast_nonneg, beq_self_eq_true, List.append_nil, beq_iff_eq, reduceCtorEq, List.getD_cons_zero, List.getD_cons_succ, loadA, rowA, pickA, bslA, storeA_eq, decide_true, flatA, List.length_cons, List.length_nil, Nat.reduceAdd, List.flatMap_cons, List.flatMap_nil, BEq.rfl, List.cons_append, List.nil_append, if_pos, if_neg, ordered, List.getElem?_cons_zero, List.getElem?_cons_succ, frzL, nidL, frz_func, frz_agg, frz_tup, frz_iface, fresh_func, fresh_agg, fresh_tup, fresh_iface, frz_ptr, frz_sl, fresh_sl, Cls.isFree, Cls.makes, callCls, chain, cond_true, tz, ty, faddrA, allocA, over, List.take_succ_cons, List.take_zero, List.drop_succ_cons, List.drop_zero, List.drop_nil, List.set_cons_zero, List.set_cons_succ, Nat.reduceLeDiff, and_self, Que.c_len, Act.c_len, Job.c_len, boxA_eq, ↓pickQ, ↓pickA5, queL_frz, queL_nid, actL_frz, actL_nid, jobL_frz, jobL_nid, hcl, cloneV, cloneH, ↓overQ, osl_one, osl_notTup, osl_cells, oslJ_frz, oslA_frz, dropQ, Que.c, h1, h2, h3, e1, e2, e3, Enc.S_nid, Enc.S_frz, Bool.true_or]; rfl) ?_
              refine ⟨_, rfl, ?_⟩
              exact fin _ (no fun h => h6 h.2.2.2.2.2)
          · rw [decide_eq_false h5] at e2
            refine vcE.ex (by simp (disch := first | assumption | omega | with_unfolding_all rfl) only [exC, exOps, exOp, evE, evsE, putE, wantedE, Nat.reduceEqDiff, ↓reduceIte, ROp.run, same, binA, intA, strA, eqA, indexSA, byteA, unA, bounds3, Option.map_some, Option.map_none, dec_true, dec_false, Int.toNat_natCast, Int.natCast_nonneg, beq_self_eq_true, List.append_nil, beq_iff_eq, reduceCtorEq, List.getD_cons_zero, List.getD_cons_succ, loadA, rowA, pickA, bslA, storeA_eq, decide_true, flatA, List.length_cons, List.length_nil, Nat.reduceAdd, List.flatMap_cons, List.flatMap_nil, BEq.rfl, List.cons_append, List.nil_append, if_pos, if_neg, ordered, List.getElem?_cons_zero, List.getElem?_cons_succ, frzL, nidL, frz_func, frz_agg, frz_tup, frz_iface, fresh_func, fresh_agg, fresh_tup, fresh_iface, frz_ptr, frz_sl, fresh_sl, Cls.isFree, Cls.makes, callCls, chain, cond_true, tz, ty, faddrA, allocA, over, List.take_succ_cons, List.take_zero, List.drop_succ_cons, List.drop_zero, List.drop_nil, List.set_cons_zero, List.set_cons_succ, Nat.reduceLeDiff, and_self, Que.c_len, Act.c_len, Job.c_len, boxA_eq, ↓pickQ, ↓pickA5, queL_frz, queL_nid, actL_frz, actL_nid, jobL_frz, jobL_nid, hcl, cloneV, cloneH, ↓overQ, osl_one, osl_notTup, osl_cells, oslJ_frz, oslA_frz, dropQ, Que.c, h1, h2, h3, e1, e2, Enc.S_nid, Enc.S_frz, Bool.true_or]; rfl) ?_
            refine ⟨_, rfl, ?_⟩
            exact fin _ (no fun h => h5 h.2.2.2.2.1)
        · rw [decide_eq_false h4] at e1
          refine vcE.ex (by simp (disch := first | assumption | omega | with_unfolding_all rfl) only [exC, exOps, exOp, evE, evsE, putE, wantedE, Nat.reduceEqDiff, ↓reduceIte, ROp.run, same, binA, intA, strA, eqA, indexSA, byteA, unA, bounds3, Option.map_some, Option.map_none, dec_true, dec_false, Int.toNat_natCast, Int.natCast_nonneg, beq_self_eq_true, List.append_nil, beq_iff_eq, reduceCtorEq, List.getD_cons_zero, List.getD_cons_succ, loadA, rowA, pickA, bslA, storeA_eq, decide_true, flatA, List.length_cons, List.length_nil, Nat.reduceAdd, List.flatMap_cons, List.flatMap_nil, BEq.rfl, List.cons_append, List.nil_append, if_pos, if_neg, ordered, List.getElem?_cons_zero, List.getElem?_cons_succ, frzL, nidL, frz_func, frz_agg, frz_tup, frz_iface, fresh_func, fresh_agg, fresh_tup, fresh_iface, frz_ptr, frz_sl, fresh_sl, Cls.isFree, Cls.makes, callCls, chain, cond_true, tz, ty, faddrA, allocA, over, List.take_succ_cons, List.take_zero, List.drop_succ_cons, List.drop_zero, List.drop_nil, List.set_cons_zero, List.set_cons_succ, Nat.reduceLeDiff, and_self, Que.c_len, Act.c_len, Job.c_len, boxA_eq, ↓pickQ, ↓pickA5, queL_frz, queL_nid, actL_frz, actL_nid, jobL_frz, jobL_nid, hcl, cloneV, cloneH, ↓overQ, osl_one, osl_notTup, osl_cells, oslJ_frz, oslA_frz, dropQ, Que.c, h1, h2, h3, e1, Enc.S_nid, Enc.S_frz, Bool.true_or]; rfl) ?_
          refine ⟨_, rfl, ?_⟩
          exact fin _ (no fun h => h4 h.2.2.2.1)
      · have h3' := hbb _ _ h3
        refine vcE.ex (by simp (disch := first | assumption | omega | with_unfolding_all rfl) only [exC, exOps, exOp, evE, evsE, putE, wantedE, Nat.reduceEqDiff, ↓reduceIte, ROp.run, same, binA, intA, strA, eqA, indexSA, byteA, unA, bounds3, Option.map_some, Option.map_none, dec_true, dec_false, Int.toNat_natCast, Int.natCast_nonneg, beq_self_eq_true, List.append_nil, beq_iff_eq, reduceCtorEq, List.getD_cons_zero, List.getD_cons_succ, loadA, rowA, pickA, bslA, storeA_eq, decide_true, flatA, List.length_cons, List.length_nil, Nat.reduceAdd, List.flatMap_cons, List.flatMap_nil, BEq.rfl, List.cons_append, List.nil_append, if_pos, if_neg, ordered, List.getElem?_cons_zero, List.getElem?_cons_succ, frzL, nidL, frz_func, frz_agg, frz_tup, frz_iface, fresh_func, fresh_agg, fresh_tup, fresh_iface, frz_ptr, frz_sl, fresh_sl, Cls.isFree, Cls.makes, callCls, chain, cond_true, tz, ty, faddrA, allocA, over, List.take_succ_cons, List.take_zero, List.drop_succ_cons, List.drop_zero, List.drop_nil, List.set_cons_zero, List.set_cons_succ, Nat.reduceLeDiff, and_self, Que.c_len, Act.c_len, Job.c_len, boxA_eq, ↓pickQ, ↓pickA5, queL_frz, queL_nid, actL_frz, actL_nid, jobL_frz, jobL_nid, hcl, cloneV, cloneH, ↓overQ, osl_one, osl_notTup, osl_cells, oslJ_frz, oslA_frz, dropQ, Que.c, h1, h2, h3']; rfl) ?_
        refine ⟨_, rfl, ?_⟩
        exact fin _ (no fun h => h3 h.2.2.1)
    · refine vcE.ex (by simp (disch := first | assumption | omega | with_unfolding_all rfl) only [exC, exOps, exOp, evE, evsE, putE, wantedE, Nat.reduceEqDiff, ↓reduceIte, ROp.run, same, binA, intA, strA, eqA, indexSA, byteA, unA, bounds3, Option.map_some, Option.map_none, dec_true, dec_false, Int.toNat_natCast, Int.natCast_nonneg, beq_self_eq_true, List.append_nil, beq_iff_eq, reduceCtorEq, List.getD_cons_zero, List.getD_cons_succ, loadA, rowA, pickA, bslA, storeA_eq, decide_true, flatA, List.length_cons, List.length_nil, Nat.reduceAdd, List.flatMap_cons, List.flatMap_nil, BEq.rfl, List.cons_append, List.nil_append, if_pos, if_neg, ordered, List.getElem?_cons_zero, List.getElem?_cons_succ, frzL, nidL, frz_func, frz_agg, frz_tup, frz_iface, fresh_func, fresh_agg, fresh_tup, fresh_iface, frz_ptr, frz_sl, fresh_sl, Cls.isFree, Cls.makes, callCls, chain, cond_true, tz, ty, faddrA, allocA, over, List.take_succ_cons, List.take_zero, List.drop_succ_cons, List.drop_zero, List.drop_nil, List.set_cons_zero, List.set_cons_succ, Nat.reduceLeDiff, and_self, Que.c_len, Act.c_len, Job.c_len, boxA_eq, ↓pickQ, ↓pickA5, queL_frz, queL_nid, actL_frz, actL_nid, jobL_frz, jobL_nid, hcl, cloneV, cloneH, ↓overQ, osl_one, osl_notTup, osl_cells, oslJ_frz, oslA_frz, dropQ, Que.c, h1]; rfl) ?_
      refine ⟨_, rfl, ?_⟩
      exact fin _ (no fun h => h2 h.2.1)
  · refine vcE.ex (by simp (disch := first | assumption | omega | with_unfolding_all rfl) only [exC, exOps, exOp, evE, evsE, putE, wantedE, Nat.reduceEqDiff, ↓reduceIte, ROp.run, same, binA, intA, strA, eqA, indexSA, byteA, unA, bounds3, Option.map_some, Option.map_none, dec_true, dec_false, Int.toNat_natCast, Int.natCast_nonneg, beq_self_eq_true, List.append_nil, beq_iff_eq, reduceCtorEq, List.getD_cons_zero, List.getD_cons_succ, loadA, rowA, pickA, bslA, storeA_eq, decide_true, flatA, List.length_cons, List.length_nil, Nat.reduceAdd, List.flatMap_cons, List.flatMap_nil, BEq.rfl, List.cons_append, List.nil_append, if_pos, if_neg, ordered, List.getElem?_cons_zero, List.getElem?_cons_succ, frzL, nidL, frz_func, frz_agg, frz_tup, frz_iface, fresh_func, fresh_agg, fresh_tup, fresh_iface, frz_ptr, frz_sl, fresh_sl, Cls.isFree, Cls.makes, callCls, chain, cond_true, tz, ty, faddrA, allocA, over, List.take_succ_cons, List.take_zero, List.drop_succ_cons, List.drop_zero, List.drop_nil, List.set_cons_zero, List.set_cons_succ, Nat.reduceLeDiff, and_self, Que.c_len, Act.c_len, Job.c_len, boxA_eq, ↓pickQ, ↓pickA5, queL_frz, queL_nid, actL_frz, actL_nid, jobL_frz, jobL_nid, hcl, cloneV, cloneH, ↓overQ, osl_one, osl_notTup, osl_cells, oslJ_frz, oslA_frz, dropQ, Que.c]; rfl) ?_
    refine ⟨_, rfl, ?_⟩
    exact fin _ (no fun h => h1 h.1)

end Go.Gi
