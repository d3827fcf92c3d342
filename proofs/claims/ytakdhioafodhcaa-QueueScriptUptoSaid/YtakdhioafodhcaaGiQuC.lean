/- Queues: copies in memory of their own; Pass, Clear, Put. -/
import Derived.Test.YtakdhioafodhcaaGiQuB
set_option linter.unusedVariables false
set_option linter.unusedSimpArgs false
namespace Go.Gi
open Go Go.Proofs

def T3 : Tab := (T2.add 104 (cloneT encJ 42 104)).add 105 (cloneT encA 23 72)
theorem T3_ok : TabOk Try.prog T3 := (T2_ok.add (cloneT_ok hmG encJ comp104)).add (cloneT_ok hmG encA comp105)
theorem T3_J {l : List Job} (h : l.length ≤ most) : T3 104 [encJ.S l] = some (.mk fun n => (osl (n + 1) l.length 10, [none, orow l.length 42 (encJ.cs l)])) := by
  simp only [T3, Tab.add_app, Nat.reduceEqDiff, if_false, if_true]
  exact cloneT_S encJ (by simp only [most] at h; omega) (by simp only [most] at h; omega)
theorem T3_A {l : List Act} (h : l.length ≤ most) : T3 105 [encA.S l] = some (.mk fun n => (osl (n + 1) l.length 5, [none, orow l.length 23 (encA.cs l)])) := by
  simp only [T3, Tab.add_app, if_true]
  exact cloneT_S encA (by simp only [most] at h; omega) (by simp only [most] at h; omega)

/-- What a copy of a queue is, behind so many blocks. -/
def cloneV (q : Que) (n : Nat) : AV := .agg [osl (n + 3) q.jobs.length 10, .int .i64 q.next, .int .i64 q.now, osl (n + 5) q.failed.length 5, osl (n + 7) q.settled.length 5, .bool q.resync]
def cloneH (q : Que) : HP := [none, none, none, orow q.jobs.length 42 (encJ.cs q.jobs), none, orow q.failed.length 23 (encA.cs q.failed), none, orow q.settled.length 23 (encA.cs q.settled)]

theorem mClone (q : Que) (hq : Fits q) (hp : HP) : ACalls Try.prog 56 [.agg q.c] hp fun r hp' => r = cloneV q hp.length ∧ hp' = hp ++ cloneH q := by
  obtain ⟨h1, h2, h3⟩ := hq
  have hx : NoIdL [.agg q.c] := nidL_ok (by simp only [nidL, nid, Que.c, Enc.S_nid, Bool.and_self])
  have e : (shiftA hp.length (cloneV q 0) = cloneV q hp.length) ∧ (cloneH q).map (shiftB hp.length) = cloneH q := by
    constructor
    · simp only [cloneV, shiftA, shiftL, shift_osl, Nat.zero_add, Nat.add_comm]
    · simp only [cloneH, List.map_cons, List.map_nil, Enc.shift_orow]
      rfl
  have := mk_e hmG T3_ok comp56 (by decide) (by simp) hx (r1 := cloneV q 0) (r0 := cloneV q 0) (hp0 := cloneH q) (hp1 := [some (.row 29 [osl 3 q.jobs.length 10, .int .i64 q.next, .int .i64 q.now, osl 5 q.failed.length 5, osl 7 q.settled.length 5, .bool q.resync]), some (.row 29 [osl 3 q.jobs.length 10, .int .i64 q.next, .int .i64 q.now, osl 5 q.failed.length 5, osl 7 q.settled.length 5, .bool q.resync]), none, orow q.jobs.length 42 (encJ.cs q.jobs), none, orow q.failed.length 23 (encA.cs q.failed), none, orow q.settled.length 23 (encA.cs q.settled)]) (by simp only [cloneH, rowsOnly, Enc.rows_orow]) ?_ ?_ hp
  · rw [e.1, e.2] at this
    exact this
  · refine vcE.ex (by simp (disch := first | assumption | omega) only [exC, exOps, exOp, wantedE, ↓reduceIte, ROp.run, evsE, evE, Que.c, ty, List.getD_cons_zero, tz, List.length_nil, List.nil_append, putE, allocA, List.length_cons, List.cons_append, chain, ordered, List.getElem?_cons_zero, List.getElem?_cons_succ, Nat.reduceEqDiff, same, faddrA, Option.map_some, loadA, rowA, pickA, List.append_nil, frzL, T3_J, Cls.makes, callCls, nidL, Nat.reduceAdd, T3_A, storeA_eq, Nat.reduceLeDiff, decide_true, over, List.take_zero, List.drop_succ_cons, List.drop_zero, List.set_cons_zero, List.take_succ_cons, cond_true, List.drop_nil, List.set_cons_succ]; rfl) ?_
    exact ⟨_, rfl, rfl, rfl⟩
  · refine Weak.forget rfl (fun i x h => ?_) (fun _ _ _ h => h)
    rcases i with _ | _ | i
    · cases h
    · cases h
    · exact h

/-- The small functions of package queue. -/
def T4 : Tab := (((((T3.addO 56 (.cons .que .nil) fun p => if Fits p.1 then some (.mk fun n => (cloneV p.1 n, cloneH p.1)) else none).addO 61 (.cons .que (.cons .i64 .nil)) fun p => if Fits p.1 then some (.rd true (.int .i64 (idx (isTxn p.2.1) p.1.jobs))) else none).addO
  58 (.cons (.S encA) (.cons .putF .nil)) fun p => if p.1.length ≤ 3 * most then some (.rd true (.bool (p.1.any fun x => p.2.1.2.1.alike x))) else none).addO 63 (.cons .que .nil) fun p => if Fits p.1 then some (.rd true (.int .i64 (flyers p.1.jobs))) else none).addO
  59 (.cons .que .nil) fun p => if Fits p.1 then some (.rd true (encA.S p.1.acts)) else none).addR 30 (.cons .i64 .nil) fun p => .rd true (.int .i64 (backoff p.1))
theorem T4_ok : TabOk Try.prog T4 := by
  refine (((((T3_ok.addO ?_).addO ?_).addO ?_).addO ?_).addO ?_).addR ?_
  · intro p r h
    split at h
    · rename_i hv; cases h; exact fun hp => mClone p.1 hv hp
    · cases h
  · intro p r h
    split at h
    · rename_i hv; cases h; exact pAt p.1 hv.j _
    · cases h
  · intro p r h
    split at h
    · rename_i hv; cases h; exact pHas hv p.2.1.1 _
    · cases h
  · intro p r h
    split at h
    · rename_i hv; cases h; exact pFlying p.1 hv.j
    · cases h
  · intro p r h
    split at h
    · rename_i hv; cases h; exact pActions p.1 hv
    · cases h
  · exact fun p => pBackoff p.1
theorem T4_backoff (n : Int) : T4 30 [.int .i64 n] = some (.rd true (.int .i64 (backoff n))) := rfl
theorem T4_actions {q : Que} (h : Fits q) : T4 59 [.agg q.c] = some (.rd true (encA.S q.acts)) := by
  rw [T4, Tab.addR_ne _ _ _ _ rfl]
  exact (Tab.addO_self _ _ (.cons .que .nil) _ (q, ())).trans (if_pos h)
theorem T4_flying {q : Que} (h : Fits q) : T4 63 [.agg q.c] = some (.rd true (.int .i64 (flyers q.jobs))) := by
  rw [T4, Tab.addR_ne _ _ _ _ rfl, Tab.addO_ne _ _ _ _ rfl]
  exact (Tab.addO_self _ _ (.cons .que .nil) _ (q, ())).trans (if_pos h)
theorem T4_has {l : List Act} (hl : l.length ≤ 3 * most) (b : Bool) (a : Act) : T4 58 [encA.S l, .func (putFn b) [.fptr a.c 0]] = some (.rd true (.bool (l.any fun x => a.alike x))) := by
  rw [T4, Tab.addR_ne _ _ _ _ rfl, Tab.addO_ne _ _ _ _ rfl, Tab.addO_ne _ _ _ _ rfl]
  exact (Tab.addO_self _ _ (.cons (.S encA) (.cons .putF .nil)) _ (l, (b, (a, ())), ())).trans (if_pos hl)
theorem T4_at {q : Que} (h : Fits q) (t : Int) : T4 61 [.agg q.c, .int .i64 t] = some (.rd true (.int .i64 (idx (isTxn t) q.jobs))) := by
  rw [T4, Tab.addR_ne _ _ _ _ rfl, Tab.addO_ne _ _ _ _ rfl, Tab.addO_ne _ _ _ _ rfl, Tab.addO_ne _ _ _ _ rfl]
  exact (Tab.addO_self _ _ (.cons .que (.cons .i64 .nil)) _ (q, t, ())).trans (if_pos h)
theorem T4_clone {q : Que} (h : Fits q) : T4 56 [.agg q.c] = some (.mk fun n => (cloneV q n, cloneH q)) := by
  rw [T4, Tab.addR_ne _ _ _ _ rfl, Tab.addO_ne _ _ _ _ rfl, Tab.addO_ne _ _ _ _ rfl, Tab.addO_ne _ _ _ _ rfl, Tab.addO_ne _ _ _ _ rfl]
  exact (Tab.addO_self _ _ (.cons .que .nil) _ (q, ())).trans (if_pos h)
theorem T4_ne {g : FuncId} {xs : List AV} (h : (Nat.beq g 56 || Nat.beq g 61 || Nat.beq g 58 || Nat.beq g 63 || Nat.beq g 59 || Nat.beq g 30 || Nat.beq g 104 || Nat.beq g 105) = false) : T4 g xs = T2 g xs := by
  simp only [Bool.or_eq_false_iff] at h
  obtain ⟨⟨⟨⟨⟨⟨⟨h1, h2⟩, h3⟩, h4⟩, h5⟩, h6⟩, h7⟩, h8⟩ := h
  rw [T4, Tab.addR_ne _ _ _ _ h6, Tab.addO_ne _ _ _ _ h5, Tab.addO_ne _ _ _ _ h4, Tab.addO_ne _ _ _ _ h3, Tab.addO_ne _ _ _ _ h2, Tab.addO_ne _ _ _ _ h1, T3, Tab.add_app, if_neg (by rintro rfl; simp at h8), Tab.add_app, if_neg (by rintro rfl; simp at h7)]
theorem T4_known (a : Act) : T4 57 [.agg a.c] = some (.rd true (.bool a.known)) := (T4_ne rfl).trans ((T2_ne rfl).trans ((T1_ne rfl).trans (T0_known a)))
theorem T4_waits (j : Job) : T4 62 [.agg j.c] = some (.rd true (.bool j.waits)) := (T4_ne rfl).trans ((T2_ne rfl).trans ((T1_ne rfl).trans (T0_waits j)))

/-! ### Slices of a copy, frozen -/
theorem oslJ_frz {hp : HP} {id : Nat} {l : List Job} (h : hp[id]? = some (orow l.length 42 (encJ.cs l))) : frz hp (osl id l.length 10) = some (encJ.S l) := encJ.osl_frz h
theorem oslA_frz {hp : HP} {id : Nat} {l : List Act} (h : hp[id]? = some (orow l.length 23 (encA.cs l))) : frz hp (osl id l.length 5) = some (encA.S l) := encA.osl_frz h
theorem oslJ_fresh {hp : HP} {id : Nat} {l : List Job} (h : hp[id]? = some (orow l.length 42 (encJ.cs l))) : fresh hp (osl id l.length 10) = some (encJ.S l) := encJ.osl_fresh h
theorem oslA_fresh {hp : HP} {id : Nat} {l : List Act} (h : hp[id]? = some (orow l.length 23 (encA.cs l))) : fresh hp (osl id l.length 5) = some (encA.S l) := encA.osl_fresh h
theorem pickQ (q : Que) : pickA (some 6) q.c 0 = some (.agg q.c) := rfl
theorem queE (q : Que) : AV.agg [encJ.S q.jobs, .int .i64 q.next, .int .i64 q.now, encA.S q.failed, encA.S q.settled, .bool q.resync] = .agg q.c := rfl
theorem overQ (q : Que) (x y z u v w : AV) : over q.c 0 [x, y, z, u, v, w] = [x, y, z, u, v, w] := rfl
theorem dropQ (q : Que) : q.c.drop 6 = [] := rfl
theorem queL_frz (q : Que) (hp : HP) : frzL hp q.c = some q.c := by simp only [Que.c, frz, frzL, Enc.S_frz]
theorem queL_nid (q : Que) : nidL q.c = true := by simp only [Que.c, nid, nidL, Enc.S_nid, Bool.and_self]
theorem actL_frz (a : Act) (hp : HP) : frzL hp a.c = some a.c := rfl
theorem actL_nid (a : Act) : nidL a.c = true := rfl
theorem jobL_frz (a : Job) (hp : HP) : frzL hp a.c = some a.c := rfl
theorem jobL_nid (a : Job) : nidL a.c = true := rfl

theorem pPass (q : Que) (hq : Fits q) (n : Int) (h1 : 0 ≤ q.now) (h2 : q.now ≤ 1152921504606846976) : PCF Try.prog 19 [.agg q.c, .int .i64 n] (.tup [.agg (q.pass n).1.c, .int .i64 (q.pass n).2]) := by
  refine pcf_e hmG T4_ok comp19 (by decide) (by simp) (nidL_ok (by rw [nidL, queN]; rfl)) ?_
  have hcl := T4_clone hq
  have hone := osl_one
  have hnt := osl_notTup
  have hce := osl_cells
  unfold Que.pass
  by_cases hn : n < 0
  · refine vcE.ex (by simp (disch := first | assumption | omega) only [exC, exOps, exOp, wantedE, ↓reduceIte, ROp.run, evsE, evE, ty, List.getD_cons_zero, tz, List.length_nil, List.nil_append, putE, allocA, List.length_cons, List.cons_append, Nat.reduceEqDiff, same, loadA, rowA, List.getElem?_cons_zero, ↓pickQ, Option.map_some, List.append_nil, frzL, frz_agg, queL_frz, hcl, cloneV, cloneH, Cls.makes, callCls, nidL, queL_nid, Nat.reduceAdd, storeA_eq, Que.c_len, Nat.reduceLeDiff, decide_true, over, List.take_zero, List.set_cons_zero, List.getD_cons_succ, binA, intA, dec_true, beq_iff_eq, pickA, List.drop_zero, List.take_succ_cons, List.getElem?_cons_succ, List.drop_succ_cons, List.drop_nil, List.set_cons_succ]; rfl) ?_
    refine ⟨_, rfl, ?_⟩
    (simp (disch := first | assumption | with_unfolding_all rfl) only [upd_app, Nat.reduceEqDiff, ↓reduceIte, fresh_tup, freshL, fresh_agg, fresh_int, fresh_bool, fresh_str, List.take_succ_cons, List.take_zero, List.drop_succ_cons, List.drop_zero, start_app, List.getD_cons_zero, List.getD_cons_succ, oslJ_fresh, oslA_fresh, hn, true_or, if_true])
    rfl
  by_cases hn2 : 1000000 < n
  · refine vcE.ex (by simp (disch := first | assumption | omega) only [exC, exOps, exOp, wantedE, ↓reduceIte, ROp.run, evsE, evE, ty, List.getD_cons_zero, tz, List.length_nil, List.nil_append, putE, allocA, List.length_cons, List.cons_append, Nat.reduceEqDiff, same, loadA, rowA, List.getElem?_cons_zero, ↓pickQ, Option.map_some, List.append_nil, frzL, frz_agg, queL_frz, hcl, cloneV, cloneH, Cls.makes, callCls, nidL, queL_nid, Nat.reduceAdd, storeA_eq, Que.c_len, Nat.reduceLeDiff, decide_true, over, List.take_zero, List.set_cons_zero, List.getD_cons_succ, binA, intA, dec_false, beq_self_eq_true, gt_iff_lt, dec_true, pickA, List.drop_zero, List.take_succ_cons, List.getElem?_cons_succ, List.drop_succ_cons, List.drop_nil, List.set_cons_succ]; rfl) ?_
    refine ⟨_, rfl, ?_⟩
    (simp (disch := first | assumption | with_unfolding_all rfl) only [upd_app, Nat.reduceEqDiff, ↓reduceIte, fresh_tup, freshL, fresh_agg, fresh_int, fresh_bool, fresh_str, List.take_succ_cons, List.take_zero, List.drop_succ_cons, List.drop_zero, start_app, List.getD_cons_zero, List.getD_cons_succ, oslJ_fresh, oslA_fresh, hn2, or_true, if_true])
    rfl
  have hw : IntKind.wrap .i64 (1152921504606846976 - n) = 1152921504606846976 - n := wrap_i64 (by omega) (by omega)
  have hor : ¬ (n < 0 ∨ 1000000 < n) := by omega
  by_cases hn3 : 1152921504606846976 - n < q.now
  · refine vcE.ex (by simp (disch := first | assumption | omega) only [exC, exOps, exOp, wantedE, ↓reduceIte, ROp.run, evsE, evE, ty, List.getD_cons_zero, tz, List.length_nil, List.nil_append, putE, allocA, List.length_cons, List.cons_append, Nat.reduceEqDiff, same, loadA, rowA, List.getElem?_cons_zero, ↓pickQ, Option.map_some, List.append_nil, frzL, frz_agg, queL_frz, hcl, cloneV, cloneH, Cls.makes, callCls, nidL, queL_nid, Nat.reduceAdd, storeA_eq, Que.c_len, Nat.reduceLeDiff, decide_true, over, List.take_zero, List.set_cons_zero, List.getD_cons_succ, binA, intA, dec_false, beq_self_eq_true, gt_iff_lt, faddrA, pickA, List.getElem?_cons_succ, hw, dec_true, List.drop_zero, List.take_succ_cons, List.drop_succ_cons, List.drop_nil, List.set_cons_succ]; rfl) ?_
    refine ⟨_, rfl, ?_⟩
    (simp (disch := first | assumption | with_unfolding_all rfl) only [upd_app, Nat.reduceEqDiff, ↓reduceIte, fresh_tup, freshL, fresh_agg, fresh_int, fresh_bool, fresh_str, List.take_succ_cons, List.take_zero, List.drop_succ_cons, List.drop_zero, start_app, List.getD_cons_zero, List.getD_cons_succ, oslJ_fresh, oslA_fresh, hor, hn3, if_false, if_true])
    rfl
  · have hw2 : IntKind.wrap .i64 (q.now + n) = q.now + n := wrap_i64 (by omega) (by omega)
    refine vcE.ex (by simp (disch := first | assumption | omega) only [exC, exOps, exOp, wantedE, ↓reduceIte, ROp.run, evsE, evE, ty, List.getD_cons_zero, tz, List.length_nil, List.nil_append, putE, allocA, List.length_cons, List.cons_append, Nat.reduceEqDiff, same, loadA, rowA, List.getElem?_cons_zero, ↓pickQ, Option.map_some, List.append_nil, frzL, frz_agg, queL_frz, hcl, cloneV, cloneH, Cls.makes, callCls, nidL, queL_nid, Nat.reduceAdd, storeA_eq, Que.c_len, Nat.reduceLeDiff, decide_true, over, List.take_zero, List.set_cons_zero, List.getD_cons_succ, binA, intA, dec_false, beq_self_eq_true, gt_iff_lt, faddrA, pickA, List.getElem?_cons_succ, hw, hw2, List.take_succ_cons, List.drop_succ_cons, List.drop_zero, List.drop_nil, List.set_cons_succ]; rfl) ?_
    refine ⟨_, rfl, ?_⟩
    (simp (disch := first | assumption | with_unfolding_all rfl) only [upd_app, Nat.reduceEqDiff, ↓reduceIte, fresh_tup, freshL, fresh_agg, fresh_int, fresh_bool, fresh_str, List.take_succ_cons, List.take_zero, List.drop_succ_cons, List.drop_zero, start_app, List.getD_cons_zero, List.getD_cons_succ, oslJ_fresh, oslA_fresh, hor, hn3, if_false])
    rfl
theorem pClear (q : Que) (hq : Fits q) : PCF Try.prog 16 [.agg q.c] (.agg q.clear.c) := by
  refine pcf_e hmG T4_ok comp16 (by decide) (by simp) (nidL_ok (by rw [nidL, queN]; rfl)) ?_
  have hcl := T4_clone hq
  refine vcE.ex (by simp (disch := first | assumption | omega) only [exC, exOps, exOp, wantedE, ↓reduceIte, ROp.run, evsE, evE, ty, List.getD_cons_zero, tz, List.length_nil, List.nil_append, putE, allocA, List.length_cons, List.cons_append, Nat.reduceEqDiff, same, loadA, rowA, List.getElem?_cons_zero, ↓pickQ, Option.map_some, List.append_nil, frzL, frz_agg, queL_frz, hcl, cloneV, cloneH, Cls.makes, callCls, nidL, queL_nid, Nat.reduceAdd, storeA_eq, Que.c_len, Nat.reduceLeDiff, decide_true, over, List.take_zero, List.set_cons_zero, faddrA, List.take_succ_cons, List.drop_succ_cons, List.drop_zero, pickA, List.getElem?_cons_succ, List.drop_nil, List.set_cons_succ]; rfl) ?_
  refine ⟨_, rfl, ?_⟩
  (simp (disch := first | assumption | with_unfolding_all rfl) only [upd_app, Nat.reduceEqDiff, ↓reduceIte, fresh_tup, freshL, fresh_agg, fresh_int, fresh_bool, fresh_str, List.take_succ_cons, List.take_zero, List.drop_succ_cons, List.drop_zero, start_app, List.getD_cons_zero, List.getD_cons_succ, oslJ_fresh, fresh_nils])
  rfl

end Go.Gi
