/- Queues: Put. -/
/- Queues: Send, Reply. -/
import Derived.Test.YtakdhioafodhcaaGiQuC
set_option linter.unusedVariables false
set_option linter.unusedSimpArgs false
namespace Go.Gi
section
open Go Go.Proofs

theorem pickA5 (a : Act) : pickA (some 5) a.c 0 = some (.agg a.c) := rfl
theorem acts_le {q : Que} (h : Fits q) : q.acts.length ≤ 3 * most := by
  obtain ⟨h1, h2, h3⟩ := h
  simp only [Que.acts, List.length_append, List.length_map]
  omega
theorem job_new (x : Int) (a : Act) (y : Int) : fillA [(0, 1), (1, 5), (6, 1), (7, 1), (8, 1), (9, 1)] [.int .i64 0, .int .i64 0, .str [], .str [], .str [], .str [], .bool false, .bool false, .int .i64 0, .int .i64 0] ([0, 1, 5].zip [.int .i64 x, .agg a.c, .int .i64 y]) = some (Job.c ⟨x, a, false, false, 0, y⟩) := rfl
theorem oslJ_app {hp : HP} {id k : Nat} {l : List Job} {j : Job} (h : hp[id]? = some (orow l.length 42 (encJ.cs l))) (hx : hp[k]? = some (some (.row 42 j.c))) (hl : l.length ≤ 1073741824) : appA 42 10 104 hp (osl id l.length 10) (.sl k 0 1 10 1 true) = some (.sl hp.length 0 (l.length + 1) 10 (l.length + 1) false, hp.set id none ++ [some (.row 42 (encJ.cs (l ++ [j])))]) := by
  have hc : encJ.cs [j] = j.c := List.append_nil _
  have := encJ.osl_app (bytes := 104) h (encJ.sl_src (l := [j]) (lo := 1) (ex := true) (e := 42) (by rw [hc]; exact hx)) (by simp) (by simp only [List.length_cons, List.length_nil]; omega) (by simp only [List.length_cons, List.length_nil]; omega)
  rw [List.length_append] at this
  exact this
theorem slJ_fresh {hp : HP} {id : Nat} {l : List Job} {lo : Nat} {ex : Bool} (h : hp[id]? = some (some (.row 42 (encJ.cs l)))) : fresh hp (.sl id 0 l.length 10 lo ex) = some (encJ.S l) := encJ.sl_fresh h
theorem slJ1_fresh {hp : HP} {id : Nat} {l : List Job} {j : Job} {lo : Nat} {ex : Bool} (h : hp[id]? = some (some (.row 42 (encJ.cs (l ++ [j]))))) : fresh hp (.sl id 0 (l.length + 1) 10 lo ex) = some (encJ.S (l ++ [j])) := by
  have := encJ.sl_fresh (lo := lo) (ex := ex) h
  rw [List.length_append] at this
  exact this

theorem pPut (q : Que) (hq : Fits q) (a : Act) (h1 : 0 ≤ q.next) (h2 : q.next ≤ 1152921504606846976) : PCF Try.prog 12 [.agg q.c, .agg a.c] (.tup [.agg (q.put a).1.c, .int .i64 (q.put a).2.1, .int .i64 (q.put a).2.2]) := by
  refine pcf_e hmG T4_ok comp12 (by decide) (by simp) (nidL_ok (by rw [nidL, queN]; rfl)) ?_
  have hcl := T4_clone hq
  have hkn := T4_known a
  have hac : T4 59 [.agg [encJ.S q.jobs, .int .i64 q.next, .int .i64 q.now, encA.S q.failed, encA.S q.settled, .bool q.resync]] = _ := T4_actions hq
  have hha : T4 58 [encA.S q.acts, .func 60 [.fptr a.c 0]] = _ := T4_has (acts_le hq) true a
  have hjl := hq.j
  simp only [most] at hjl
  unfold Que.put
  cases hk : a.known <;> rw [hk] at hkn
  · refine vcE.ex (by simp (disch := first | assumption | omega | with_unfolding_all rfl) only [exC, exOps, exOp, wantedE, ↓reduceIte, ROp.run, evsE, evE, ty, List.getD_cons_zero, tz, List.length_nil, List.nil_append, putE, Nat.reduceEqDiff, List.getD_cons_succ, List.length_cons, List.cons_append, allocA, Nat.reduceAdd, same, loadA, rowA, List.getElem?_cons_zero, ↓pickQ, Option.map_some, List.append_nil, frzL, frz_agg, queL_frz, hcl, cloneV, cloneH, Cls.makes, callCls, nidL, queL_nid, storeA_eq, Que.c_len, Nat.reduceLeDiff, decide_true, over, List.take_zero, dropQ, List.set_cons_zero, List.getElem?_cons_succ, ↓pickA5, actL_frz, hkn, Cls.isFree, actL_nid, unA, pickA, List.drop_zero, List.take_succ_cons, List.drop_succ_cons, List.drop_nil, List.set_cons_succ]; rfl) ?_
    refine ⟨_, rfl, ?_⟩
    (simp (disch := first | assumption | with_unfolding_all rfl) only [upd_app, Nat.reduceEqDiff, ↓reduceIte, fresh_tup, freshL, fresh_agg, fresh_int, fresh_bool, fresh_str, List.take_succ_cons, List.take_zero, List.drop_succ_cons, List.drop_zero, start_app, List.getD_cons_zero, List.getD_cons_succ, oslJ_fresh, oslA_fresh, if_true])
    rfl
  cases ht : q.acts.any (fun x => a.alike x) <;> rw [ht] at hha
  rotate_left
  · refine vcE.ex (by simp (disch := first | assumption | omega | with_unfolding_all rfl) only [exC, exOps, exOp, wantedE, ↓reduceIte, ROp.run, evsE, evE, ty, List.getD_cons_zero, tz, List.length_nil, List.nil_append, putE, Nat.reduceEqDiff, List.getD_cons_succ, List.length_cons, List.cons_append, allocA, Nat.reduceAdd, same, loadA, rowA, List.getElem?_cons_zero, ↓pickQ, Option.map_some, List.append_nil, frzL, frz_agg, queL_frz, hcl, cloneV, cloneH, Cls.makes, callCls, nidL, queL_nid, storeA_eq, Que.c_len, Nat.reduceLeDiff, decide_true, over, List.take_zero, dropQ, List.set_cons_zero, List.getElem?_cons_succ, ↓pickA5, actL_frz, hkn, Cls.isFree, actL_nid, unA, pickA, List.drop_zero, List.take_succ_cons, oslJ_frz, oslA_frz, hac, frz_func, frz_ptr, hha, List.drop_succ_cons, List.drop_nil, List.set_cons_succ]; rfl) ?_
    refine ⟨_, rfl, ?_⟩
    (simp (disch := first | assumption | with_unfolding_all rfl) only [upd_app, Nat.reduceEqDiff, ↓reduceIte, fresh_tup, freshL, fresh_agg, fresh_int, fresh_bool, fresh_str, List.take_succ_cons, List.take_zero, List.drop_succ_cons, List.drop_zero, start_app, List.getD_cons_zero, List.getD_cons_succ, oslJ_fresh, oslA_fresh, if_true, if_false, reduceCtorEq])
    rfl
  have hg : ∀ x y : Int, (x ≥ y) = (y ≤ x) := fun _ _ => rfl
  by_cases hf1 : 32 ≤ q.jobs.length
  · refine vcE.ex (by simp (disch := first | assumption | omega | with_unfolding_all rfl) only [exC, exOps, exOp, wantedE, ↓reduceIte, ROp.run, evsE, evE, ty, List.getD_cons_zero, tz, List.length_nil, List.nil_append, putE, Nat.reduceEqDiff, List.getD_cons_succ, List.length_cons, List.cons_append, allocA, Nat.reduceAdd, same, loadA, rowA, List.getElem?_cons_zero, ↓pickQ, Option.map_some, List.append_nil, frzL, frz_agg, queL_frz, hcl, cloneV, cloneH, Cls.makes, callCls, nidL, queL_nid, storeA_eq, Que.c_len, Nat.reduceLeDiff, decide_true, over, List.take_zero, dropQ, List.set_cons_zero, List.getElem?_cons_succ, ↓pickA5, actL_frz, hkn, Cls.isFree, actL_nid, unA, pickA, List.drop_zero, List.take_succ_cons, oslJ_frz, oslA_frz, hac, frz_func, frz_ptr, hha, faddrA, binA, intA, hg, dec_true, beq_iff_eq, List.drop_succ_cons, List.drop_nil, List.set_cons_succ]; rfl) ?_
    refine ⟨_, rfl, ?_⟩
    (simp (disch := first | assumption | with_unfolding_all rfl) only [List.drop_zero, List.take_succ_cons, List.take_zero, upd_app, Nat.reduceEqDiff, ↓reduceIte, fresh_tup, freshL, fresh_agg, oslJ_fresh, fresh_int, oslA_fresh, fresh_bool, reduceCtorEq, Bool.false_eq_true, hf1, true_or])
    rfl
  by_cases hf2 : 1152921504606846976 ≤ q.next
  · refine vcE.ex (by simp (disch := first | assumption | omega | with_unfolding_all rfl) only [exC, exOps, exOp, wantedE, ↓reduceIte, ROp.run, evsE, evE, ty, List.getD_cons_zero, tz, List.length_nil, List.nil_append, putE, Nat.reduceEqDiff, List.getD_cons_succ, List.length_cons, List.cons_append, allocA, Nat.reduceAdd, same, loadA, rowA, List.getElem?_cons_zero, ↓pickQ, Option.map_some, List.append_nil, frzL, frz_agg, queL_frz, hcl, cloneV, cloneH, Cls.makes, callCls, nidL, queL_nid, storeA_eq, Que.c_len, Nat.reduceLeDiff, decide_true, over, List.take_zero, dropQ, List.set_cons_zero, List.getElem?_cons_succ, ↓pickA5, actL_frz, hkn, Cls.isFree, actL_nid, unA, pickA, List.drop_zero, List.take_succ_cons, oslJ_frz, oslA_frz, hac, frz_func, frz_ptr, hha, faddrA, binA, intA, hg, dec_false, beq_self_eq_true, dec_true, List.drop_succ_cons, List.drop_nil, List.set_cons_succ]; rfl) ?_
    refine ⟨_, rfl, ?_⟩
    (simp (disch := first | assumption | with_unfolding_all rfl) only [List.drop_zero, List.take_succ_cons, List.take_zero, upd_app, Nat.reduceEqDiff, ↓reduceIte, fresh_tup, freshL, fresh_agg, oslJ_fresh, fresh_int, oslA_fresh, fresh_bool, reduceCtorEq, Bool.false_eq_true, hf2, or_true])
    rfl
  have hor : ¬ (32 ≤ q.jobs.length ∨ 1152921504606846976 ≤ q.next) := by omega
  have hw : IntKind.wrap .i64 (q.next + 1) = q.next + 1 := wrap_i64 (by omega) (by omega)
  refine vcE.ex (by simp (disch := first | assumption | omega | with_unfolding_all rfl) only [exC, exOps, exOp, wantedE, ↓reduceIte, ROp.run, evsE, evE, ty, List.getD_cons_zero, tz, List.length_nil, List.nil_append, putE, Nat.reduceEqDiff, List.getD_cons_succ, List.length_cons, List.cons_append, allocA, Nat.reduceAdd, same, loadA, rowA, List.getElem?_cons_zero, ↓pickQ, Option.map_some, List.append_nil, frzL, frz_agg, queL_frz, hcl, cloneV, cloneH, Cls.makes, callCls, nidL, queL_nid, storeA_eq, Que.c_len, Nat.reduceLeDiff, decide_true, over, List.take_zero, dropQ, List.set_cons_zero, List.getElem?_cons_succ, ↓pickA5, actL_frz, hkn, Cls.isFree, actL_nid, unA, pickA, List.drop_zero, List.take_succ_cons, oslJ_frz, oslA_frz, hac, frz_func, frz_ptr, hha, faddrA, binA, intA, hg, dec_false, beq_self_eq_true, job_new, bslA, Job.c_len, flatA, List.flatMap_cons, List.flatMap_nil, oslJ_app, List.set_cons_succ, List.drop_succ_cons, hw, List.drop_nil]; rfl) ?_
  refine ⟨_, rfl, ?_⟩
  (simp (disch := first | assumption | with_unfolding_all rfl) only [List.drop_zero, List.take_succ_cons, List.take_zero, upd_app, Nat.reduceEqDiff, ↓reduceIte, fresh_tup, freshL, fresh_agg, slJ1_fresh, fresh_int, oslA_fresh, fresh_bool, reduceCtorEq, Bool.false_eq_true, hor])
  rfl
end
section
open Go Go.Proofs

theorem idx_place (l : List Job) (t : Int) : idx (isTxn t) l = match place l t with
    | some i => (i : Int)
    | none => -1 := rfl

section
variable {hp : HP} {id i : Nat} {l : List Job} {j : Job} {lo : Nat} {ex : Bool}
theorem slJ_frz (h : hp[id]? = some (some (.row 42 (encJ.cs l)))) : frz hp (.sl id 0 l.length 10 lo ex) = some (encJ.S l) := encJ.sl_frz h
theorem slJ_load (h : hp[id]? = some (some (.row 42 (encJ.cs l)))) (hj : l[i]? = some j) : loadA hp (some 10) (.ptr id (i * 10)) = some (.agg j.c) := encJ.sl_load h hj
theorem slJ_part (h : hp[id]? = some (some (.row 42 (encJ.cs l)))) (hj : l[i]? = some j) {o : Nat} (ho : o + 1 ≤ 10) : loadA hp none (.ptr id (i * 10 + o)) = pickA none j.c o := by
  simp only [loadA, rowA, h]
  exact encJ.pick_part hj ho
theorem slJ_st (h : hp[id]? = some (some (.row 42 (encJ.cs l)))) (hj : l[i]? = some j) {o : Nat} {v : AV} {j' : Job} (ho : o + 1 ≤ 10) (hc : cellsA v = [v]) (hn : notTup v = true) (hb : over j.c o [v] = j'.c) : storeA hp 1 (.ptr id (i * 10 + o)) v = some (hp.set id (some (.row 42 (encJ.cs (l.set i j'))))) := by
  have hl := (List.getElem?_eq_some_iff.1 hj).1
  have hm : (i + 1) * encJ.sz ≤ l.length * encJ.sz := Nat.mul_le_mul_right _ hl
  have hs : encJ.sz = 10 := rfl
  rw [hs] at hm
  have := encJ.over_at (b := j') hj (o := o) (vs := [v]) (by rw [hs]; simpa using ho) hb
  rw [hs] at this
  simp only [storeA_eq, h, hc, hn, this]
  rw [if_pos]
  simp only [List.length_cons, List.length_nil, Bool.true_and, decide_eq_true_eq, true_and, encJ.cs_len, hs]
  omega
theorem slJ_fly (h : hp[id]? = some (some (.row 42 (encJ.cs l)))) (hj : l[i]? = some j) (b : Bool) : storeA hp 1 (.ptr id (i * 10 + 6)) (.bool b) = some (hp.set id (some (.row 42 (encJ.cs (l.set i { j with fly := b }))))) := slJ_st h hj (by omega) rfl rfl rfl
theorem slJ_doubt (h : hp[id]? = some (some (.row 42 (encJ.cs l)))) (hj : l[i]? = some j) (b : Bool) : storeA hp 1 (.ptr id (i * 10 + 7)) (.bool b) = some (hp.set id (some (.row 42 (encJ.cs (l.set i { j with doubt := b }))))) := slJ_st h hj (by omega) rfl rfl rfl
theorem slJ_set (h : hp[id]? = some (some (.row 42 (encJ.cs l)))) (hi : i < l.length) : storeA hp 10 (.ptr id (i * 10)) (.agg j.c) = some (hp.set id (some (.row 42 (encJ.cs (l.set i j))))) := encJ.sl_store h hi rfl (by simp)
theorem slJset_fresh {k : Job} (h : hp[id]? = some (some (.row 42 (encJ.cs (l.set i k))))) : fresh hp (.sl id 0 l.length 10 lo ex) = some (encJ.S (l.set i k)) := by
  have := encJ.sl_fresh (lo := lo) (ex := ex) h
  rw [List.length_set] at this
  exact this
end
theorem iaddrJ {id len lo i : Nat} {ex : Bool} (h : i < len) : iaddrA 10 (.sl id 0 len 10 lo ex) (.int .i64 (i : Int)) = some (.ptr id (i * 10)) := by
  rw [iaddr_sl h, Nat.zero_add]

theorem send_none {q : Que} {t : Int} (h : place q.jobs t = none) : q.send t = (q, 12) := by unfold Que.send; rw [h]
theorem send_some {q : Que} {t : Int} {i : Nat} (h : place q.jobs t = some i) : q.send t = if ((q.jobs.getD i .zero).fly || ((q.jobs.getD i .zero).waits && decide (q.now < (q.jobs.getD i .zero).at_)) || decide (4 ≤ flyers q.jobs)) = true then (q, 14) else ({ q with jobs := q.jobs.set i { q.jobs.getD i .zero with fly := true } }, 0) := by unfold Que.send; rw [h]
theorem pSend (q : Que) (hq : Fits q) (t : Int) : PCF Try.prog 14 [.agg q.c, .int .i64 t] (.tup [.agg (q.send t).1.c, .int .i64 (q.send t).2]) := by
  refine pcf_e hmG T4_ok comp14 (by decide) (by simp) (nidL_ok (by rw [nidL, queN]; rfl)) ?_
  have hcl := T4_clone hq
  have hat : T4 61 [.agg [encJ.S q.jobs, .int .i64 q.next, .int .i64 q.now, encA.S q.failed, encA.S q.settled, .bool q.resync], .int .i64 t] = _ := T4_at hq t
  have hfl : T4 63 [.agg [encJ.S q.jobs, .int .i64 q.next, .int .i64 q.now, encA.S q.failed, encA.S q.settled, .bool q.resync]] = _ := T4_flying hq
  have hjl := hq.j
  simp only [most] at hjl
  have hg : ∀ x y : Int, (x ≥ y) = (y ≤ x) := fun _ _ => rfl
  have hg2 : ∀ x y : Int, (x > y) = (y < x) := fun _ _ => rfl
  rw [idx_place] at hat
  cases hp : place q.jobs t with
  | none =>
    rw [hp] at hat
    rw [send_none hp]
    refine vcE.ex (by simp (disch := first | assumption | omega | with_unfolding_all rfl) only [exC, exOps, exOp, wantedE, ↓reduceIte, ROp.run, evsE, evE, ty, List.getD_cons_zero, tz, List.length_nil, List.nil_append, putE, allocA, List.length_cons, List.cons_append, Nat.reduceEqDiff, same, loadA, rowA, List.getElem?_cons_zero, ↓pickQ, Option.map_some, List.append_nil, frzL, frz_agg, queL_frz, hcl, cloneV, cloneH, Cls.makes, callCls, nidL, queL_nid, Nat.reduceAdd, storeA_eq, Que.c_len, Nat.reduceLeDiff, decide_true, over, List.take_zero, dropQ, List.set_cons_zero, pickA, List.drop_zero, List.take_succ_cons, List.getD_cons_succ, oslJ_frz, oslA_frz, hat, Cls.isFree, binA, intA, dec_true, List.getElem?_cons_succ, List.drop_succ_cons, List.drop_nil, List.set_cons_succ]; rfl) ?_
    refine ⟨_, rfl, ?_⟩
    (simp (disch := first | assumption | with_unfolding_all rfl) only [upd_app, Nat.reduceEqDiff, ↓reduceIte, fresh_tup, freshL, fresh_agg, fresh_int, fresh_bool, fresh_str, List.take_succ_cons, List.take_zero, List.drop_succ_cons, List.drop_zero, start_app, List.getD_cons_zero, List.getD_cons_succ, oslJ_fresh, oslA_fresh])
    rfl
  | some i =>
    rw [hp] at hat
    rw [send_some hp]
    obtain ⟨hi, _, hj⟩ := place_some hp
    have hwt := T4_waits (q.jobs.getD i .zero)
    generalize q.jobs.getD i .zero = j at *
    have hso : ∀ id, osl id q.jobs.length 10 = .sl id 0 q.jobs.length 10 q.jobs.length false := fun id => osl_pos (by omega)
    have hro : orow q.jobs.length 42 (encJ.cs q.jobs) = some (.row 42 (encJ.cs q.jobs)) := orow_pos (by omega)
    refine vcE.step (by simp (disch := first | assumption | omega | with_unfolding_all rfl) only [exC, exOps, exOp, wantedE, ↓reduceIte, ROp.run, evsE, evE, ty, List.getD_cons_zero, tz, List.length_nil, List.nil_append, putE, allocA, List.length_cons, List.cons_append]; rfl) (vcE.step (by simp (disch := first | assumption | omega | with_unfolding_all rfl) only [exC, exOps, exOp, wantedE, ↓reduceIte, ROp.run, evsE, evE, ty, Nat.reduceEqDiff, same, loadA, rowA, List.getElem?_cons_zero, ↓pickQ, Option.map_some, putE, List.append_nil, frzL, frz_agg, queL_frz, hcl, cloneV, cloneH, Cls.makes, callCls, nidL, tz, queL_nid, List.length_cons, List.length_nil, Nat.reduceAdd, List.cons_append, List.nil_append, storeA_eq, Que.c_len, Nat.reduceLeDiff, decide_true, over, List.take_zero, dropQ, List.set_cons_zero]; rfl) (vcE.step (by simp (disch := first | assumption | omega | with_unfolding_all rfl) only [exC, exOps, exOp, wantedE, ↓reduceIte, ROp.run, evsE, evE, hso, ty, Nat.reduceEqDiff, same, hro, loadA, rowA, List.getElem?_cons_zero, pickA, List.length_cons, List.length_nil, Nat.reduceAdd, Nat.reduceLeDiff, List.drop_zero, List.take_succ_cons, List.take_zero, Option.map_some, putE, List.getD_cons_succ, List.getD_cons_zero, List.append_nil, frzL, frz_agg, ↓slJ_frz, tz, oslA_frz, hat, Cls.isFree, callCls, nidL]; rfl) ?_))
    cases hf : j.fly
    · cases hw : j.waits <;> rw [hw] at hwt <;> simp only [Job.c, hf] at hwt
      · by_cases h4 : 4 ≤ flyers q.jobs
        · refine vcE.ex (by simp (disch := first | assumption | omega | with_unfolding_all rfl) only [exC, exOps, exOp, wantedE, ↓reduceIte, ROp.run, evsE, evE, ty, putE, same, binA, intA, dec_false, Option.map_some, Nat.reduceEqDiff, faddrA, loadA, rowA, List.getElem?_cons_zero, pickA, tz, ↓iaddrJ, ↓slJ_part, Job.c, hf, List.getElem?_cons_succ, chain, ordered, ↓slJ_load, List.append_nil, frzL, frz_agg, hwt, Cls.isFree, callCls, nidL, beq_iff_eq, cond_true, List.length_cons, List.length_nil, Nat.reduceAdd, Nat.reduceLeDiff, List.drop_zero, List.take_succ_cons, List.take_zero, ↓slJ_frz, oslA_frz, hfl, hg, dec_true, storeA_eq, decide_true, over, List.nil_append, List.drop_succ_cons, List.drop_nil, List.set_cons_succ, List.set_cons_zero]; rfl) ?_
          refine ⟨_, rfl, ?_⟩
          (simp (disch := first | assumption | with_unfolding_all rfl) only [List.drop_zero, List.take_succ_cons, List.take_zero, upd_app, ↓reduceIte, fresh_tup, freshL, fresh_agg, slJ_fresh, fresh_int, oslA_fresh, fresh_bool, Bool.false_and, Bool.false_or, h4, decide_true])
          rfl
        · refine vcE.ex (by simp (disch := first | assumption | omega | with_unfolding_all rfl) only [exC, exOps, exOp, wantedE, ↓reduceIte, ROp.run, evsE, evE, ty, putE, same, binA, intA, dec_false, Option.map_some, Nat.reduceEqDiff, faddrA, loadA, rowA, List.getElem?_cons_zero, pickA, tz, ↓iaddrJ, ↓slJ_part, Job.c, hf, List.getElem?_cons_succ, chain, ordered, ↓slJ_load, List.append_nil, frzL, frz_agg, hwt, Cls.isFree, callCls, nidL, beq_iff_eq, cond_true, List.length_cons, List.length_nil, Nat.reduceAdd, Nat.reduceLeDiff, List.drop_zero, List.take_succ_cons, List.take_zero, ↓slJ_frz, oslA_frz, hfl, hg, ↓slJ_fly, List.set_cons_succ, List.set_cons_zero, storeA_eq, decide_true, over, List.nil_append, List.drop_succ_cons, List.drop_nil]; rfl) ?_
          refine ⟨_, rfl, ?_⟩
          (simp (disch := first | assumption | with_unfolding_all rfl) only [List.drop_zero, List.take_succ_cons, List.take_zero, upd_app, ↓reduceIte, fresh_tup, freshL, fresh_agg, ↓slJset_fresh, fresh_int, oslA_fresh, fresh_bool, Bool.false_and, Bool.false_or, h4, decide_false, Bool.false_eq_true])
          rfl
      · by_cases hn : q.now < j.at_
        · refine vcE.ex (by simp (disch := first | assumption | omega | with_unfolding_all rfl) only [exC, exOps, exOp, wantedE, ↓reduceIte, ROp.run, evsE, evE, ty, putE, same, binA, intA, dec_false, Option.map_some, Nat.reduceEqDiff, faddrA, loadA, rowA, List.getElem?_cons_zero, pickA, tz, ↓iaddrJ, ↓slJ_part, Job.c, hf, List.getElem?_cons_succ, chain, ordered, ↓slJ_load, List.append_nil, frzL, frz_agg, hwt, Cls.isFree, callCls, nidL, beq_self_eq_true, hg2, dec_true, cond_true, List.length_cons, List.length_nil, Nat.reduceAdd, Nat.reduceLeDiff, List.drop_zero, List.take_succ_cons, List.take_zero, storeA_eq, decide_true, over, List.nil_append, List.drop_succ_cons, List.drop_nil, List.set_cons_succ, List.set_cons_zero]; rfl) ?_
          refine ⟨_, rfl, ?_⟩
          (simp (disch := first | assumption | with_unfolding_all rfl) only [List.drop_zero, List.take_succ_cons, List.take_zero, upd_app, ↓reduceIte, fresh_tup, freshL, fresh_agg, slJ_fresh, fresh_int, oslA_fresh, fresh_bool, hn, decide_true, Bool.true_and, Bool.false_or, Bool.true_or])
          rfl
        · by_cases h4 : 4 ≤ flyers q.jobs
          · refine vcE.ex (by simp (disch := first | assumption | omega | with_unfolding_all rfl) only [exC, exOps, exOp, wantedE, ↓reduceIte, ROp.run, evsE, evE, ty, putE, same, binA, intA, dec_false, Option.map_some, Nat.reduceEqDiff, faddrA, loadA, rowA, List.getElem?_cons_zero, pickA, tz, ↓iaddrJ, ↓slJ_part, Job.c, hf, List.getElem?_cons_succ, chain, ordered, ↓slJ_load, List.append_nil, frzL, frz_agg, hwt, Cls.isFree, callCls, nidL, beq_self_eq_true, hg2, cond_true, List.length_cons, List.length_nil, Nat.reduceAdd, Nat.reduceLeDiff, List.drop_zero, List.take_succ_cons, List.take_zero, ↓slJ_frz, oslA_frz, hfl, hg, dec_true, storeA_eq, decide_true, over, List.nil_append, List.drop_succ_cons, List.drop_nil, List.set_cons_succ, List.set_cons_zero]; rfl) ?_
            refine ⟨_, rfl, ?_⟩
            (simp (disch := first | assumption | with_unfolding_all rfl) only [List.drop_zero, List.take_succ_cons, List.take_zero, upd_app, ↓reduceIte, fresh_tup, freshL, fresh_agg, slJ_fresh, fresh_int, oslA_fresh, fresh_bool, hn, decide_false, Bool.true_and, Bool.false_or, h4, decide_true])
            rfl
          · refine vcE.ex (by simp (disch := first | assumption | omega | with_unfolding_all rfl) only [exC, exOps, exOp, wantedE, ↓reduceIte, ROp.run, evsE, evE, ty, putE, same, binA, intA, dec_false, Option.map_some, Nat.reduceEqDiff, faddrA, loadA, rowA, List.getElem?_cons_zero, pickA, tz, ↓iaddrJ, ↓slJ_part, Job.c, hf, List.getElem?_cons_succ, chain, ordered, ↓slJ_load, List.append_nil, frzL, frz_agg, hwt, Cls.isFree, callCls, nidL, beq_self_eq_true, hg2, cond_true, List.length_cons, List.length_nil, Nat.reduceAdd, Nat.reduceLeDiff, List.drop_zero, List.take_succ_cons, List.take_zero, ↓slJ_frz, oslA_frz, hfl, hg, ↓slJ_fly, List.set_cons_succ, List.set_cons_zero, storeA_eq, decide_true, over, List.nil_append, List.drop_succ_cons, List.drop_nil]; rfl) ?_
            refine ⟨_, rfl, ?_⟩
            (simp (disch := first | assumption | with_unfolding_all rfl) only [List.drop_zero, List.take_succ_cons, List.take_zero, upd_app, ↓reduceIte, fresh_tup, freshL, fresh_agg, ↓slJset_fresh, fresh_int, oslA_fresh, fresh_bool, hn, decide_false, Bool.true_and, Bool.false_or, h4, Bool.false_eq_true])
            rfl
    · refine vcE.ex (by simp (disch := first | assumption | omega | with_unfolding_all rfl) only [exC, exOps, exOp, wantedE, ↓reduceIte, ROp.run, evsE, evE, ty, putE, same, binA, intA, dec_false, Option.map_some, Nat.reduceEqDiff, faddrA, loadA, rowA, List.getElem?_cons_zero, pickA, tz, ↓iaddrJ, ↓slJ_part, Job.c, hf, List.getElem?_cons_succ, List.length_cons, List.length_nil, Nat.reduceAdd, Nat.reduceLeDiff, List.drop_zero, List.take_succ_cons, List.take_zero, storeA_eq, decide_true, over, List.nil_append, List.drop_succ_cons, List.drop_nil, List.append_nil, List.set_cons_succ, List.set_cons_zero]; rfl) ?_
      refine ⟨_, rfl, ?_⟩
      (simp (disch := first | assumption | with_unfolding_all rfl) only [upd_app, Nat.reduceEqDiff, ↓reduceIte, fresh_tup, freshL, fresh_agg, fresh_int, fresh_bool, fresh_str, List.take_succ_cons, List.take_zero, List.drop_succ_cons, List.drop_zero, start_app, List.getD_cons_zero, List.getD_cons_succ, slJ_fresh, oslA_fresh, hf, Bool.true_or, if_true])
      rfl
end
end Go.Gi
