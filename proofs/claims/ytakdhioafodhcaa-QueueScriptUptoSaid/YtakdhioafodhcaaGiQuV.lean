/- Queues: what is gone through of a queue, and a call. -/
/- Queues: a call of the laws'. -/
/- The table for the laws that go through calls. -/
import Derived.Test.YtakdhioafodhcaaGiQuT
set_option linter.unusedVariables false
set_option linter.unusedSimpArgs false
namespace Go.Gi
section
open Go Go.Proofs

def Que.light (q : Que) : Bool := q.jobs.all (fun j => j.act.light) && ((q.failed ++ q.settled).all Act.light && (decide (q.jobs.length ≤ 40) && (decide (q.failed.length ≤ 70) && decide (q.settled.length ≤ 70))))
/-- With copies that the caller may write. -/
def T9 : Tab := T8.addO 24 (.cons (.S encA) .nil) fun p => if p.1.length ≤ most then some (.mk fun k => (ownV 5 p.1.length k, ownH 23 p.1.length (encA.cs p.1))) else none
theorem T9_ok : TabOk Try.prog T9 := by
  refine TabOk.addO T8_ok ?_
  intro p r h
  split at h
  · rename_i hv
    cases h
    simp only [most] at hv
    exact fun hp => own_calls hmG encA comp24 (by omega) (by omega) hp
  · cases h
theorem T9_own {l : List Act} (h : l.length ≤ most) : T9 24 [encA.S l] = some (.mk fun k => (ownV 5 l.length k, ownH 23 l.length (encA.cs l))) :=
  (Tab.addO_self _ _ (.cons (.S encA) .nil) _ (l, ())).trans (if_pos h)
theorem T9_light (a : Act) : T9 11 [.agg a.c] = some (.rd true (.bool a.light)) := (Tab.addO_ne _ _ _ _ rfl _).trans (T8_light a)
theorem encJ_act {l : List Job} {i : Nat} {j : Job} (h : l[i]? = some j) : pickA (some 5) (encJ.cs l) (i * 10 + 1) = some (.agg j.act.c) := by
  have := encJ.pick_part h (sh := some 5) (o := 1) (by show 1 + 5 ≤ 10; omega)
  rw [show encJ.sz = 10 from rfl] at this
  rw [this]
  rfl
theorem pLightQ (q : Que) (hq : Fits q) : PC Try.prog 26 [.agg q.c] (.bool q.light) := by
  refine pc_e hmG T9_ok comp26 (by decide) (by simp) (nidL_ok (by simp only [nidL, queN, Bool.and_self])) ?_
  have hcl : True := trivial
  have hjl := hq.j
  have hfl := hq.f
  have hsl := hq.s
  simp only [most] at hjl hfl hsl
  have hq0 : pickA none q.c 0 = some (encJ.S q.jobs) := rfl
  have hq3 : pickA none q.c 3 = some (encA.S q.failed) := rfl
  have hq4 : pickA none q.c 4 = some (encA.S q.settled) := rfl
  have bad : ∀ {tm : Env} {hp : HP}, q.light = false → tm 2 = .bool false → RetE [.t 2] (fun r' hp' => frz hp' r' = some (.bool q.light)) .ret tm hp := by
    intro tm hp h h2
    refine ⟨_, by simp only [resE, resEL, resE1, h2]; rfl, ?_⟩
    rw [h]
    rfl
  refine vcE.step (by simp (disch := first | assumption | omega | with_unfolding_all rfl) only [exC, exOps, exOp, wantedE, ↓reduceIte, ROp.run, evsE, evE, ty, List.getD_cons_zero, tz, List.length_nil, List.nil_append, putE]; rfl) ?_
  refine vcE.then (fun e tm hp => (e = .ret ∧ tm 2 = .bool false ∧ q.light = false) ∨ (e = .normal ∧ hp[0]? = some (some (.row 29 q.c)) ∧ tm 1 = .ptr 0 0 ∧ q.jobs.all (fun j => j.act.light) = true)) ?_ ?_
  · refine vcE.step (by simp (disch := first | assumption | omega | with_unfolding_all rfl) only [exC, exOps, exOp, wantedE, ↓reduceIte, ROp.run, evsE, evE, putE]; rfl) (vcE.block (vcE.count (by intro l tm hp h; simp at h)
      (fun i tm hp => hp[0]? = some (some (.row 29 q.c)) ∧ tm 1 = .ptr 0 0 ∧ tm 3 = .int .i64 i ∧ (q.jobs.take i).all (fun j => j.act.light) = true) q.jobs.length ⟨rfl, rfl, rfl, rfl⟩ ?_ ?_))
    · rintro i tm hp hi ⟨h0, t1, t3, hall⟩
      obtain ⟨j, hj⟩ : ∃ j, q.jobs[i]? = some j := ⟨_, List.getElem?_eq_getElem hi⟩
      have hia : iaddrA 10 (encJ.S q.jobs) (.int .i64 i) = some (.fptr (encJ.cs q.jobs) (i * 10)) := encJ.S_iaddr hi
      have hpa := encJ_act hj
      have hli := T9_light j.act
      cases hal : j.act.light <;> rw [hal] at hli
      · refine vcE.ex (by simp (disch := first | assumption | omega | with_unfolding_all rfl) only [exC, exOps, exOp, wantedE, ↓reduceIte, ROp.run, evsE, evE, t3, putE, ty, Nat.reduceEqDiff, t1, same, faddrA, Option.map_some, loadA, rowA, h0, ↓hq0, binA, intA, dec_true, hia, ↓hpa, List.append_nil, frzL, frz_agg, actL_frz, hli, Cls.isFree, callCls, nidL, tz, actL_nid, unA]; rfl) ?_
        refine .inl ⟨rfl, ?_, by simp only [Que.light, all_false (p := fun j => j.act.light) hj hal, Bool.false_and]⟩
        simp only [upd_app, Nat.reduceEqDiff, ↓reduceIte]
      · refine vcE.ex (by simp (disch := first | assumption | omega | with_unfolding_all rfl) only [exC, exOps, exOp, wantedE, ↓reduceIte, ROp.run, evsE, evE, t3, putE, ty, Nat.reduceEqDiff, t1, same, faddrA, Option.map_some, loadA, rowA, h0, ↓hq0, binA, intA, dec_true, hia, ↓hpa, List.append_nil, frzL, frz_agg, actL_frz, hli, Cls.isFree, callCls, nidL, tz, actL_nid, unA]; rfl) ?_
        refine ⟨h0, ?_, ?_, by rw [all_take_succ hj, hall]; exact hal⟩
        · simp only [upd_app, Nat.reduceEqDiff, ↓reduceIte, t1]
        · simp only [upd_app, Nat.reduceEqDiff, ↓reduceIte]; rfl
    · rintro tm hp ⟨h0, t1, t3, hall⟩
      rw [List.take_length] at hall
      refine vcE.ex (by simp (disch := first | assumption | omega | with_unfolding_all rfl) only [exC, exOps, exOp, wantedE, ↓reduceIte, ROp.run, evsE, evE, t3, putE, ty, Nat.reduceEqDiff, t1, same, faddrA, Option.map_some, loadA, rowA, h0, ↓hq0, binA, intA, dec_false]; rfl) ?_
      refine .inr ⟨rfl, h0, ?_, hall⟩
      simp only [upd_app, Nat.reduceEqDiff, ↓reduceIte, t1]
  · rintro e tm hp (⟨rfl, h2, hv⟩ | ⟨rfl, h0, t1, hjs⟩)
    · exact bad hv h2
    obtain ⟨v', hp', happ, hown, hold, _, id, ex, rfl, hid⟩ := ownV_app encA hp (e := 23) q.failed (m := q.settled) (bytes := 72) (x := encA.S q.settled) (encA.S_src _ _) (by omega) (by omega)
    have happ : appA 23 5 72 (hp ++ ownH 23 q.failed.length (encA.cs q.failed)) (ownV 5 q.failed.length hp.length) (encA.S q.settled) = some (.sl id 0 (q.failed ++ q.settled).length 5 (q.failed ++ q.settled).length ex, hp') := happ
    have howf := T9_own hq.f
    have h0b : (hp ++ ownH 23 q.failed.length (encA.cs q.failed))[0]? = some (some (.row 29 q.c)) := app_get h0
    have h0' : hp'[0]? = some (some (.row 29 q.c)) := (hold 0 (get_lt h0)).trans h0
    obtain ⟨id', ex', he, hrow⟩ := hown
    injection he with he1
    subst he1
    generalize hL : q.failed ++ q.settled = L at *
    have hLl : L.length ≤ 2 * 1073741824 := by rw [← hL, List.length_append]; omega
    have hnid : nidL [encA.S q.failed] = true := by simp only [nidL, Enc.S_nid, Bool.and_self]
    refine vcE.step (by simp (disch := first | assumption | omega | with_unfolding_all rfl) only [exC, chain, ordered, List.getElem?_cons_zero, List.getElem?_cons_succ, exOps, exOp, wantedE, ↓reduceIte, ROp.run, evsE, evE, t1, same, faddrA, ty, Option.map_some, putE, loadA, rowA, h0, ↓hq3, Nat.reduceEqDiff, ↓hq4, List.append_nil, frzL, howf, Cls.makes, callCls, nidL, ↓happ, cond_true]; rfl) ?_
    refine vcE.then (fun e tm hp => (e = .ret ∧ tm 2 = .bool false ∧ q.light = false) ∨ (e = .normal ∧ hp[0]? = some (some (.row 29 q.c)) ∧ tm 1 = .ptr 0 0 ∧ L.all Act.light = true)) ?_ ?_
    · refine vcE.step (by simp (disch := first | assumption | omega | with_unfolding_all rfl) only [exC, exOps, exOp, wantedE, ↓reduceIte, ROp.run, evsE, evE, putE]; rfl) (vcE.block (vcE.count (by intro l tm hp h; simp at h)
        (fun i tm hp2 => hp2 = hp' ∧ tm 1 = .ptr 0 0 ∧ tm 4 = .sl id 0 L.length 5 L.length ex ∧ tm 5 = .int .i64 i ∧ (L.take i).all Act.light = true) L.length ⟨rfl, ?_, ?_, rfl, rfl⟩ ?_ ?_))
      · simp only [upd_app, Nat.reduceEqDiff, ↓reduceIte, t1]
      · simp only [upd_app, Nat.reduceEqDiff, ↓reduceIte]
      · rintro i tm hp2 hi ⟨rfl, t1, t4, t5, hall⟩
        obtain ⟨a, ha⟩ : ∃ a, L[i]? = some a := ⟨_, List.getElem?_eq_getElem hi⟩
        have hia : iaddrA 5 (.sl id 0 L.length 5 L.length ex) (.int .i64 i) = some (.ptr id (i * 5)) := by
          have := iaddr_sl (id := id) (off := 0) (sz := 5) (lo := L.length) (ex := ex) (k := .i64) hi
          simpa using this
        have hpa : loadA hp2 (some 5) (.ptr id (i * 5)) = some (.agg a.c) := encA.sl_load hrow ha
        have hli := T9_light a
        cases hal : a.light <;> rw [hal] at hli
        · refine vcE.ex (by simp (disch := first | assumption | omega | with_unfolding_all rfl) only [exC, exOps, exOp, wantedE, ↓reduceIte, ROp.run, evsE, evE, t5, putE, ty, Nat.reduceEqDiff, t4, tz, same, Option.map_some, binA, intA, dec_true, hia, ↓hpa, List.append_nil, frzL, frz_agg, actL_frz, hli, Cls.isFree, callCls, nidL, actL_nid, unA]; rfl) ?_
          refine .inl ⟨rfl, ?_, by simp only [Que.light, hL, all_false ha hal, Bool.false_and, Bool.and_false]⟩
          simp only [upd_app, Nat.reduceEqDiff, ↓reduceIte]
        · refine vcE.ex (by simp (disch := first | assumption | omega | with_unfolding_all rfl) only [exC, exOps, exOp, wantedE, ↓reduceIte, ROp.run, evsE, evE, t5, putE, ty, Nat.reduceEqDiff, t4, tz, same, Option.map_some, binA, intA, dec_true, hia, ↓hpa, List.append_nil, frzL, frz_agg, actL_frz, hli, Cls.isFree, callCls, nidL, actL_nid, unA]; rfl) ?_
          refine ⟨rfl, ?_, ?_, ?_, by rw [all_take_succ ha, hall]; exact hal⟩
          · simp only [upd_app, Nat.reduceEqDiff, ↓reduceIte, t1]
          · simp only [upd_app, Nat.reduceEqDiff, ↓reduceIte, t4]
          · simp only [upd_app, Nat.reduceEqDiff, ↓reduceIte]; rfl
      · rintro tm hp2 ⟨rfl, t1, t4, t5, hall⟩
        rw [List.take_length] at hall
        refine vcE.ex (by simp (disch := first | assumption | omega | with_unfolding_all rfl) only [exC, exOps, exOp, wantedE, ↓reduceIte, ROp.run, evsE, evE, t5, putE, ty, Nat.reduceEqDiff, t4, tz, same, Option.map_some, binA, intA, dec_false]; rfl) ?_
        refine .inr ⟨rfl, h0', ?_, hall⟩
        simp only [upd_app, Nat.reduceEqDiff, ↓reduceIte, t1]
    · rintro e tm hp2 (⟨rfl, h2, hv⟩ | ⟨rfl, h0, t1, has⟩)
      · exact bad hv h2
      have hg2 : ∀ x y : Int, (x > y) = (y < x) := fun _ _ => rfl
      by_cases k1 : q.jobs.length ≤ 40
      · by_cases k2 : q.failed.length ≤ 70
        · by_cases k3 : q.settled.length ≤ 70
          · refine vcE.ex (by simp (disch := first | assumption | omega | with_unfolding_all rfl) only [exC, exOps, exOp, wantedE, ↓reduceIte, ROp.run, evsE, evE, t1, same, faddrA, ty, Option.map_some, putE, loadA, rowA, h0, ↓hq0, binA, intA, dec_true, beq_self_eq_true, Nat.reduceEqDiff, ↓hq3, ↓hq4]; rfl) ?_
            refine ⟨_, rfl, ?_⟩
            simp only [Que.light, hL, hjs, has, k1, k2, k3, upd_app, Nat.reduceEqDiff, ↓reduceIte, decide_true, decide_false, Bool.and_self, Bool.and_false]
            rfl
          · refine vcE.ex (by simp (disch := first | assumption | omega | with_unfolding_all rfl) only [exC, exOps, exOp, wantedE, ↓reduceIte, ROp.run, evsE, evE, t1, same, faddrA, ty, Option.map_some, putE, loadA, rowA, h0, ↓hq0, binA, intA, dec_true, beq_self_eq_true, Nat.reduceEqDiff, ↓hq3, ↓hq4, dec_false]; rfl) ?_
            refine ⟨_, rfl, ?_⟩
            simp only [Que.light, hL, hjs, has, k1, k2, k3, upd_app, Nat.reduceEqDiff, ↓reduceIte, decide_true, decide_false, Bool.and_self, Bool.and_false]
            rfl
        · refine vcE.ex (by simp (disch := first | assumption | omega | with_unfolding_all rfl) only [exC, exOps, exOp, wantedE, ↓reduceIte, ROp.run, evsE, evE, t1, same, faddrA, ty, Option.map_some, putE, loadA, rowA, h0, ↓hq0, binA, intA, dec_true, beq_self_eq_true, Nat.reduceEqDiff, ↓hq3, dec_false, beq_iff_eq]; rfl) ?_
          refine ⟨_, rfl, ?_⟩
          simp only [Que.light, hL, hjs, has, k1, k2, upd_app, Nat.reduceEqDiff, ↓reduceIte, decide_true, decide_false, Bool.and_self, Bool.and_false, Bool.false_and]
          rfl
      · refine vcE.ex (by simp (disch := first | assumption | omega | with_unfolding_all rfl) only [exC, exOps, exOp, wantedE, ↓reduceIte, ROp.run, evsE, evE, t1, same, faddrA, ty, Option.map_some, putE, loadA, rowA, h0, ↓hq0, binA, intA, dec_false, beq_iff_eq, Nat.reduceEqDiff]; rfl) ?_
        refine ⟨_, rfl, ?_⟩
        simp only [Que.light, hL, hjs, has, k1, upd_app, Nat.reduceEqDiff, ↓reduceIte, decide_true, decide_false, Bool.and_self, Bool.and_false, Bool.false_and]
        rfl
end

section
open Go Go.Proofs

def doV (q : Que) (c : Call) : AV := .tup [.agg (doQ q c).1.c, .int .i64 (doQ q c).2.1, .int .i64 (doQ q c).2.2.1, .int .i64 (doQ q c).2.2.2.1, encJ.S (doQ q c).2.2.2.2]
set_option maxHeartbeats 4000000 in
theorem pDo (q : Que) (hq : OkQ q) (c : Call) (hk : c.keep.length ≤ most) : PC Try.prog 22 [.agg q.c, .agg c.c] (doV q c) := by
  refine pc_e hmG T8_ok comp22 (by decide) (by simp) (nidL_ok (by rw [nidL, queN]; simp only [nidL, nid, Call.c, Enc.S_nid, Bool.and_self])) ?_
  have hcl : True := trivial
  have c0 : T8 18 [.int .i64 c.kind, .int .i64 9] = _ := (T8_ne rfl).trans (T7_pick c.kind 9 (by omega))
  have hr := pick_range c.kind 9 (by omega)
  have hc0 : pickA none c.c 0 = some (.int .i64 c.kind) := rfl
  have hc1 : pickA (some 5) c.c 1 = some (.agg c.a.c) := rfl
  have hc6 : pickA none c.c 6 = some (.int .i64 c.txn) := rfl
  have hc7 : pickA none c.c 7 = some (.int .i64 c.n) := rfl
  have hc8 : pickA none c.c 8 = some (.bool c.ok) := rfl
  have hc9 : pickA none c.c 9 = some (encA.S c.keep) := rfl
  have hcc : cellsA (.agg c.c) = c.c := rfl
  refine vcE.step (by simp (disch := first | assumption | omega | with_unfolding_all rfl) only [exC, exOps, exOp, wantedE, ↓reduceIte, ROp.run, evsE, evE, ty, List.getD_cons_zero, tz, List.length_nil, List.nil_append, putE, Nat.reduceEqDiff, List.getD_cons_succ, List.length_cons, List.cons_append, allocA, Nat.reduceAdd]; rfl) ?_
  have fin : ∀ {tm : Env} {hp : HP}, doV q c = .tup [.agg (doQ q c).1.c, tm 5, tm 6, tm 7, encJ.S (doQ q c).2.2.2.2] ∧ tm 4 = .ptr 2 0 ∧ hp[2]? = some (some (.row 29 (doQ q c).1.c)) ∧ frz hp (tm 8) = some (encJ.S (doQ q c).2.2.2.2) → RetE [.cell 4 (some 6), .t 5, .t 6, .t 7, .t 8] (fun r' hp' => frz hp' r' = some (doV q c)) .ret tm hp := by
    rintro tm hp ⟨hd, e4, eh, e8⟩
    have hpk : pickA (some 6) (doQ q c).1.c 0 = some (.agg (doQ q c).1.c) := rfl
    refine ⟨.tup [.agg (doQ q c).1.c, tm 5, tm 6, tm 7, tm 8], ?_, ?_⟩
    · simp only [resE, resEL, resE1, e4, loadA, rowA, eh, hpk]
    · rw [hd]
      simp only [doV, AV.tup.injEq, List.cons.injEq, true_and, and_true] at hd
      obtain ⟨h5, h6, h7⟩ := hd
      rw [← h5, ← h6, ← h7, frz_tup]
      simp only [frzL, frz_agg, queL_frz, frz, e8]
  refine vcE.then (fun e tm hp => (e = .ret ∧ doV q c = .tup [.agg (doQ q c).1.c, tm 5, tm 6, tm 7, encJ.S (doQ q c).2.2.2.2] ∧ tm 4 = .ptr 2 0 ∧ hp[2]? = some (some (.row 29 (doQ q c).1.c)) ∧ frz hp (tm 8) = some (encJ.S (doQ q c).2.2.2.2)) ∨ (e = .normal ∧ pick c.kind 9 = 8 ∧ tm 2 = .ptr 0 0 ∧ tm 4 = .ptr 2 0 ∧ hp = [some (.row 29 q.c), some (.row 50 c.c), some (.row 29 [.nils, .int .i64 0, .int .i64 0, .nils, .nils, .bool false])])) ?_ ?_
  · refine vcE.step (by simp (disch := first | assumption | omega | with_unfolding_all rfl) only [exC, exOps, exOp, wantedE, ↓reduceIte, ROp.run, evsE, evE, ty, Nat.reduceEqDiff, same, faddrA, Option.map_some, putE, loadA, rowA, List.getElem?_cons_succ, List.getElem?_cons_zero, ↓hc0, List.append_nil, frzL, tz, c0, Cls.isFree, callCls, nidL]; rfl) (vcE.block ?_)
    generalize hm : pick c.kind 9 = m at *
    obtain ⟨m1, m2⟩ := hr
    have hm' : m = 0 ∨ m = 1 ∨ m = 2 ∨ m = 3 ∨ m = 4 ∨ m = 5 ∨ m = 6 ∨ m = 7 ∨ m = 8 := by omega
    rcases hm' with rfl | rfl | rfl | rfl | rfl | rfl | rfl | rfl | rfl
    · have hd : doQ q c = ((q.put c.a).1, (q.put c.a).2.2, 0, (q.put c.a).2.1, []) := by simp [doQ, hm]
      have k1 : T8 12 [.agg q.c, .agg c.a.c] = _ := (T8_ne rfl).trans (T7_put hq c.a)
      refine vcE.ex (by simp (disch := first | assumption | omega | with_unfolding_all rfl) only [exC, exOps, exOp, wantedE, ↓reduceIte, ROp.run, evsE, evE, ty, same, binA, intA, dec_true, Option.map_some, putE, Nat.reduceEqDiff, loadA, rowA, List.getElem?_cons_zero, ↓pickQ, faddrA, List.getElem?_cons_succ, ↓hc1, List.append_nil, frzL, frz_agg, queL_frz, actL_frz, k1, Cls.isFree, callCls, nidL, tz, queL_nid, actL_nid, allocA, List.length_cons, List.length_nil, Nat.reduceAdd, List.cons_append, List.nil_append, storeA_eq, Que.c_len, Nat.reduceLeDiff, over, List.take_zero, List.drop_succ_cons, List.drop_nil, List.set_cons_succ, List.set_cons_zero]; rfl) ?_
      refine .inl ⟨rfl, ?_, ?_, ?_, ?_⟩
      · rw [doV, hd]
        rfl
      · simp only [upd_app, Nat.reduceEqDiff, ↓reduceIte]
      · rw [hd]
        rfl
      · rw [hd]
        simp only [upd_app, Nat.reduceEqDiff, ↓reduceIte]
        rfl
    · have hd : doQ q c = ((q.put c.a).1, (q.put c.a).2.2, 0, (q.put c.a).2.1, []) := by simp [doQ, hm]
      have k1 : T8 12 [.agg q.c, .agg c.a.c] = _ := (T8_ne rfl).trans (T7_put hq c.a)
      refine vcE.ex (by simp (disch := first | assumption | omega | with_unfolding_all rfl) only [exC, exOps, exOp, wantedE, ↓reduceIte, ROp.run, evsE, evE, ty, same, binA, intA, dec_false, Option.map_some, putE, Nat.reduceEqDiff, dec_true, loadA, rowA, List.getElem?_cons_zero, ↓pickQ, faddrA, List.getElem?_cons_succ, ↓hc1, List.append_nil, frzL, frz_agg, queL_frz, actL_frz, k1, Cls.isFree, callCls, nidL, tz, queL_nid, actL_nid, allocA, List.length_cons, List.length_nil, Nat.reduceAdd, List.cons_append, List.nil_append, storeA_eq, Que.c_len, Nat.reduceLeDiff, over, List.take_zero, List.drop_succ_cons, List.drop_nil, List.set_cons_succ, List.set_cons_zero]; rfl) ?_
      refine .inl ⟨rfl, ?_, ?_, ?_, ?_⟩
      · rw [doV, hd]
        rfl
      · simp only [upd_app, Nat.reduceEqDiff, ↓reduceIte]
      · rw [hd]
        rfl
      · rw [hd]
        simp only [upd_app, Nat.reduceEqDiff, ↓reduceIte]
        rfl
    · have hd : doQ q c = ((q.send (q.nxt []).1.txn).1, (q.send (q.nxt []).1.txn).2, 0, (q.nxt []).1.txn, []) := by simp [doQ, hm]
      have k1 : T8 20 [.agg q.c, .fsl [] 0] = _ := (T8_ne rfl).trans (T7_next hq.fits (l := []) (by simp))
      generalize hj : (q.nxt []).1 = j at *
      generalize (q.nxt []).2 = b at *
      have hj0 : pickA none j.c 0 = some (.int .i64 j.txn) := rfl
      have k2 : T8 14 [.agg q.c, .int .i64 j.txn] = _ := (T8_ne rfl).trans (T7_send hq j.txn)
      refine vcE.step (by simp (disch := first | assumption | omega | with_unfolding_all rfl) only [exC, exOps, exOp, wantedE, ↓reduceIte, ROp.run, evsE, evE, ty, same, binA, intA, dec_false, Option.map_some, putE, Nat.reduceEqDiff]; rfl) (vcE.condFalse (by simp only [evE, upd_app, Nat.reduceEqDiff, ↓reduceIte]) (vcE.step (by simp (disch := first | assumption | omega | with_unfolding_all rfl) only [exC, exOps, exOp, wantedE, ↓reduceIte, ROp.run, evsE, evE, ty, Nat.reduceEqDiff, same, binA, intA, dec_true, Option.map_some, putE]; rfl) (vcE.condTrue (by simp only [evE, upd_app, Nat.reduceEqDiff, ↓reduceIte]) ?_)))
      refine vcE.step (by simp (disch := first | assumption | omega | with_unfolding_all rfl) only [exC, exOps, exOp, wantedE, ↓reduceIte, ROp.run, evsE, evE, ty, Nat.reduceEqDiff, same, loadA, rowA, List.getElem?_cons_zero, ↓pickQ, Option.map_some, putE, List.append_nil, frzL, frz_agg, queL_frz, tz, k1, Cls.isFree, callCls, nidL, queL_nid, List.getElem?_cons_succ, allocA, List.length_cons, List.length_nil, Nat.reduceAdd, List.cons_append, List.nil_append, storeA_eq, Job.c_len, Nat.reduceLeDiff, dec_true, over, List.take_zero, List.drop_succ_cons, List.drop_nil, List.set_cons_succ, List.set_cons_zero]; rfl) (vcE.step (by simp (disch := first | assumption | omega | with_unfolding_all rfl) only [exC, exOps, exOp, wantedE, ↓reduceIte, ROp.run, evsE, evE, ty, Nat.reduceEqDiff, same, loadA, rowA, List.getElem?_cons_zero, ↓pickQ, Option.map_some, putE, faddrA, List.getElem?_cons_succ, ↓hj0, List.append_nil, frzL, frz_agg, queL_frz, tz, k2, Cls.isFree, callCls, nidL, queL_nid, allocA, List.length_cons, List.length_nil, Nat.reduceAdd, List.cons_append, List.nil_append, storeA_eq, Que.c_len, Nat.reduceLeDiff, dec_true, over, List.take_zero, List.drop_succ_cons, List.drop_nil, List.set_cons_succ, List.set_cons_zero]; rfl) ?_)
      generalize q.send j.txn = r at *
      refine vcE.seq (vcE.forks (fun tm hp => tm 5 = .int .i64 r.2 ∧ tm 6 = .int .i64 0 ∧ tm 7 = .int .i64 j.txn ∧ tm 4 = .ptr 2 0 ∧ hp[2]? = some (some (.row 29 r.1.c)) ∧ tm 8 = .nils) ?_ ?_)
      · repeat' (first | with_reducible exact exTs_nil | with_reducible refine exT_fork ?_ | (with_reducible show exT _ _ _ (Tr.take _ _) _ _ _; refine exT_take rfl (by simp (disch := first | assumption | omega | with_unfolding_all rfl) only [exOp, wantedE, ↓reduceIte, ROp.run, evsE, evE, ty, Nat.reduceEqDiff, same, loadA, rowA, List.getElem?_cons_succ, List.getElem?_cons_zero, ↓pickQ, Option.map_some, putE, faddrA, storeA_eq, tz, Que.c_len, List.length_cons, List.length_nil, Nat.reduceAdd, Nat.reduceLeDiff, dec_true, over, List.take_zero, List.nil_append, List.drop_succ_cons, List.drop_nil, List.append_nil, List.set_cons_succ, List.set_cons_zero, ↓hj0]; rfl) ?_) | (with_reducible show exTs _ _ _ (_ :: _) _ _ _; refine exTs_cons rfl (by simp (disch := first | assumption | omega | with_unfolding_all rfl) only [exOp, wantedE, ↓reduceIte, ROp.run, evsE, evE, ty, same, loadA, rowA, List.getElem?_cons_succ, List.getElem?_cons_zero, ↓hj0, Option.map_some, putE, Nat.reduceEqDiff, storeA_eq, tz, Que.c_len, List.length_cons, List.length_nil, Nat.reduceAdd, Nat.reduceLeDiff, dec_true, over, List.take_zero, List.nil_append, List.drop_succ_cons, List.drop_nil, List.append_nil, List.set_cons_succ, List.set_cons_zero]; rfl) ?_ ?_))
        all_goals (with_reducible refine exT_done ?_)
        all_goals refine ⟨?_, ?_, ?_, ?_, ?_, ?_⟩
        all_goals (try simp only [upd_app, Nat.reduceEqDiff, ↓reduceIte])
        all_goals rfl
      · rintro tm hp ⟨e5, e6, e7, e4, eh, e8⟩
        refine vcE.ex (by simp (disch := first | assumption | omega | with_unfolding_all rfl) only [exC]; rfl) ?_
        refine .inl ⟨rfl, ?_, e4, ?_, ?_⟩
        · rw [doV, hd, e5, e6, e7]
        · rw [hd]
          exact eh
        · rw [hd, e8]
          rfl
    · have hd : doQ q c = ((q.send c.txn).1, (q.send c.txn).2, 0, 0, []) := by simp [doQ, hm]
      have k1 : T8 14 [.agg q.c, .int .i64 c.txn] = _ := (T8_ne rfl).trans (T7_send hq c.txn)
      refine vcE.ex (by simp (disch := first | assumption | omega | with_unfolding_all rfl) only [exC, exOps, exOp, wantedE, ↓reduceIte, ROp.run, evsE, evE, ty, same, binA, intA, dec_false, Option.map_some, putE, Nat.reduceEqDiff, dec_true, loadA, rowA, List.getElem?_cons_zero, ↓pickQ, faddrA, List.getElem?_cons_succ, ↓hc6, List.append_nil, frzL, frz_agg, queL_frz, tz, k1, Cls.isFree, callCls, nidL, queL_nid, allocA, List.length_cons, List.length_nil, Nat.reduceAdd, List.cons_append, List.nil_append, storeA_eq, Que.c_len, Nat.reduceLeDiff, over, List.take_zero, List.drop_succ_cons, List.drop_nil, List.set_cons_succ, List.set_cons_zero]; rfl) ?_
      refine .inl ⟨rfl, ?_, ?_, ?_, ?_⟩
      · rw [doV, hd]
        rfl
      · simp only [upd_app, Nat.reduceEqDiff, ↓reduceIte]
      · rw [hd]
        rfl
      · rw [hd]
        simp only [upd_app, Nat.reduceEqDiff, ↓reduceIte]
        rfl
    · have hd : doQ q c = ((q.reply c.txn c.ok).1, (q.reply c.txn c.ok).2.2, (q.reply c.txn c.ok).2.1, 0, []) := by simp [doQ, hm]
      have k1 : T8 15 [.agg q.c, .int .i64 c.txn, .bool c.ok] = _ := (T8_ne rfl).trans (T7_reply hq c.txn c.ok)
      refine vcE.ex (by simp (disch := first | assumption | omega | with_unfolding_all rfl) only [exC, exOps, exOp, wantedE, ↓reduceIte, ROp.run, evsE, evE, ty, same, binA, intA, dec_false, Option.map_some, putE, Nat.reduceEqDiff, dec_true, loadA, rowA, List.getElem?_cons_zero, ↓pickQ, faddrA, List.getElem?_cons_succ, ↓hc6, ↓hc8, List.append_nil, frzL, frz_agg, queL_frz, tz, k1, Cls.isFree, callCls, nidL, queL_nid, allocA, List.length_cons, List.length_nil, Nat.reduceAdd, List.cons_append, List.nil_append, storeA_eq, Que.c_len, Nat.reduceLeDiff, over, List.take_zero, List.drop_succ_cons, List.drop_nil, List.set_cons_succ, List.set_cons_zero]; rfl) ?_
      refine .inl ⟨rfl, ?_, ?_, ?_, ?_⟩
      · rw [doV, hd]
        rfl
      · simp only [upd_app, Nat.reduceEqDiff, ↓reduceIte]
      · rw [hd]
        rfl
      · rw [hd]
        simp only [upd_app, Nat.reduceEqDiff, ↓reduceIte]
        rfl
    · have hd : doQ q c = ((q.pass c.n).1, (q.pass c.n).2, 0, 0, []) := by simp [doQ, hm]
      have k1 : T8 19 [.agg q.c, .int .i64 c.n] = _ := (T8_ne rfl).trans (T7_pass hq c.n)
      refine vcE.ex (by simp (disch := first | assumption | omega | with_unfolding_all rfl) only [exC, exOps, exOp, wantedE, ↓reduceIte, ROp.run, evsE, evE, ty, same, binA, intA, dec_false, Option.map_some, putE, Nat.reduceEqDiff, dec_true, loadA, rowA, List.getElem?_cons_zero, ↓pickQ, faddrA, List.getElem?_cons_succ, ↓hc7, List.append_nil, frzL, frz_agg, queL_frz, tz, k1, Cls.isFree, callCls, nidL, queL_nid, allocA, List.length_cons, List.length_nil, Nat.reduceAdd, List.cons_append, List.nil_append, storeA_eq, Que.c_len, Nat.reduceLeDiff, over, List.take_zero, List.drop_succ_cons, List.drop_nil, List.set_cons_succ, List.set_cons_zero]; rfl) ?_
      refine .inl ⟨rfl, ?_, ?_, ?_, ?_⟩
      · rw [doV, hd]
        rfl
      · simp only [upd_app, Nat.reduceEqDiff, ↓reduceIte]
      · rw [hd]
        rfl
      · rw [hd]
        simp only [upd_app, Nat.reduceEqDiff, ↓reduceIte]
        rfl
    · have hd : doQ q c = ((q.withdraw c.keep).1, 0, 0, 0, (q.withdraw c.keep).2) := by simp [doQ, hm]
      have k1 := T8_ownA hk
      have k2 := T8_withdraw hq.fits hk
      generalize q.withdraw c.keep = r at *
      refine vcE.step (by simp (disch := first | assumption | omega | with_unfolding_all rfl) only [exC, exOps, exOp, wantedE, ↓reduceIte, ROp.run, evsE, evE, ty, same, binA, intA, dec_false, Option.map_some, putE, Nat.reduceEqDiff]; rfl) (vcE.condFalse (by simp only [evE, upd_app, Nat.reduceEqDiff, ↓reduceIte]) (vcE.step (by simp (disch := first | assumption | omega | with_unfolding_all rfl) only [exC, exOps, exOp, wantedE, ↓reduceIte, ROp.run, evsE, evE, ty, Nat.reduceEqDiff, same, binA, intA, dec_false, Option.map_some, putE]; rfl) (vcE.condFalse (by simp only [evE, upd_app, Nat.reduceEqDiff, ↓reduceIte]) ?_)))
      refine vcE.step (by simp (disch := first | assumption | omega | with_unfolding_all rfl) only [exC, exOps, exOp, wantedE, ↓reduceIte, ROp.run, evsE, evE, ty, Nat.reduceEqDiff, same, binA, intA, dec_false, Option.map_some, putE]; rfl) (vcE.condFalse (by simp only [evE, upd_app, Nat.reduceEqDiff, ↓reduceIte]) (vcE.step (by simp (disch := first | assumption | omega | with_unfolding_all rfl) only [exC, exOps, exOp, wantedE, ↓reduceIte, ROp.run, evsE, evE, ty, Nat.reduceEqDiff, same, binA, intA, dec_false, Option.map_some, putE]; rfl) (vcE.condFalse (by simp only [evE, upd_app, Nat.reduceEqDiff, ↓reduceIte]) ?_)))
      refine vcE.step (by simp (disch := first | assumption | omega | with_unfolding_all rfl) only [exC, exOps, exOp, wantedE, ↓reduceIte, ROp.run, evsE, evE, ty, Nat.reduceEqDiff, same, binA, intA, dec_false, Option.map_some, putE]; rfl) (vcE.condFalse (by simp only [evE, upd_app, Nat.reduceEqDiff, ↓reduceIte]) (vcE.step (by simp (disch := first | assumption | omega | with_unfolding_all rfl) only [exC, exOps, exOp, wantedE, ↓reduceIte, ROp.run, evsE, evE, ty, Nat.reduceEqDiff, same, binA, intA, dec_true, Option.map_some, putE]; rfl) (vcE.condTrue (by simp only [evE, upd_app, Nat.reduceEqDiff, ↓reduceIte]) ?_)))
      refine vcE.seq (vcE.forks (fun tm hp => tm 4 = .ptr 2 0 ∧ tm 23 = .ptr 3 0 ∧ tm 24 = encJ.S r.2 ∧ hp = [some (.row 29 q.c), some (.row 50 c.c), some (.row 29 [.nils, .int .i64 0, .int .i64 0, .nils, .nils, .bool false]), some (.row 29 r.1.c)]) ?_ ?_)
      · repeat' (first | with_reducible exact exTs_nil | with_reducible refine exT_fork ?_ | (with_reducible show exT _ _ _ (Tr.take _ _) _ _ _; refine exT_take rfl (by simp (disch := first | assumption | omega | with_unfolding_all rfl) only [exOp, wantedE, ↓reduceIte, ROp.run, evsE, evE, ty, Nat.reduceEqDiff, same, faddrA, Option.map_some, putE, loadA, rowA, List.getElem?_cons_succ, List.getElem?_cons_zero, ↓hc9, allocA, List.length_cons, List.length_nil, Nat.reduceAdd, List.cons_append, List.nil_append, storeA_eq, tz, Que.c_len, Nat.reduceLeDiff, dec_true, over, List.take_zero, List.drop_succ_cons, List.drop_nil, List.append_nil, List.set_cons_succ, List.set_cons_zero, frzL, frz_agg, queL_frz, k2, Cls.isFree, callCls, nidL, queL_nid, k1, ↓pickQ]; rfl) ?_) | (with_reducible show exTs _ _ _ (_ :: _) _ _ _; refine exTs_cons rfl (by simp (disch := first | assumption | omega | with_unfolding_all rfl) only [exOp, wantedE, ↓reduceIte, ROp.run, evsE, evE, ty, Nat.reduceEqDiff, same, loadA, rowA, List.getElem?_cons_zero, ↓pickQ, Option.map_some, putE, List.append_nil, frzL, k1, Cls.isFree, callCls, nidL, frz_agg, queL_frz, k2, tz, queL_nid, allocA, List.length_cons, List.length_nil, Nat.reduceAdd, List.cons_append, List.nil_append]; rfl) ?_ ?_))
        all_goals (with_reducible refine exT_done ?_)
        all_goals refine ⟨?_, ?_, ?_, ?_⟩
        all_goals (try simp only [upd_app, Nat.reduceEqDiff, ↓reduceIte])
        all_goals rfl
      · rintro tm hp ⟨e4, e23, e24, rfl⟩
        refine vcE.ex (by simp (disch := first | assumption | omega | with_unfolding_all rfl) only [exC, exOps, exOp, wantedE, ↓reduceIte, ROp.run, evsE, evE, e23, same, loadA, rowA, List.getElem?_cons_succ, List.getElem?_cons_zero, ↓pickQ, Option.map_some, putE, ty, Nat.reduceEqDiff, e24, e4, storeA_eq, tz, Que.c_len, List.length_cons, List.length_nil, Nat.reduceAdd, Nat.reduceLeDiff, dec_true, over, List.take_zero, List.nil_append, List.drop_succ_cons, List.drop_nil, List.append_nil, List.set_cons_succ, List.set_cons_zero]; rfl) ?_
        refine .inl ⟨rfl, ?_, ?_, ?_, ?_⟩
        · rw [doV, hd]
          simp only [upd_app, Nat.reduceEqDiff, ↓reduceIte]
        · simp only [upd_app, Nat.reduceEqDiff, ↓reduceIte, e4]
        · rw [hd]
          rfl
        · rw [hd]
          simp only [upd_app, Nat.reduceEqDiff, ↓reduceIte, e24, Enc.S_frz]
    · have hd : doQ q c = (q.land, 0, 0, 0, []) := by simp [doQ, hm]
      have k1 : T8 55 [.agg q.c] = _ := T8_land hq.fits
      refine vcE.ex (by simp (disch := first | assumption | omega | with_unfolding_all rfl) only [exC, exOps, exOp, wantedE, ↓reduceIte, ROp.run, evsE, evE, ty, same, binA, intA, dec_false, Option.map_some, putE, Nat.reduceEqDiff, dec_true, loadA, rowA, List.getElem?_cons_zero, ↓pickQ, List.append_nil, frzL, frz_agg, queL_frz, k1, Cls.isFree, callCls, nidL, tz, queL_nid, storeA_eq, List.getElem?_cons_succ, Que.c_len, List.length_cons, List.length_nil, Nat.reduceAdd, Nat.reduceLeDiff, over, List.take_zero, List.nil_append, List.drop_succ_cons, List.drop_nil, List.set_cons_succ, List.set_cons_zero]; rfl) ?_
      refine .inl ⟨rfl, ?_, ?_, ?_, ?_⟩
      · rw [doV, hd]
        rfl
      · simp only [upd_app, Nat.reduceEqDiff, ↓reduceIte]
      · rw [hd]
        rfl
      · rw [hd]
        simp only [upd_app, Nat.reduceEqDiff, ↓reduceIte]
        rfl
    · refine vcE.ex (by simp (disch := first | assumption | omega | with_unfolding_all rfl) only [exC, exOps, exOp, wantedE, ↓reduceIte, ROp.run, evsE, evE, ty, same, binA, intA, dec_false, Option.map_some, putE, Nat.reduceEqDiff]; rfl) ?_
      refine .inr ⟨rfl, rfl, ?_, ?_, rfl⟩
      all_goals simp only [upd_app, Nat.reduceEqDiff, ↓reduceIte]
  · rintro e tm hp (⟨rfl, hd⟩ | ⟨rfl, hm, e2, e4, rfl⟩)
    · exact fin hd
    · have hd : doQ q c = (q.clear, 0, 0, 0, []) := by simp [doQ, hm]
      have k1 : T8 16 [.agg q.c] = _ := (T8_ne rfl).trans (T7_clear hq.fits)
      refine vcE.ex (by simp (disch := first | assumption | omega | with_unfolding_all rfl) only [exC, exOps, exOp, wantedE, ↓reduceIte, ROp.run, evsE, evE, e2, same, loadA, rowA, List.getElem?_cons_zero, ↓pickQ, Option.map_some, putE, ty, List.append_nil, frzL, frz_agg, queL_frz, k1, Cls.isFree, callCls, nidL, tz, queL_nid, Nat.reduceEqDiff, e4, storeA_eq, List.getElem?_cons_succ, Que.c_len, List.length_cons, List.length_nil, Nat.reduceAdd, Nat.reduceLeDiff, dec_true, over, List.take_zero, List.nil_append, List.drop_succ_cons, List.drop_nil, List.set_cons_succ, List.set_cons_zero]; rfl) ?_
      refine fin ⟨?_, ?_, ?_, ?_⟩
      · rw [doV, hd]
        rfl
      · simp only [upd_app, Nat.reduceEqDiff, ↓reduceIte, e4]
      · rw [hd]
        rfl
      · rw [hd]
        simp only [upd_app, Nat.reduceEqDiff, ↓reduceIte]
        rfl
end

section
open Go Go.Proofs

/-- The table for the laws that go through calls. -/
def T10 : Tab := ((((T8.addR 10 .nil fun _ => .rd true (.bool true)).addO 21 (.cons (.S encC) .nil) fun p => if p.1.length ≤ 4611686018427387904 then some (.rd false (.bool (lightC p.1))) else none).addO 26 (.cons .que .nil) fun p => if Fits p.1 then some (.rd false (.bool p.1.light)) else none).addO
  23 (.cons .que .nil) fun p => if Fits p.1 then some (.rd false (.agg p.1.c)) else none).addO 22 (.cons .que (.cons (.agg encC) .nil)) fun p => if OkQ p.1 ∧ p.2.1.keep.length ≤ most then some (.rd false (doV p.1 p.2.1)) else none
theorem T10_ok : TabOk Try.prog T10 := by
  refine TabOk.addO (TabOk.addO (TabOk.addO (TabOk.addO (TabOk.addR T8_ok ?_) ?_) ?_) ?_) ?_
  · exact fun _ => pLives
  · intro p r h
    split at h
    · rename_i hv; cases h; exact pLight p.1 hv
    · cases h
  · intro p r h
    split at h
    · rename_i hv; cases h; exact pLightQ p.1 hv
    · cases h
  · intro p r h
    split at h
    · rename_i hv; cases h; exact pOwn p.1 hv
    · cases h
  · intro p r h
    split at h
    · rename_i hv; cases h; exact pDo p.1 hv.1 p.2.1 hv.2
    · cases h
theorem T10_do {q : Que} (h : OkQ q) {c : Call} (h2 : c.keep.length ≤ most) : T10 22 [.agg q.c, .agg c.c] = some (.rd false (doV q c)) :=
  (Tab.addO_self _ _ (.cons .que (.cons (.agg encC) .nil)) _ (q, c, ())).trans (if_pos ⟨h, h2⟩)
theorem T10_own {q : Que} (h : Fits q) : T10 23 [.agg q.c] = some (.rd false (.agg q.c)) := by
  rw [T10, Tab.addO_ne _ _ _ _ rfl]
  exact (Tab.addO_self _ _ (.cons .que .nil) _ (q, ())).trans (if_pos h)
theorem T10_lightQ {q : Que} (h : Fits q) : T10 26 [.agg q.c] = some (.rd false (.bool q.light)) := by
  rw [T10, Tab.addO_ne _ _ _ _ rfl, Tab.addO_ne _ _ _ _ rfl]
  exact (Tab.addO_self _ _ (.cons .que .nil) _ (q, ())).trans (if_pos h)
theorem T10_light {l : List Call} (h : l.length ≤ 4611686018427387904) : T10 21 [encC.S l] = some (.rd false (.bool (lightC l))) := by
  rw [T10, Tab.addO_ne _ _ _ _ rfl, Tab.addO_ne _ _ _ _ rfl, Tab.addO_ne _ _ _ _ rfl]
  exact (Tab.addO_self _ _ (.cons (.S encC) .nil) _ (l, ())).trans (if_pos h)
theorem T10_ne {g : FuncId} {xs : List AV} (h : (Nat.beq g 10 || Nat.beq g 21 || Nat.beq g 26 || Nat.beq g 23 || Nat.beq g 22) = false) : T10 g xs = T8 g xs := by
  simp only [Bool.or_eq_false_iff] at h
  obtain ⟨⟨⟨⟨h0, h1⟩, h2⟩, h3⟩, h4⟩ := h
  rw [T10, Tab.addO_ne _ _ _ _ h4, Tab.addO_ne _ _ _ _ h3, Tab.addO_ne _ _ _ _ h2, Tab.addO_ne _ _ _ _ h1, Tab.addR_ne _ _ _ _ h0]
theorem T10_lives : T10 10 [] = some (.rd true (.bool true)) := by
  rw [T10, Tab.addO_ne _ _ _ _ rfl, Tab.addO_ne _ _ _ _ rfl, Tab.addO_ne _ _ _ _ rfl, Tab.addO_ne _ _ _ _ rfl]
  rfl
theorem T10_check {q : Que} (v : Valid q) : T10 27 [.agg q.c] = some (.rd true (.int .i64 0)) := by
  rw [T10_ne rfl, T8_check v.ok.fits, Que.check, valid_iff.2 v, if_pos rfl]

theorem callL_nid (c : Call) : nidL c.c = true := by simp only [Call.c, nidL, nid, Enc.S_nid, Bool.and_self]
theorem callL_frz (c : Call) (hp : HP) : frzL hp c.c = some c.c := by simp only [Call.c, frzL, frz, Enc.S_frz]

/-- The queue behind so many calls. -/
def runQ (q : Que) (l : List Call) : Que := l.foldl (fun q c => (doQ q c).1) q
theorem runQ_valid {q : Que} (v : Valid q) : ∀ l : List Call, Valid (runQ q l) := by
  intro l
  induction l generalizing q with
  | nil => exact v
  | cons c l ih => exact ih (do_valid v c)
theorem runQ_succ {q : Que} {l : List Call} {i : Nat} {c : Call} (h : l[i]? = some c) : runQ q (l.take (i + 1)) = (doQ (runQ q (l.take i)) c).1 := by
  rw [List.take_add_one, h, runQ, List.foldl_append]
  rfl
theorem light_len {l : List Call} (h : lightC l = true) : l.length ≤ 60 ∧ ∀ c ∈ l, c.keep.length ≤ most := by
  simp only [lightC, Bool.and_eq_true, List.all_eq_true, Call.light, decide_eq_true_eq] at h
  refine ⟨h.2, fun c hc => ?_⟩
  have := (h.1 c hc).2.1
  simp only [most]
  omega
end

end Go.Gi
