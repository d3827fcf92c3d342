/- Queues: Reply. -/
/- Queues: Find, Same, Land, Next. -/
import Derived.Test.YtakdhioafodhcaaGiQuE
set_option linter.unusedVariables false
set_option linter.unusedSimpArgs false
namespace Go.Gi
section
open Go Go.Proofs

def Act.zero : Act := ⟨0, [], [], [], []⟩
theorem slJ_setx {hp : HP} {id i : Nat} {l : List Job} (h : hp[id]? = some (some (.row 42 (encJ.cs l)))) (hi : i < l.length) (x k : Int) (r s t d : List UInt8) (f q : Bool) (n m : Int) : storeA hp 10 (.ptr id (i * 10)) (.agg [.int .i64 x, .int .i64 k, .str r, .str s, .str t, .str d, .bool f, .bool q, .int .i64 n, .int .i64 m]) = some (hp.set id (some (.row 42 (encJ.cs (l.set i ⟨x, ⟨k, r, s, t, d⟩, f, q, n, m⟩))))) := slJ_set (j := ⟨x, ⟨k, r, s, t, d⟩, f, q, n, m⟩) h hi
theorem cDelJ {hp : HP} {id i : Nat} {l : List Job} {ex : Bool} (h : hp[id]? = some (some (.row 42 (encJ.cs l)))) (hi : i < l.length) : ACalls Try.prog 65 [.sl id 0 l.length 10 l.length ex, .int .i64 i, .int .i64 ((i + 1 : Nat) : Int)] hp fun r hp' => r = .sl id 0 (l.length - 1) 10 l.length ex ∧ hp' = hp.set id (some (.row 42 (encJ.cs (l.eraseIdx i ++ [Job.zero])))) := by
  refine (delete_calls hmG encJ Job.zero comp65 h (Nat.le_succ i) hi).mono ?_
  rintro r hp' ⟨rfl, rfl⟩
  refine ⟨by rw [show i + (l.length - i.succ) = l.length - 1 by omega]; rfl, ?_⟩
  rw [List.eraseIdx_eq_take_drop_succ, show i.succ - i = 1 by omega]
  rfl
theorem cDelA {hp : HP} {id j n : Nat} {l : List Act} {ex : Bool} (h : hp[id]? = some (some (.row 23 (encA.cs l)))) (hn : l.length = n) (hj : j ≤ n) : ACalls Try.prog 64 [.sl id 0 n 5 n ex, .int .i64 0, .int .i64 (j : Int)] hp fun r hp' => r = .sl id 0 (n - j) 5 n ex ∧ hp' = hp.set id (some (.row 23 (encA.cs (l.drop j ++ List.replicate j Act.zero)))) := by
  subst hn
  refine (delete_calls hmG encA Act.zero comp64 h (Nat.zero_le j) hj).mono ?_
  rintro r hp' ⟨rfl, rfl⟩
  exact ⟨by rw [Nat.zero_add]; rfl, by rw [List.take_zero, List.nil_append, Nat.sub_zero]⟩
theorem oslA_app {hp : HP} {id k : Nat} {l : List Act} {j : Act} (h : hp[id]? = some (orow l.length 23 (encA.cs l))) (hx : hp[k]? = some (some (.row 23 j.c))) (hl : l.length ≤ 1073741824) : appA 23 5 72 hp (osl id l.length 5) (.sl k 0 1 5 1 true) = some (.sl hp.length 0 (l.length + 1) 5 (l.length + 1) false, hp.set id none ++ [some (.row 23 (encA.cs (l ++ [j])))]) := by
  have hc : encA.cs [j] = j.c := List.append_nil _
  have := encA.osl_app (bytes := 72) h (encA.sl_src (l := [j]) (lo := 1) (ex := true) (e := 23) (by rw [hc]; exact hx)) (by simp) (by simp only [List.length_cons, List.length_nil]; omega) (by simp only [List.length_cons, List.length_nil]; omega)
  rw [List.length_append] at this
  exact this
section
variable {hp : HP} {id i k : Nat} {l m : List Job} {s u : List Act} {a : Act} {lo : Nat} {ex : Bool}
theorem erJ_fresh (h : hp[id]? = some (some (.row 42 (encJ.cs (l.eraseIdx i ++ m))))) (hi : i < l.length) : fresh hp (.sl id 0 (l.length - 1) 10 lo ex) = some (encJ.S (l.eraseIdx i)) := by
  have hl : (l.eraseIdx i).length = l.length - 1 := by rw [List.length_eraseIdx, if_pos hi]
  have := encJ.pre_fresh (k := l.length - 1) (lo := lo) (ex := ex) h (by rw [List.length_append, hl]; omega)
  rw [List.take_left' hl] at this
  exact this
theorem drA_fresh (h : hp[id]? = some (some (.row 23 (encA.cs ((s ++ [a]).drop k ++ u))))) : fresh hp (.sl id 0 (s.length + 1 - k) 5 lo ex) = some (encA.S ((s ++ [a]).drop k)) := by
  have hl : ((s ++ [a]).drop k).length = s.length + 1 - k := by rw [List.length_drop, List.length_append]; rfl
  have := encA.pre_fresh (k := s.length + 1 - k) (lo := lo) (ex := ex) h (by rw [List.length_append, hl]; omega)
  rw [List.take_left' hl] at this
  exact this
theorem slA1_fresh (h : hp[id]? = some (some (.row 23 (encA.cs (s ++ [a]))))) : fresh hp (.sl id 0 (s.length + 1) 5 lo ex) = some (encA.S (s ++ [a])) := by
  have := encA.sl_fresh (lo := lo) (ex := ex) h
  rw [List.length_append] at this
  exact this
end

theorem reply_none {q : Que} {t : Int} {ok : Bool} (h : place q.jobs t = none) : q.reply t ok = (q, 0, 12) := by unfold Que.reply; rw [h]
theorem reply_some {q : Que} {t : Int} {ok : Bool} {i : Nat} (h : place q.jobs t = some i) : q.reply t ok =
    if (q.jobs.getD i .zero).waits = true then (q, 0, 14)
    else if ok = true then ({ q with jobs := q.jobs.eraseIdx i, settled := (q.settled ++ [(q.jobs.getD i .zero).act]).drop ((q.settled.length + 1) - 64) }, 1, 0)
    else if 5 ≤ (q.jobs.getD i .zero).tries + 1 ∧ q.failed.length < 64 then ({ q with jobs := q.jobs.eraseIdx i, failed := q.failed ++ [(q.jobs.getD i .zero).act] }, 3, 0)
    else ({ q with jobs := q.jobs.set i { q.jobs.getD i .zero with fly := false, doubt := false, tries := min ((q.jobs.getD i .zero).tries + 1) 4, at_ := q.now + backoff (min ((q.jobs.getD i .zero).tries + 1) 4) } }, 2, 0) := by unfold Que.reply; rw [h]

theorem pReply (q : Que) (hq : Fits q) (t : Int) (ok : Bool) (h1 : 0 ≤ q.now) (h2 : q.now ≤ 1152921504606846976) (h3 : ∀ j ∈ q.jobs, 0 ≤ j.tries ∧ j.tries < 5) : PCF Try.prog 15 [.agg q.c, .int .i64 t, .bool ok] (.tup [.agg (q.reply t ok).1.c, .int .i64 (q.reply t ok).2.1, .int .i64 (q.reply t ok).2.2]) := by
  have hx : NoIdL [.agg q.c, .int .i64 t, .bool ok] := nidL_ok (by rw [nidL, queN]; rfl)
  refine pcf_of hx ((calls_e hmG T4_ok comp15 (by decide) (by simp) (K := fun r' hp' => fresh hp' r' = some (.tup [.agg (q.reply t ok).1.c, .int .i64 (q.reply t ok).2.1, .int .i64 (q.reply t ok).2.2])) ?_).mono fun _ _ => fresh_ok)
  have hcl := T4_clone hq
  have hat : T4 61 [.agg [encJ.S q.jobs, .int .i64 q.next, .int .i64 q.now, encA.S q.failed, encA.S q.settled, .bool q.resync], .int .i64 t] = _ := T4_at hq t
  have hjl := hq.j
  have hfl := hq.f
  have hsl := hq.s
  simp only [most] at hjl hfl hsl
  have hg : ∀ x y : Int, (x ≥ y) = (y ≤ x) := fun _ _ => rfl
  rw [idx_place] at hat
  cases hp : place q.jobs t with
  | none =>
    rw [hp] at hat
    rw [reply_none hp]
    refine vcE.ex (by simp (disch := first | assumption | omega | with_unfolding_all rfl) only [exC, exOps, exOp, wantedE, ↓reduceIte, ROp.run, evsE, evE, ty, List.getD_cons_zero, tz, List.length_nil, List.nil_append, putE, allocA, List.length_cons, List.cons_append, Nat.reduceEqDiff, same, loadA, rowA, List.getElem?_cons_zero, ↓pickQ, Option.map_some, List.append_nil, frzL, frz_agg, queL_frz, hcl, cloneV, cloneH, Cls.makes, callCls, nidL, queL_nid, Nat.reduceAdd, storeA_eq, Que.c_len, Nat.reduceLeDiff, decide_true, over, List.take_zero, dropQ, List.set_cons_zero, pickA, List.drop_zero, List.take_succ_cons, List.getD_cons_succ, oslJ_frz, oslA_frz, hat, Cls.isFree, binA, intA, dec_true, List.getElem?_cons_succ, List.drop_succ_cons, List.drop_nil, List.set_cons_succ]; rfl) ?_
    refine ⟨_, rfl, ?_⟩
    (simp (disch := first | assumption | with_unfolding_all rfl) only [upd_app, Nat.reduceEqDiff, ↓reduceIte, fresh_tup, freshL, fresh_agg, fresh_int, fresh_bool, fresh_str, List.take_succ_cons, List.take_zero, List.drop_succ_cons, List.drop_zero, start_app, List.getD_cons_zero, List.getD_cons_succ, oslJ_fresh, oslA_fresh])
    rfl
  | some i =>
    rw [hp] at hat
    rw [reply_some hp]
    obtain ⟨hi, _, hj⟩ := place_some hp
    have hwt := T4_waits (q.jobs.getD i .zero)
    generalize q.jobs.getD i .zero = j at *
    have hso : ∀ id, osl id q.jobs.length 10 = .sl id 0 q.jobs.length 10 q.jobs.length false := fun id => osl_pos (by omega)
    have hro : orow q.jobs.length 42 (encJ.cs q.jobs) = some (.row 42 (encJ.cs q.jobs)) := orow_pos (by omega)
    have hjt := h3 j (List.mem_of_getElem? hj)
    have hw1 : IntKind.wrap .i64 (j.tries + 1) = j.tries + 1 := wrap_i64 (by omega) (by omega)
    have hpj : pickA (some 10) j.c 0 = some (.agg j.c) := rfl
    have hov : over [.int .i64 0, .int .i64 0, .str [], .str [], .str [], .str [], .bool false, .bool false, .int .i64 0, .int .i64 0] 0 j.c = j.c := rfl
    refine vcE.step (by simp (disch := first | assumption | omega | with_unfolding_all rfl) only [exC, exOps, exOp, wantedE, ↓reduceIte, ROp.run, evsE, evE, ty, List.getD_cons_zero, tz, List.length_nil, List.nil_append, putE, allocA, List.length_cons, List.cons_append]; rfl) (vcE.step (by simp (disch := first | assumption | omega | with_unfolding_all rfl) only [exC, exOps, exOp, wantedE, ↓reduceIte, ROp.run, evsE, evE, ty, Nat.reduceEqDiff, same, loadA, rowA, List.getElem?_cons_zero, ↓pickQ, Option.map_some, putE, List.append_nil, frzL, frz_agg, queL_frz, hcl, cloneV, cloneH, Cls.makes, callCls, nidL, tz, queL_nid, List.length_cons, List.length_nil, Nat.reduceAdd, List.cons_append, List.nil_append, storeA_eq, Que.c_len, Nat.reduceLeDiff, decide_true, over, List.take_zero, dropQ, List.set_cons_zero]; rfl) (vcE.step (by simp (disch := first | assumption | omega | with_unfolding_all rfl) only [exC, exOps, exOp, wantedE, ↓reduceIte, ROp.run, evsE, evE, hso, ty, Nat.reduceEqDiff, same, hro, loadA, rowA, List.getElem?_cons_zero, pickA, List.length_cons, List.length_nil, Nat.reduceAdd, Nat.reduceLeDiff, List.drop_zero, List.take_succ_cons, List.take_zero, Option.map_some, putE, List.getD_cons_succ, List.getD_cons_zero, List.append_nil, frzL, frz_agg, ↓slJ_frz, tz, oslA_frz, hat, Cls.isFree, callCls, nidL]; rfl) (vcE.step (by simp (disch := first | assumption | omega | with_unfolding_all rfl) only [exC, exOps, exOp, wantedE, ↓reduceIte, ROp.run, evsE, evE, ty, putE, same, binA, intA, dec_false, Option.map_some]; rfl) (vcE.step (by simp (disch := first | assumption | omega | with_unfolding_all rfl) only [exC, exOps, exOp, wantedE, ↓reduceIte, ROp.run, evsE, evE, ty, Nat.reduceEqDiff, same, faddrA, Option.map_some, putE, loadA, rowA, List.getElem?_cons_zero, pickA, tz, ↓iaddrJ, ↓slJ_load, allocA, List.length_cons, List.length_nil, Nat.reduceAdd, List.cons_append, List.nil_append, storeA_eq, List.getElem?_cons_succ, Job.c_len, Nat.reduceLeDiff, decide_true, over, List.take_zero, List.drop_succ_cons, List.drop_nil, List.append_nil, List.set_cons_succ, List.set_cons_zero]; rfl) (vcE.step (by simp (disch := first | assumption | omega | with_unfolding_all rfl) only [exC, exOps, exOp, wantedE, ↓reduceIte, ROp.run, evsE, evE, putE]; rfl) (vcE.step (by simp (disch := first | assumption | omega | with_unfolding_all rfl) only [exC]; rfl) ?_))))))
    cases hw : j.waits <;> rw [hw] at hwt
    rotate_left
    · refine vcE.ex (by simp (disch := first | assumption | omega | with_unfolding_all rfl) only [exC, exOps, exOp, wantedE, ↓reduceIte, ROp.run, evsE, evE, ty, Nat.reduceEqDiff, same, loadA, rowA, List.getElem?_cons_succ, List.getElem?_cons_zero, ↓hpj, Option.map_some, putE, List.append_nil, frzL, frz_agg, jobL_frz, hwt, Cls.isFree, callCls, nidL, tz, jobL_nid, pickA, List.length_cons, List.length_nil, Nat.reduceAdd, Nat.reduceLeDiff, List.drop_zero, List.take_succ_cons, List.take_zero, storeA_eq, decide_true, over, List.nil_append, List.drop_succ_cons, List.drop_nil, List.set_cons_succ, List.set_cons_zero]; rfl) ?_
      refine ⟨_, rfl, ?_⟩
      (simp (disch := first | assumption | with_unfolding_all rfl) only [upd_app, Nat.reduceEqDiff, ↓reduceIte, fresh_tup, freshL, fresh_agg, fresh_int, fresh_bool, fresh_str, List.take_succ_cons, List.take_zero, List.drop_succ_cons, List.drop_zero, start_app, List.getD_cons_zero, List.getD_cons_succ, slJ_fresh, oslA_fresh, if_true])
      rfl
    simp only [Bool.false_eq_true, if_false]
    cases ok
    · by_cases h5 : 5 ≤ j.tries + 1 ∧ q.failed.length < 64
      · obtain ⟨h5a, h5b⟩ := h5
        have hwx := hwt
        simp only [Job.c] at hwx
        refine vcE.step (by simp (disch := first | assumption | omega | with_unfolding_all rfl) only [exC, exOps, exOp, wantedE, ↓reduceIte, ROp.run, evsE, evE, Job.c, ty, Nat.reduceEqDiff, same, loadA, rowA, List.getElem?_cons_succ, List.getElem?_cons_zero, pickA, List.length_cons, List.length_nil, Nat.reduceAdd, Nat.reduceLeDiff, List.drop_zero, List.take_succ_cons, List.take_zero, Option.map_some, putE, List.append_nil, frzL, frz_agg, tz, hwx, Cls.isFree, callCls, nidL, List.getD_cons_succ, List.getD_cons_zero, faddrA, binA, intA, hw1, dec_false, dec_true]; rfl) ?_
        have happ := oslA_app (hp := [some (.row 29 [.sl 5 0 q.jobs.length 10 q.jobs.length false, .int .i64 q.next, .int .i64 q.now, osl 7 q.failed.length 5, osl 9 q.settled.length 5, .bool q.resync]), some (.row 29 [.nils, .int .i64 0, .int .i64 0, .nils, .nils, .bool false]), none, none, none, some (.row 42 (encJ.cs q.jobs)), none, orow q.failed.length 23 (encA.cs q.failed), none, orow q.settled.length 23 (encA.cs q.settled), some (.row 42 j.c), some (.row 23 j.act.c)]) (id := 7) (k := 11) (l := q.failed) (j := j.act) rfl rfl hfl
        simp only [Job.c, Act.c] at happ
        refine vcE.step (by simp (disch := first | assumption | omega | with_unfolding_all rfl) only [exC, exOps, exOp, wantedE, ↓reduceIte, ROp.run, evsE, evE, ty, putE, same, binA, intA, dec_false, Option.map_some, Nat.reduceEqDiff, decide_true, faddrA, loadA, rowA, List.getElem?_cons_zero, pickA, List.getElem?_cons_succ, Nat.reduceAdd, List.length_cons, List.length_nil, Nat.reduceLeDiff, List.drop_succ_cons, List.drop_zero, List.take_succ_cons, List.take_zero, bslA, tz, beq_self_eq_true, flatA, List.flatMap_cons, List.flatMap_nil, List.append_nil, List.cons_append, List.nil_append, ↓happ, List.set_cons_succ, List.set_cons_zero, storeA_eq, over]; rfl) ?_
        rw [show r15_24 = r15_24.take 5 ++ (r15_24.drop 5).take 1 ++ r15_24.drop 6 from rfl]
        have hw3 : IntKind.wrap .i64 ((i : Int) + 1) = ((i + 1 : Nat) : Int) := wrap_i64 (by omega) (by omega)
        refine vcE.seq (vcE.app (vcE.app (vcE.ex (by simp (disch := first | assumption | omega | with_unfolding_all rfl) only [exC, List.take_succ_cons, List.take_zero, exOps, exOp, wantedE, ↓reduceIte, ROp.run, evsE, evE, ty, Nat.reduceEqDiff, same, faddrA, Option.map_some, putE, loadA, rowA, List.getElem?_cons_zero, pickA, tz, binA, intA, hw3]; rfl) ⟨rfl, vcE.call (f := 65) (caps := []) (ys := [.sl 5 0 q.jobs.length 10 q.jobs.length false, .int .i64 i, .int .i64 ((i + 1 : Nat) : Int)]) rfl ?_ (cDelJ rfl hi) ?_⟩)))
        · rfl
        rintro r hp' ⟨rfl, rfl⟩
        refine ⟨rfl, vcE.ex (by simp (disch := first | assumption | omega | with_unfolding_all rfl) only [exC, List.drop_succ_cons, List.drop_zero, putE, List.set_cons_succ, List.set_cons_zero, exOps, exOp, wantedE, ↓reduceIte, ROp.run, evsE, evE, ty, Nat.reduceEqDiff, same, faddrA, Option.map_some, storeA_eq, List.getElem?_cons_zero, tz, List.length_cons, List.length_nil, Nat.reduceAdd, Nat.reduceLeDiff, decide_true, over, List.take_zero, List.nil_append, List.cons_append]; rfl) ?_⟩
        refine vcE.ex (by simp (disch := first | assumption | omega | with_unfolding_all rfl) only [exC, exOps, exOp, wantedE, ↓reduceIte, ROp.run, evsE, evE, ty, Nat.reduceEqDiff, same, loadA, rowA, List.getElem?_cons_zero, pickA, List.length_cons, List.length_nil, Nat.reduceAdd, Nat.reduceLeDiff, List.drop_zero, List.take_succ_cons, List.take_zero, Option.map_some, putE, storeA_eq, List.getElem?_cons_succ, tz, decide_true, over, List.nil_append, List.drop_succ_cons, List.drop_nil, List.append_nil, List.set_cons_succ, List.set_cons_zero]; rfl) ?_
        refine ⟨_, rfl, ?_⟩
        (simp (disch := first | assumption | with_unfolding_all rfl) only [List.drop_zero, List.take_succ_cons, List.take_zero, upd_app, Nat.reduceEqDiff, ↓reduceIte, fresh_tup, freshL, fresh_agg, ↓erJ_fresh, fresh_int, ↓slA1_fresh, oslA_fresh, fresh_bool, Bool.false_eq_true, h5a, h5b, and_self])
        rfl
      · have hb := backoff_le (min (j.tries + 1) 4)
        have hw2 : IntKind.wrap .i64 (q.now + backoff (min (j.tries + 1) 4)) = q.now + backoff (min (j.tries + 1) 4) := wrap_i64 (by omega) (by omega)
        have hmin : minmaxA false [.int .i64 (j.tries + 1), .int .i64 4] = some (.int .i64 (min (j.tries + 1) 4)) := by
          simp only [minmaxA, minmaxA.go, Bool.false_eq_true, if_false]
          congr 2
          split <;> omega
        have hbo := T4_backoff (min (j.tries + 1) 4)
        have hwx := hwt
        simp only [Job.c] at hwx
        by_cases h6 : j.tries + 1 < 5
        · refine vcE.ex (by simp (disch := first | assumption | omega | with_unfolding_all rfl) only [exC, exOps, exOp, wantedE, ↓reduceIte, ROp.run, evsE, evE, Job.c, ty, Nat.reduceEqDiff, same, loadA, rowA, List.getElem?_cons_succ, List.getElem?_cons_zero, pickA, List.length_cons, List.length_nil, Nat.reduceAdd, Nat.reduceLeDiff, List.drop_zero, List.take_succ_cons, List.take_zero, Option.map_some, putE, List.append_nil, frzL, frz_agg, tz, hwx, Cls.isFree, callCls, nidL, List.getD_cons_succ, List.getD_cons_zero, faddrA, binA, intA, hw1, dec_true, dec_false, hmin, storeA_eq, decide_true, over, List.cons_append, List.nil_append, List.drop_succ_cons, List.set_cons_succ, List.set_cons_zero, chain, ordered, hbo, hw2, List.drop_nil, cond_true, ↓iaddrJ, ↓slJ_setx]; rfl) ?_
          refine ⟨_, rfl, ?_⟩
          (simp (disch := first | assumption | with_unfolding_all rfl) only [upd_app, Nat.reduceEqDiff, ↓reduceIte, fresh_tup, freshL, fresh_agg, fresh_int, fresh_bool, fresh_str, List.take_succ_cons, List.take_zero, List.drop_succ_cons, List.drop_zero, start_app, List.getD_cons_zero, List.getD_cons_succ, ↓slJset_fresh, oslA_fresh, h5, if_false, Bool.false_eq_true])
          rfl
        · refine vcE.ex (by simp (disch := first | assumption | omega | with_unfolding_all rfl) only [exC, exOps, exOp, wantedE, ↓reduceIte, ROp.run, evsE, evE, Job.c, ty, Nat.reduceEqDiff, same, loadA, rowA, List.getElem?_cons_succ, List.getElem?_cons_zero, pickA, List.length_cons, List.length_nil, Nat.reduceAdd, Nat.reduceLeDiff, List.drop_zero, List.take_succ_cons, List.take_zero, Option.map_some, putE, List.append_nil, frzL, frz_agg, tz, hwx, Cls.isFree, callCls, nidL, List.getD_cons_succ, List.getD_cons_zero, faddrA, binA, intA, hw1, dec_false, hmin, storeA_eq, decide_true, over, List.cons_append, List.nil_append, List.drop_succ_cons, List.set_cons_succ, List.set_cons_zero, chain, ordered, hbo, hw2, List.drop_nil, cond_true, ↓iaddrJ, ↓slJ_setx]; rfl) ?_
          refine ⟨_, rfl, ?_⟩
          (simp (disch := first | assumption | with_unfolding_all rfl) only [upd_app, Nat.reduceEqDiff, ↓reduceIte, fresh_tup, freshL, fresh_agg, fresh_int, fresh_bool, fresh_str, List.take_succ_cons, List.take_zero, List.drop_succ_cons, List.drop_zero, start_app, List.getD_cons_zero, List.getD_cons_succ, ↓slJset_fresh, oslA_fresh, h5, if_false, Bool.false_eq_true])
          rfl
    · have hwx := hwt
      simp only [Job.c] at hwx
      refine vcE.step (by simp (disch := first | assumption | omega | with_unfolding_all rfl) only [exC, exOps, exOp, wantedE, ↓reduceIte, ROp.run, evsE, evE, Job.c, ty, Nat.reduceEqDiff, same, loadA, rowA, List.getElem?_cons_succ, List.getElem?_cons_zero, pickA, List.length_cons, List.length_nil, Nat.reduceAdd, Nat.reduceLeDiff, List.drop_zero, List.take_succ_cons, List.take_zero, Option.map_some, putE, List.append_nil, frzL, frz_agg, tz, hwx, Cls.isFree, callCls, nidL, List.getD_cons_succ, List.getD_cons_zero]; rfl) ?_
      have happ := oslA_app (hp := [some (.row 29 [.sl 5 0 q.jobs.length 10 q.jobs.length false, .int .i64 q.next, .int .i64 q.now, osl 7 q.failed.length 5, osl 9 q.settled.length 5, .bool q.resync]), some (.row 29 [.nils, .int .i64 0, .int .i64 0, .nils, .nils, .bool false]), none, none, none, some (.row 42 (encJ.cs q.jobs)), none, orow q.failed.length 23 (encA.cs q.failed), none, orow q.settled.length 23 (encA.cs q.settled), some (.row 42 j.c), some (.row 23 j.act.c)]) (id := 9) (k := 11) (l := q.settled) (j := j.act) rfl rfl hsl
      simp only [Job.c, Act.c] at happ
      have hmax : minmaxA true [.int .i64 0, .int .i64 (IntKind.wrap .i64 (((q.settled.length + 1 : Nat) : Int) - 64))] = some (.int .i64 ((q.settled.length + 1 - 64 : Nat) : Int)) := by
        rw [wrap_i64 (by omega) (by omega)]
        simp only [minmaxA, minmaxA.go, if_true]
        congr 2
        split <;> omega
      refine vcE.seq (vcE.step (by simp (disch := first | assumption | omega | with_unfolding_all rfl) only [exC, exOps, exOp, wantedE, ↓reduceIte, ROp.run, evsE, evE, ty, putE]; rfl) (vcE.block (vcE.step (by simp (disch := first | assumption | omega | with_unfolding_all rfl) only [exC, exOps, exOp, wantedE, ↓reduceIte, ROp.run, evsE, evE, ty, same, binA, intA, decide_true, Option.map_some, putE]; rfl) (vcE.condTrue (by simp only [evE, upd_app, Nat.reduceEqDiff, ↓reduceIte]) (vcE.step (by simp (disch := first | assumption | omega | with_unfolding_all rfl) only [exC, exOps, exOp, wantedE, ↓reduceIte, ROp.run, evsE, evE, ty, Nat.reduceEqDiff, same, faddrA, Option.map_some, putE, loadA, rowA, List.getElem?_cons_zero, pickA, List.getElem?_cons_succ, Nat.reduceAdd, List.length_cons, List.length_nil, Nat.reduceLeDiff, List.drop_succ_cons, List.drop_zero, List.take_succ_cons, List.take_zero, bslA, tz, beq_self_eq_true, flatA, List.flatMap_cons, List.flatMap_nil, List.append_nil, List.cons_append, List.nil_append, ↓happ, List.set_cons_succ, List.set_cons_zero, storeA_eq, decide_true, over]; rfl) ?_)))))
      rw [show r15_17 = r15_17.take 7 ++ (r15_17.drop 7).take 1 ++ r15_17.drop 8 from rfl]
      refine vcE.app (vcE.app (vcE.ex (by simp (disch := first | assumption | omega | with_unfolding_all rfl) only [exC, List.take_succ_cons, List.take_zero, exOps, exOp, wantedE, ↓reduceIte, ROp.run, evsE, evE, ty, Nat.reduceEqDiff, same, faddrA, Option.map_some, putE, loadA, rowA, List.getElem?_cons_zero, pickA, List.getElem?_cons_succ, tz, binA, intA]; rfl) ⟨rfl, vcE.call (f := 64) (caps := []) (ys := [.sl 12 0 (q.settled.length + 1) 5 (q.settled.length + 1) false, .int .i64 0, .int .i64 ((q.settled.length + 1 - 64 : Nat) : Int)]) rfl ?_ (cDelA (l := q.settled ++ [j.act]) rfl (by simp) (by omega)) ?_⟩))
      · have hm : (if ((q.settled.length + 1 : Nat) : Int) - 64 > 0 then ((q.settled.length + 1 : Nat) : Int) - 64 else 0) = ((q.settled.length + 1 - 64 : Nat) : Int) := by split <;> omega
        simp only [evsE, evE, upd_app, Nat.reduceEqDiff, ↓reduceIte, hm]
      rintro r hp' ⟨rfl, rfl⟩
      refine ⟨rfl, vcE.ex (by simp (disch := first | assumption | omega | with_unfolding_all rfl) only [exC, List.drop_succ_cons, List.drop_zero, putE, ↓reduceIte, List.set_cons_succ, List.set_cons_zero, exOps, exOp, wantedE, ROp.run, evsE, evE, ty, Nat.reduceEqDiff, same, faddrA, Option.map_some, storeA_eq, List.getElem?_cons_zero, tz, List.length_cons, List.length_nil, Nat.reduceAdd, Nat.reduceLeDiff, decide_true, over, List.take_succ_cons, List.take_zero, List.cons_append, List.nil_append]; rfl) ?_⟩
      rw [show r15_24 = r15_24.take 5 ++ (r15_24.drop 5).take 1 ++ r15_24.drop 6 from rfl]
      have hw3 : IntKind.wrap .i64 ((i : Int) + 1) = ((i + 1 : Nat) : Int) := wrap_i64 (by omega) (by omega)
      refine vcE.seq (vcE.app (vcE.app (vcE.ex (by simp (disch := first | assumption | omega | with_unfolding_all rfl) only [exC, List.take_succ_cons, List.take_zero, exOps, exOp, wantedE, ↓reduceIte, ROp.run, evsE, evE, ty, Nat.reduceEqDiff, same, faddrA, Option.map_some, putE, loadA, rowA, List.getElem?_cons_zero, pickA, tz, binA, intA, hw3]; rfl) ⟨rfl, vcE.call (f := 65) (caps := []) (ys := [.sl 5 0 q.jobs.length 10 q.jobs.length false, .int .i64 i, .int .i64 ((i + 1 : Nat) : Int)]) rfl ?_ (cDelJ rfl hi) ?_⟩)))
      · rfl
      rintro r hp' ⟨rfl, rfl⟩
      refine ⟨rfl, vcE.ex (by simp (disch := first | assumption | omega | with_unfolding_all rfl) only [exC, List.drop_succ_cons, List.drop_zero, putE, List.set_cons_succ, List.set_cons_zero, exOps, exOp, wantedE, ↓reduceIte, ROp.run, evsE, evE, ty, Nat.reduceEqDiff, same, faddrA, Option.map_some, storeA_eq, List.getElem?_cons_zero, tz, List.length_cons, List.length_nil, Nat.reduceAdd, Nat.reduceLeDiff, decide_true, over, List.take_zero, List.nil_append, List.cons_append]; rfl) ?_⟩
      refine vcE.ex (by simp (disch := first | assumption | omega | with_unfolding_all rfl) only [exC, exOps, exOp, wantedE, ↓reduceIte, ROp.run, evsE, evE, ty, Nat.reduceEqDiff, same, loadA, rowA, List.getElem?_cons_zero, pickA, List.length_cons, List.length_nil, Nat.reduceAdd, Nat.reduceLeDiff, List.drop_zero, List.take_succ_cons, List.take_zero, Option.map_some, putE, storeA_eq, List.getElem?_cons_succ, tz, decide_true, over, List.nil_append, List.drop_succ_cons, List.drop_nil, List.append_nil, List.set_cons_succ, List.set_cons_zero]; rfl) ?_
      refine ⟨_, rfl, ?_⟩
      (simp (disch := first | assumption | with_unfolding_all rfl) only [upd_app, Nat.reduceEqDiff, ↓reduceIte, fresh_tup, freshL, fresh_agg, fresh_int, fresh_bool, fresh_str, List.take_succ_cons, List.take_zero, List.drop_succ_cons, List.drop_zero, start_app, List.getD_cons_zero, List.getD_cons_succ, ↓erJ_fresh, ↓drA_fresh, oslA_fresh, if_true])
      rfl
end
section
open Go Go.Proofs

theorem pFind (q : Que) (hq : Fits q) (t : Int) : PCF Try.prog 35 [.agg q.c, .int .i64 t] (.tup [.agg (q.find t).1.c, .bool (q.find t).2]) := by
  refine pcf_e hmG T4_ok comp35 (by decide) (by simp) (nidL_ok (by rw [nidL, queN]; rfl)) ?_
  have hcl := T4_clone hq
  have hat : T4 61 [.agg [encJ.S q.jobs, .int .i64 q.next, .int .i64 q.now, encA.S q.failed, encA.S q.settled, .bool q.resync], .int .i64 t] = _ := T4_at hq t
  have hg : ∀ x y : Int, (x ≥ y) = (y ≤ x) := fun _ _ => rfl
  rw [idx_place] at hat
  unfold Que.find
  cases hp : place q.jobs t with
  | none =>
    rw [hp] at hat
    refine vcE.ex (by simp (disch := first | assumption | omega | with_unfolding_all rfl) only [exC, exOps, exOp, wantedE, ↓reduceIte, ROp.run, evsE, evE, Que.c, ty, List.getD_cons_zero, tz, List.length_nil, List.nil_append, putE, allocA, List.length_cons, List.cons_append, Nat.reduceEqDiff, same, loadA, rowA, List.getElem?_cons_zero, pickA, Nat.reduceAdd, Nat.reduceLeDiff, List.drop_zero, List.take_succ_cons, List.take_zero, Option.map_some, List.getD_cons_succ, List.append_nil, frzL, frz_agg, hat, Cls.isFree, callCls, nidL, binA, intA, hg, dec_false]; rfl) ?_
    exact ⟨_, rfl, rfl⟩
  | some i =>
    rw [hp] at hat
    obtain ⟨hi, _, hj⟩ := place_some hp
    simp only
    generalize q.jobs.getD i .zero = j at *
    have hpick : pickA (some 10) (encJ.cs q.jobs) (i * 10) = some (.agg j.c) := encJ.pick hj
    have hi1 : iaddrA 10 (encJ.S q.jobs) (.int .i64 i) = some (.fptr (encJ.cs q.jobs) (i * 10)) := encJ.S_iaddr hi
    refine vcE.ex (by simp (disch := first | assumption | omega | with_unfolding_all rfl) only [exC, exOps, exOp, wantedE, ↓reduceIte, ROp.run, evsE, evE, Que.c, ty, List.getD_cons_zero, tz, List.length_nil, List.nil_append, putE, allocA, List.length_cons, List.cons_append, Nat.reduceEqDiff, same, loadA, rowA, List.getElem?_cons_zero, pickA, Nat.reduceAdd, Nat.reduceLeDiff, List.drop_zero, List.take_succ_cons, List.take_zero, Option.map_some, List.getD_cons_succ, List.append_nil, frzL, frz_agg, hat, Cls.isFree, callCls, nidL, binA, intA, hg, Int.natCast_nonneg, decide_true, faddrA, hi1, ↓hpick, storeA_eq, List.getElem?_cons_succ, Job.c_len, over, List.drop_succ_cons, List.drop_nil, List.set_cons_succ, List.set_cons_zero]; rfl) ?_
    exact ⟨_, rfl, rfl⟩

def T5 : Tab := (((T4.addO 72 (.cons (.S encJ) (.cons (.S encJ) .nil)) fun p => if p.1.length ≤ most ∧ p.2.1.length ≤ most then some (.rd true (.bool (decide (p.1 = p.2.1)))) else none).addO
  73 (.cons (.S encA) (.cons (.S encA) .nil)) fun p => if p.1.length ≤ most ∧ p.2.1.length ≤ most then some (.rd true (.bool (decide (p.1 = p.2.1)))) else none).addO
  110 (.cons (.S encI) (.cons .i64 .nil)) fun p => if p.1.length ≤ most then some (.rd true (.int .i64 (idx (fun a => decide (p.2.1 = a)) p.1))) else none).addO
  130 (.cons (.S encA) (.cons .act .nil)) fun p => if p.1.length ≤ most then some (.rd true (.int .i64 (idx (fun a => decide (p.2.1 = a)) p.1))) else none
theorem T5_ok : TabOk Try.prog T5 := by
  refine TabOk.addO (TabOk.addO (TabOk.addO (TabOk.addO T4_ok ?_) ?_) ?_) ?_
  · intro p r h
    split at h
    · rename_i hv; cases h
      simp only [most] at hv
      exact equal_pc hmG elJ true comp72 (by omega) (by omega)
    · cases h
  · intro p r h
    split at h
    · rename_i hv; cases h
      simp only [most] at hv
      exact equal_pc hmG elA true comp73 (by omega) (by omega)
    · cases h
  · intro p r h
    split at h
    · rename_i hv; cases h
      simp only [most] at hv
      exact index1_pc hmG elI false comp110 (by omega)
    · cases h
  · intro p r h
    split at h
    · rename_i hv; cases h
      simp only [most] at hv
      exact indexS_pc hmG elA 23 true rfl comp130 (by omega)
    · cases h
theorem T5_idxA {l : List Act} (h : l.length ≤ most) (a : Act) : T5 130 [encA.S l, .agg a.c] = some (.rd true (.int .i64 (idx (fun x => decide (a = x)) l))) :=
  (Tab.addO_self _ _ (.cons (.S encA) (.cons .act .nil)) _ (l, a, ())).trans (if_pos h)
theorem T5_idxI {l : List Int} (h : l.length ≤ most) (a : Int) : T5 110 [encI.S l, .int .i64 a] = some (.rd true (.int .i64 (idx (fun x => decide (a = x)) l))) := by
  rw [T5, Tab.addO_ne _ _ _ _ rfl]
  exact (Tab.addO_self _ _ (.cons (.S encI) (.cons .i64 .nil)) _ (l, a, ())).trans (if_pos h)
theorem T5_eqA {l m : List Act} (h : l.length ≤ most) (h2 : m.length ≤ most) : T5 73 [encA.S l, encA.S m] = some (.rd true (.bool (decide (l = m)))) := by
  rw [T5, Tab.addO_ne _ _ _ _ rfl, Tab.addO_ne _ _ _ _ rfl]
  exact (Tab.addO_self _ _ (.cons (.S encA) (.cons (.S encA) .nil)) _ (l, m, ())).trans (if_pos ⟨h, h2⟩)
theorem T5_eqJ {l m : List Job} (h : l.length ≤ most) (h2 : m.length ≤ most) : T5 72 [encJ.S l, encJ.S m] = some (.rd true (.bool (decide (l = m)))) := by
  rw [T5, Tab.addO_ne _ _ _ _ rfl, Tab.addO_ne _ _ _ _ rfl, Tab.addO_ne _ _ _ _ rfl]
  exact (Tab.addO_self _ _ (.cons (.S encJ) (.cons (.S encJ) .nil)) _ (l, m, ())).trans (if_pos ⟨h, h2⟩)
theorem T5_ne {g : FuncId} {xs : List AV} (h : (Nat.beq g 72 || Nat.beq g 73 || Nat.beq g 110 || Nat.beq g 130) = false) : T5 g xs = T4 g xs := by
  simp only [Bool.or_eq_false_iff] at h
  obtain ⟨⟨⟨h1, h2⟩, h3⟩, h4⟩ := h
  rw [T5, Tab.addO_ne _ _ _ _ h4, Tab.addO_ne _ _ _ _ h3, Tab.addO_ne _ _ _ _ h2, Tab.addO_ne _ _ _ _ h1]

theorem que_ext (a b : Que) : (a = b) ↔ (a.next = b.next ∧ a.now = b.now ∧ a.resync = b.resync ∧ a.jobs = b.jobs ∧ a.failed = b.failed ∧ a.settled = b.settled) := by
  cases a; cases b
  simp only [Que.mk.injEq]
  constructor
  · rintro ⟨h1, h2, h3, h4, h5, h6⟩; exact ⟨h2, h3, h6, h1, h4, h5⟩
  · rintro ⟨h2, h3, h6, h1, h4, h5⟩; exact ⟨h1, h2, h3, h4, h5, h6⟩
theorem pSame (a b : Que) (ha : Fits a) (hb : Fits b) : PCF Try.prog 28 [.agg a.c, .agg b.c] (.bool (decide (a = b))) := by
  refine pcf_e hmG T5_ok comp28 (by decide) (by simp) (nidL_ok (by rw [nidL, queN, nidL, queN]; rfl)) ?_
  have e1 := T5_eqJ ha.j hb.j
  have e2 := T5_eqA ha.f hb.f
  have e3 := T5_eqA ha.s hb.s
  have hcl := T4_clone ha
  have hbb : ∀ x y : Bool, x ≠ y → (x == y) = false := fun x y h => by simpa using h
  refine vcE.step (by simp (disch := first | assumption | omega | with_unfolding_all rfl) only [exC, exOps, exOp, wantedE, ↓reduceIte, ROp.run, evsE, evE, ty, List.getD_cons_zero, tz, List.length_nil, List.nil_append, putE, Nat.reduceEqDiff, List.getD_cons_succ, List.length_cons, List.cons_append]; rfl) ?_
  have fin : ∀ c : Bool, c = decide (a = b) → fresh [some (.row 29 a.c), some (.row 29 b.c)] (.bool c) = some (.bool (decide (a = b))) := fun c h => by rw [h]; rfl
  have no : (¬ (a.next = b.next ∧ a.now = b.now ∧ a.resync = b.resync ∧ a.jobs = b.jobs ∧ a.failed = b.failed ∧ a.settled = b.settled)) → false = decide (a = b) := fun h => by rw [decide_eq_false]; rw [que_ext]; exact h
  by_cases h1 : a.next = b.next
  · by_cases h2 : a.now = b.now
    · by_cases h3 : a.resync = b.resync
      · by_cases h4 : a.jobs = b.jobs
        · rw [decide_eq_true h4] at e1
          by_cases h5 : a.failed = b.failed
          · rw [decide_eq_true h5] at e2
            by_cases h6 : a.settled = b.settled
            · rw [decide_eq_true h6] at e3
              refine vcE.ex (by simp (disch := first | assumption | omega | with_unfolding_all rfl) only [exC, exOps, exOp, wantedE, ↓reduceIte, ROp.run, evsE, evE, Que.c, h1, h2, h3, ty, Nat.reduceEqDiff, same, faddrA, Option.map_some, putE, loadA, rowA, List.getElem?_cons_zero, pickA, List.getElem?_cons_succ, tz, binA, intA, decide_true, beq_self_eq_true, eqA, List.append_nil, frzL, e1, Cls.isFree, callCls, nidL, e2, e3]; rfl) ?_
              refine ⟨_, rfl, ?_⟩
              exact fin _ (by rw [decide_eq_true ((que_ext a b).2 ⟨h1, h2, h3, h4, h5, h6⟩)])
            · rw [decide_eq_false h6] at e3
              refine vcE.ex (by simp (disch := first | assumption | omega | with_unfolding_all rfl) only [exC, exOps, exOp, wantedE, ↓reduceIte, ROp.run, evsE, evE, Que.c, h1, h2, h3, ty, Nat.reduceEqDiff, same, faddrA, Option.map_some, putE, loadA, rowA, List.getElem?_cons_zero, pickA, List.getElem?_cons_succ, tz, binA, intA, decide_true, beq_self_eq_true, eqA, List.append_nil, frzL, e1, Cls.isFree, callCls, nidL, e2, e3]; rfl) ?_
              refine ⟨_, rfl, ?_⟩
              exact fin _ (no fun h => h6 h.2.2.2.2.2)
          · rw [decide_eq_false h5] at e2
            refine vcE.ex (by simp (disch := first | assumption | omega | with_unfolding_all rfl) only [exC, exOps, exOp, wantedE, ↓reduceIte, ROp.run, evsE, evE, Que.c, h1, h2, h3, ty, Nat.reduceEqDiff, same, faddrA, Option.map_some, putE, loadA, rowA, List.getElem?_cons_zero, pickA, List.getElem?_cons_succ, tz, binA, intA, decide_true, beq_self_eq_true, eqA, List.append_nil, frzL, e1, Cls.isFree, callCls, nidL, e2, beq_iff_eq]; rfl) ?_
            refine ⟨_, rfl, ?_⟩
            exact fin _ (no fun h => h5 h.2.2.2.2.1)
        · rw [decide_eq_false h4] at e1
          refine vcE.ex (by simp (disch := first | assumption | omega | with_unfolding_all rfl) only [exC, exOps, exOp, wantedE, ↓reduceIte, ROp.run, evsE, evE, Que.c, h1, h2, h3, ty, Nat.reduceEqDiff, same, faddrA, Option.map_some, putE, loadA, rowA, List.getElem?_cons_zero, pickA, List.getElem?_cons_succ, tz, binA, intA, decide_true, beq_self_eq_true, eqA, List.append_nil, frzL, e1, Cls.isFree, callCls, nidL, beq_iff_eq]; rfl) ?_
          refine ⟨_, rfl, ?_⟩
          exact fin _ (no fun h => h4 h.2.2.2.1)
      · have h3' := hbb _ _ h3
        refine vcE.ex (by simp (disch := first | assumption | omega | with_unfolding_all rfl) only [exC, exOps, exOp, wantedE, ↓reduceIte, ROp.run, evsE, evE, Que.c, h1, h2, ty, Nat.reduceEqDiff, same, faddrA, Option.map_some, putE, loadA, rowA, List.getElem?_cons_zero, pickA, List.getElem?_cons_succ, tz, binA, intA, decide_true, beq_self_eq_true, eqA, h3', beq_iff_eq]; rfl) ?_
        refine ⟨_, rfl, ?_⟩
        exact fin _ (no fun h => h3 h.2.2.1)
    · refine vcE.ex (by simp (disch := first | assumption | omega | with_unfolding_all rfl) only [exC, exOps, exOp, wantedE, ↓reduceIte, ROp.run, evsE, evE, Que.c, h1, ty, Nat.reduceEqDiff, same, faddrA, Option.map_some, putE, loadA, rowA, List.getElem?_cons_zero, pickA, List.getElem?_cons_succ, tz, binA, intA, decide_true, beq_self_eq_true, dec_false, beq_iff_eq]; rfl) ?_
      refine ⟨_, rfl, ?_⟩
      exact fin _ (no fun h => h2 h.2.1)
  · refine vcE.ex (by simp (disch := first | assumption | omega | with_unfolding_all rfl) only [exC, exOps, exOp, wantedE, ↓reduceIte, ROp.run, evsE, evE, Que.c, ty, Nat.reduceEqDiff, same, faddrA, Option.map_some, putE, loadA, rowA, List.getElem?_cons_zero, pickA, List.getElem?_cons_succ, tz, binA, intA, dec_false, beq_iff_eq]; rfl) ?_
    refine ⟨_, rfl, ?_⟩
    exact fin _ (no fun h => h1 h.1)
end
end Go.Gi
