/- Queues: Land, Next. -/
/- Queues: the table for the laws; the chapter's examples; QueueWaits. -/
import Derived.Test.YtakdhioafodhcaaGiQuG
import Derived.Test.YtakdhioafodhcaaGiFK
set_option linter.unusedVariables false
set_option linter.unusedSimpArgs false
namespace Go.Gi
section
open Go Go.Proofs

/-- The jobs, of which so many have landed. -/
def landed (l : List Job) (i : Nat) : List Job := (l.take i).map landJ ++ l.drop i
theorem landed_len (l : List Job) (i : Nat) : (landed l i).length = l.length := by
  simp only [landed, List.length_append, List.length_map, List.length_take, List.length_drop]; omega
theorem landed_get {l : List Job} {i : Nat} {j : Job} (h : l[i]? = some j) : (landed l i)[i]? = some j := by
  have hi := (List.getElem?_eq_some_iff.1 h).1
  rw [landed, List.getElem?_append_right (by simp; omega), List.getElem?_drop, ← h]
  congr 1
  simp only [List.length_map, List.length_take]
  omega
theorem landed_step {l : List Job} {i : Nat} {j : Job} (h : l[i]? = some j) : (landed l i).set i (landJ j) = landed l (i + 1) := by
  obtain ⟨hi, he⟩ := List.getElem?_eq_some_iff.1 h
  have hl : ((l.take i).map landJ).length = i := by simp; omega
  rw [landed, landed, List.set_append_right _ _ (by omega), hl, Nat.sub_self, List.drop_eq_getElem_cons hi, List.set_cons_zero, List.take_add_one, h, List.map_append, List.append_assoc]
  rfl
theorem landed_all (l : List Job) : landed l l.length = l.map landJ := by simp [landed]
theorem landed_zero (l : List Job) : landed l 0 = l := by simp [landed]

theorem slJn_frz {hp : HP} {id n lo : Nat} {l : List Job} {ex : Bool} (h : hp[id]? = some (some (.row 42 (encJ.cs l)))) (hn : l.length = n) : fresh hp (.sl id 0 n 10 lo ex) = some (encJ.S l) := by
  subst hn; exact encJ.sl_fresh h

theorem pLand (q : Que) (hq : Fits q) : PCF Try.prog 55 [.agg q.c] (.agg q.land.c) := by
  have hx : NoIdL [.agg q.c] := nidL_ok (by rw [nidL, queN]; rfl)
  refine pcf_of hx ((calls_e hmG T4_ok comp55 (by decide) (by simp) (K := fun r' hp' => fresh hp' r' = some (.agg q.land.c)) ?_).mono fun _ _ => fresh_ok)
  have hcl := T4_clone hq
  have hjl := hq.j
  simp only [most] at hjl
  by_cases h0 : q.jobs.length = 0
  · have hj0 := List.eq_nil_of_length_eq_zero h0
    have he : q.land = q := by
      unfold Que.land
      rw [hj0, List.map_nil, ← hj0]
    rw [he]
    refine vcE.step (by simp (disch := first | assumption | omega | with_unfolding_all rfl) only [exC, exOps, exOp, wantedE, ↓reduceIte, ROp.run, evsE, evE, ty, List.getD_cons_zero, tz, List.length_nil, List.nil_append, putE, allocA, List.length_cons, List.cons_append]; rfl) (vcE.step (by simp (disch := first | assumption | omega | with_unfolding_all rfl) only [exC, exOps, exOp, wantedE, ↓reduceIte, ROp.run, evsE, evE, ty, Nat.reduceEqDiff, same, loadA, rowA, List.getElem?_cons_zero, ↓pickQ, Option.map_some, putE, List.append_nil, frzL, frz_agg, queL_frz, hcl, cloneV, cloneH, Cls.makes, callCls, nidL, tz, queL_nid, List.length_cons, List.length_nil, Nat.reduceAdd, List.cons_append, List.nil_append, storeA_eq, Que.c_len, Nat.reduceLeDiff, decide_true, over, List.take_zero, dropQ, List.set_cons_zero]; rfl) (vcE.then (fun e tm hp => e = .normal ∧ tm 1 = .ptr 0 0 ∧ tm 2 = .ptr 1 0 ∧ hp = [some (.row 29 [osl 5 q.jobs.length 10, .int .i64 q.next, .int .i64 q.now, osl 7 q.failed.length 5, osl 9 q.settled.length 5, .bool q.resync]), some (.row 29 [.nils, .int .i64 0, .int .i64 0, .nils, .nils, .bool false]), none, none, none, orow q.jobs.length 42 (encJ.cs q.jobs), none, orow q.failed.length 23 (encA.cs q.failed), none, orow q.settled.length 23 (encA.cs q.settled)]) ?_ ?_))
    · refine vcE.step (by simp (disch := first | assumption | omega | with_unfolding_all rfl) only [exC, exOps, exOp, wantedE, ↓reduceIte, ROp.run, evsE, evE, ty, Nat.reduceEqDiff, same, faddrA, Option.map_some, putE, loadA, rowA, List.getElem?_cons_zero, pickA]; rfl) (vcE.block (vcE.count (by intro l tm hp h; simp at h) (fun i tm hp' => hp' = _ ∧ tm 1 = .ptr 0 0 ∧ tm 2 = .ptr 1 0 ∧ tm 9 = .int .i64 q.jobs.length ∧ tm 10 = .int .i64 i) 0 ⟨rfl, rfl, rfl, rfl, rfl⟩ (by intro i tm hp hi; omega) ?_))
      rintro tm hp ⟨rfl, t1, t2, t9, t10⟩
      refine vcE.ex (by simp (disch := first | assumption | omega | with_unfolding_all rfl) only [exC, exOps, exOp, wantedE, ↓reduceIte, ROp.run, evsE, evE, t10, t9, same, binA, intA, dec_false, Option.map_some, putE, ty]; rfl) ?_
      exact ⟨rfl, t1, t2, rfl⟩
    · rintro e tm hp ⟨rfl, t1, t2, rfl⟩
      refine vcE.ex (by simp (disch := first | assumption | omega | with_unfolding_all rfl) only [exC, exOps, exOp, wantedE, ↓reduceIte, ROp.run, evsE, evE, t1, same, loadA, rowA, List.getElem?_cons_zero, pickA, ty, List.length_cons, List.length_nil, Nat.reduceAdd, Nat.reduceLeDiff, List.drop_zero, List.take_succ_cons, List.take_zero, Option.map_some, putE, Nat.reduceEqDiff, t2, storeA_eq, List.getElem?_cons_succ, tz, decide_true, over, List.nil_append, List.drop_succ_cons, List.drop_nil, List.append_nil, List.set_cons_succ, List.set_cons_zero]; rfl) ?_
      refine ⟨_, by simp only [resE, resEL, resE1, upd_app, Nat.reduceEqDiff, ↓reduceIte, t2]; rfl, ?_⟩
      (simp (disch := first | assumption | with_unfolding_all rfl) only [upd_app, Nat.reduceEqDiff, ↓reduceIte, fresh_tup, freshL, fresh_agg, fresh_int, fresh_bool, fresh_str, List.take_succ_cons, List.take_zero, List.drop_succ_cons, List.drop_zero, start_app, List.getD_cons_zero, List.getD_cons_succ, oslJ_fresh, oslA_fresh, t2])
      rfl
  · have hso : ∀ id, osl id q.jobs.length 10 = .sl id 0 q.jobs.length 10 q.jobs.length false := fun id => osl_pos (by omega)
    have hro : orow q.jobs.length 42 (encJ.cs q.jobs) = some (.row 42 (encJ.cs q.jobs)) := orow_pos (by omega)
    refine vcE.step (by simp (disch := first | assumption | omega | with_unfolding_all rfl) only [exC, exOps, exOp, wantedE, ↓reduceIte, ROp.run, evsE, evE, ty, List.getD_cons_zero, tz, List.length_nil, List.nil_append, putE, allocA, List.length_cons, List.cons_append]; rfl) (vcE.step (by simp (disch := first | assumption | omega | with_unfolding_all rfl) only [exC, exOps, exOp, wantedE, ↓reduceIte, ROp.run, evsE, evE, ty, Nat.reduceEqDiff, same, loadA, rowA, List.getElem?_cons_zero, ↓pickQ, Option.map_some, putE, List.append_nil, frzL, frz_agg, queL_frz, hcl, cloneV, cloneH, Cls.makes, callCls, nidL, tz, queL_nid, List.length_cons, List.length_nil, Nat.reduceAdd, List.cons_append, List.nil_append, storeA_eq, Que.c_len, Nat.reduceLeDiff, decide_true, over, List.take_zero, dropQ, List.set_cons_zero]; rfl) (vcE.then (fun e tm hp => e = .normal ∧ tm 1 = .ptr 0 0 ∧ tm 2 = .ptr 1 0 ∧ hp = [some (.row 29 [.sl 5 0 q.jobs.length 10 q.jobs.length false, .int .i64 q.next, .int .i64 q.now, osl 7 q.failed.length 5, osl 9 q.settled.length 5, .bool q.resync]), some (.row 29 [.nils, .int .i64 0, .int .i64 0, .nils, .nils, .bool false]), none, none, none, some (.row 42 (encJ.cs (q.jobs.map landJ))), none, orow q.failed.length 23 (encA.cs q.failed), none, orow q.settled.length 23 (encA.cs q.settled)]) ?_ ?_))
    · refine vcE.step (by simp (disch := first | assumption | omega | with_unfolding_all rfl) only [exC, exOps, exOp, wantedE, ↓reduceIte, ROp.run, evsE, evE, hso, ty, Nat.reduceEqDiff, same, hro, faddrA, Option.map_some, putE, loadA, rowA, List.getElem?_cons_zero, pickA, tz]; rfl) (vcE.block (vcE.count (by intro l tm hp h; simp at h) (fun i tm hp' => tm 1 = .ptr 0 0 ∧ tm 2 = .ptr 1 0 ∧ tm 9 = .int .i64 q.jobs.length ∧ tm 10 = .int .i64 i ∧ hp' = [some (.row 29 [.sl 5 0 q.jobs.length 10 q.jobs.length false, .int .i64 q.next, .int .i64 q.now, osl 7 q.failed.length 5, osl 9 q.settled.length 5, .bool q.resync]), some (.row 29 [.nils, .int .i64 0, .int .i64 0, .nils, .nils, .bool false]), none, none, none, some (.row 42 (encJ.cs (landed q.jobs i))), none, orow q.failed.length 23 (encA.cs q.failed), none, orow q.settled.length 23 (encA.cs q.settled)]) q.jobs.length ⟨rfl, rfl, rfl, rfl, ?_⟩ ?_ ?_))
      · rw [landed_zero]
      · rintro i tm hp hi ⟨t1, t2, t9, t10, rfl⟩
        obtain ⟨j, hj⟩ : ∃ j, q.jobs[i]? = some j := ⟨_, List.getElem?_eq_getElem hi⟩
        have hlj := landed_get hj
        have hst := landed_step hj
        have hll := landed_len q.jobs i
        generalize landed q.jobs i = L at *
        have hni : nilchkA (.ptr 5 (i * 10)) = some (.ptr 5 (i * 10)) := rfl
        obtain ⟨x, a, f, d, n, m⟩ := j
        have hs2 : (L.set i ⟨x, a, false, d, n, m⟩)[i]? = some ⟨x, a, false, d, n, m⟩ := by
          rw [List.getElem?_set]; simp; omega
        cases d
        all_goals refine vcE.ex (by simp (disch := first | assumption | omega | with_unfolding_all rfl) only [exC, exOps, exOp, wantedE, ↓reduceIte, ROp.run, evsE, evE, t10, t9, same, binA, intA, dec_true, Option.map_some, putE, ty, Nat.reduceEqDiff, t1, faddrA, loadA, rowA, List.getElem?_cons_zero, pickA, tz, ↓iaddrJ, hni, ↓slJ_part, Job.c, List.getElem?_cons_succ, beq_self_eq_true, ↓slJ_fly, List.set_cons_succ, List.set_cons_zero, ↓slJ_doubt, List.set_set, beq_iff_eq]; rfl) ?_
        all_goals refine ⟨?_, ?_, ?_, ?_, ?_⟩
        all_goals first | (rw [← hst]; simp only [landJ, Bool.false_or, Bool.true_or]; done) | (simp only [upd_app, Nat.reduceEqDiff, ↓reduceIte, t1, t2, t9]; done) | (simp only [upd_app, Nat.reduceEqDiff, ↓reduceIte]; rfl)
      · rintro tm hp ⟨t1, t2, t9, t10, rfl⟩
        refine vcE.ex (by simp (disch := first | assumption | omega | with_unfolding_all rfl) only [exC, exOps, exOp, wantedE, ↓reduceIte, ROp.run, evsE, evE, t10, t9, same, binA, intA, dec_false, Option.map_some, putE, ty]; rfl) ?_
        refine ⟨rfl, ?_, ?_, by rw [landed_all]⟩
        · simp only [upd_app, Nat.reduceEqDiff, ↓reduceIte, t1]
        · simp only [upd_app, Nat.reduceEqDiff, ↓reduceIte, t2]
    · rintro e tm hp ⟨rfl, t1, t2, rfl⟩
      refine vcE.ex (by simp (disch := first | assumption | omega | with_unfolding_all rfl) only [exC, exOps, exOp, wantedE, ↓reduceIte, ROp.run, evsE, evE, t1, same, loadA, rowA, List.getElem?_cons_zero, pickA, ty, List.length_cons, List.length_nil, Nat.reduceAdd, Nat.reduceLeDiff, List.drop_zero, List.take_succ_cons, List.take_zero, Option.map_some, putE, Nat.reduceEqDiff, t2, storeA_eq, List.getElem?_cons_succ, tz, decide_true, over, List.nil_append, List.drop_succ_cons, List.drop_nil, List.append_nil, List.set_cons_succ, List.set_cons_zero]; rfl) ?_
      refine ⟨_, by simp only [resE, resEL, resE1, upd_app, Nat.reduceEqDiff, ↓reduceIte, t2]; rfl, ?_⟩
      have hlm : (q.jobs.map landJ).length = q.jobs.length := List.length_map _
      (simp (disch := first | assumption | with_unfolding_all rfl) only [upd_app, Nat.reduceEqDiff, ↓reduceIte, fresh_tup, freshL, fresh_agg, fresh_int, fresh_bool, fresh_str, List.take_succ_cons, List.take_zero, List.drop_succ_cons, List.drop_zero, start_app, List.getD_cons_zero, List.getD_cons_succ, ↓slJn_frz, oslA_fresh, t2])
      rfl

/-! ### Contains; Next -/
theorem pInI {l : List Int} (h : l.length ≤ most) (n : Int) : PCF Try.prog 68 [encI.S l, .int .i64 n] (.bool (decide (n ∈ l))) := by
  rw [← any_mem, ← idx_ge]
  exact contains_pc hmG T5_ok comp68 (encI.S_nid l) rfl (encI.S_frz _ l) rfl (T5_idxI h n)
theorem pInA {l : List Act} (h : l.length ≤ most) (a : Act) : PCF Try.prog 113 [encA.S l, .agg a.c] (.bool (decide (a ∈ l))) := by
  rw [← any_mem, ← idx_ge]
  exact containsS_pc hmG T5_ok elA rfl comp113 (encA.S_nid l) (fun hp => encA.S_frz hp l) (T5_idxA h a)
theorem pNext1 (j : Job) : PCF Try.prog 66 [.agg j.c] (.bool (j.doubt && !j.fly)) := by
  refine pcf_e hmG T5_ok comp66 (by decide) (by simp) (nidL_ok rfl) ?_
  obtain ⟨x, a, f, d, n, m⟩ := j
  cases d
  all_goals refine vcE.ex (by simp (disch := first | assumption | omega) only [exC, exOps, exOp, wantedE, ↓reduceIte, ROp.run, evsE, evE, Job.c, ty, List.getD_cons_zero, tz, List.length_nil, List.nil_append, putE, Nat.reduceEqDiff, same, faddrA, Option.map_some, loadA, rowA, List.getElem?_cons_zero, pickA, List.getElem?_cons_succ, beq_iff_eq, beq_self_eq_true, unA]; rfl) ?_
  all_goals exact ⟨_, rfl, rfl⟩
theorem pNext2 (q : Que) (j : Job) : PCF Try.prog 67 [.agg j.c, .fptr q.c 0] (.bool (j.waits && decide (j.at_ ≤ q.now))) := by
  refine pcf_e hmG T5_ok comp67 (by decide) (by simp) (nidL_ok (by simp only [nidL, jobN, nid_fptr, queL_nid, Bool.and_self])) ?_
  have hw := (T5_ne rfl).trans (T4_waits j)
  simp only [Job.c] at hw
  cases hj : j.waits <;> rw [hj] at hw
  all_goals refine vcE.ex (by simp (disch := first | assumption | omega) only [exC, exOps, exOp, wantedE, ↓reduceIte, ROp.run, evsE, evE, Job.c, Que.c, ty, List.getD_cons_zero, tz, List.length_nil, List.nil_append, putE, Nat.reduceEqDiff, same, loadA, rowA, List.getElem?_cons_zero, pickA, List.length_cons, Nat.reduceAdd, Nat.reduceLeDiff, List.drop_zero, List.take_succ_cons, List.take_zero, Option.map_some, List.append_nil, frzL, frz_agg, hw, Cls.isFree, callCls, nidL, beq_iff_eq, beq_self_eq_true, faddrA, List.getElem?_cons_succ, List.getD_cons_succ, binA, intA]; rfl) ?_
  all_goals exact ⟨_, rfl, rfl⟩
abbrev R1.fq : R1 Que := ⟨fun q => .fptr q.c 0, fun | .fptr cs 0 => R1.que.un (.agg cs) | _ => none, fun q => R1.que.un_v q, fun x q h => by
  split at h
  · have := R1.que.un_some _ _ h
    cases this
    rfl
  · cases h⟩
def T6 : Tab := (((T5.addO 68 (.cons (.S encI) (.cons .i64 .nil)) fun p => if p.1.length ≤ most then some (.rd true (.bool (decide (p.2.1 ∈ p.1)))) else none).addO
  113 (.cons (.S encA) (.cons .act .nil)) fun p => if p.1.length ≤ most then some (.rd true (.bool (decide (p.2.1 ∈ p.1)))) else none).addR
  66 (.cons .job .nil) fun p => .rd true (.bool (p.1.doubt && !p.1.fly))).addR 67 (.cons .job (.cons .fq .nil)) fun p => .rd true (.bool (p.1.waits && decide (p.1.at_ ≤ p.2.1.now)))
theorem T6_ok : TabOk Try.prog T6 := by
  refine TabOk.addR (TabOk.addR (TabOk.addO (TabOk.addO T5_ok ?_) ?_) ?_) ?_
  · intro p r h
    split at h
    · rename_i hv; cases h; exact pInI hv _
    · cases h
  · intro p r h
    split at h
    · rename_i hv; cases h; exact pInA hv _
    · cases h
  · exact fun p => pNext1 p.1
  · exact fun p => pNext2 p.2.1 p.1
theorem T6_next2 (q : Que) (j : Job) : T6 67 [.agg j.c, .fptr q.c 0] = some (.rd true (.bool (j.waits && decide (j.at_ ≤ q.now)))) := Tab.addR_self _ _ (.cons .job (.cons .fq .nil)) _ (j, q, ())
theorem T6_next1 (j : Job) : T6 66 [.agg j.c] = some (.rd true (.bool (j.doubt && !j.fly))) := rfl
theorem T6_inA {l : List Act} (h : l.length ≤ most) (a : Act) : T6 113 [encA.S l, .agg a.c] = some (.rd true (.bool (decide (a ∈ l)))) := by
  rw [T6, Tab.addR_ne _ _ _ _ rfl, Tab.addR_ne _ _ _ _ rfl]
  exact (Tab.addO_self _ _ (.cons (.S encA) (.cons .act .nil)) _ (l, a, ())).trans (if_pos h)
theorem T6_inI {l : List Int} (h : l.length ≤ most) (n : Int) : T6 68 [encI.S l, .int .i64 n] = some (.rd true (.bool (decide (n ∈ l)))) := by
  rw [T6, Tab.addR_ne _ _ _ _ rfl, Tab.addR_ne _ _ _ _ rfl, Tab.addO_ne _ _ _ _ rfl]
  exact (Tab.addO_self _ _ (.cons (.S encI) (.cons .i64 .nil)) _ (l, n, ())).trans (if_pos h)
theorem T6_ne {g : FuncId} {xs : List AV} (h : (Nat.beq g 68 || Nat.beq g 113 || Nat.beq g 66 || Nat.beq g 67) = false) : T6 g xs = T5 g xs := by
  simp only [Bool.or_eq_false_iff] at h
  obtain ⟨⟨⟨h1, h2⟩, h3⟩, h4⟩ := h
  rw [T6, Tab.addR_ne _ _ _ _ h4, Tab.addR_ne _ _ _ _ h3, Tab.addO_ne _ _ _ _ h2, Tab.addO_ne _ _ _ _ h1]
theorem T6_T4 {g : FuncId} {xs : List AV} (h : (Nat.beq g 68 || Nat.beq g 113 || Nat.beq g 66 || Nat.beq g 67) = false) (h2 : (Nat.beq g 72 || Nat.beq g 73 || Nat.beq g 110 || Nat.beq g 130) = false) : T6 g xs = T4 g xs := (T6_ne h).trans (T5_ne h2)

def Job.zc : List AV := [.int .i64 0, .int .i64 0, .str [], .str [], .str [], .str [], .bool false, .bool false, .int .i64 0, .int .i64 0]
/-- The inner loop of Next: the first job that a function picks, if it isn't barred. -/
theorem next_inner {hint : Nat → Nat} {q : Que} {barred : List Int} (hq : Fits q) (hbl : barred.length ≤ most) {f : FuncId} {caps caps' : List AV} {pr : Job → Bool} (hfr : ∀ hp : HP, hp[0]? = some (some (.row 29 q.c)) → frzL hp caps = some caps') (hT : ∀ j : Job, T6 f (.agg j.c :: caps') = some (.rd true (.bool (pr j))))
    {tm : Env} {hp : HP} (h0 : hp[0]? = some (some (.row 29 q.c))) (h1 : hp[1]? = some (some (.row 42 Job.zc))) (t1 : tm 1 = encI.S barred) (t2 : tm 2 = .ptr 0 0) (t4 : tm 4 = .ptr 1 0) (t7 : tm 7 = .func f caps) :
    vcE Try.prog hint T6 40 (IC.seq (IC.reg r20_6) (IC.block 2 (IC.loop b20_0))) tm hp fun e tm' hp' => (∃ j, q.jobs.find? (fun j => pr j && !decide (j.txn ∈ barred)) = some j ∧ e = .ret ∧ hp'[1]? = some (some (.row 42 j.c)) ∧ tm' 4 = .ptr 1 0 ∧ tm' 5 = .bool true) ∨
      (q.jobs.find? (fun j => pr j && !decide (j.txn ∈ barred)) = none ∧ e = .normal ∧ hp'[0]? = some (some (.row 29 q.c)) ∧ hp'[1]? = some (some (.row 42 Job.zc)) ∧ (∀ k, k < 6 → tm' k = tm k) ∧ tm' 15 = tm 15 ∧ tm' 16 = tm 16) := by
  have hjl := hq.j
  simp only [most] at hjl
  refine vcE.step (by simp (disch := first | assumption | omega) only [exC, exOps, exOp, wantedE, ↓reduceIte, ROp.run, evsE, evE, t2, same, faddrA, ty, Option.map_some, putE, loadA, rowA, h0, Que.c, pickA, List.getElem?_cons_zero]; rfl) (vcE.block (vcE.count (by intro l tm hp h; simp at h)
    (fun i tm' hp' => hp'[0]? = some (some (.row 29 q.c)) ∧ hp'[1]? = some (some (.row 42 Job.zc)) ∧ (∀ k, k < 6 → tm' k = tm k) ∧ tm' 15 = tm 15 ∧ tm' 16 = tm 16 ∧ tm' 7 = .func f caps ∧ tm' 20 = encJ.S q.jobs ∧ tm' 21 = .int .i64 q.jobs.length ∧ tm' 22 = .int .i64 i ∧ ∀ j ∈ q.jobs.take i, (pr j && !decide (j.txn ∈ barred)) = false) q.jobs.length ⟨h0, h1, ?_, ?_, ?_, ?_, ?_, ?_, ?_, by simp⟩ ?_ ?_))
  · intro k hk
    simp only [upd_app]
    repeat rw [if_neg (by omega)]
  · simp only [upd_app, Nat.reduceEqDiff, ↓reduceIte]
  · simp only [upd_app, Nat.reduceEqDiff, ↓reduceIte]
  · simp only [upd_app, Nat.reduceEqDiff, ↓reduceIte, t7]
  · simp only [upd_app, Nat.reduceEqDiff, ↓reduceIte]
  · simp only [upd_app, Nat.reduceEqDiff, ↓reduceIte]
  · simp only [upd_app, Nat.reduceEqDiff, ↓reduceIte]; rfl
  · rintro i tm' hp' hi ⟨k0, k1, kk, k15, k16, k7, k20, k21, k22, hno⟩
    obtain ⟨j, hj⟩ : ∃ j, q.jobs[i]? = some j := ⟨_, List.getElem?_eq_getElem hi⟩
    have hpick : pickA (some 10) (encJ.cs q.jobs) (i * 10) = some (.agg j.c) := encJ.pick hj
    have hi1 : iaddrA 10 (encJ.S q.jobs) (.int .i64 i) = some (.fptr (encJ.cs q.jobs) (i * 10)) := encJ.S_iaddr hi
    have hst : storeA (hp' ++ [some (.row 42 [.int .i64 0, .int .i64 0, .str [], .str [], .str [], .str [], .bool false, .bool false, .int .i64 0, .int .i64 0])]) 10 (.ptr hp'.length 0) (.agg j.c) = some (hp' ++ [some (.row 42 j.c)]) := alloc_store (E := encJ) rfl
    have hl10 : loadA (hp' ++ [some (.row 42 j.c)]) (some 10) (.ptr hp'.length 0) = some (.agg j.c) := by
      simp [loadA, rowA, pickA, Job.c]
    have hl0 : loadA (hp' ++ [some (.row 42 j.c)]) none (.ptr hp'.length 0) = some (.int .i64 j.txn) := by
      simp [loadA, rowA, pickA, Job.c, oneA]
    have hfr' := hfr (hp' ++ [some (.row 42 j.c)]) (app_get k0)
    have hTj := hT j
    have hin := T6_inI hbl j.txn
    have e1 := (kk 1 (by omega)).trans t1
    have e4 := (kk 4 (by omega)).trans t4
    have hjn := jobL_nid j
    have hjf := jobL_frz j
    cases hpr : pr j <;> rw [hpr] at hTj
    · refine vcE.ex (by simp (disch := first | assumption | omega) only [exC, exOps, exOp, wantedE, ↓reduceIte, ROp.run, evsE, evE, k22, k21, same, binA, intA, dec_true, Option.map_some, putE, ty, Nat.reduceEqDiff, k20, hi1, loadA, rowA, ↓hpick, allocA, ↓hst, k7, ↓hl10, List.cons_append, List.nil_append, frzL, frz_agg, hjf, hfr', hTj, Cls.isFree, callCls, nidL, tz, beq_iff_eq]; rfl) ?_
      refine ⟨app_get k0, app_get k1, ?_, ?_, ?_, ?_, ?_, ?_, ?_, ?_⟩
      · intro k hk
        simp only [upd_app]
        repeat rw [if_neg (by omega)]
        exact kk k hk
      · simp only [upd_app, Nat.reduceEqDiff, ↓reduceIte, k15]
      · simp only [upd_app, Nat.reduceEqDiff, ↓reduceIte, k16]
      · simp only [upd_app, Nat.reduceEqDiff, ↓reduceIte, k7]
      · simp only [upd_app, Nat.reduceEqDiff, ↓reduceIte, k20]
      · simp only [upd_app, Nat.reduceEqDiff, ↓reduceIte, k21]
      · simp only [upd_app, Nat.reduceEqDiff, ↓reduceIte]; rfl
      · intro x hx
        rw [List.take_add_one, hj] at hx
        rcases List.mem_append.1 hx with hx | hx
        · exact hno x hx
        · simp only [Option.toList_some, List.mem_singleton] at hx
          rw [hx, hpr]; rfl
    · by_cases hb : j.txn ∈ barred
      · rw [decide_eq_true hb] at hin
        refine vcE.ex (by simp (disch := first | assumption | omega) only [exC, exOps, exOp, wantedE, ↓reduceIte, ROp.run, evsE, evE, k22, k21, same, binA, intA, dec_true, Option.map_some, putE, ty, Nat.reduceEqDiff, k20, hi1, loadA, rowA, ↓hpick, allocA, ↓hst, k7, ↓hl10, List.cons_append, List.nil_append, frzL, frz_agg, hjf, hfr', hTj, Cls.isFree, callCls, nidL, tz, beq_self_eq_true, e1, faddrA, ↓hl0, List.append_nil, hin, unA]; rfl) ?_
        refine ⟨app_get k0, app_get k1, ?_, ?_, ?_, ?_, ?_, ?_, ?_, ?_⟩
        · intro k hk
          simp only [upd_app]
          repeat rw [if_neg (by omega)]
          exact kk k hk
        · simp only [upd_app, Nat.reduceEqDiff, ↓reduceIte, k15]
        · simp only [upd_app, Nat.reduceEqDiff, ↓reduceIte, k16]
        · simp only [upd_app, Nat.reduceEqDiff, ↓reduceIte, k7]
        · simp only [upd_app, Nat.reduceEqDiff, ↓reduceIte, k20]
        · simp only [upd_app, Nat.reduceEqDiff, ↓reduceIte, k21]
        · simp only [upd_app, Nat.reduceEqDiff, ↓reduceIte]; rfl
        · intro x hx
          rw [List.take_add_one, hj] at hx
          rcases List.mem_append.1 hx with hx | hx
          · exact hno x hx
          · simp only [Option.toList_some, List.mem_singleton] at hx
            rw [hx, hpr, decide_eq_true hb]; rfl
      · rw [decide_eq_false hb] at hin
        have hs1 : storeA (hp' ++ [some (.row 42 j.c)]) 10 (.ptr 1 0) (.agg j.c) = some (List.set (hp' ++ [some (Blk.row 42 j.c)]) 1 (some (Blk.row 42 j.c))) := by
          simp only [storeA_eq, app_get k1]
          rfl
        have hfd : q.jobs.find? (fun j => pr j && !decide (j.txn ∈ barred)) = some j := by
          rw [List.find?_eq_some_iff_getElem]
          refine ⟨by rw [hpr, decide_eq_false hb]; rfl, i, hi, (List.getElem?_eq_some_iff.1 hj).2, fun k hk => ?_⟩
          have := hno (q.jobs[k]'(by omega)) (List.mem_iff_getElem.2 ⟨k, by rw [List.length_take]; omega, by rw [List.getElem_take]⟩)
          simp only [this, Bool.not_false]
        refine vcE.ex (by simp (disch := first | assumption | omega) only [exC, exOps, exOp, wantedE, ↓reduceIte, ROp.run, evsE, evE, k22, k21, same, binA, intA, dec_true, Option.map_some, putE, ty, Nat.reduceEqDiff, k20, hi1, loadA, rowA, ↓hpick, allocA, ↓hst, k7, ↓hl10, List.cons_append, List.nil_append, frzL, frz_agg, hjf, hfr', hTj, Cls.isFree, callCls, nidL, tz, beq_self_eq_true, e1, faddrA, ↓hl0, List.append_nil, hin, unA, e4, ↓hs1]; rfl) ?_
        refine .inl ⟨j, hfd, rfl, set_get (app_get k1), ?_, ?_⟩
        · simp only [upd_app, Nat.reduceEqDiff, ↓reduceIte, e4]
        · simp only [upd_app, Nat.reduceEqDiff, ↓reduceIte]
  · rintro tm' hp' ⟨k0, k1, kk, k15, k16, k7, k20, k21, k22, hno⟩
    have hfd : q.jobs.find? (fun j => pr j && !decide (j.txn ∈ barred)) = none := by
      rw [List.find?_eq_none]
      intro x hx
      rw [List.take_length] at hno
      rw [hno x hx]
      simp
    refine vcE.ex (by simp (disch := first | assumption | omega) only [exC, exOps, exOp, wantedE, ↓reduceIte, ROp.run, evsE, evE, k22, k21, same, binA, intA, dec_false, Option.map_some, putE, ty]; rfl) ?_
    refine .inr ⟨hfd, rfl, k0, k1, ?_, ?_, ?_⟩
    · intro k hk
      simp only [upd_app]
      repeat rw [if_neg (by omega)]
      exact kk k hk
    · simp only [upd_app, Nat.reduceEqDiff, ↓reduceIte, k15]
    · simp only [upd_app, Nat.reduceEqDiff, ↓reduceIte, k16]

theorem fill_zero : fillA [(0, 1), (1, 5), (6, 1), (7, 1), (8, 1), (9, 1)] [.int .i64 0, .int .i64 0, .str [], .str [], .str [], .str [], .bool false, .bool false, .int .i64 0, .int .i64 0] (([] : List Nat).zip ([] : List AV)) = some [.int .i64 0, .int .i64 0, .str [], .str [], .str [], .str [], .bool false, .bool false, .int .i64 0, .int .i64 0] := rfl
def pick2 (F1 F2 : Option Job) : Job × Bool := match F1 with
  | some j => (j, true)
  | none => match F2 with
    | some j => (j, true)
    | none => (Job.zero, false)
theorem nxt_eq (q : Que) (barred : List Int) : q.nxt barred = if 4 ≤ flyers q.jobs then (.zero, false)
  else pick2 (q.jobs.find? (fun j => (j.doubt && !j.fly) && !decide (j.txn ∈ barred))) (q.jobs.find? (fun j => (j.waits && decide (j.at_ ≤ q.now)) && !decide (j.txn ∈ barred))) := rfl
theorem cell_fresh {hp : HP} {j : Job} {b : Bool} {tm : Env} (h : hp[1]? = some (some (.row 42 j.c))) (t4 : tm 4 = .ptr 1 0) (t5 : tm 5 = .bool b) : ∃ r, resE [.cell 4 (some 10), .t 5] tm hp = some r ∧ fresh hp r = some (.tup [.agg j.c, .bool b]) := by
  refine ⟨.tup [.agg j.c, .bool b], ?_, rfl⟩
  simp only [resE, resEL, resE1, t4, t5, loadA, rowA, h]
  rfl
theorem pNext (q : Que) (hq : Fits q) (barred : List Int) (hbl : barred.length ≤ most) : PCF Try.prog 20 [.agg q.c, encI.S barred] (.tup [.agg (q.nxt barred).1.c, .bool (q.nxt barred).2]) := by
  have hx : NoIdL [.agg q.c, encI.S barred] := nidL_ok (by simp only [nidL, queN, Enc.S_nid, Bool.and_self])
  refine pcf_of hx ((calls_e hmG T6_ok comp20 (by decide) (by simp) (K := fun r' hp' => fresh hp' r' = some (.tup [.agg (q.nxt barred).1.c, .bool (q.nxt barred).2])) ?_).mono fun _ _ => fresh_ok)
  rw [nxt_eq]
  have hfl : T6 63 [.agg q.c] = _ := (T6_T4 rfl rfl).trans (T4_flying hq)
  have hcl := T4_clone hq
  have hg : ∀ x y : Int, (x ≥ y) = (y ≤ x) := fun _ _ => rfl
  by_cases h4 : 4 ≤ flyers q.jobs
  · rw [if_pos h4]
    refine vcE.ex (by simp (disch := first | assumption | omega | with_unfolding_all rfl) only [exC, exOps, exOp, wantedE, ↓reduceIte, ROp.run, evsE, evE, ty, List.getD_cons_zero, tz, List.length_nil, List.nil_append, putE, allocA, List.length_cons, List.cons_append, Nat.reduceEqDiff, same, loadA, rowA, List.getElem?_cons_zero, ↓pickQ, Option.map_some, List.append_nil, frzL, frz_agg, queL_frz, hfl, Cls.isFree, callCls, nidL, queL_nid, binA, intA, hg, dec_true, Nat.reduceAdd]; rfl) ?_
    exact ⟨_, rfl, rfl⟩
  rw [if_neg h4]
  have in1 := fun {hint} {tm : Env} {hp : HP} => next_inner (hint := hint) (tm := tm) (hp := hp) hq hbl (f := 66) (caps := []) (caps' := []) (fun hp _ => rfl) T6_next1
  have in2 := fun {hint} {tm : Env} {hp : HP} => next_inner (hint := hint) (tm := tm) (hp := hp) hq hbl (f := 67) (caps := [.ptr 0 0]) (caps' := [.fptr q.c 0]) (fun hp h => by simp only [frzL, frz_ptr, h, queL_nid, if_true]) (T6_next2 q)
  generalize q.jobs.find? (fun j => (j.doubt && !j.fly) && !decide (j.txn ∈ barred)) = F1 at *
  generalize q.jobs.find? (fun j => (j.waits && decide (j.at_ ≤ q.now)) && !decide (j.txn ∈ barred)) = F2 at *
  generalize hR : pick2 F1 F2 = R
  have hix0 : indexAA 2 1 none (.agg [.func 66 [], .func 67 [.ptr 0 0]]) (.int .i64 ((0 : Nat) : Int)) = some (.func 66 []) := rfl
  have hix1 : indexAA 2 1 none (.agg [.func 66 [], .func 67 [.ptr 0 0]]) (.int .i64 ((1 : Nat) : Int)) = some (.func 67 [.ptr 0 0]) := rfl
  refine vcE.step (by simp (disch := first | assumption | omega | with_unfolding_all rfl) only [exC, exOps, exOp, wantedE, ↓reduceIte, ROp.run, evsE, evE, ty, List.getD_cons_zero, tz, List.length_nil, List.nil_append, putE, allocA, List.length_cons, List.cons_append]; rfl) (vcE.step (by simp (disch := first | assumption | omega | with_unfolding_all rfl) only [exC, exOps, exOp, wantedE, ↓reduceIte, ROp.run, evsE, evE, ty, Nat.reduceEqDiff, same, loadA, rowA, List.getElem?_cons_zero, ↓pickQ, Option.map_some, putE, List.append_nil, frzL, frz_agg, queL_frz, hfl, Cls.isFree, callCls, nidL, tz, queL_nid, binA, intA, hg, dec_false]; rfl) (vcE.then (fun e tm hp => (e = .ret ∧ ∃ j, R = (j, true) ∧ hp[1]? = some (some (.row 42 (Job.c j))) ∧ tm 4 = .ptr 1 0 ∧ tm 5 = .bool true) ∨ (e = .normal ∧ R = (Job.zero, false) ∧ hp[1]? = some (some (.row 42 Job.zc)) ∧ tm 4 = .ptr 1 0)) ?_ ?_))
  · refine vcE.step (by simp (disch := first | assumption | omega) only [exC, exOps, exOp, wantedE, ↓reduceIte, ROp.run, evsE, evE, ty, Nat.reduceEqDiff, putE, List.length_cons, List.length_nil, Nat.reduceAdd, same]; rfl) (vcE.block (vcE.count (by intro l tm hp h; simp at h)
      (fun k tm hp => hp[0]? = some (some (.row 29 q.c)) ∧ hp[1]? = some (some (.row 42 Job.zc)) ∧ tm 1 = encI.S barred ∧ tm 2 = .ptr 0 0 ∧ tm 4 = .ptr 1 0 ∧ tm 15 = .agg [.func 66 [], .func 67 [.ptr 0 0]] ∧ tm 16 = .int .i64 (k : Int) ∧ (1 ≤ k → F1 = none) ∧ (2 ≤ k → F2 = none)) 2 ⟨rfl, rfl, rfl, rfl, rfl, rfl, rfl, by omega, by omega⟩ ?_ ?_))
    · rintro k tm hp hk ⟨k0, k1, t1, t2, t4, t15, t16, hn1, hn2⟩
      obtain rfl | rfl : k = 0 ∨ k = 1 := by omega
      · refine vcE.step (by simp (disch := first | assumption | omega) only [exC, exOps, exOp, wantedE, ↓reduceIte, ROp.run, evsE, evE, t16, same, binA, intA, dec_true, Option.map_some, putE]; rfl) (vcE.step (by simp (disch := first | assumption | omega) only [exC, evE, ty, ↓reduceIte]; rfl) (vcE.seq (vcE.block (vcE.step (by simp (disch := first | assumption | omega) only [exC, exOps, exOp, wantedE, ↓reduceIte, ROp.run, evsE, evE, ty, Nat.reduceEqDiff, t15, t16, same, ↓hix0, Option.map_some, putE]; rfl) ((in1 k0 k1 ?_ ?_ ?_ ?_).mono ?_)))))
        · simp only [upd_app, Nat.reduceEqDiff, ↓reduceIte, t1]
        · simp only [upd_app, Nat.reduceEqDiff, ↓reduceIte, t2]
        · simp only [upd_app, Nat.reduceEqDiff, ↓reduceIte, t4]
        · simp only [upd_app, Nat.reduceEqDiff, ↓reduceIte]
        · rintro e tm' hp' (⟨j, hj, rfl, h1, h2, h3⟩ | ⟨hj, rfl, h1, h2, h3, h4, h5⟩)
          · refine .inl ⟨rfl, j, ?_, h1, h2, h3⟩
            rw [← hR, hj]; rfl
          · have e16 := h5
            simp only [upd_app, Nat.reduceEqDiff, ↓reduceIte, t16] at e16
            have e15 := h4
            simp only [upd_app, Nat.reduceEqDiff, ↓reduceIte, t15] at e15
            refine vcE.ex (by simp (disch := first | assumption | omega) only [exC, exOps, exOp, wantedE, ↓reduceIte, ROp.run, evsE, evE, e16, same, binA, intA, ty, Option.map_some, putE]; rfl) ?_
            refine ⟨h1, h2, ?_, ?_, ?_, ?_, ?_, fun _ => hj, by omega⟩
            · have := h3 1 (by omega)
              simp only [upd_app, Nat.reduceEqDiff, ↓reduceIte, t1] at this ⊢
              exact this
            · have := h3 2 (by omega)
              simp only [upd_app, Nat.reduceEqDiff, ↓reduceIte, t2] at this ⊢
              exact this
            · have := h3 4 (by omega)
              simp only [upd_app, Nat.reduceEqDiff, ↓reduceIte, t4] at this ⊢
              exact this
            · simp only [upd_app, Nat.reduceEqDiff, ↓reduceIte, e15]
            · simp only [upd_app, Nat.reduceEqDiff, ↓reduceIte]; rfl
      · refine vcE.step (by simp (disch := first | assumption | omega) only [exC, exOps, exOp, wantedE, ↓reduceIte, ROp.run, evsE, evE, t16, same, binA, intA, dec_true, Option.map_some, putE]; rfl) (vcE.step (by simp (disch := first | assumption | omega) only [exC, evE, ty, ↓reduceIte]; rfl) (vcE.seq (vcE.block (vcE.step (by simp (disch := first | assumption | omega) only [exC, exOps, exOp, wantedE, ↓reduceIte, ROp.run, evsE, evE, ty, Nat.reduceEqDiff, t15, t16, same, ↓hix1, Option.map_some, putE]; rfl) ((in2 k0 k1 ?_ ?_ ?_ ?_).mono ?_)))))
        · simp only [upd_app, Nat.reduceEqDiff, ↓reduceIte, t1]
        · simp only [upd_app, Nat.reduceEqDiff, ↓reduceIte, t2]
        · simp only [upd_app, Nat.reduceEqDiff, ↓reduceIte, t4]
        · simp only [upd_app, Nat.reduceEqDiff, ↓reduceIte]
        · rintro e tm' hp' (⟨j, hj, rfl, h1, h2, h3⟩ | ⟨hj, rfl, h1, h2, h3, h4, h5⟩)
          · refine .inl ⟨rfl, j, ?_, h1, h2, h3⟩
            rw [← hR, hn1 (by omega), hj]; rfl
          · have e16 := h5
            simp only [upd_app, Nat.reduceEqDiff, ↓reduceIte, t16] at e16
            have e15 := h4
            simp only [upd_app, Nat.reduceEqDiff, ↓reduceIte, t15] at e15
            refine vcE.ex (by simp (disch := first | assumption | omega) only [exC, exOps, exOp, wantedE, ↓reduceIte, ROp.run, evsE, evE, e16, same, binA, intA, ty, Option.map_some, putE]; rfl) ?_
            refine ⟨h1, h2, ?_, ?_, ?_, ?_, ?_, fun _ => hn1 (by omega), fun _ => hj⟩
            · have := h3 1 (by omega)
              simp only [upd_app, Nat.reduceEqDiff, ↓reduceIte, t1] at this ⊢
              exact this
            · have := h3 2 (by omega)
              simp only [upd_app, Nat.reduceEqDiff, ↓reduceIte, t2] at this ⊢
              exact this
            · have := h3 4 (by omega)
              simp only [upd_app, Nat.reduceEqDiff, ↓reduceIte, t4] at this ⊢
              exact this
            · simp only [upd_app, Nat.reduceEqDiff, ↓reduceIte, e15]
            · simp only [upd_app, Nat.reduceEqDiff, ↓reduceIte]; rfl
    · rintro tm hp ⟨k0, k1, t1, t2, t4, t15, t16, hn1, hn2⟩
      refine vcE.ex (by simp (disch := first | assumption | omega) only [exC, exOps, exOp, wantedE, ↓reduceIte, ROp.run, evsE, evE, t16, same, binA, intA, dec_false, Option.map_some, putE, ty]; rfl) ?_
      refine .inr ⟨rfl, ?_, k1, ?_⟩
      · rw [← hR, hn1 (by omega), hn2 (by omega)]; rfl
      · simp only [upd_app, Nat.reduceEqDiff, ↓reduceIte, t4]
  · rintro e tm hp (⟨rfl, j, hr, h1, t4, t5⟩ | ⟨rfl, hr, h1, t4⟩)
    · rw [hr]
      exact cell_fresh h1 t4 t5
    · rw [hr]
      have hs1 : storeA hp 10 (.ptr 1 0) (.agg Job.zc) = some (List.set hp 1 (some (Blk.row 42 Job.zc))) := by
        simp only [storeA_eq, h1]
        rfl
      simp only [Job.zc] at hs1
      refine vcE.ex (by simp (disch := first | assumption | omega) only [exC, exOps, exOp, wantedE, ↓reduceIte, ROp.run, evsE, List.length_nil, same, fill_zero, Option.map_some, putE, evE, ty, Nat.reduceEqDiff, t4, ↓hs1]; rfl) ?_
      refine cell_fresh (j := Job.zero) (set_get h1) ?_ ?_
      · simp only [upd_app, Nat.reduceEqDiff, ↓reduceIte, t4]
      · simp only [upd_app, Nat.reduceEqDiff, ↓reduceIte]
end
section
open Go Go.Proofs

/-- A queue whose numbers are within bounds. -/
structure OkQ (q : Que) : Prop where
  fits : Fits q
  n1 : 0 ≤ q.next
  n2 : q.next ≤ 1152921504606846976
  t1 : 0 ≤ q.now
  t2 : q.now ≤ 1152921504606846976
  tr : ∀ j ∈ q.jobs, 0 ≤ j.tries ∧ j.tries < 5
instance (q : Que) : Decidable (OkQ q) := decidable_of_iff (Fits q ∧ 0 ≤ q.next ∧ q.next ≤ 1152921504606846976 ∧ 0 ≤ q.now ∧ q.now ≤ 1152921504606846976 ∧ ∀ j ∈ q.jobs, 0 ≤ j.tries ∧ j.tries < 5) ⟨fun ⟨a, b, c, d, e, f⟩ => ⟨a, b, c, d, e, f⟩, fun ⟨a, b, c, d, e, f⟩ => ⟨a, b, c, d, e, f⟩⟩
theorem Valid.ok {q : Que} (v : Valid q) : OkQ q where
  fits := ⟨by have := v.nj; simp only [most]; omega, by have := v.nf; simp only [most]; omega, by have := v.ns; simp only [most]; omega⟩
  n1 := by have := v.n1; omega
  n2 := v.n2
  t1 := v.t1
  t2 := v.t2
  tr j hj := by have := v.js j hj; exact ⟨this.2.2.1, this.2.2.2.1⟩

/-- The table for the laws. -/
def T7 : Tab := ((((((((((T6.addR 11 (.cons .act .nil) fun p => .rd true (.bool p.1.light)).addR 13 .nil fun _ => .rd true (.agg Que.empty.c)).addO 12 (.cons .que (.cons .act .nil)) fun p => if OkQ p.1 then some (.rd true (.tup [.agg (p.1.put p.2.1).1.c, .int .i64 (p.1.put p.2.1).2.1, .int .i64 (p.1.put p.2.1).2.2])) else none).addO 14 (.cons .que (.cons .i64 .nil)) fun p => if OkQ p.1 then some (.rd true (.tup [.agg (p.1.send p.2.1).1.c, .int .i64 (p.1.send p.2.1).2])) else none).addO 15 (.cons .que (.cons .i64 (.cons .bool .nil))) fun p => if OkQ p.1 then some (.rd true (.tup [.agg (p.1.reply p.2.1 p.2.2.1).1.c, .int .i64 (p.1.reply p.2.1 p.2.2.1).2.1, .int .i64 (p.1.reply p.2.1 p.2.2.1).2.2])) else none).addO 19 (.cons .que (.cons .i64 .nil)) fun p => if OkQ p.1 then some (.rd true (.tup [.agg (p.1.pass p.2.1).1.c, .int .i64 (p.1.pass p.2.1).2])) else none).addO 20 (.cons .que (.cons (.S encI) .nil)) fun p => if Fits p.1 ∧ p.2.1.length ≤ most then some (.rd true (.tup [.agg (p.1.nxt p.2.1).1.c, .bool (p.1.nxt p.2.1).2])) else none).addO 16 (.cons .que .nil) fun p => if Fits p.1 then some (.rd true (.agg p.1.clear.c)) else none).addO 18 (.cons .i64 (.cons .i64 .nil)) fun p => if p.2.1 ≤ 9223372036854775807 then some (.rd true (.int .i64 (pick p.1 p.2.1))) else none).addO 17 (.cons (.S encA) (.cons (.S encA) .nil)) fun p => if p.1.length ≤ most then some (.rd true (.bool (decide (p.1 = p.2.1)))) else none).addO 35 (.cons .que (.cons .i64 .nil)) fun p => if Fits p.1 then some (.rd true (.tup [.agg (p.1.find p.2.1).1.c, .bool (p.1.find p.2.1).2])) else none
theorem T7_ok : TabOk Try.prog T7 := by
  refine TabOk.addO (TabOk.addO (TabOk.addO (TabOk.addO (TabOk.addO (TabOk.addO (TabOk.addO (TabOk.addO (TabOk.addO (TabOk.addR (TabOk.addR T6_ok ?_) ?_) ?_) ?_) ?_) ?_) ?_) ?_) ?_) ?_) ?_
  · exact fun p => pLightA p.1
  · exact fun _ => pEmpty
  · intro p r h
    split at h
    · rename_i hv; cases h; exact pPut p.1 hv.fits _ hv.n1 hv.n2
    · cases h
  · intro p r h
    split at h
    · rename_i hv; cases h; exact pSend p.1 hv.fits _
    · cases h
  · intro p r h
    split at h
    · rename_i hv; cases h; exact pReply p.1 hv.fits _ _ hv.t1 hv.t2 hv.tr
    · cases h
  · intro p r h
    split at h
    · rename_i hv; cases h; exact pPass p.1 hv.fits _ hv.t1 hv.t2
    · cases h
  · intro p r h
    split at h
    · rename_i hv; cases h; exact pNext p.1 hv.1 _ hv.2
    · cases h
  · intro p r h
    split at h
    · rename_i hv; cases h; exact pClear p.1 hv
    · cases h
  · intro p r h
    split at h
    · rename_i hv; cases h; exact pPick _ _ hv
    · cases h
  · intro p r h
    split at h
    · rename_i hv; cases h
      simp only [most] at hv
      exact same_pc hmG elA true comp17 (by omega)
    · cases h
  · intro p r h
    split at h
    · rename_i hv; cases h; exact pFind p.1 hv _
    · cases h
theorem T7_find {q : Que} (h : Fits q) (t : Int) : T7 35 [.agg q.c, .int .i64 t] = some (.rd true (.tup [.agg (q.find t).1.c, .bool (q.find t).2])) :=
  (Tab.addO_self _ _ (.cons .que (.cons .i64 .nil)) _ (q, t, ())).trans (if_pos h)
theorem T7_sameA {l m : List Act} (h : l.length ≤ most) : T7 17 [encA.S l, encA.S m] = some (.rd true (.bool (decide (l = m)))) := by
  rw [T7, Tab.addO_ne _ _ _ _ rfl]
  exact (Tab.addO_self _ _ (.cons (.S encA) (.cons (.S encA) .nil)) _ (l, m, ())).trans (if_pos h)
theorem T7_pick (n m : Int) (h : m ≤ 9223372036854775807) : T7 18 [.int .i64 n, .int .i64 m] = some (.rd true (.int .i64 (pick n m))) := by
  rw [T7, Tab.addO_ne _ _ _ _ rfl, Tab.addO_ne _ _ _ _ rfl]
  exact (Tab.addO_self _ _ (.cons .i64 (.cons .i64 .nil)) _ (n, m, ())).trans (if_pos h)
theorem T7_clear {q : Que} (h : Fits q) : T7 16 [.agg q.c] = some (.rd true (.agg q.clear.c)) := by
  rw [T7, Tab.addO_ne _ _ _ _ rfl, Tab.addO_ne _ _ _ _ rfl, Tab.addO_ne _ _ _ _ rfl]
  exact (Tab.addO_self _ _ (.cons .que .nil) _ (q, ())).trans (if_pos h)
theorem T7_next {q : Que} (h : Fits q) {l : List Int} (h2 : l.length ≤ most) : T7 20 [.agg q.c, encI.S l] = some (.rd true (.tup [.agg (q.nxt l).1.c, .bool (q.nxt l).2])) := by
  rw [T7, Tab.addO_ne _ _ _ _ rfl, Tab.addO_ne _ _ _ _ rfl, Tab.addO_ne _ _ _ _ rfl, Tab.addO_ne _ _ _ _ rfl]
  exact (Tab.addO_self _ _ (.cons .que (.cons (.S encI) .nil)) _ (q, l, ())).trans (if_pos ⟨h, h2⟩)
theorem T7_pass {q : Que} (h : OkQ q) (n : Int) : T7 19 [.agg q.c, .int .i64 n] = some (.rd true (.tup [.agg (q.pass n).1.c, .int .i64 (q.pass n).2])) := by
  rw [T7, Tab.addO_ne _ _ _ _ rfl, Tab.addO_ne _ _ _ _ rfl, Tab.addO_ne _ _ _ _ rfl, Tab.addO_ne _ _ _ _ rfl, Tab.addO_ne _ _ _ _ rfl]
  exact (Tab.addO_self _ _ (.cons .que (.cons .i64 .nil)) _ (q, n, ())).trans (if_pos h)
theorem T7_reply {q : Que} (h : OkQ q) (n : Int) (b : Bool) : T7 15 [.agg q.c, .int .i64 n, .bool b] = some (.rd true (.tup [.agg (q.reply n b).1.c, .int .i64 (q.reply n b).2.1, .int .i64 (q.reply n b).2.2])) := by
  rw [T7, Tab.addO_ne _ _ _ _ rfl, Tab.addO_ne _ _ _ _ rfl, Tab.addO_ne _ _ _ _ rfl, Tab.addO_ne _ _ _ _ rfl, Tab.addO_ne _ _ _ _ rfl, Tab.addO_ne _ _ _ _ rfl]
  exact (Tab.addO_self _ _ (.cons .que (.cons .i64 (.cons .bool .nil))) _ (q, n, b, ())).trans (if_pos h)
theorem T7_send {q : Que} (h : OkQ q) (n : Int) : T7 14 [.agg q.c, .int .i64 n] = some (.rd true (.tup [.agg (q.send n).1.c, .int .i64 (q.send n).2])) := by
  rw [T7, Tab.addO_ne _ _ _ _ rfl, Tab.addO_ne _ _ _ _ rfl, Tab.addO_ne _ _ _ _ rfl, Tab.addO_ne _ _ _ _ rfl, Tab.addO_ne _ _ _ _ rfl, Tab.addO_ne _ _ _ _ rfl, Tab.addO_ne _ _ _ _ rfl]
  exact (Tab.addO_self _ _ (.cons .que (.cons .i64 .nil)) _ (q, n, ())).trans (if_pos h)
theorem T7_put {q : Que} (h : OkQ q) (a : Act) : T7 12 [.agg q.c, .agg a.c] = some (.rd true (.tup [.agg (q.put a).1.c, .int .i64 (q.put a).2.1, .int .i64 (q.put a).2.2])) := by
  rw [T7, Tab.addO_ne _ _ _ _ rfl, Tab.addO_ne _ _ _ _ rfl, Tab.addO_ne _ _ _ _ rfl, Tab.addO_ne _ _ _ _ rfl, Tab.addO_ne _ _ _ _ rfl, Tab.addO_ne _ _ _ _ rfl, Tab.addO_ne _ _ _ _ rfl, Tab.addO_ne _ _ _ _ rfl]
  exact (Tab.addO_self _ _ (.cons .que (.cons .act .nil)) _ (q, a, ())).trans (if_pos h)
theorem T7_empty : T7 13 [] = some (.rd true (.agg Que.empty.c)) := rfl
theorem T7_light (a : Act) : T7 11 [.agg a.c] = some (.rd true (.bool a.light)) := rfl

/-! ### Memory behind other memory -/
section
variable {hp : HP} {l : HP} {k : Nat} {x : Option Blk}
theorem getA : (hp ++ l)[hp.length + k]? = l[k]? := by rw [List.getElem?_append_right (by omega), Nat.add_sub_cancel_left]
theorem getA0 : (hp ++ l)[hp.length]? = l[0]? := by rw [List.getElem?_append_right (by omega), Nat.sub_self]
theorem setA : List.set (hp ++ l) (hp.length + k) x = hp ++ l.set k x := by rw [List.set_append_right _ _ (by omega), Nat.add_sub_cancel_left]
theorem setA0 : List.set (hp ++ l) hp.length x = hp ++ l.set 0 x := by rw [List.set_append_right _ _ (by omega), Nat.sub_self]
end
theorem Que.c_cells (q : Que) : cellsA (.agg q.c) = q.c := rfl
theorem over_zq (q : Que) : over [.nils, .int .i64 0, .int .i64 0, .nils, .nils, .bool false] 0 q.c = q.c := rfl
theorem over_qq (q p : Que) : over q.c 0 p.c = p.c := rfl
theorem over_zj (j : Job) : over [.int .i64 0, .int .i64 0, .str [], .str [], .str [], .str [], .bool false, .bool false, .int .i64 0, .int .i64 0] 0 j.c = j.c := rfl
end
end Go.Gi
