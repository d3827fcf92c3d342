/- Queues: the references' small functions. -/
/- Queues: the references Next, Backoff, job. -/
/- Queues: the reference Next. -/
/- Queues: the reference Same. -/
/- Queues: the reference Check. -/
import Derived.Test.YtakdhioafodhcaaGiQuV
import Derived.Test.YtakdhioafodhcaaGiQuN
set_option linter.unusedVariables false
set_option linter.unusedSimpArgs false
namespace Go.Gi
section
open Go Go.Proofs

theorem rj_part {l : List Job} {i : Nat} {j : Job} (h : l[i]? = some j) (o : Nat) (ho : o < 10) : pickA none (encJ.cs l) (i * 10 + o) = pickA none j.c o := by
  have := encJ.pick_part h (sh := none) (o := o) (by show o + 1 ≤ 10; omega)
  rwa [show encJ.sz = 10 from rfl] at this
theorem rKnown (k : Int) : PCF Try.prog 75 [.int .i64 k] (.bool (decide (1 ≤ k) && decide (k ≤ 4))) := by
  refine pcf_e hmG (TabOk.none _) comp75 (by decide) (by simp) (nidL_ok rfl) ?_
  by_cases h1 : 1 ≤ k
  all_goals refine vcE.ex (by simp (disch := first | assumption | omega) only [exC, exOps, exOp, wantedE, ↓reduceIte, ROp.run, evsE, evE, putE, ty, reduceCtorEq, List.getD_cons_zero, same, binA, intA, ge_iff_le, dec_true, Option.map_some, beq_self_eq_true, Nat.reduceEqDiff, dec_false, beq_iff_eq]; rfl) ?_
  all_goals refine ⟨_, rfl, ?_⟩
  all_goals simp only [upd_app, Nat.reduceEqDiff, ↓reduceIte, fresh_bool, h1, decide_true, decide_false, Bool.true_and, Bool.false_and]
theorem rAlike (a b : Act) : PCF Try.prog 39 [.agg a.c, .agg b.c] (.bool (a.alike b)) := by
  refine pcf_e hmG (TabOk.none _) comp39 (by decide) (by simp) (nidL_ok (by simp only [nidL, actN, Bool.and_self])) ?_
  unfold Act.alike
  by_cases h1 : a.room = b.room <;> by_cases h2 : a.kind = b.kind
  all_goals refine vcE.ex (by simp (disch := first | assumption | omega) only [exC, exOps, exOp, wantedE, ↓reduceIte, ROp.run, evsE, evE, Act.c, ty, List.getD_cons_zero, tz, List.length_nil, List.nil_append, putE, Nat.reduceEqDiff, List.getD_cons_succ, List.length_cons, List.cons_append, same, faddrA, Option.map_some, loadA, rowA, List.getElem?_cons_zero, pickA, List.getElem?_cons_succ, binA, strA, dec_true, beq_self_eq_true, intA, dec_false, beq_iff_eq]; rfl) ?_
  all_goals refine ⟨_, rfl, ?_⟩
  all_goals simp only [upd_app, Nat.reduceEqDiff, ↓reduceIte, fresh_bool, h1, h2, decide_true, decide_false, Bool.true_and, Bool.false_and]
theorem rFlying (q : Que) (hl : q.jobs.length ≤ most) : PCF Try.prog 76 [.agg q.c] (.int .i64 (flyers q.jobs)) := by
  refine pcf_e hmG (TabOk.none _) comp76 (by decide) (by simp) (nidL_ok (by rw [nidL, queN]; rfl)) ?_
  simp only [most] at hl
  have hcl : True := trivial
  have hq0 : pickA none q.c 0 = some (encJ.S q.jobs) := rfl
  refine vcE.step (by simp (disch := first | assumption | omega | with_unfolding_all rfl) only [exC, exOps, exOp, wantedE, ↓reduceIte, ROp.run, evsE, evE, ty, List.getD_cons_zero, tz, List.length_nil, List.nil_append, putE]; rfl) (vcE.step (by simp (disch := first | assumption | omega | with_unfolding_all rfl) only [exC, exOps, exOp, wantedE, ↓reduceIte, ROp.run, evsE, evE, putE]; rfl) (vcE.then (fun e tm hp => e = .normal ∧ tm 3 = .int .i64 (flyers q.jobs)) ?_ ?_))
  · refine vcE.step (by simp (disch := first | assumption | omega | with_unfolding_all rfl) only [exC, exOps, exOp, wantedE, ↓reduceIte, ROp.run, evsE, evE, putE]; rfl) (vcE.block (vcE.count (by intro l tm hp h; simp at h)
      (fun i tm hp => hp[0]? = some (some (.row 29 q.c)) ∧ tm 1 = .ptr 0 0 ∧ tm 4 = .int .i64 i ∧ tm 3 = .int .i64 (flyers (q.jobs.take i))) q.jobs.length ⟨rfl, rfl, rfl, rfl⟩ ?_ ?_))
    · rintro i tm hp hi ⟨h0, t1, t4, t3⟩
      obtain ⟨j, hj⟩ : ∃ j, q.jobs[i]? = some j := ⟨_, List.getElem?_eq_getElem hi⟩
      have hia : iaddrA 10 (encJ.S q.jobs) (.int .i64 i) = some (.fptr (encJ.cs q.jobs) (i * 10)) := encJ.S_iaddr hi
      have p6 : pickA none (encJ.cs q.jobs) (i * 10 + 6) = some (.bool j.fly) := rj_part hj 6 (by omega)
      have ht := flyers_take hj
      have hle := flyers_le q.jobs i
      have hw : IntKind.wrap .i64 ((i : Int) + 1) = (i : Int) + 1 := wrap_i64 (by omega) (by omega)
      have hw2 : IntKind.wrap .i64 ((flyers (q.jobs.take i) : Int) + 1) = (flyers (q.jobs.take i) : Int) + 1 := wrap_i64 (by omega) (by omega)
      rw [ht]
      cases hf : j.fly <;> rw [hf] at p6
      all_goals refine vcE.ex (by simp (disch := first | assumption | omega | with_unfolding_all rfl) only [exC, exOps, exOp, wantedE, ↓reduceIte, ROp.run, evsE, evE, t4, putE, ty, Nat.reduceEqDiff, t1, same, faddrA, Option.map_some, loadA, rowA, h0, ↓hq0, binA, intA, dec_true, hia, ↓p6, hw, t3, hw2]; rfl) ?_
      all_goals refine ⟨h0, ?_, ?_, ?_⟩
      all_goals simp only [upd_app, Nat.reduceEqDiff, ↓reduceIte, t1, t3]
      all_goals rfl
    · rintro tm hp ⟨h0, t1, t4, t3⟩
      refine vcE.ex (by simp (disch := first | assumption | omega | with_unfolding_all rfl) only [exC, exOps, exOp, wantedE, ↓reduceIte, ROp.run, evsE, evE, t4, putE, ty, Nat.reduceEqDiff, t1, same, faddrA, Option.map_some, loadA, rowA, h0, ↓hq0, binA, intA, dec_false]; rfl) ?_
      refine ⟨rfl, ?_⟩
      simp only [upd_app, Nat.reduceEqDiff, ↓reduceIte, t3, List.take_length]
  · rintro e tm hp ⟨rfl, h3⟩
    refine vcE.ex (by simp (disch := first | assumption | omega | with_unfolding_all rfl) only [exC, exOps, exOp, wantedE, ↓reduceIte, ROp.run, evsE, evE, h3, putE, ty]; rfl) ?_
    exact ⟨_, rfl, rfl⟩
theorem rPlace (q : Que) (hl : q.jobs.length ≤ most) (t : Int) : PCF Try.prog 85 [.agg q.c, .int .i64 t] (.int .i64 (idx (isTxn t) q.jobs)) := by
  refine pcf_e hmG (TabOk.none _) comp85 (by decide) (by simp) (nidL_ok (by rw [nidL, queN]; rfl)) ?_
  simp only [most] at hl
  have hcl : True := trivial
  have hq0 : pickA none q.c 0 = some (encJ.S q.jobs) := rfl
  refine vcE.step (by simp (disch := first | assumption | omega | with_unfolding_all rfl) only [exC, exOps, exOp, wantedE, ↓reduceIte, ROp.run, evsE, evE, ty, List.getD_cons_zero, tz, List.length_nil, List.nil_append, putE]; rfl) (vcE.then (fun e tm hp => (e = .ret ∧ tm 4 = .int .i64 (idx (isTxn t) q.jobs)) ∨ (e = .normal ∧ idx (isTxn t) q.jobs = -1)) ?_ ?_)
  · refine vcE.step (by simp (disch := first | assumption | omega | with_unfolding_all rfl) only [exC, exOps, exOp, wantedE, ↓reduceIte, ROp.run, evsE, evE, putE]; rfl) (vcE.block (vcE.count (by intro l tm hp h; simp at h)
      (fun i tm hp => hp[0]? = some (some (.row 29 q.c)) ∧ tm 1 = .int .i64 t ∧ tm 2 = .ptr 0 0 ∧ tm 5 = .int .i64 i ∧ ∀ j, j < i → ∀ b, q.jobs[j]? = some b → isTxn t b = false) q.jobs.length ⟨rfl, rfl, rfl, rfl, by omega⟩ ?_ ?_))
    · rintro i tm hp hi ⟨h0, t1, t2, t5, hall⟩
      obtain ⟨j, hj⟩ : ∃ j, q.jobs[i]? = some j := ⟨_, List.getElem?_eq_getElem hi⟩
      have hia : iaddrA 10 (encJ.S q.jobs) (.int .i64 i) = some (.fptr (encJ.cs q.jobs) (i * 10)) := encJ.S_iaddr hi
      have p0 : pickA none (encJ.cs q.jobs) (i * 10 + 0) = some (.int .i64 j.txn) := rj_part hj 0 (by omega)
      have hw : IntKind.wrap .i64 ((i : Int) + 1) = (i : Int) + 1 := wrap_i64 (by omega) (by omega)
      by_cases h : j.txn = t
      · have he := idx_some (p := isTxn t) hj (by simp [isTxn, h]) hall
        refine vcE.ex (by simp (disch := first | assumption | omega | with_unfolding_all rfl) only [exC, exOps, exOp, wantedE, ↓reduceIte, ROp.run, evsE, evE, t5, putE, ty, Nat.reduceEqDiff, t2, same, faddrA, Option.map_some, loadA, rowA, h0, ↓hq0, binA, intA, dec_true, hia, ↓p0, h, t1]; rfl) ?_
        refine .inl ⟨rfl, ?_⟩
        simp only [upd_app, Nat.reduceEqDiff, ↓reduceIte, he]
      · refine vcE.ex (by simp (disch := first | assumption | omega | with_unfolding_all rfl) only [exC, exOps, exOp, wantedE, ↓reduceIte, ROp.run, evsE, evE, t5, putE, ty, Nat.reduceEqDiff, t2, same, faddrA, Option.map_some, loadA, rowA, h0, ↓hq0, binA, intA, dec_true, hia, ↓p0, t1, h, decide_false, hw]; rfl) ?_
        refine ⟨h0, ?_, ?_, ?_, fun k hk b hb => ?_⟩
        · simp only [upd_app, Nat.reduceEqDiff, ↓reduceIte, t1]
        · simp only [upd_app, Nat.reduceEqDiff, ↓reduceIte, t2]
        · simp only [upd_app, Nat.reduceEqDiff, ↓reduceIte]; rfl
        · by_cases hki : k = i
          · subst hki
            rw [hj] at hb
            cases hb
            simp [isTxn, h]
          · exact hall k (by omega) b hb
    · rintro tm hp ⟨h0, t1, t2, t5, hall⟩
      refine vcE.ex (by simp (disch := first | assumption | omega | with_unfolding_all rfl) only [exC, exOps, exOp, wantedE, ↓reduceIte, ROp.run, evsE, evE, t5, putE, ty, Nat.reduceEqDiff, t2, same, faddrA, Option.map_some, loadA, rowA, h0, ↓hq0, binA, intA, dec_false]; rfl) ?_
      exact .inr ⟨rfl, idx_none hall⟩
  · rintro e tm hp (⟨rfl, h⟩ | ⟨rfl, h⟩)
    · exact ⟨_, by simp only [resE, resEL, resE1, h]; rfl, rfl⟩
    · refine vcE.ex (by simp (disch := first | assumption | omega | with_unfolding_all rfl) only [exC, exOps, exOp, wantedE, ↓reduceIte, ROp.run, evsE, evE, putE]; rfl) ?_
      refine ⟨_, rfl, ?_⟩
      rw [h]
      rfl
theorem encI_at {l : List Int} {i : Nat} {n : Int} (h : l[i]? = some n) : pickA none (encI.cs l) i = some (.int .i64 n) :=
  encI.pick1 (l := l) rfl h (v := .int .i64 n) rfl rfl
theorem rIn (l : List Int) (hl : l.length ≤ most) (n : Int) : PCF Try.prog 84 [encI.S l, .int .i64 n] (.bool (decide (n ∈ l))) := by
  refine pcf_e hmG (TabOk.none _) comp84 (by decide) (by simp) (nidL_ok (by simp only [nidL, Enc.S_nid, nid, Bool.and_self])) ?_
  simp only [most] at hl
  have hcl : True := trivial
  refine vcE.step (by simp (disch := first | assumption | omega | with_unfolding_all rfl) only [exC, exOps, exOp, wantedE, ↓reduceIte, ROp.run, evsE, evE, putE]; rfl) (vcE.then (fun e tm hp => (e = .ret ∧ tm 4 = .bool true ∧ n ∈ l) ∨ (e = .normal ∧ ¬ n ∈ l)) ?_ ?_)
  · refine vcE.step (by simp (disch := first | assumption | omega | with_unfolding_all rfl) only [exC, exOps, exOp, wantedE, ↓reduceIte, ROp.run, evsE, evE, putE]; rfl) (vcE.block (vcE.count (by intro l tm hp h; simp at h)
      (fun i tm hp => tm 0 = encI.S l ∧ tm 1 = .int .i64 n ∧ tm 5 = .int .i64 i ∧ ¬ n ∈ l.take i) l.length ⟨rfl, rfl, rfl, by simp⟩ ?_ ?_))
    · rintro i tm hp hi ⟨t0, t1, t5, hall⟩
      obtain ⟨x, hx⟩ : ∃ x, l[i]? = some x := ⟨_, List.getElem?_eq_getElem hi⟩
      have hia : iaddrA 1 (encI.S l) (.int .i64 i) = some (.fptr (encI.cs l) (i * 1)) := encI.S_iaddr hi
      have p0 := encI_at hx
      have hw : IntKind.wrap .i64 ((i : Int) + 1) = (i : Int) + 1 := wrap_i64 (by omega) (by omega)
      by_cases h : x = n
      · refine vcE.ex (by simp (disch := first | assumption | omega | with_unfolding_all rfl) only [exC, exOps, exOp, wantedE, ↓reduceIte, ROp.run, evsE, evE, t5, putE, ty, reduceCtorEq, t0, same, Option.map_some, Nat.reduceEqDiff, binA, intA, dec_true, hia, loadA, rowA, ↓p0, h, t1]; rfl) ?_
        refine .inl ⟨rfl, ?_, h ▸ List.mem_of_getElem? hx⟩
        simp only [upd_app, Nat.reduceEqDiff, ↓reduceIte]
      · refine vcE.ex (by simp (disch := first | assumption | omega | with_unfolding_all rfl) only [exC, exOps, exOp, wantedE, ↓reduceIte, ROp.run, evsE, evE, t5, putE, ty, reduceCtorEq, t0, same, Option.map_some, Nat.reduceEqDiff, binA, intA, dec_true, hia, loadA, rowA, ↓p0, t1, h, decide_false, hw]; rfl) ?_
        refine ⟨?_, ?_, ?_, ?_⟩
        · simp only [upd_app, Nat.reduceEqDiff, ↓reduceIte, t0]
        · simp only [upd_app, Nat.reduceEqDiff, ↓reduceIte, t1]
        · simp only [upd_app, Nat.reduceEqDiff, ↓reduceIte]; rfl
        · rw [List.take_add_one, hx, List.mem_append]
          rintro (h2 | h2)
          · exact hall h2
          · simp at h2
            exact h h2.symm
    · rintro tm hp ⟨t0, t1, t5, hall⟩
      rw [List.take_length] at hall
      refine vcE.ex (by simp (disch := first | assumption | omega | with_unfolding_all rfl) only [exC, exOps, exOp, wantedE, ↓reduceIte, ROp.run, evsE, evE, t5, putE, ty, reduceCtorEq, t0, same, Option.map_some, Nat.reduceEqDiff, binA, intA, dec_false]; rfl) ?_
      exact .inr ⟨rfl, hall⟩
  · rintro e tm hp (⟨rfl, h, hn⟩ | ⟨rfl, hn⟩)
    · refine ⟨_, by simp only [resE, resEL, resE1, h]; rfl, ?_⟩
      rw [decide_eq_true hn]
      rfl
    · refine vcE.ex (by simp (disch := first | assumption | omega | with_unfolding_all rfl) only [exC, exOps, exOp, wantedE, ↓reduceIte, ROp.run, evsE, evE, putE]; rfl) ?_
      refine ⟨_, rfl, ?_⟩
      rw [decide_eq_false hn]
      rfl

def TR0 : Tab := ((((Tab.none.addR 75 (.cons .i64 .nil) fun p => .rd true (.bool (decide (1 ≤ p.1) && decide (p.1 ≤ 4)))).addR 39 (.cons .act (.cons .act .nil)) fun p => .rd true (.bool (p.1.alike p.2.1))).addO 76 (.cons .que .nil) fun p => if p.1.jobs.length ≤ most then some (.rd true (.int .i64 (flyers p.1.jobs))) else none).addO
  85 (.cons .que (.cons .i64 .nil)) fun p => if p.1.jobs.length ≤ most then some (.rd true (.int .i64 (idx (isTxn p.2.1) p.1.jobs))) else none).addO 84 (.cons (.S encI) (.cons .i64 .nil)) fun p => if p.1.length ≤ most then some (.rd true (.bool (decide (p.2.1 ∈ p.1)))) else none
theorem TR0_ok : TabOk Try.prog TR0 := by
  refine TabOk.addO (TabOk.addO (TabOk.addO (TabOk.addR (TabOk.addR (TabOk.none _) ?_) ?_) ?_) ?_) ?_
  · exact fun p => rKnown p.1
  · exact fun p => rAlike p.1 p.2.1
  · intro p r h
    split at h
    · rename_i hv; cases h; exact rFlying p.1 hv
    · cases h
  · intro p r h
    split at h
    · rename_i hv; cases h; exact rPlace p.1 hv _
    · cases h
  · intro p r h
    split at h
    · rename_i hv; cases h; exact rIn p.1 hv _
    · cases h
theorem TR0_known (k : Int) : TR0 75 [.int .i64 k] = some (.rd true (.bool (decide (1 ≤ k) && decide (k ≤ 4)))) := rfl
theorem TR0_alike (a b : Act) : TR0 39 [.agg a.c, .agg b.c] = some (.rd true (.bool (a.alike b))) := rfl
theorem TR0_in {l : List Int} (hl : l.length ≤ most) (n : Int) : TR0 84 [encI.S l, .int .i64 n] = some (.rd true (.bool (decide (n ∈ l)))) :=
  (Tab.addO_self _ _ (.cons (.S encI) (.cons .i64 .nil)) _ (l, n, ())).trans (if_pos hl)
theorem TR0_place {q : Que} (hl : q.jobs.length ≤ most) (t : Int) : TR0 85 [.agg q.c, .int .i64 t] = some (.rd true (.int .i64 (idx (isTxn t) q.jobs))) := by
  rw [TR0, Tab.addO_ne _ _ _ _ rfl]
  exact (Tab.addO_self _ _ (.cons .que (.cons .i64 .nil)) _ (q, t, ())).trans (if_pos hl)
theorem TR0_flying {q : Que} (hl : q.jobs.length ≤ most) : TR0 76 [.agg q.c] = some (.rd true (.int .i64 (flyers q.jobs))) := by
  rw [TR0, Tab.addO_ne _ _ _ _ rfl, Tab.addO_ne _ _ _ _ rfl]
  exact (Tab.addO_self _ _ (.cons .que .nil) _ (q, ())).trans (if_pos hl)
theorem rFind (q : Que) (hl : q.jobs.length ≤ most) (t : Int) : PCF Try.prog 36 [.agg q.c, .int .i64 t] (.tup [.agg (q.find t).1.c, .bool (q.find t).2]) := by
  refine pcf_e hmG TR0_ok comp36 (by decide) (by simp) (nidL_ok (by rw [nidL, queN]; rfl)) ?_
  have hcl : True := trivial
  have hq0 : pickA none q.c 0 = some (encJ.S q.jobs) := rfl
  have c1 := TR0_place hl t
  have hpl := idx_place q.jobs t
  unfold Que.find
  cases hp : place q.jobs t with
  | none =>
    rw [hp] at hpl
    rw [hpl] at c1
    refine vcE.ex (by simp (disch := first | assumption | omega | with_unfolding_all rfl) only [exC, exOps, exOp, wantedE, ↓reduceIte, ROp.run, evsE, evE, ty, List.getD_cons_zero, tz, List.length_nil, List.nil_append, putE, allocA, List.length_cons, List.cons_append, Nat.reduceEqDiff, same, loadA, rowA, List.getElem?_cons_zero, ↓pickQ, Option.map_some, List.getD_cons_succ, List.append_nil, frzL, frz_agg, queL_frz, c1, Cls.isFree, callCls, nidL, queL_nid, binA, intA, dec_true, faddrA, pickA]; rfl) ?_
    exact ⟨_, rfl, rfl⟩
  | some i =>
    rw [hp] at hpl
    obtain ⟨h1, h2, h3⟩ := place_some hp
    simp only at hpl
    rw [hpl] at c1
    have hia : iaddrA 10 (encJ.S q.jobs) (.int .i64 i) = some (.fptr (encJ.cs q.jobs) (i * 10)) := encJ.S_iaddr h1
    have hpk : pickA (some 10) (encJ.cs q.jobs) (i * 10) = some (.agg (q.jobs.getD i .zero).c) := encJ.pick h3
    have hneg : ¬ ((i : Int) < 0) := by omega
    dsimp only
    generalize q.jobs.getD i .zero = j at *
    refine vcE.ex (by simp (disch := first | assumption | omega | with_unfolding_all rfl) only [exC, exOps, exOp, wantedE, ↓reduceIte, ROp.run, evsE, evE, ty, List.getD_cons_zero, tz, List.length_nil, List.nil_append, putE, allocA, List.length_cons, List.cons_append, Nat.reduceEqDiff, same, loadA, rowA, List.getElem?_cons_zero, ↓pickQ, Option.map_some, List.getD_cons_succ, List.append_nil, frzL, frz_agg, queL_frz, c1, Cls.isFree, callCls, nidL, queL_nid, binA, intA, hneg, decide_false, faddrA, ↓hq0, hia, ↓hpk, storeA_eq, List.getElem?_cons_succ, Job.c_len, Nat.reduceAdd, Nat.reduceLeDiff, dec_true, over, List.take_zero, List.drop_succ_cons, List.drop_nil, List.set_cons_succ, List.set_cons_zero]; rfl) ?_
    exact ⟨_, rfl, rfl⟩
end
section
open Go Go.Proofs

def okJ (behind next : Int) (j : Job) : Bool := decide (behind < j.txn) && (decide (j.txn < next) && (j.act.known && (decide (0 ≤ j.tries) && (decide (j.tries < 5) && (decide (0 ≤ j.at_) && decide (j.at_ ≤ 1152921504606847040))))))
theorem rJob (j : Job) (behind next : Int) : PCF Try.prog 74 [.agg j.c, .int .i64 behind, .int .i64 next] (.bool (okJ behind next j)) := by
  refine pcf_e hmG TR0_ok comp74 (by decide) (by simp) (nidL_ok (by rw [nidL, jobN]; rfl)) ?_
  have hcl : True := trivial
  have c1 := TR0_known j.act.kind
  have hk : (decide (1 ≤ j.act.kind) && decide (j.act.kind ≤ 4)) = j.act.known := rfl
  rw [hk] at c1
  have hg : ∀ x y : Int, (x ≥ y) = (y ≤ x) := fun _ _ => rfl
  have hg2 : ∀ x y : Int, (x > y) = (y < x) := fun _ _ => rfl
  obtain ⟨x, a, f, d, t, m⟩ := j
  unfold okJ
  dsimp only at *
  refine vcE.step (by simp (disch := first | assumption | omega | with_unfolding_all rfl) only [exC, exOps, exOp, wantedE, ↓reduceIte, ROp.run, evsE, evE, ty, List.getD_cons_zero, tz, List.length_nil, List.nil_append, putE]; rfl) ?_
  by_cases k1 : behind < x
  · by_cases k2 : x < next
    · cases k3 : a.known <;> rw [k3] at c1
      · refine vcE.ex (by simp (disch := first | assumption | omega | with_unfolding_all rfl) only [exC, exOps, exOp, wantedE, ↓reduceIte, ROp.run, evsE, evE, Job.c, ty, Nat.reduceEqDiff, same, faddrA, Option.map_some, putE, loadA, rowA, List.getElem?_cons_zero, pickA, tz, List.getD_cons_succ, List.getD_cons_zero, binA, intA, k1, dec_true, beq_self_eq_true, k2, Nat.reduceAdd, List.getElem?_cons_succ, List.append_nil, frzL, c1, Cls.isFree, callCls, nidL, beq_iff_eq]; rfl) ?_
        refine ⟨_, rfl, ?_⟩
        simp only [upd_app, Nat.reduceEqDiff, ↓reduceIte, fresh_bool, k1, k2, decide_true, Bool.true_and, Bool.false_and]
      · by_cases k4 : 0 ≤ t
        · by_cases k5 : t < 5
          · by_cases k6 : 0 ≤ m
            all_goals refine vcE.ex (by simp (disch := first | assumption | omega | with_unfolding_all rfl) only [exC, exOps, exOp, wantedE, ↓reduceIte, ROp.run, evsE, evE, Job.c, ty, Nat.reduceEqDiff, same, faddrA, Option.map_some, putE, loadA, rowA, List.getElem?_cons_zero, pickA, tz, List.getD_cons_succ, List.getD_cons_zero, binA, intA, k1, dec_true, beq_self_eq_true, k2, Nat.reduceAdd, List.getElem?_cons_succ, List.append_nil, frzL, c1, Cls.isFree, callCls, nidL, k4, k5, k6, decide_false, beq_iff_eq]; rfl) ?_
            all_goals refine ⟨_, rfl, ?_⟩
            all_goals simp only [upd_app, Nat.reduceEqDiff, ↓reduceIte, fresh_bool, k1, k2, k4, k5, k6, decide_true, decide_false, Bool.true_and, Bool.false_and]
          · refine vcE.ex (by simp (disch := first | assumption | omega | with_unfolding_all rfl) only [exC, exOps, exOp, wantedE, ↓reduceIte, ROp.run, evsE, evE, Job.c, ty, Nat.reduceEqDiff, same, faddrA, Option.map_some, putE, loadA, rowA, List.getElem?_cons_zero, pickA, tz, List.getD_cons_succ, List.getD_cons_zero, binA, intA, k1, dec_true, beq_self_eq_true, k2, Nat.reduceAdd, List.getElem?_cons_succ, List.append_nil, frzL, c1, Cls.isFree, callCls, nidL, k4, k5, decide_false, beq_iff_eq]; rfl) ?_
            refine ⟨_, rfl, ?_⟩
            simp only [upd_app, Nat.reduceEqDiff, ↓reduceIte, fresh_bool, k1, k2, k4, k5, decide_true, decide_false, Bool.true_and, Bool.false_and]
        · refine vcE.ex (by simp (disch := first | assumption | omega | with_unfolding_all rfl) only [exC, exOps, exOp, wantedE, ↓reduceIte, ROp.run, evsE, evE, Job.c, ty, Nat.reduceEqDiff, same, faddrA, Option.map_some, putE, loadA, rowA, List.getElem?_cons_zero, pickA, tz, List.getD_cons_succ, List.getD_cons_zero, binA, intA, k1, dec_true, beq_self_eq_true, k2, Nat.reduceAdd, List.getElem?_cons_succ, List.append_nil, frzL, c1, Cls.isFree, callCls, nidL, k4, decide_false, beq_iff_eq]; rfl) ?_
          refine ⟨_, rfl, ?_⟩
          simp only [upd_app, Nat.reduceEqDiff, ↓reduceIte, fresh_bool, k1, k2, k4, decide_true, decide_false, Bool.true_and, Bool.false_and]
    · refine vcE.ex (by simp (disch := first | assumption | omega | with_unfolding_all rfl) only [exC, exOps, exOp, wantedE, ↓reduceIte, ROp.run, evsE, evE, Job.c, ty, Nat.reduceEqDiff, same, faddrA, Option.map_some, putE, loadA, rowA, List.getElem?_cons_zero, pickA, tz, List.getD_cons_succ, List.getD_cons_zero, binA, intA, k1, dec_true, beq_self_eq_true, k2, decide_false, beq_iff_eq]; rfl) ?_
      refine ⟨_, rfl, ?_⟩
      simp only [upd_app, Nat.reduceEqDiff, ↓reduceIte, fresh_bool, k1, k2, decide_true, decide_false, Bool.true_and, Bool.false_and]
  · refine vcE.ex (by simp (disch := first | assumption | omega | with_unfolding_all rfl) only [exC, exOps, exOp, wantedE, ↓reduceIte, ROp.run, evsE, evE, Job.c, ty, Nat.reduceEqDiff, same, faddrA, Option.map_some, putE, loadA, rowA, List.getElem?_cons_zero, pickA, tz, List.getD_cons_succ, List.getD_cons_zero, binA, intA, k1, decide_false, beq_iff_eq]; rfl) ?_
    refine ⟨_, rfl, ?_⟩
    simp only [upd_app, Nat.reduceEqDiff, ↓reduceIte, fresh_bool, k1, decide_false, Bool.false_and]

/-- A number's double, so often, while it is small. -/
theorem pow_small {i : Nat} (h : i < 6) : (2 : Int) ^ i < 64 := by
  obtain rfl | rfl | rfl | rfl | rfl | rfl : i = 0 ∨ i = 1 ∨ i = 2 ∨ i = 3 ∨ i = 4 ∨ i = 5 := by omega
  all_goals decide
theorem pow_bound {i : Nat} (h : i ≤ 6) : 1 ≤ (2 : Int) ^ i ∧ (2 : Int) ^ i ≤ 64 := by
  obtain rfl | rfl | rfl | rfl | rfl | rfl | rfl : i = 0 ∨ i = 1 ∨ i = 2 ∨ i = 3 ∨ i = 4 ∨ i = 5 ∨ i = 6 := by omega
  all_goals decide
theorem backoff_pow {n : Int} (h : 1 ≤ n) : backoff n = 2 ^ (min n 6).toNat := by
  unfold backoff
  rw [if_neg (by omega)]
  obtain ⟨m, hm⟩ : ∃ m : Nat, min n 20 = m := ⟨(min n 20).toNat, by omega⟩
  have hm2 : (min n 6).toNat = min m 6 := by omega
  rw [hm, hm2, Int.toNat_natCast]
  have h20 : m = 1 ∨ m = 2 ∨ m = 3 ∨ m = 4 ∨ m = 5 ∨ m = 6 ∨ m = 7 ∨ m = 8 ∨ m = 9 ∨ m = 10 ∨ m = 11 ∨ m = 12 ∨ m = 13 ∨ m = 14 ∨ m = 15 ∨ m = 16 ∨ m = 17 ∨ m = 18 ∨ m = 19 ∨ m = 20 := by omega
  rcases h20 with rfl | rfl | rfl | rfl | rfl | rfl | rfl | rfl | rfl | rfl | rfl | rfl | rfl | rfl | rfl | rfl | rfl | rfl | rfl | rfl
  all_goals decide
theorem rBackoff (n : Int) : PCF Try.prog 31 [.int .i64 n] (.int .i64 (backoff n)) := by
  refine pcf_e hmG (TabOk.none _) comp31 (by decide) (by simp) (nidL_ok rfl) ?_
  have hcl : True := trivial
  by_cases h1 : n < 1
  · refine vcE.ex (by simp (disch := first | assumption | omega | with_unfolding_all rfl) only [exC, exOps, exOp, wantedE, ↓reduceIte, ROp.run, evsE, evE, putE, ty, reduceCtorEq, List.getD_cons_zero, same, binA, intA, h1, dec_true, Option.map_some]; rfl) ?_
    refine ⟨_, rfl, ?_⟩
    simp only [upd_app, Nat.reduceEqDiff, ↓reduceIte, fresh_int, backoff, h1, if_true]
  · have hb := backoff_pow (n := n) (by omega)
    refine vcE.step (by simp (disch := first | assumption | omega | with_unfolding_all rfl) only [exC, exOps, exOp, wantedE, ↓reduceIte, ROp.run, evsE, evE, putE]; rfl) (vcE.step (by simp (disch := first | assumption | omega | with_unfolding_all rfl) only [exC, exOps, exOp, wantedE, ↓reduceIte, ROp.run, evsE, evE, ty, reduceCtorEq, List.getD_cons_zero, putE, same, binA, intA, h1, decide_false, Option.map_some]; rfl) (vcE.step (by simp (disch := first | assumption | omega | with_unfolding_all rfl) only [exC, exOps, exOp, wantedE, ↓reduceIte, ROp.run, evsE, evE, putE]; rfl) (vcE.then (fun e tm hp => e = .normal ∧ tm 3 = .int .i64 (backoff n)) ?_ ?_)))
    · refine vcE.step (by simp (disch := first | assumption | omega | with_unfolding_all rfl) only [exC, exOps, exOp, wantedE, ↓reduceIte, ROp.run, evsE, evE, putE]; rfl) (vcE.block (vcE.count (by intro l tm hp h; simp at h)
        (fun i tm hp => tm 0 = .int .i64 n ∧ tm 4 = .int .i64 i ∧ tm 3 = .int .i64 (2 ^ i)) (min n 6).toNat ⟨rfl, rfl, rfl⟩ ?_ ?_))
      · rintro i tm hp hi ⟨t0, t4, t3⟩
        have k1 : (i : Int) < n := by omega
        have k2 := pow_small (i := i) (by omega)
        have k3 := pow_bound (i := i) (by omega)
        have hw : IntKind.wrap .i64 ((i : Int) + 1) = (i : Int) + 1 := wrap_i64 (by omega) (by omega)
        have hw2 : IntKind.wrap .i64 (2 * 2 ^ i) = 2 * 2 ^ i := wrap_i64 (by omega) (by omega)
        have hp2 : (2 : Int) ^ (i + 1) = 2 * 2 ^ i := by rw [Int.pow_succ, Int.mul_comm]
        rw [hp2]
        generalize (2 : Int) ^ i = P at *
        refine vcE.ex (by simp (disch := first | assumption | omega | with_unfolding_all rfl) only [exC, exOps, exOp, wantedE, ↓reduceIte, ROp.run, evsE, evE, t4, putE, ty, reduceCtorEq, t0, Nat.reduceEqDiff, same, binA, intA, k1, dec_true, Option.map_some, beq_self_eq_true, t3, k2, hw2, hw]; rfl) ?_
        refine ⟨?_, ?_, ?_⟩
        all_goals simp only [upd_app, Nat.reduceEqDiff, ↓reduceIte, t0]
        rfl
      · rintro tm hp ⟨t0, t4, t3⟩
        rw [← hb] at t3
        by_cases h6 : n ≤ 6
        · have k1 : ¬ (((min n 6).toNat : Int) < n) := by omega
          refine vcE.ex (by simp (disch := first | assumption | omega | with_unfolding_all rfl) only [exC, exOps, exOp, wantedE, ↓reduceIte, ROp.run, evsE, evE, t4, putE, ty, reduceCtorEq, t0, Nat.reduceEqDiff, same, binA, intA, k1, decide_false, Option.map_some, beq_iff_eq]; rfl) ?_
          refine ⟨rfl, ?_⟩
          simp only [upd_app, Nat.reduceEqDiff, ↓reduceIte, t3]
        · have e6 : (min n 6).toNat = 6 := by omega
          have k1 : (((min n 6).toNat : Nat) : Int) < n := by omega
          have k2 : ¬ (backoff n < 64) := by
            rw [hb, e6]
            decide
          refine vcE.ex (by simp (disch := first | assumption | omega | with_unfolding_all rfl) only [exC, exOps, exOp, wantedE, ↓reduceIte, ROp.run, evsE, evE, t4, putE, ty, reduceCtorEq, t0, Nat.reduceEqDiff, same, binA, intA, k1, dec_true, Option.map_some, beq_self_eq_true, t3, k2, decide_false]; rfl) ?_
          refine ⟨rfl, ?_⟩
          simp only [upd_app, Nat.reduceEqDiff, ↓reduceIte, t3]
    · rintro e tm hp ⟨rfl, h3⟩
      refine vcE.ex (by simp (disch := first | assumption | omega | with_unfolding_all rfl) only [exC, exOps, exOp, wantedE, ↓reduceIte, ROp.run, evsE, evE, h3, putE, ty]; rfl) ?_
      exact ⟨_, rfl, rfl⟩
end
section
open Go Go.Proofs

theorem find_first {α : Type} {p : α → Bool} {l : List α} {i : Nat} {a : α} (h : l[i]? = some a) (ha : p a = true) (hb : ∀ j, j < i → ∀ b, l[j]? = some b → p b = false) : l.find? p = some a := by
  obtain ⟨h1, h2⟩ := List.getElem?_eq_some_iff.1 h
  rw [List.find?_eq_some_iff_getElem]
  exact ⟨ha, i, h1, h2, fun j hj => by
    have := hb j hj l[j] (List.getElem?_eq_getElem _)
    simp [this]⟩
theorem find_none {α : Type} {p : α → Bool} {l : List α} (hb : ∀ j, j < l.length → ∀ b, l[j]? = some b → p b = false) : l.find? p = none := by
  refine List.find?_eq_none.2 fun x hx => ?_
  obtain ⟨i, hi, rfl⟩ := List.mem_iff_getElem.1 hx
  have := hb i hi _ (List.getElem?_eq_getElem hi)
  simp [this]
abbrev doubtP (barred : List Int) (j : Job) : Bool := (j.doubt && !j.fly) && !decide (j.txn ∈ barred)
abbrev waitP (now : Int) (barred : List Int) (j : Job) : Bool := (j.waits && decide (j.at_ ≤ now)) && !decide (j.txn ∈ barred)
section
variable {hint : Nat → Nat} {q : Que} {barred : List Int} {tm : Env} {hp : HP}
abbrev nextI (q : Que) (barred : List Int) (tm : Env) (hp : HP) : Prop := hp[0]? = some (some (.row 29 q.c)) ∧ (∃ cs, hp[1]? = some (some (.row 42 cs)) ∧ cs.length = 10) ∧ tm 1 = encI.S barred ∧ tm 2 = .ptr 0 0 ∧ tm 4 = .ptr 1 0

theorem next_doubt (hl : q.jobs.length ≤ most) (hbl : barred.length ≤ most) {i : Nat} {j : Job} (hj : q.jobs[i]? = some j) (h : nextI q barred tm hp) (t6 : tm 6 = .int .i64 i) :
    vcE Try.prog hint TR0 77 b34_0 tm hp fun e tm' hp' => (doubtP barred j = true ∧ e = .ret ∧ tm' 4 = .ptr 1 0 ∧ hp'[1]? = some (some (.row 42 j.c)) ∧ tm' 5 = .bool true) ∨ (doubtP barred j = false ∧ e = .normal ∧ nextI q barred tm' hp' ∧ tm' 6 = .int .i64 ((i + 1 : Nat) : Int)) := by
  obtain ⟨h0, ⟨cs, h1, hcs⟩, t1, t2, t4⟩ := h
  have hcl : True := trivial
  have hi := (List.getElem?_eq_some_iff.1 hj).1
  simp only [most] at hl
  have hq0 : pickA none q.c 0 = some (encJ.S q.jobs) := rfl
  have hia : iaddrA 10 (encJ.S q.jobs) (.int .i64 i) = some (.fptr (encJ.cs q.jobs) (i * 10)) := encJ.S_iaddr hi
  have hpk : pickA (some 10) (encJ.cs q.jobs) (i * 10) = some (.agg j.c) := encJ.pick hj
  have hw : IntKind.wrap .i64 ((i : Int) + 1) = (i : Int) + 1 := wrap_i64 (by omega) (by omega)
  have c1 := TR0_in hbl j.txn
  have hlt : 1 < hp.length := get_lt h1
  have h1a : ∀ ys : HP, (hp ++ ys)[1]? = some (some (.row 42 cs)) := fun ys => app_get h1
  have s1a : ∀ ys x, List.set (hp ++ ys) 1 x = hp.set 1 x ++ ys := fun ys x => List.set_append_left _ _ hlt
  have p7 : pickA none j.c 7 = some (.bool j.doubt) := rfl
  have p6 : pickA none j.c 6 = some (.bool j.fly) := rfl
  have p0 : pickA none j.c 0 = some (.int .i64 j.txn) := rfl
  have pj : pickA (some 10) j.c 0 = some (.agg j.c) := rfl
  have hcc : cellsA (.agg j.c) = j.c := rfl
  have hov : over cs 0 j.c = j.c := by
    simp only [over, List.take_zero, List.nil_append, Nat.zero_add]
    rw [List.drop_eq_nil_of_le (by rw [hcs]; exact Nat.le_refl _), List.append_nil]
  have hst : storeA (hp ++ [some (.row 42 j.c)]) 10 (.ptr 1 0) (.agg j.c) = some (hp.set 1 (some (.row 42 j.c)) ++ [some (.row 42 j.c)]) := by
    rw [storeA_eq]
    simp only [h1a, hcc, hov, s1a, hcs, Job.c_len]
    rfl
  unfold doubtP
  cases h7 : j.doubt <;> rw [h7] at p7
  · refine vcE.ex (by simp (disch := first | assumption | omega | with_unfolding_all rfl) only [exC, exOps, exOp, wantedE, ↓reduceIte, ROp.run, evsE, evE, t6, putE, ty, Nat.reduceEqDiff, t2, same, faddrA, Option.map_some, loadA, rowA, h0, ↓hq0, binA, intA, dec_true, hia, ↓hpk, allocA, storeA_eq, getA0, List.getElem?_cons_zero, tz, hcc, Job.c_len, List.length_cons, List.length_nil, Nat.reduceAdd, Nat.reduceLeDiff, over, List.take_zero, List.nil_append, List.drop_succ_cons, List.drop_nil, List.append_nil, setA0, List.set_cons_zero, ↓p7, beq_iff_eq, hw]; rfl) ?_
    refine .inr ⟨rfl, rfl, ⟨app_get h0, ⟨cs, h1a _, hcs⟩, ?_, ?_, ?_⟩, ?_⟩
    all_goals simp only [upd_app, Nat.reduceEqDiff, ↓reduceIte, t1, t2, t4]
    rfl
  cases h6 : j.fly <;> rw [h6] at p6
  · cases hb : decide (j.txn ∈ barred) <;> rw [hb] at c1
    · refine vcE.ex (by simp (disch := first | assumption | omega | with_unfolding_all rfl) only [exC, exOps, exOp, wantedE, ↓reduceIte, ROp.run, evsE, evE, t6, putE, ty, Nat.reduceEqDiff, t2, same, faddrA, Option.map_some, loadA, rowA, h0, ↓hq0, binA, intA, dec_true, hia, ↓hpk, allocA, storeA_eq, getA0, List.getElem?_cons_zero, tz, hcc, Job.c_len, List.length_cons, List.length_nil, Nat.reduceAdd, Nat.reduceLeDiff, over, List.take_zero, List.nil_append, List.drop_succ_cons, List.drop_nil, List.append_nil, setA0, List.set_cons_zero, ↓p7, beq_self_eq_true, ↓p6, unA, t1, ↓p0, frzL, c1, Cls.isFree, callCls, nidL, ↓pj, t4, ↓hst]; rfl) ?_
      refine .inl ⟨rfl, rfl, ?_, app_get (set_get h1), ?_⟩
      all_goals simp only [upd_app, Nat.reduceEqDiff, ↓reduceIte, t4]
    · refine vcE.ex (by simp (disch := first | assumption | omega | with_unfolding_all rfl) only [exC, exOps, exOp, wantedE, ↓reduceIte, ROp.run, evsE, evE, t6, putE, ty, Nat.reduceEqDiff, t2, same, faddrA, Option.map_some, loadA, rowA, h0, ↓hq0, binA, intA, dec_true, hia, ↓hpk, allocA, storeA_eq, getA0, List.getElem?_cons_zero, tz, hcc, Job.c_len, List.length_cons, List.length_nil, Nat.reduceAdd, Nat.reduceLeDiff, over, List.take_zero, List.nil_append, List.drop_succ_cons, List.drop_nil, List.append_nil, setA0, List.set_cons_zero, ↓p7, beq_self_eq_true, ↓p6, unA, t1, ↓p0, frzL, c1, Cls.isFree, callCls, nidL, hw]; rfl) ?_
      refine .inr ⟨rfl, rfl, ⟨app_get h0, ⟨cs, h1a _, hcs⟩, ?_, ?_, ?_⟩, ?_⟩
      all_goals simp only [upd_app, Nat.reduceEqDiff, ↓reduceIte, t1, t2, t4]
      rfl
  · refine vcE.ex (by simp (disch := first | assumption | omega | with_unfolding_all rfl) only [exC, exOps, exOp, wantedE, ↓reduceIte, ROp.run, evsE, evE, t6, putE, ty, Nat.reduceEqDiff, t2, same, faddrA, Option.map_some, loadA, rowA, h0, ↓hq0, binA, intA, dec_true, hia, ↓hpk, allocA, storeA_eq, getA0, List.getElem?_cons_zero, tz, hcc, Job.c_len, List.length_cons, List.length_nil, Nat.reduceAdd, Nat.reduceLeDiff, over, List.take_zero, List.nil_append, List.drop_succ_cons, List.drop_nil, List.append_nil, setA0, List.set_cons_zero, ↓p7, beq_self_eq_true, ↓p6, unA, beq_iff_eq, hw]; rfl) ?_
    refine .inr ⟨rfl, rfl, ⟨app_get h0, ⟨cs, h1a _, hcs⟩, ?_, ?_, ?_⟩, ?_⟩
    all_goals simp only [upd_app, Nat.reduceEqDiff, ↓reduceIte, t1, t2, t4]
    rfl
theorem next_wait (hl : q.jobs.length ≤ most) (hbl : barred.length ≤ most) {i : Nat} {j : Job} (hj : q.jobs[i]? = some j) (h : nextI q barred tm hp) (t6 : tm 8 = .int .i64 i) :
    vcE Try.prog hint TR0 77 b34_1 tm hp fun e tm' hp' => (waitP q.now barred j = true ∧ e = .ret ∧ tm' 4 = .ptr 1 0 ∧ hp'[1]? = some (some (.row 42 j.c)) ∧ tm' 5 = .bool true) ∨ (waitP q.now barred j = false ∧ e = .normal ∧ nextI q barred tm' hp' ∧ tm' 8 = .int .i64 ((i + 1 : Nat) : Int)) := by
  obtain ⟨h0, ⟨cs, h1, hcs⟩, t1, t2, t4⟩ := h
  have hcl : True := trivial
  have hi := (List.getElem?_eq_some_iff.1 hj).1
  simp only [most] at hl
  have hq0 : pickA none q.c 0 = some (encJ.S q.jobs) := rfl
  have hia : iaddrA 10 (encJ.S q.jobs) (.int .i64 i) = some (.fptr (encJ.cs q.jobs) (i * 10)) := encJ.S_iaddr hi
  have hpk : pickA (some 10) (encJ.cs q.jobs) (i * 10) = some (.agg j.c) := encJ.pick hj
  have hw : IntKind.wrap .i64 ((i : Int) + 1) = (i : Int) + 1 := wrap_i64 (by omega) (by omega)
  have c1 := TR0_in hbl j.txn
  have hlt : 1 < hp.length := get_lt h1
  have h1a : ∀ ys : HP, (hp ++ ys)[1]? = some (some (.row 42 cs)) := fun ys => app_get h1
  have s1a : ∀ ys x, List.set (hp ++ ys) 1 x = hp.set 1 x ++ ys := fun ys x => List.set_append_left _ _ hlt
  have p7 : pickA none j.c 7 = some (.bool j.doubt) := rfl
  have p6 : pickA none j.c 6 = some (.bool j.fly) := rfl
  have p0 : pickA none j.c 0 = some (.int .i64 j.txn) := rfl
  have pj : pickA (some 10) j.c 0 = some (.agg j.c) := rfl
  have hcc : cellsA (.agg j.c) = j.c := rfl
  have hov : over cs 0 j.c = j.c := by
    simp only [over, List.take_zero, List.nil_append, Nat.zero_add]
    rw [List.drop_eq_nil_of_le (by rw [hcs]; exact Nat.le_refl _), List.append_nil]
  have hst : storeA (hp ++ [some (.row 42 j.c)]) 10 (.ptr 1 0) (.agg j.c) = some (hp.set 1 (some (.row 42 j.c)) ++ [some (.row 42 j.c)]) := by
    rw [storeA_eq]
    simp only [h1a, hcc, hov, s1a, hcs, Job.c_len]
    rfl
  have p9 : pickA none j.c 9 = some (.int .i64 j.at_) := rfl
  have hq2 : pickA none q.c 2 = some (.int .i64 q.now) := rfl
  have h0a : ∀ ys : HP, (hp ++ ys)[0]? = some (some (.row 29 q.c)) := fun ys => app_get h0
  unfold waitP Job.waits
  cases h7 : j.doubt <;> rw [h7] at p7
  · cases h6 : j.fly <;> rw [h6] at p6
    · by_cases h9 : j.at_ ≤ q.now
      · cases hb : decide (j.txn ∈ barred) <;> rw [hb] at c1
        · refine vcE.ex (by simp (disch := first | assumption | omega | with_unfolding_all rfl) only [exC, exOps, exOp, wantedE, ↓reduceIte, ROp.run, evsE, evE, t6, putE, ty, Nat.reduceEqDiff, t2, same, faddrA, Option.map_some, loadA, rowA, h0, ↓hq0, binA, intA, dec_true, hia, ↓hpk, allocA, storeA_eq, getA0, List.getElem?_cons_zero, tz, hcc, Job.c_len, List.length_cons, List.length_nil, Nat.reduceAdd, Nat.reduceLeDiff, over, List.take_zero, List.nil_append, List.drop_succ_cons, List.drop_nil, List.append_nil, setA0, List.set_cons_zero, ↓p7, unA, beq_self_eq_true, ↓p6, ↓p9, h0a, ↓hq2, h9, t1, ↓p0, frzL, c1, Cls.isFree, callCls, nidL, ↓pj, t4, ↓hst]; rfl) ?_
          refine .inl ⟨by simp only [h9, decide_true, Bool.not_false, Bool.and_self], rfl, ?_, app_get (set_get h1), ?_⟩
          all_goals simp only [upd_app, Nat.reduceEqDiff, ↓reduceIte, t4]
        · refine vcE.ex (by simp (disch := first | assumption | omega | with_unfolding_all rfl) only [exC, exOps, exOp, wantedE, ↓reduceIte, ROp.run, evsE, evE, t6, putE, ty, Nat.reduceEqDiff, t2, same, faddrA, Option.map_some, loadA, rowA, h0, ↓hq0, binA, intA, dec_true, hia, ↓hpk, allocA, storeA_eq, getA0, List.getElem?_cons_zero, tz, hcc, Job.c_len, List.length_cons, List.length_nil, Nat.reduceAdd, Nat.reduceLeDiff, over, List.take_zero, List.nil_append, List.drop_succ_cons, List.drop_nil, List.append_nil, setA0, List.set_cons_zero, ↓p7, unA, beq_self_eq_true, ↓p6, ↓p9, h0a, ↓hq2, h9, t1, ↓p0, frzL, c1, Cls.isFree, callCls, nidL, hw]; rfl) ?_
          refine .inr ⟨by simp only [Bool.not_true, Bool.and_false], rfl, ⟨app_get h0, ⟨cs, h1a _, hcs⟩, ?_, ?_, ?_⟩, ?_⟩
          all_goals simp only [upd_app, Nat.reduceEqDiff, ↓reduceIte, t1, t2, t4]
          rfl
      · refine vcE.ex (by simp (disch := first | assumption | omega | with_unfolding_all rfl) only [exC, exOps, exOp, wantedE, ↓reduceIte, ROp.run, evsE, evE, t6, putE, ty, Nat.reduceEqDiff, t2, same, faddrA, Option.map_some, loadA, rowA, h0, ↓hq0, binA, intA, dec_true, hia, ↓hpk, allocA, storeA_eq, getA0, List.getElem?_cons_zero, tz, hcc, Job.c_len, List.length_cons, List.length_nil, Nat.reduceAdd, Nat.reduceLeDiff, over, List.take_zero, List.nil_append, List.drop_succ_cons, List.drop_nil, List.append_nil, setA0, List.set_cons_zero, ↓p7, unA, beq_self_eq_true, ↓p6, ↓p9, h0a, ↓hq2, h9, decide_false, beq_iff_eq, hw]; rfl) ?_
        refine .inr ⟨by simp only [h9, decide_false, Bool.and_false, Bool.false_and], rfl, ⟨app_get h0, ⟨cs, h1a _, hcs⟩, ?_, ?_, ?_⟩, ?_⟩
        all_goals simp only [upd_app, Nat.reduceEqDiff, ↓reduceIte, t1, t2, t4]
        rfl
    · refine vcE.ex (by simp (disch := first | assumption | omega | with_unfolding_all rfl) only [exC, exOps, exOp, wantedE, ↓reduceIte, ROp.run, evsE, evE, t6, putE, ty, Nat.reduceEqDiff, t2, same, faddrA, Option.map_some, loadA, rowA, h0, ↓hq0, binA, intA, dec_true, hia, ↓hpk, allocA, storeA_eq, getA0, List.getElem?_cons_zero, tz, hcc, Job.c_len, List.length_cons, List.length_nil, Nat.reduceAdd, Nat.reduceLeDiff, over, List.take_zero, List.nil_append, List.drop_succ_cons, List.drop_nil, List.append_nil, setA0, List.set_cons_zero, ↓p7, unA, beq_self_eq_true, ↓p6, beq_iff_eq, hw]; rfl) ?_
      refine .inr ⟨rfl, rfl, ⟨app_get h0, ⟨cs, h1a _, hcs⟩, ?_, ?_, ?_⟩, ?_⟩
      all_goals simp only [upd_app, Nat.reduceEqDiff, ↓reduceIte, t1, t2, t4]
      rfl
  · refine vcE.ex (by simp (disch := first | assumption | omega | with_unfolding_all rfl) only [exC, exOps, exOp, wantedE, ↓reduceIte, ROp.run, evsE, evE, t6, putE, ty, Nat.reduceEqDiff, t2, same, faddrA, Option.map_some, loadA, rowA, h0, ↓hq0, binA, intA, dec_true, hia, ↓hpk, allocA, storeA_eq, getA0, List.getElem?_cons_zero, tz, hcc, Job.c_len, List.length_cons, List.length_nil, Nat.reduceAdd, Nat.reduceLeDiff, over, List.take_zero, List.nil_append, List.drop_succ_cons, List.drop_nil, List.append_nil, setA0, List.set_cons_zero, ↓p7, unA, beq_iff_eq, hw]; rfl) ?_
    refine .inr ⟨by simp only [Bool.not_true, Bool.and_false, Bool.false_and], rfl, ⟨app_get h0, ⟨cs, h1a _, hcs⟩, ?_, ?_, ?_⟩, ?_⟩
    all_goals simp only [upd_app, Nat.reduceEqDiff, ↓reduceIte, t1, t2, t4]
    rfl
end

theorem rNext (q : Que) (hl : q.jobs.length ≤ most) (barred : List Int) (hbl : barred.length ≤ most) : PCF Try.prog 34 [.agg q.c, encI.S barred] (.tup [.agg (q.nxt barred).1.c, .bool (q.nxt barred).2]) := by
  refine pcf_e hmG TR0_ok comp34 (by decide) (by simp) (nidL_ok (by rw [nidL, queN]; simp only [nidL, Enc.S_nid, Bool.and_self])) ?_
  have hcl : True := trivial
  have c0 := TR0_flying hl
  have hq0 : pickA none q.c 0 = some (encJ.S q.jobs) := rfl
  have hg : ∀ x y : Int, (x ≥ y) = (y ≤ x) := fun _ _ => rfl
  have pj : ∀ j : Job, pickA (some 10) j.c 0 = some (.agg j.c) := fun _ => rfl
  have yes : ∀ {j : Job} {b : Bool} {tm : Env} {hp : HP}, q.nxt barred = (j, b) → tm 4 = .ptr 1 0 → hp[1]? = some (some (.row 42 j.c)) → tm 5 = .bool b → RetE [.cell 4 (some 10), .t 5] (fun r' hp' => fresh hp' r' = some (.tup [.agg (q.nxt barred).1.c, .bool (q.nxt barred).2])) .ret tm hp := by
    intro j b tm hp h t4 h1 t5
    refine ⟨.tup [.agg j.c, .bool b], ?_, by rw [h]; rfl⟩
    simp only [resE, resEL, resE1, t4, t5, loadA, rowA, h1, pj]
  refine vcE.step (by simp (disch := first | assumption | omega | with_unfolding_all rfl) only [exC, exOps, exOp, wantedE, ↓reduceIte, ROp.run, evsE, evE, ty, List.getD_cons_zero, tz, List.length_nil, List.nil_append, putE, allocA, List.length_cons, List.cons_append]; rfl) ?_
  by_cases h4 : 4 ≤ flyers q.jobs
  · have h4' : (4 : Int) ≤ (flyers q.jobs : Int) := by omega
    refine vcE.ex (by simp (disch := first | assumption | omega | with_unfolding_all rfl) only [exC, exOps, exOp, wantedE, ↓reduceIte, ROp.run, evsE, evE, ty, Nat.reduceEqDiff, same, loadA, rowA, List.getElem?_cons_zero, ↓pickQ, Option.map_some, putE, List.append_nil, frzL, frz_agg, queL_frz, c0, Cls.isFree, callCls, nidL, tz, queL_nid, binA, intA, hg, h4', dec_true, List.length_nil]; rfl) ?_
    exact ⟨_, rfl, by unfold Que.nxt; rw [if_pos h4]; rfl⟩
  have h4' : ¬ ((4 : Int) ≤ (flyers q.jobs : Int)) := by omega
  refine vcE.step (by simp (disch := first | assumption | omega | with_unfolding_all rfl) only [exC, exOps, exOp, wantedE, ↓reduceIte, ROp.run, evsE, evE, ty, Nat.reduceEqDiff, same, loadA, rowA, List.getElem?_cons_zero, ↓pickQ, Option.map_some, putE, List.append_nil, frzL, frz_agg, queL_frz, c0, Cls.isFree, callCls, nidL, tz, queL_nid, binA, intA, hg, h4', decide_false]; rfl) ?_
  refine vcE.then (fun e tm hp => (∃ j, q.nxt barred = (j, true) ∧ e = .ret ∧ tm 4 = .ptr 1 0 ∧ hp[1]? = some (some (.row 42 j.c)) ∧ tm 5 = .bool true) ∨ (e = .normal ∧ nextI q barred tm hp ∧ q.jobs.find? (doubtP barred) = none)) ?_ ?_
  · refine vcE.step (by simp (disch := first | assumption | omega | with_unfolding_all rfl) only [exC, exOps, exOp, wantedE, ↓reduceIte, ROp.run, evsE, evE, putE]; rfl) (vcE.block (vcE.count (by intro l tm hp h; simp at h)
      (fun i tm hp => nextI q barred tm hp ∧ tm 6 = .int .i64 i ∧ ∀ k, k < i → ∀ b, q.jobs[k]? = some b → doubtP barred b = false) q.jobs.length ⟨⟨rfl, ⟨_, rfl, rfl⟩, ?_, ?_, ?_⟩, rfl, by omega⟩ ?_ ?_))
    · simp only [upd_app, Nat.reduceEqDiff, ↓reduceIte]
      rfl
    · simp only [upd_app, Nat.reduceEqDiff, ↓reduceIte]
    · simp only [upd_app, Nat.reduceEqDiff, ↓reduceIte]
    · rintro i tm hp hi ⟨h, t6, hall⟩
      obtain ⟨j, hj⟩ : ∃ j, q.jobs[i]? = some j := ⟨_, List.getElem?_eq_getElem hi⟩
      refine (next_doubt hl hbl hj h t6).mono ?_
      rintro e tm' hp' (⟨hd, rfl, k4, k1, k5⟩ | ⟨hd, rfl, h', t6'⟩)
      · refine .inl ⟨j, ?_, rfl, k4, k1, k5⟩
        unfold Que.nxt
        rw [if_neg h4, find_first (p := doubtP barred) hj hd hall]
      · refine ⟨h', t6', fun k hk b hb => ?_⟩
        by_cases hki : k = i
        · subst hki
          rw [hj] at hb
          cases hb
          exact hd
        · exact hall k (by omega) b hb
    · rintro tm hp ⟨⟨h0, h1, t1, t2, t4⟩, t6, hall⟩
      refine vcE.ex (by simp (disch := first | assumption | omega | with_unfolding_all rfl) only [exC, exOps, exOp, wantedE, ↓reduceIte, ROp.run, evsE, evE, t6, putE, ty, Nat.reduceEqDiff, t2, same, faddrA, Option.map_some, loadA, rowA, h0, ↓hq0, binA, intA, dec_false]; rfl) ?_
      refine .inr ⟨rfl, ⟨h0, h1, ?_, ?_, ?_⟩, find_none hall⟩
      all_goals simp only [upd_app, Nat.reduceEqDiff, ↓reduceIte, t1, t2, t4]
  · rintro e tm hp (⟨j, hn, rfl, k4, k1, k5⟩ | ⟨rfl, h, hd⟩)
    · exact yes hn k4 k1 k5
    refine vcE.then (fun e tm hp => (∃ j, q.nxt barred = (j, true) ∧ e = .ret ∧ tm 4 = .ptr 1 0 ∧ hp[1]? = some (some (.row 42 j.c)) ∧ tm 5 = .bool true) ∨ (e = .normal ∧ nextI q barred tm hp ∧ q.jobs.find? (waitP q.now barred) = none)) ?_ ?_
    · obtain ⟨h0, h1, t1, t2, t4⟩ := h
      refine vcE.step (by simp (disch := first | assumption | omega | with_unfolding_all rfl) only [exC, exOps, exOp, wantedE, ↓reduceIte, ROp.run, evsE, evE, putE]; rfl) (vcE.block (vcE.count (by intro l tm hp h; simp at h)
        (fun i tm hp => nextI q barred tm hp ∧ tm 8 = .int .i64 i ∧ ∀ k, k < i → ∀ b, q.jobs[k]? = some b → waitP q.now barred b = false) q.jobs.length ⟨⟨h0, h1, ?_, ?_, ?_⟩, rfl, by omega⟩ ?_ ?_))
      · simp only [upd_app, Nat.reduceEqDiff, ↓reduceIte, t1]
      · simp only [upd_app, Nat.reduceEqDiff, ↓reduceIte, t2]
      · simp only [upd_app, Nat.reduceEqDiff, ↓reduceIte, t4]
      · rintro i tm hp hi ⟨h, t6, hall⟩
        obtain ⟨j, hj⟩ : ∃ j, q.jobs[i]? = some j := ⟨_, List.getElem?_eq_getElem hi⟩
        refine (next_wait hl hbl hj h t6).mono ?_
        rintro e tm' hp' (⟨hw, rfl, k4, k1, k5⟩ | ⟨hw, rfl, h', t6'⟩)
        · refine .inl ⟨j, ?_, rfl, k4, k1, k5⟩
          unfold Que.nxt
          have hd' : q.jobs.find? (fun j => (j.doubt && !j.fly) && !decide (j.txn ∈ barred)) = none := hd
          rw [if_neg h4, hd']
          simp only
          rw [find_first (p := waitP q.now barred) hj hw hall]
        · refine ⟨h', t6', fun k hk b hb => ?_⟩
          by_cases hki : k = i
          · subst hki
            rw [hj] at hb
            cases hb
            exact hw
          · exact hall k (by omega) b hb
      · rintro tm hp ⟨⟨h0, h1, t1, t2, t4⟩, t6, hall⟩
        refine vcE.ex (by simp (disch := first | assumption | omega | with_unfolding_all rfl) only [exC, exOps, exOp, wantedE, ↓reduceIte, ROp.run, evsE, evE, t6, putE, ty, Nat.reduceEqDiff, t2, same, faddrA, Option.map_some, loadA, rowA, h0, ↓hq0, binA, intA, dec_false]; rfl) ?_
        refine .inr ⟨rfl, ⟨h0, h1, ?_, ?_, ?_⟩, find_none hall⟩
        all_goals simp only [upd_app, Nat.reduceEqDiff, ↓reduceIte, t1, t2, t4]
    · rintro e tm hp (⟨j, hn, rfl, k4, k1, k5⟩ | ⟨rfl, ⟨h0, ⟨cs, h1, hcs⟩, t1, t2, t4⟩, hw⟩)
      · exact yes hn k4 k1 k5
      have hov : over cs 0 Job.zero.c = Job.zero.c := by
        simp only [over, List.take_zero, List.nil_append, Nat.zero_add]
        rw [List.drop_eq_nil_of_le (by rw [hcs]; exact Nat.le_refl _), List.append_nil]
      have hst : storeA hp 10 (.ptr 1 0) (.agg Job.zero.c) = some (hp.set 1 (some (.row 42 Job.zero.c))) := by
        rw [storeA_eq]
        simp only [h1, show cellsA (.agg Job.zero.c) = Job.zero.c from rfl, hov, hcs, Job.c_len]
        rfl
      have hst2 : storeA hp 10 (.ptr 1 0) (.agg [.int .i64 0, .int .i64 0, .str [], .str [], .str [], .str [], .bool false, .bool false, .int .i64 0, .int .i64 0]) = some (hp.set 1 (some (.row 42 Job.zero.c))) := hst
      have hfill : fillA [(0, 1), (1, 5), (6, 1), (7, 1), (8, 1), (9, 1)] [.int .i64 0, .int .i64 0, .str [], .str [], .str [], .str [], .bool false, .bool false, .int .i64 0, .int .i64 0] (([] : List Nat).zip ([] : List AV)) = some [.int .i64 0, .int .i64 0, .str [], .str [], .str [], .str [], .bool false, .bool false, .int .i64 0, .int .i64 0] := rfl
      refine vcE.ex (by simp (disch := first | assumption | omega | with_unfolding_all rfl) only [exC, exOps, exOp, wantedE, ↓reduceIte, ROp.run, evsE, List.length_nil, same, hfill, Option.map_some, putE, evE, ty, Nat.reduceEqDiff, t4, ↓hst2]; rfl) ?_
      refine yes (j := .zero) (b := false) ?_ ?_ (set_get h1) ?_
      · unfold Que.nxt
        have hd' : q.jobs.find? (fun j => (j.doubt && !j.fly) && !decide (j.txn ∈ barred)) = none := hd
        have hw' : q.jobs.find? (fun j => (j.waits && decide (j.at_ ≤ q.now)) && !decide (j.txn ∈ barred)) = none := hw
        rw [if_neg h4, hd']
        simp only
        rw [hw']
      all_goals simp only [upd_app, Nat.reduceEqDiff, ↓reduceIte, t4]
end
section
open Go Go.Proofs

abbrev sameI (a b : Que) (tm : Env) (hp : HP) : Prop := hp[0]? = some (some (.row 29 a.c)) ∧ hp[1]? = some (some (.row 29 b.c)) ∧ tm 2 = .ptr 0 0 ∧ tm 3 = .ptr 1 0

theorem same_jobs {hint : Nat → Nat} {a b : Que} (hl : a.jobs.length ≤ most) (hlen : a.jobs.length = b.jobs.length) {tm : Env} {hp : HP} (h : sameI a b tm hp) :
    vcE Try.prog hint TR0 108 (IC.seq (IC.reg r37_3) (IC.block 0 (IC.loop b37_0))) tm hp fun e tm' hp' => (e = .ret ∧ tm' 4 = .bool false ∧ a.jobs ≠ b.jobs) ∨ (e = .normal ∧ sameI a b tm' hp' ∧ a.jobs = b.jobs) := by
  obtain ⟨h0, h1, t2, t3⟩ := h
  have hcl : True := trivial
  simp only [most] at hl
  have ha0 : pickA none a.c 0 = some (encJ.S a.jobs) := rfl
  have hb0 : pickA none b.c 0 = some (encJ.S b.jobs) := rfl
  refine vcE.step (by simp (disch := first | assumption | omega | with_unfolding_all rfl) only [exC, exOps, exOp, wantedE, ↓reduceIte, ROp.run, evsE, evE, putE]; rfl) (vcE.block (vcE.count (by intro l tm hp h; simp at h)
    (fun i tm hp => sameI a b tm hp ∧ tm 5 = .int .i64 i ∧ ∀ k, k < i → a.jobs[k]? = b.jobs[k]?) a.jobs.length ⟨⟨h0, h1, ?_, ?_⟩, rfl, by omega⟩ ?_ ?_))
  · simp only [upd_app, Nat.reduceEqDiff, ↓reduceIte, t2]
  · simp only [upd_app, Nat.reduceEqDiff, ↓reduceIte, t3]
  · rintro i tm hp hi ⟨⟨h0, h1, t2, t3⟩, t5, hall⟩
    obtain ⟨x, hx⟩ : ∃ x, a.jobs[i]? = some x := ⟨_, List.getElem?_eq_getElem hi⟩
    obtain ⟨y, hy⟩ : ∃ y, b.jobs[i]? = some y := ⟨_, List.getElem?_eq_getElem (by omega)⟩
    have hia : iaddrA 10 (encJ.S a.jobs) (.int .i64 i) = some (.fptr (encJ.cs a.jobs) (i * 10)) := encJ.S_iaddr hi
    have hib : iaddrA 10 (encJ.S b.jobs) (.int .i64 i) = some (.fptr (encJ.cs b.jobs) (i * 10)) := encJ.S_iaddr (by omega)
    have hpa : pickA (some 10) (encJ.cs a.jobs) (i * 10) = some (.agg x.c) := encJ.pick hx
    have hpb : pickA (some 10) (encJ.cs b.jobs) (i * 10) = some (.agg y.c) := encJ.pick hy
    have hne : binA .neq (.st [.int, .int, .str, .str, .str, .str, .bool, .bool, .int, .int]) (.agg x.c) (.agg y.c) = some (.bool (!decide (x = y))) := elJ.ne x y
    have hw : IntKind.wrap .i64 ((i : Int) + 1) = (i : Int) + 1 := wrap_i64 (by omega) (by omega)
    by_cases hxy : x = y
    · rw [decide_eq_true hxy] at hne
      refine vcE.ex (by simp (disch := first | assumption | omega | with_unfolding_all rfl) only [exC, exOps, exOp, wantedE, ↓reduceIte, ROp.run, evsE, evE, t5, putE, ty, Nat.reduceEqDiff, t2, same, faddrA, Option.map_some, loadA, rowA, h0, ↓ha0, binA, intA, dec_true, chain, ordered, List.getElem?_cons_zero, List.getElem?_cons_succ, hia, ↓hpa, t3, h1, ↓hb0, hib, ↓hpb, ↓hne, cond_true, hw]; rfl) ?_
      refine ⟨⟨h0, h1, ?_, ?_⟩, ?_, fun k hk => ?_⟩
      · simp only [upd_app, Nat.reduceEqDiff, ↓reduceIte, t2]
      · simp only [upd_app, Nat.reduceEqDiff, ↓reduceIte, t3]
      · simp only [upd_app, Nat.reduceEqDiff, ↓reduceIte]; rfl
      · by_cases hki : k = i
        · rw [hki, hx, hy, hxy]
        · exact hall k (by omega)
    · rw [decide_eq_false hxy] at hne
      refine vcE.ex (by simp (disch := first | assumption | omega | with_unfolding_all rfl) only [exC, exOps, exOp, wantedE, ↓reduceIte, ROp.run, evsE, evE, t5, putE, ty, Nat.reduceEqDiff, t2, same, faddrA, Option.map_some, loadA, rowA, h0, ↓ha0, binA, intA, dec_true, chain, ordered, List.getElem?_cons_zero, List.getElem?_cons_succ, hia, ↓hpa, t3, h1, ↓hb0, hib, ↓hpb, ↓hne, cond_true]; rfl) ?_
      refine .inl ⟨rfl, ?_, fun he => hxy ?_⟩
      · simp only [upd_app, Nat.reduceEqDiff, ↓reduceIte]
      · rw [he, hy] at hx
        exact (Option.some.inj hx).symm
  · rintro tm hp ⟨⟨h0, h1, t2, t3⟩, t5, hall⟩
    refine vcE.ex (by simp (disch := first | assumption | omega | with_unfolding_all rfl) only [exC, exOps, exOp, wantedE, ↓reduceIte, ROp.run, evsE, evE, t5, putE, ty, Nat.reduceEqDiff, t2, same, faddrA, Option.map_some, loadA, rowA, h0, ↓ha0, binA, intA, dec_false]; rfl) ?_
    refine .inr ⟨rfl, ⟨h0, h1, ?_, ?_⟩, List.ext_getElem? fun k => ?_⟩
    · simp only [upd_app, Nat.reduceEqDiff, ↓reduceIte, t2]
    · simp only [upd_app, Nat.reduceEqDiff, ↓reduceIte, t3]
    · by_cases hk : k < a.jobs.length
      · exact hall k hk
      · rw [List.getElem?_eq_none (by omega), List.getElem?_eq_none (by omega)]

theorem same_failed {hint : Nat → Nat} {a b : Que} (hl : a.failed.length ≤ most) (hlen : a.failed.length = b.failed.length) {tm : Env} {hp : HP} (h : sameI a b tm hp) :
    vcE Try.prog hint TR0 108 (IC.seq (IC.reg r37_8) (IC.block 2 (IC.loop b37_1))) tm hp fun e tm' hp' => (e = .ret ∧ tm' 4 = .bool false ∧ a.failed ≠ b.failed) ∨ (e = .normal ∧ sameI a b tm' hp' ∧ a.failed = b.failed) := by
  obtain ⟨h0, h1, t2, t3⟩ := h
  have hcl : True := trivial
  simp only [most] at hl
  have ha0 : pickA none a.c 3 = some (encA.S a.failed) := rfl
  have hb0 : pickA none b.c 3 = some (encA.S b.failed) := rfl
  refine vcE.step (by simp (disch := first | assumption | omega | with_unfolding_all rfl) only [exC, exOps, exOp, wantedE, ↓reduceIte, ROp.run, evsE, evE, putE]; rfl) (vcE.block (vcE.count (by intro l tm hp h; simp at h)
    (fun i tm hp => sameI a b tm hp ∧ tm 6 = .int .i64 i ∧ ∀ k, k < i → a.failed[k]? = b.failed[k]?) a.failed.length ⟨⟨h0, h1, ?_, ?_⟩, rfl, by omega⟩ ?_ ?_))
  · simp only [upd_app, Nat.reduceEqDiff, ↓reduceIte, t2]
  · simp only [upd_app, Nat.reduceEqDiff, ↓reduceIte, t3]
  · rintro i tm hp hi ⟨⟨h0, h1, t2, t3⟩, t5, hall⟩
    obtain ⟨x, hx⟩ : ∃ x, a.failed[i]? = some x := ⟨_, List.getElem?_eq_getElem hi⟩
    obtain ⟨y, hy⟩ : ∃ y, b.failed[i]? = some y := ⟨_, List.getElem?_eq_getElem (by omega)⟩
    have hia : iaddrA 5 (encA.S a.failed) (.int .i64 i) = some (.fptr (encA.cs a.failed) (i * 5)) := encA.S_iaddr hi
    have hib : iaddrA 5 (encA.S b.failed) (.int .i64 i) = some (.fptr (encA.cs b.failed) (i * 5)) := encA.S_iaddr (by omega)
    have hpa : pickA (some 5) (encA.cs a.failed) (i * 5) = some (.agg x.c) := encA.pick hx
    have hpb : pickA (some 5) (encA.cs b.failed) (i * 5) = some (.agg y.c) := encA.pick hy
    have hne : binA .neq (.st [.int, .str, .str, .str, .str]) (.agg x.c) (.agg y.c) = some (.bool (!decide (x = y))) := elA.ne x y
    have hw : IntKind.wrap .i64 ((i : Int) + 1) = (i : Int) + 1 := wrap_i64 (by omega) (by omega)
    by_cases hxy : x = y
    · rw [decide_eq_true hxy] at hne
      refine vcE.ex (by simp (disch := first | assumption | omega | with_unfolding_all rfl) only [exC, exOps, exOp, wantedE, ↓reduceIte, ROp.run, evsE, evE, t5, putE, ty, Nat.reduceEqDiff, t2, same, faddrA, Option.map_some, loadA, rowA, h0, ↓ha0, binA, intA, dec_true, chain, ordered, List.getElem?_cons_zero, List.getElem?_cons_succ, hia, ↓hpa, t3, h1, ↓hb0, hib, ↓hpb, ↓hne, cond_true, hw]; rfl) ?_
      refine ⟨⟨h0, h1, ?_, ?_⟩, ?_, fun k hk => ?_⟩
      · simp only [upd_app, Nat.reduceEqDiff, ↓reduceIte, t2]
      · simp only [upd_app, Nat.reduceEqDiff, ↓reduceIte, t3]
      · simp only [upd_app, Nat.reduceEqDiff, ↓reduceIte]; rfl
      · by_cases hki : k = i
        · rw [hki, hx, hy, hxy]
        · exact hall k (by omega)
    · rw [decide_eq_false hxy] at hne
      refine vcE.ex (by simp (disch := first | assumption | omega | with_unfolding_all rfl) only [exC, exOps, exOp, wantedE, ↓reduceIte, ROp.run, evsE, evE, t5, putE, ty, Nat.reduceEqDiff, t2, same, faddrA, Option.map_some, loadA, rowA, h0, ↓ha0, binA, intA, dec_true, chain, ordered, List.getElem?_cons_zero, List.getElem?_cons_succ, hia, ↓hpa, t3, h1, ↓hb0, hib, ↓hpb, ↓hne, cond_true]; rfl) ?_
      refine .inl ⟨rfl, ?_, fun he => hxy ?_⟩
      · simp only [upd_app, Nat.reduceEqDiff, ↓reduceIte]
      · rw [he, hy] at hx
        exact (Option.some.inj hx).symm
  · rintro tm hp ⟨⟨h0, h1, t2, t3⟩, t5, hall⟩
    refine vcE.ex (by simp (disch := first | assumption | omega | with_unfolding_all rfl) only [exC, exOps, exOp, wantedE, ↓reduceIte, ROp.run, evsE, evE, t5, putE, ty, Nat.reduceEqDiff, t2, same, faddrA, Option.map_some, loadA, rowA, h0, ↓ha0, binA, intA, dec_false]; rfl) ?_
    refine .inr ⟨rfl, ⟨h0, h1, ?_, ?_⟩, List.ext_getElem? fun k => ?_⟩
    · simp only [upd_app, Nat.reduceEqDiff, ↓reduceIte, t2]
    · simp only [upd_app, Nat.reduceEqDiff, ↓reduceIte, t3]
    · by_cases hk : k < a.failed.length
      · exact hall k hk
      · rw [List.getElem?_eq_none (by omega), List.getElem?_eq_none (by omega)]

theorem same_settled {hint : Nat → Nat} {a b : Que} (hl : a.settled.length ≤ most) (hlen : a.settled.length = b.settled.length) {tm : Env} {hp : HP} (h : sameI a b tm hp) :
    vcE Try.prog hint TR0 108 (IC.seq (IC.reg r37_13) (IC.block 4 (IC.loop b37_2))) tm hp fun e tm' hp' => (e = .ret ∧ tm' 4 = .bool false ∧ a.settled ≠ b.settled) ∨ (e = .normal ∧ sameI a b tm' hp' ∧ a.settled = b.settled) := by
  obtain ⟨h0, h1, t2, t3⟩ := h
  have hcl : True := trivial
  simp only [most] at hl
  have ha0 : pickA none a.c 4 = some (encA.S a.settled) := rfl
  have hb0 : pickA none b.c 4 = some (encA.S b.settled) := rfl
  refine vcE.step (by simp (disch := first | assumption | omega | with_unfolding_all rfl) only [exC, exOps, exOp, wantedE, ↓reduceIte, ROp.run, evsE, evE, putE]; rfl) (vcE.block (vcE.count (by intro l tm hp h; simp at h)
    (fun i tm hp => sameI a b tm hp ∧ tm 7 = .int .i64 i ∧ ∀ k, k < i → a.settled[k]? = b.settled[k]?) a.settled.length ⟨⟨h0, h1, ?_, ?_⟩, rfl, by omega⟩ ?_ ?_))
  · simp only [upd_app, Nat.reduceEqDiff, ↓reduceIte, t2]
  · simp only [upd_app, Nat.reduceEqDiff, ↓reduceIte, t3]
  · rintro i tm hp hi ⟨⟨h0, h1, t2, t3⟩, t5, hall⟩
    obtain ⟨x, hx⟩ : ∃ x, a.settled[i]? = some x := ⟨_, List.getElem?_eq_getElem hi⟩
    obtain ⟨y, hy⟩ : ∃ y, b.settled[i]? = some y := ⟨_, List.getElem?_eq_getElem (by omega)⟩
    have hia : iaddrA 5 (encA.S a.settled) (.int .i64 i) = some (.fptr (encA.cs a.settled) (i * 5)) := encA.S_iaddr hi
    have hib : iaddrA 5 (encA.S b.settled) (.int .i64 i) = some (.fptr (encA.cs b.settled) (i * 5)) := encA.S_iaddr (by omega)
    have hpa : pickA (some 5) (encA.cs a.settled) (i * 5) = some (.agg x.c) := encA.pick hx
    have hpb : pickA (some 5) (encA.cs b.settled) (i * 5) = some (.agg y.c) := encA.pick hy
    have hne : binA .neq (.st [.int, .str, .str, .str, .str]) (.agg x.c) (.agg y.c) = some (.bool (!decide (x = y))) := elA.ne x y
    have hw : IntKind.wrap .i64 ((i : Int) + 1) = (i : Int) + 1 := wrap_i64 (by omega) (by omega)
    by_cases hxy : x = y
    · rw [decide_eq_true hxy] at hne
      refine vcE.ex (by simp (disch := first | assumption | omega | with_unfolding_all rfl) only [exC, exOps, exOp, wantedE, ↓reduceIte, ROp.run, evsE, evE, t5, putE, ty, Nat.reduceEqDiff, t2, same, faddrA, Option.map_some, loadA, rowA, h0, ↓ha0, binA, intA, dec_true, chain, ordered, List.getElem?_cons_zero, List.getElem?_cons_succ, hia, ↓hpa, t3, h1, ↓hb0, hib, ↓hpb, ↓hne, cond_true, hw]; rfl) ?_
      refine ⟨⟨h0, h1, ?_, ?_⟩, ?_, fun k hk => ?_⟩
      · simp only [upd_app, Nat.reduceEqDiff, ↓reduceIte, t2]
      · simp only [upd_app, Nat.reduceEqDiff, ↓reduceIte, t3]
      · simp only [upd_app, Nat.reduceEqDiff, ↓reduceIte]; rfl
      · by_cases hki : k = i
        · rw [hki, hx, hy, hxy]
        · exact hall k (by omega)
    · rw [decide_eq_false hxy] at hne
      refine vcE.ex (by simp (disch := first | assumption | omega | with_unfolding_all rfl) only [exC, exOps, exOp, wantedE, ↓reduceIte, ROp.run, evsE, evE, t5, putE, ty, Nat.reduceEqDiff, t2, same, faddrA, Option.map_some, loadA, rowA, h0, ↓ha0, binA, intA, dec_true, chain, ordered, List.getElem?_cons_zero, List.getElem?_cons_succ, hia, ↓hpa, t3, h1, ↓hb0, hib, ↓hpb, ↓hne, cond_true]; rfl) ?_
      refine .inl ⟨rfl, ?_, fun he => hxy ?_⟩
      · simp only [upd_app, Nat.reduceEqDiff, ↓reduceIte]
      · rw [he, hy] at hx
        exact (Option.some.inj hx).symm
  · rintro tm hp ⟨⟨h0, h1, t2, t3⟩, t5, hall⟩
    refine vcE.ex (by simp (disch := first | assumption | omega | with_unfolding_all rfl) only [exC, exOps, exOp, wantedE, ↓reduceIte, ROp.run, evsE, evE, t5, putE, ty, Nat.reduceEqDiff, t2, same, faddrA, Option.map_some, loadA, rowA, h0, ↓ha0, binA, intA, dec_false]; rfl) ?_
    refine .inr ⟨rfl, ⟨h0, h1, ?_, ?_⟩, List.ext_getElem? fun k => ?_⟩
    · simp only [upd_app, Nat.reduceEqDiff, ↓reduceIte, t2]
    · simp only [upd_app, Nat.reduceEqDiff, ↓reduceIte, t3]
    · by_cases hk : k < a.settled.length
      · exact hall k hk
      · rw [List.getElem?_eq_none (by omega), List.getElem?_eq_none (by omega)]

theorem rSame (a b : Que) (hq : Fits a) : PCF Try.prog 37 [.agg a.c, .agg b.c] (.bool (decide (a = b))) := by
  refine pcf_e hmG TR0_ok comp37 (by decide) (by simp) (nidL_ok (by simp only [nidL, queN, Bool.and_self])) ?_
  have hcl : True := trivial
  have hq0a : ∀ q : Que, pickA none q.c 0 = some (encJ.S q.jobs) := fun _ => rfl
  have hq1a : ∀ q : Que, pickA none q.c 1 = some (.int .i64 q.next) := fun _ => rfl
  have hq2a : ∀ q : Que, pickA none q.c 2 = some (.int .i64 q.now) := fun _ => rfl
  have hq3a : ∀ q : Que, pickA none q.c 3 = some (encA.S q.failed) := fun _ => rfl
  have hq4a : ∀ q : Que, pickA none q.c 4 = some (encA.S q.settled) := fun _ => rfl
  have hq5a : ∀ q : Que, pickA none q.c 5 = some (.bool q.resync) := fun _ => rfl
  have no : ∀ {tm : Env} {hp : HP}, a ≠ b → tm 4 = .bool false → RetE [.t 4] (fun r' hp' => fresh hp' r' = some (.bool (decide (a = b)))) .ret tm hp := by
    intro tm hp h t4
    refine ⟨_, by simp only [resE, resEL, resE1, t4]; rfl, ?_⟩
    rw [decide_eq_false h]
    rfl
  have hneI : ∀ x y : Int, ((x : Int) = y) = (x = y) := fun _ _ => rfl
  refine vcE.step (by simp (disch := first | assumption | omega | with_unfolding_all rfl) only [exC, exOps, exOp, wantedE, ↓reduceIte, ROp.run, evsE, evE, ty, List.getD_cons_zero, tz, List.length_nil, List.nil_append, putE, Nat.reduceEqDiff, List.getD_cons_succ, List.length_cons, List.cons_append]; rfl) ?_
  by_cases k1 : a.jobs.length = b.jobs.length
  · by_cases k2 : a.failed.length = b.failed.length
    · by_cases k3 : a.settled.length = b.settled.length
      · by_cases k4 : a.next = b.next
        · by_cases k5 : a.now = b.now
          · by_cases k6 : a.resync = b.resync
            · have hbin : binA .neq .bool (.bool a.resync) (.bool b.resync) = some (.bool false) := by
                rw [k6]
                cases b.resync <;> rfl
              refine vcE.step (by simp (disch := first | assumption | omega | with_unfolding_all rfl) only [exC, exOps, exOp, wantedE, ↓reduceIte, ROp.run, evsE, evE, ty, Nat.reduceEqDiff, same, faddrA, Option.map_some, putE, loadA, rowA, List.getElem?_cons_zero, ↓hq0a, k1, List.getElem?_cons_succ, binA, intA, dec_true, beq_self_eq_true, ↓hq3a, k2, ↓hq4a, k3, ↓hq1a, k4, ↓hq2a, k5, ↓hq5a, ↓hbin]; rfl) ?_
              refine vcE.then _ (same_jobs (a := a) (b := b) hq.j k1 ⟨rfl, rfl, ?_, ?_⟩) ?_
              · simp only [upd_app, Nat.reduceEqDiff, ↓reduceIte]
              · simp only [upd_app, Nat.reduceEqDiff, ↓reduceIte]
              rintro e tm hp (⟨rfl, h4, hne⟩ | ⟨rfl, h, e1⟩)
              · exact no (fun he => hne (by rw [he])) h4
              refine vcE.then _ (same_failed hq.f k2 h) ?_
              rintro e tm hp (⟨rfl, h4, hne⟩ | ⟨rfl, h, e2⟩)
              · exact no (fun he => hne (by rw [he])) h4
              refine vcE.then _ (same_settled hq.s k3 h) ?_
              rintro e tm hp (⟨rfl, h4, hne⟩ | ⟨rfl, h, e3⟩)
              · exact no (fun he => hne (by rw [he])) h4
              refine vcE.ex (by simp (disch := first | assumption | omega | with_unfolding_all rfl) only [exC, exOps, exOp, wantedE, ↓reduceIte, ROp.run, evsE, evE, putE]; rfl) ?_
              refine ⟨_, rfl, ?_⟩
              have : a = b := by
                obtain ⟨aj, an, at_, af, as_, ar⟩ := a
                obtain ⟨bj, bn, bt, bf, bs, br⟩ := b
                simp only at *
                subst e1 e2 e3 k4 k5 k6
                rfl
              rw [decide_eq_true this]
              rfl
            · have hbin : binA .neq .bool (.bool a.resync) (.bool b.resync) = some (.bool true) := by
                revert k6
                cases a.resync <;> cases b.resync <;> simp [binA]
                all_goals rfl
              refine vcE.ex (by simp (disch := first | assumption | omega | with_unfolding_all rfl) only [exC, exOps, exOp, wantedE, ↓reduceIte, ROp.run, evsE, evE, ty, Nat.reduceEqDiff, same, faddrA, Option.map_some, putE, loadA, rowA, List.getElem?_cons_zero, ↓hq0a, k1, List.getElem?_cons_succ, binA, intA, dec_true, beq_self_eq_true, ↓hq3a, k2, ↓hq4a, k3, ↓hq1a, k4, ↓hq2a, k5, ↓hq5a, ↓hbin]; rfl) ?_
              refine no (fun he => k6 (by rw [he])) ?_
              simp only [upd_app, Nat.reduceEqDiff, ↓reduceIte]
          · refine vcE.ex (by simp (disch := first | assumption | omega | with_unfolding_all rfl) only [exC, exOps, exOp, wantedE, ↓reduceIte, ROp.run, evsE, evE, ty, Nat.reduceEqDiff, same, faddrA, Option.map_some, putE, loadA, rowA, List.getElem?_cons_zero, ↓hq0a, k1, List.getElem?_cons_succ, binA, intA, dec_true, beq_self_eq_true, ↓hq3a, k2, ↓hq4a, k3, ↓hq1a, k4, ↓hq2a, k5, decide_false, beq_iff_eq]; rfl) ?_
            refine no (fun he => k5 (by rw [he])) ?_
            simp only [upd_app, Nat.reduceEqDiff, ↓reduceIte]
        · refine vcE.ex (by simp (disch := first | assumption | omega | with_unfolding_all rfl) only [exC, exOps, exOp, wantedE, ↓reduceIte, ROp.run, evsE, evE, ty, Nat.reduceEqDiff, same, faddrA, Option.map_some, putE, loadA, rowA, List.getElem?_cons_zero, ↓hq0a, k1, List.getElem?_cons_succ, binA, intA, dec_true, beq_self_eq_true, ↓hq3a, k2, ↓hq4a, k3, ↓hq1a, k4, decide_false, beq_iff_eq]; rfl) ?_
          refine no (fun he => k4 (by rw [he])) ?_
          simp only [upd_app, Nat.reduceEqDiff, ↓reduceIte]
      · have k3' : ¬ ((a.settled.length : Int) = b.settled.length) := by omega
        refine vcE.ex (by simp (disch := first | assumption | omega | with_unfolding_all rfl) only [exC, exOps, exOp, wantedE, ↓reduceIte, ROp.run, evsE, evE, ty, Nat.reduceEqDiff, same, faddrA, Option.map_some, putE, loadA, rowA, List.getElem?_cons_zero, ↓hq0a, k1, List.getElem?_cons_succ, binA, intA, dec_true, beq_self_eq_true, ↓hq3a, k2, ↓hq4a, k3', decide_false, beq_iff_eq]; rfl) ?_
        refine no (fun he => k3 (by rw [he])) ?_
        simp only [upd_app, Nat.reduceEqDiff, ↓reduceIte]
    · have k2' : ¬ ((a.failed.length : Int) = b.failed.length) := by omega
      refine vcE.ex (by simp (disch := first | assumption | omega | with_unfolding_all rfl) only [exC, exOps, exOp, wantedE, ↓reduceIte, ROp.run, evsE, evE, ty, Nat.reduceEqDiff, same, faddrA, Option.map_some, putE, loadA, rowA, List.getElem?_cons_zero, ↓hq0a, k1, List.getElem?_cons_succ, binA, intA, dec_true, beq_self_eq_true, ↓hq3a, k2', decide_false, beq_iff_eq]; rfl) ?_
      refine no (fun he => k2 (by rw [he])) ?_
      simp only [upd_app, Nat.reduceEqDiff, ↓reduceIte]
  · have k1' : ¬ ((a.jobs.length : Int) = b.jobs.length) := by omega
    refine vcE.ex (by simp (disch := first | assumption | omega | with_unfolding_all rfl) only [exC, exOps, exOp, wantedE, ↓reduceIte, ROp.run, evsE, evE, ty, Nat.reduceEqDiff, same, faddrA, Option.map_some, putE, loadA, rowA, List.getElem?_cons_zero, ↓hq0a, List.getElem?_cons_succ, binA, intA, k1', decide_false, beq_iff_eq]; rfl) ?_
    refine no (fun he => k1 (by rw [he])) ?_
    simp only [upd_app, Nat.reduceEqDiff, ↓reduceIte]
end
section
open Go Go.Proofs

def TR1 : Tab := TR0.addR 74 (.cons .job (.cons .i64 (.cons .i64 .nil))) fun p => .rd true (.bool (okJ p.2.1 p.2.2.1 p.1))
theorem TR1_ok : TabOk Try.prog TR1 := TabOk.addR TR0_ok fun p => rJob p.1 p.2.1 p.2.2.1
theorem TR1_job (j : Job) (b n : Int) : TR1 74 [.agg j.c, .int .i64 b, .int .i64 n] = some (.rd true (.bool (okJ b n j))) := rfl
theorem TR1_ne {g : FuncId} {xs : List AV} (h : Nat.beq g 74 = false) : TR1 g xs = TR0 g xs := Tab.addR_ne _ _ _ _ h _
/-- Appending a frozen list, perhaps empty. -/
theorem bld_app {hp : HP} {id : Nat} {L : List Act} (h : BldAt encA hp id 23 L) (m : List Act) (hb : (L.length + m.length) * 72 ≤ 140737488355328) (hi : L ≠ [] → id ≠ 0) :
    ∃ id' hp', appA 23 5 72 hp (bld id L.length 5) (encA.S m) = some (bld id' (L ++ m).length 5, hp') ∧ BldAt encA hp' id' 23 (L ++ m) ∧ (L ++ m ≠ [] → id' ≠ 0 ∨ hp.length = 0) ∧ (∀ x, hp[0]? = some x → hp'[0]? = some x) := by
  by_cases hm : m.length = 0
  · obtain rfl := List.eq_nil_of_length_eq_zero hm
    refine ⟨id, hp, ?_, by rw [List.append_nil]; exact h, fun hne => .inl (hi (by simpa using hne)), fun _ h => h⟩
    rw [List.append_nil]
    have hs : srcA hp 5 (encA.S []) = some ([], 0) := encA.S_src hp []
    unfold bld
    split
    · simp only [appA, hs, if_true]
    · simp only [appA, hs, if_true]
  · have := h.more (m := m) (bytes := 72) (encA.S_src hp m) (by omega) hb (by omega)
    refine ⟨_, _, this, BldAt.moreAt encA hp id L.length 23 (L ++ m), fun _ => ?_, fun x hx => bldH_other hx ?_⟩
    · by_cases h0 : hp.length = 0
      · exact .inr h0
      · exact .inl h0
    · by_cases hL : L = []
      · subst hL
        exact .inl rfl
      · exact .inr (Ne.symm (hi hL))
section
variable {hint : Nat → Nat} {q : Que} {tm : Env} {hp : HP}
theorem rcheck_job (hjl : q.jobs.length ≤ 32) {i : Nat} {j : Job} (hj : q.jobs[i]? = some j) {a : Int} (h0 : hp[0]? = some (some (.row 29 q.c))) (t1 : tm 1 = .ptr 0 0) (t4 : tm 4 = .int .i64 a) (t5 : tm 5 = .int .i64 i) {id : Nat} (t3 : tm 3 = bld id ((q.jobs.take i).map (·.act)).length 5) (hB : BldAt encA hp id 23 ((q.jobs.take i).map (·.act))) (hid : i = 0 ∨ id ≠ 0) :
    vcE Try.prog hint TR1 113 b29_0 tm hp fun e tm' hp' => (okJ a q.next j = false ∧ e = .ret ∧ tm' 2 = .int .i64 2) ∨ (okJ a q.next j = true ∧ e = .normal ∧ hp'[0]? = some (some (.row 29 q.c)) ∧ tm' 1 = .ptr 0 0 ∧ tm' 4 = .int .i64 j.txn ∧ tm' 5 = .int .i64 ((i + 1 : Nat) : Int) ∧ ∃ id', tm' 3 = bld id' ((q.jobs.take (i + 1)).map (·.act)).length 5 ∧ BldAt encA hp' id' 23 ((q.jobs.take (i + 1)).map (·.act)) ∧ id' ≠ 0) := by
  have hi := (List.getElem?_eq_some_iff.1 hj).1
  have hcl : True := trivial
  have hq0 : pickA none q.c 0 = some (encJ.S q.jobs) := rfl
  have hq1 : pickA none q.c 1 = some (.int .i64 q.next) := rfl
  have hia : iaddrA 10 (encJ.S q.jobs) (.int .i64 i) = some (.fptr (encJ.cs q.jobs) (i * 10)) := encJ.S_iaddr hi
  have hpk : pickA (some 10) (encJ.cs q.jobs) (i * 10) = some (.agg j.c) := encJ.pick hj
  have p0 : pickA none (encJ.cs q.jobs) (i * 10 + 0) = some (.int .i64 j.txn) := rj_part hj 0 (by omega)
  have p1 := encJ_act hj
  have hw : IntKind.wrap .i64 ((i : Int) + 1) = (i : Int) + 1 := wrap_i64 (by omega) (by omega)
  have c1 := TR1_job j a q.next
  have hlen : ((q.jobs.take i).map (·.act)).length = i := by rw [List.length_map, List.length_take]; omega
  have hstep : (q.jobs.take (i + 1)).map (·.act) = (q.jobs.take i).map (·.act) ++ [j.act] := by
    rw [List.take_add_one, hj, List.map_append]
    rfl
  have hlt : 0 < hp.length := get_lt h0
  generalize hL : (q.jobs.take i).map (·.act) = L at *
  have hB2 := hB.app [some (.row 23 j.act.c)]
  have hmore : appA 23 5 72 (hp ++ [some (.row 23 j.act.c)]) (bld id L.length 5) (.sl hp.length 0 1 5 1 true) = some (bld (hp.length + 1) (L ++ [j.act]).length 5, bldH (hp ++ [some (.row 23 j.act.c)]) id L.length (.row 23 (encA.cs (L ++ [j.act])))) := by
    have hg : (hp ++ [some (Blk.row 23 j.act.c)])[hp.length]? = some (some (.row 23 (encA.cs [j.act]))) := by simp [Enc.cs, encA]
    have := hB2.more (m := [j.act]) (bytes := 72) (encA.sl_src (lo := 1) (ex := true) hg) (by simp) (by simp only [List.length_cons, List.length_nil]; omega) (by simp only [List.length_cons, List.length_nil]; omega)
    rw [show (hp ++ [some (Blk.row 23 j.act.c)]).length = hp.length + 1 by simp] at this
    exact this
  cases hk : okJ a q.next j <;> rw [hk] at c1
  · refine vcE.ex (by simp (disch := first | assumption | omega | with_unfolding_all rfl) only [exC, exOps, exOp, wantedE, ↓reduceIte, ROp.run, evsE, evE, t5, putE, ty, Nat.reduceEqDiff, t1, same, faddrA, Option.map_some, loadA, rowA, h0, ↓hq0, binA, intA, dec_true, chain, ordered, List.getElem?_cons_zero, List.getElem?_cons_succ, hia, ↓hpk, t4, ↓hq1, List.append_nil, frzL, frz_agg, jobL_frz, tz, c1, Cls.isFree, callCls, nidL, jobL_nid, unA, cond_true]; rfl) ?_
    refine .inl ⟨rfl, rfl, ?_⟩
    simp only [upd_app, Nat.reduceEqDiff, ↓reduceIte]
  · have hcc : cellsA (.agg j.act.c) = j.act.c := rfl
    refine vcE.ex (by simp (disch := first | assumption | omega | with_unfolding_all rfl) only [exC, exOps, exOp, wantedE, ↓reduceIte, ROp.run, evsE, evE, t5, putE, ty, Nat.reduceEqDiff, t1, same, faddrA, Option.map_some, loadA, rowA, h0, ↓hq0, binA, intA, dec_true, chain, ordered, List.getElem?_cons_zero, List.getElem?_cons_succ, hia, ↓hpk, t4, ↓hq1, List.append_nil, frzL, frz_agg, jobL_frz, tz, c1, Cls.isFree, callCls, nidL, jobL_nid, unA, cond_true, ↓p0, t3, ↓p1, bslA, hcc, Act.c_len, beq_self_eq_true, List.length_cons, List.length_nil, flatA, List.flatMap_cons, List.flatMap_nil, ↓hmore, hw]; rfl) ?_
    rw [hstep]
    refine .inr ⟨rfl, rfl, ?_, ?_, ?_, ?_, hp.length + 1, ?_, ?_, by omega⟩
    · refine bldH_other (app_get h0) ?_
      rcases hid with rfl | hid
      · left; exact hlen
      · right; exact Ne.symm hid
    · simp only [upd_app, Nat.reduceEqDiff, ↓reduceIte, t1]
    · simp only [upd_app, Nat.reduceEqDiff, ↓reduceIte]
    · simp only [upd_app, Nat.reduceEqDiff, ↓reduceIte]; rfl
    · simp only [upd_app, Nat.reduceEqDiff, ↓reduceIte]
    · have := BldAt.moreAt encA (hp ++ [some (.row 23 j.act.c)]) id L.length 23 (L ++ [j.act])
      simpa using this

theorem rcheck_pair {L : List Act} (hL : L.length ≤ 4611686018427387904) {i : Nat} {x : Act} (hx : L[i]? = some x) {id : Nat} (hrow : hp[id]? = some (some (.row 23 (encA.cs L)))) (t1 : tm 1 = .ptr 0 0) (t3 : tm 3 = .sl id 0 L.length 5 L.length false) (t6 : tm 6 = .int .i64 i) :
    vcE Try.prog hint TR1 113 (IC.seq (IC.reg r29_17) (IC.block 4 (IC.loop b29_1))) tm hp fun e tm' hp' => ((L.take i).any (fun b => x.alike b) = true ∧ e = .ret ∧ tm' 2 = .int .i64 2) ∨ ((L.take i).any (fun b => x.alike b) = false ∧ e = .normal ∧ hp' = hp ∧ tm' 1 = .ptr 0 0 ∧ tm' 3 = .sl id 0 L.length 5 L.length false ∧ tm' 6 = .int .i64 i) := by
  have hcl : True := trivial
  have hi := (List.getElem?_eq_some_iff.1 hx).1
  have at_ : ∀ k, k < L.length → iaddrA 5 (.sl id 0 L.length 5 L.length false) (.int .i64 k) = some (.ptr id (k * 5)) := fun k hk => by
    have := iaddr_sl (id := id) (off := 0) (sz := 5) (lo := L.length) (ex := false) (k := .i64) hk
    simpa using this
  have hix := at_ i hi
  have hlx : loadA hp (some 5) (.ptr id (i * 5)) = some (.agg x.c) := encA.sl_load hrow hx
  refine vcE.step (by simp (disch := first | assumption | omega | with_unfolding_all rfl) only [exC, exOps, exOp, wantedE, ↓reduceIte, ROp.run, evsE, evE, putE]; rfl) (vcE.block (vcE.count (by intro l tm hp h; simp at h)
    (fun k tm hp' => hp' = hp ∧ tm 1 = .ptr 0 0 ∧ tm 3 = .sl id 0 L.length 5 L.length false ∧ tm 6 = .int .i64 i ∧ tm 7 = .int .i64 k ∧ (L.take k).any (fun b => x.alike b) = false) i ⟨rfl, ?_, ?_, ?_, rfl, rfl⟩ ?_ ?_))
  · simp only [upd_app, Nat.reduceEqDiff, ↓reduceIte, t1]
  · simp only [upd_app, Nat.reduceEqDiff, ↓reduceIte, t3]
  · simp only [upd_app, Nat.reduceEqDiff, ↓reduceIte, t6]
  · rintro k tm hp' hk ⟨rfl, t1, t3, t6, t7, hall⟩
    obtain ⟨y, hy⟩ : ∃ y, L[k]? = some y := ⟨_, List.getElem?_eq_getElem (by omega)⟩
    have hiy := at_ k (by omega)
    have hly : loadA hp' (some 5) (.ptr id (k * 5)) = some (.agg y.c) := encA.sl_load hrow hy
    have hw : IntKind.wrap .i64 ((k : Int) + 1) = (k : Int) + 1 := wrap_i64 (by omega) (by omega)
    have c1 : TR1 39 [.agg x.c, .agg y.c] = _ := (TR1_ne rfl).trans (TR0_alike x y)
    cases ha : x.alike y <;> rw [ha] at c1
    · refine vcE.ex (by simp (disch := first | assumption | omega | with_unfolding_all rfl) only [exC, exOps, exOp, wantedE, ↓reduceIte, ROp.run, evsE, evE, t7, putE, ty, Nat.reduceEqDiff, t6, same, binA, intA, dec_true, Option.map_some, chain, ordered, List.getElem?_cons_zero, List.getElem?_cons_succ, t3, hix, ↓hlx, hiy, ↓hly, List.append_nil, frzL, frz_agg, actL_frz, c1, Cls.isFree, callCls, nidL, tz, actL_nid, cond_true, hw]; rfl) ?_
      refine ⟨rfl, ?_, ?_, ?_, ?_, ?_⟩
      · simp only [upd_app, Nat.reduceEqDiff, ↓reduceIte, t1]
      · simp only [upd_app, Nat.reduceEqDiff, ↓reduceIte, t3]
      · simp only [upd_app, Nat.reduceEqDiff, ↓reduceIte, t6]
      · simp only [upd_app, Nat.reduceEqDiff, ↓reduceIte]; rfl
      · rw [List.take_add_one, hy, List.any_append, hall]
        simp [ha]
    · refine vcE.ex (by simp (disch := first | assumption | omega | with_unfolding_all rfl) only [exC, exOps, exOp, wantedE, ↓reduceIte, ROp.run, evsE, evE, t7, putE, ty, Nat.reduceEqDiff, t6, same, binA, intA, dec_true, Option.map_some, chain, ordered, List.getElem?_cons_zero, List.getElem?_cons_succ, t3, hix, ↓hlx, hiy, ↓hly, List.append_nil, frzL, frz_agg, actL_frz, c1, Cls.isFree, callCls, nidL, tz, actL_nid, cond_true]; rfl) ?_
      refine .inl ⟨?_, rfl, ?_⟩
      · rw [List.any_eq_true]
        refine ⟨y, ?_, ha⟩
        rw [List.mem_iff_getElem?]
        exact ⟨k, by rw [List.getElem?_take, if_pos hk]; exact hy⟩
      · simp only [upd_app, Nat.reduceEqDiff, ↓reduceIte]
  · rintro tm hp' ⟨rfl, t1, t3, t6, t7, hall⟩
    refine vcE.ex (by simp (disch := first | assumption | omega | with_unfolding_all rfl) only [exC, exOps, exOp, wantedE, ↓reduceIte, ROp.run, evsE, evE, t7, putE, ty, Nat.reduceEqDiff, t6, same, binA, intA, dec_false, Option.map_some]; rfl) ?_
    refine .inr ⟨hall, rfl, rfl, ?_, ?_, ?_⟩
    · simp only [upd_app, Nat.reduceEqDiff, ↓reduceIte, t1]
    · simp only [upd_app, Nat.reduceEqDiff, ↓reduceIte, t3]
    · simp only [upd_app, Nat.reduceEqDiff, ↓reduceIte, t6]

theorem rcheck_act {L : List Act} (hL : L.length ≤ 4611686018427387904) {i : Nat} {x : Act} (hx : L[i]? = some x) {id : Nat} (hrow : hp[id]? = some (some (.row 23 (encA.cs L)))) (t1 : tm 1 = .ptr 0 0) (t3 : tm 3 = .sl id 0 L.length 5 L.length false) (t6 : tm 6 = .int .i64 i) :
    vcE Try.prog hint TR1 113 b29_2 tm hp fun e tm' hp' => ((x.known && !(L.take i).any (fun b => x.alike b)) = false ∧ e = .ret ∧ tm' 2 = .int .i64 2) ∨ ((x.known && !(L.take i).any (fun b => x.alike b)) = true ∧ e = .normal ∧ hp' = hp ∧ tm' 1 = .ptr 0 0 ∧ tm' 3 = .sl id 0 L.length 5 L.length false ∧ tm' 6 = .int .i64 ((i + 1 : Nat) : Int)) := by
  have hcl : True := trivial
  have hi := (List.getElem?_eq_some_iff.1 hx).1
  have hix : iaddrA 5 (.sl id 0 L.length 5 L.length false) (.int .i64 i) = some (.ptr id (i * 5)) := by
    have := iaddr_sl (id := id) (off := 0) (sz := 5) (lo := L.length) (ex := false) (k := .i64) hi
    simpa using this
  have hkd : loadA hp none (.ptr id (i * 5 + 0)) = some (.int .i64 x.kind) := by
    have hp0 := encA.pick_part hx (sh := none) (o := 0) (by show 0 + 1 ≤ 5; omega)
    rw [show encA.sz = 5 from rfl] at hp0
    simp only [loadA, rowA, hrow]
    rw [hp0]
    rfl
  have hw : IntKind.wrap .i64 ((i : Int) + 1) = (i : Int) + 1 := wrap_i64 (by omega) (by omega)
  have c1 : TR1 75 [.int .i64 x.kind] = _ := (TR1_ne rfl).trans (TR0_known x.kind)
  rw [show (decide (1 ≤ x.kind) && decide (x.kind ≤ 4)) = x.known from rfl] at c1
  refine vcE.step (by simp (disch := first | assumption | omega | with_unfolding_all rfl) only [exC, exOps, exOp, wantedE, ↓reduceIte, ROp.run, evsE, evE, t6, putE, ty, Nat.reduceEqDiff, t3, tz, same, Option.map_some, binA, intA, dec_true]; rfl) ?_
  cases hk : x.known <;> rw [hk] at c1
  · refine vcE.ex (by simp (disch := first | assumption | omega | with_unfolding_all rfl) only [exC, exOps, exOp, wantedE, ↓reduceIte, ROp.run, evsE, evE, ty, Nat.reduceEqDiff, t3, putE, t6, same, hix, Option.map_some, faddrA, ↓hkd, List.append_nil, frzL, tz, c1, Cls.isFree, callCls, nidL, unA]; rfl) ?_
    refine .inl ⟨rfl, rfl, ?_⟩
    simp only [upd_app, Nat.reduceEqDiff, ↓reduceIte]
  · refine vcE.seq (vcE.block (vcE.step (by simp (disch := first | assumption | omega | with_unfolding_all rfl) only [exC, exOps, exOp, wantedE, ↓reduceIte, ROp.run, evsE, evE, ty, Nat.reduceEqDiff, t3, putE, t6, same, hix, Option.map_some, faddrA, ↓hkd, List.append_nil, frzL, tz, c1, Cls.isFree, callCls, nidL, unA]; rfl) ?_))
    refine (rcheck_pair hL hx hrow ?_ ?_ ?_).mono ?_
    · simp only [upd_app, Nat.reduceEqDiff, ↓reduceIte, t1]
    · simp only [upd_app, Nat.reduceEqDiff, ↓reduceIte, t3]
    · simp only [upd_app, Nat.reduceEqDiff, ↓reduceIte, t6]
    rintro e tm' hp' (⟨h, rfl, h2⟩ | ⟨h, rfl, rfl, k1, k3, k6⟩)
    · exact .inl ⟨by rw [h]; rfl, rfl, h2⟩
    · refine vcE.ex (by simp (disch := first | assumption | omega | with_unfolding_all rfl) only [exC, exOps, exOp, wantedE, ↓reduceIte, ROp.run, evsE, evE, k6, putE, ty, same, binA, intA, hw, Option.map_some]; rfl) ?_
      refine .inr ⟨by rw [h]; rfl, rfl, rfl, ?_, ?_, ?_⟩
      · simp only [upd_app, Nat.reduceEqDiff, ↓reduceIte, k1]
      · simp only [upd_app, Nat.reduceEqDiff, ↓reduceIte, k3]
      · simp only [upd_app, Nat.reduceEqDiff, ↓reduceIte]; rfl
end

theorem rCheck (q : Que) (hq : Fits q) : PCF Try.prog 29 [.agg q.c] (.int .i64 q.check) := by
  refine pcf_e hmG TR1_ok comp29 (by decide) (by simp) (nidL_ok (by rw [nidL, queN]; rfl)) ?_
  have hcl : True := trivial
  have hq0 : pickA none q.c 0 = some (encJ.S q.jobs) := rfl
  have hq1 : pickA none q.c 1 = some (.int .i64 q.next) := rfl
  have hq2 : pickA none q.c 2 = some (.int .i64 q.now) := rfl
  have hq3 : pickA none q.c 3 = some (encA.S q.failed) := rfl
  have hq4 : pickA none q.c 4 = some (encA.S q.settled) := rfl
  have bad : ∀ {tm : Env} {hp : HP}, q.valid = false → tm 2 = .int .i64 2 → RetE [.t 2] (fun r' hp' => fresh hp' r' = some (.int .i64 q.check)) .ret tm hp := by
    intro tm hp h h2
    refine ⟨_, by simp only [resE, resEL, resE1, h2]; rfl, ?_⟩
    simp only [Que.check, h, Bool.false_eq_true, if_false]
    rfl
  have inv : (Valid q → False) → q.valid = false := fun h => by
    cases hv : q.valid
    · rfl
    · exact (h (valid_iff.1 hv)).elim
  refine vcE.step (by simp (disch := first | assumption | omega | with_unfolding_all rfl) only [exC, exOps, exOp, wantedE, ↓reduceIte, ROp.run, evsE, evE, ty, List.getD_cons_zero, tz, List.length_nil, List.nil_append, putE]; rfl) ?_
  by_cases h1 : q.jobs.length ≤ 32
  case neg =>
    have n_h1 : ((q.jobs.length : Int) > 32) := by omega
    refine vcE.ex (by simp (disch := first | assumption | omega | with_unfolding_all rfl) only [exC, exOps, exOp, wantedE, ↓reduceIte, ROp.run, evsE, evE, ty, Nat.reduceEqDiff, same, faddrA, Option.map_some, putE, loadA, rowA, List.getElem?_cons_zero, ↓hq0, binA, intA, n_h1, dec_true, beq_iff_eq]; rfl) ?_
    refine bad (inv fun v => h1 v.nj) ?_
    simp only [upd_app, Nat.reduceEqDiff, ↓reduceIte]
  have n_h1 : ¬ ((q.jobs.length : Int) > 32) := by omega
  by_cases h2 : 1 ≤ q.next
  case neg =>
    have n_h2 : (q.next < 1) := by omega
    refine vcE.ex (by simp (disch := first | assumption | omega | with_unfolding_all rfl) only [exC, exOps, exOp, wantedE, ↓reduceIte, ROp.run, evsE, evE, ty, Nat.reduceEqDiff, same, faddrA, Option.map_some, putE, loadA, rowA, List.getElem?_cons_zero, ↓hq0, binA, intA, n_h1, decide_false, beq_self_eq_true, ↓hq1, n_h2, dec_true, beq_iff_eq]; rfl) ?_
    refine bad (inv fun v => h2 v.n1) ?_
    simp only [upd_app, Nat.reduceEqDiff, ↓reduceIte]
  have n_h2 : ¬ (q.next < 1) := by omega
  by_cases h3 : q.next ≤ 1152921504606846976
  case neg =>
    have n_h3 : (q.next > 1152921504606846976) := by omega
    refine vcE.ex (by simp (disch := first | assumption | omega | with_unfolding_all rfl) only [exC, exOps, exOp, wantedE, ↓reduceIte, ROp.run, evsE, evE, ty, Nat.reduceEqDiff, same, faddrA, Option.map_some, putE, loadA, rowA, List.getElem?_cons_zero, ↓hq0, binA, intA, n_h1, decide_false, beq_self_eq_true, ↓hq1, n_h2, n_h3, dec_true, beq_iff_eq]; rfl) ?_
    refine bad (inv fun v => h3 v.n2) ?_
    simp only [upd_app, Nat.reduceEqDiff, ↓reduceIte]
  have n_h3 : ¬ (q.next > 1152921504606846976) := by omega
  by_cases h4 : 0 ≤ q.now
  case neg =>
    have n_h4 : (q.now < 0) := by omega
    refine vcE.ex (by simp (disch := first | assumption | omega | with_unfolding_all rfl) only [exC, exOps, exOp, wantedE, ↓reduceIte, ROp.run, evsE, evE, ty, Nat.reduceEqDiff, same, faddrA, Option.map_some, putE, loadA, rowA, List.getElem?_cons_zero, ↓hq0, binA, intA, n_h1, decide_false, beq_self_eq_true, ↓hq1, n_h2, n_h3, ↓hq2, n_h4, dec_true, beq_iff_eq]; rfl) ?_
    refine bad (inv fun v => h4 v.t1) ?_
    simp only [upd_app, Nat.reduceEqDiff, ↓reduceIte]
  have n_h4 : ¬ (q.now < 0) := by omega
  by_cases h5 : q.now ≤ 1152921504606846976
  case neg =>
    have n_h5 : (q.now > 1152921504606846976) := by omega
    refine vcE.ex (by simp (disch := first | assumption | omega | with_unfolding_all rfl) only [exC, exOps, exOp, wantedE, ↓reduceIte, ROp.run, evsE, evE, ty, Nat.reduceEqDiff, same, faddrA, Option.map_some, putE, loadA, rowA, List.getElem?_cons_zero, ↓hq0, binA, intA, n_h1, decide_false, beq_self_eq_true, ↓hq1, n_h2, n_h3, ↓hq2, n_h4, n_h5, dec_true, beq_iff_eq]; rfl) ?_
    refine bad (inv fun v => h5 v.t2) ?_
    simp only [upd_app, Nat.reduceEqDiff, ↓reduceIte]
  have n_h5 : ¬ (q.now > 1152921504606846976) := by omega
  by_cases h6 : q.failed.length ≤ 64
  case neg =>
    have n_h6 : ((q.failed.length : Int) > 64) := by omega
    refine vcE.ex (by simp (disch := first | assumption | omega | with_unfolding_all rfl) only [exC, exOps, exOp, wantedE, ↓reduceIte, ROp.run, evsE, evE, ty, Nat.reduceEqDiff, same, faddrA, Option.map_some, putE, loadA, rowA, List.getElem?_cons_zero, ↓hq0, binA, intA, n_h1, decide_false, beq_self_eq_true, ↓hq1, n_h2, n_h3, ↓hq2, n_h4, n_h5, ↓hq3, n_h6, dec_true, beq_iff_eq]; rfl) ?_
    refine bad (inv fun v => h6 v.nf) ?_
    simp only [upd_app, Nat.reduceEqDiff, ↓reduceIte]
  have n_h6 : ¬ ((q.failed.length : Int) > 64) := by omega
  by_cases h7 : q.settled.length ≤ 64
  case neg =>
    have n_h7 : ((q.settled.length : Int) > 64) := by omega
    refine vcE.ex (by simp (disch := first | assumption | omega | with_unfolding_all rfl) only [exC, exOps, exOp, wantedE, ↓reduceIte, ROp.run, evsE, evE, ty, Nat.reduceEqDiff, same, faddrA, Option.map_some, putE, loadA, rowA, List.getElem?_cons_zero, ↓hq0, binA, intA, n_h1, decide_false, beq_self_eq_true, ↓hq1, n_h2, n_h3, ↓hq2, n_h4, n_h5, ↓hq3, n_h6, ↓hq4, n_h7, dec_true]; rfl) ?_
    refine bad (inv fun v => h7 v.ns) ?_
    simp only [upd_app, Nat.reduceEqDiff, ↓reduceIte]
  have n_h7 : ¬ ((q.settled.length : Int) > 64) := by omega
  refine vcE.step (by simp (disch := first | assumption | omega | with_unfolding_all rfl) only [exC, exOps, exOp, wantedE, ↓reduceIte, ROp.run, evsE, evE, ty, Nat.reduceEqDiff, same, faddrA, Option.map_some, putE, loadA, rowA, List.getElem?_cons_zero, ↓hq0, binA, intA, n_h1, decide_false, beq_self_eq_true, ↓hq1, n_h2, n_h3, ↓hq2, n_h4, n_h5, ↓hq3, n_h6, ↓hq4, n_h7]; rfl) (vcE.step (by simp (disch := first | assumption | omega | with_unfolding_all rfl) only [exC, exOps, exOp, wantedE, ↓reduceIte, ROp.run, evsE, evE, putE]; rfl) (vcE.step (by simp (disch := first | assumption | omega | with_unfolding_all rfl) only [exC, exOps, exOp, wantedE, ↓reduceIte, ROp.run, evsE, evE, putE]; rfl) ?_))
  refine vcE.then (fun e tm hp => (e = .ret ∧ tm 2 = .int .i64 2 ∧ q.valid = false) ∨ (e = .normal ∧ hp[0]? = some (some (.row 29 q.c)) ∧ tm 1 = .ptr 0 0 ∧ (∀ k j, q.jobs[k]? = some j → okJ (ahead q.jobs k) q.next j = true) ∧ ∃ id, tm 3 = bld id (q.jobs.map (·.act)).length 5 ∧ BldAt encA hp id 23 (q.jobs.map (·.act)) ∧ (q.jobs.map (·.act) ≠ [] → id ≠ 0))) ?_ ?_
  · refine vcE.step (by simp (disch := first | assumption | omega | with_unfolding_all rfl) only [exC, exOps, exOp, wantedE, ↓reduceIte, ROp.run, evsE, evE, putE]; rfl) (vcE.block (vcE.count (by intro l tm hp h; simp at h)
      (fun i tm hp => hp[0]? = some (some (.row 29 q.c)) ∧ tm 1 = .ptr 0 0 ∧ tm 4 = .int .i64 (ahead q.jobs i) ∧ tm 5 = .int .i64 i ∧ (∃ id, tm 3 = bld id ((q.jobs.take i).map (·.act)).length 5 ∧ BldAt encA hp id 23 ((q.jobs.take i).map (·.act)) ∧ (i = 0 ∨ id ≠ 0)) ∧ ∀ k j, k < i → q.jobs[k]? = some j → okJ (ahead q.jobs k) q.next j = true) q.jobs.length ⟨rfl, ?_, ?_, rfl, ⟨0, rfl, BldAt.nil _ _ _ _, .inl rfl⟩, by omega⟩ ?_ ?_))
    · simp only [upd_app, Nat.reduceEqDiff, ↓reduceIte]
    · simp only [upd_app, Nat.reduceEqDiff, ↓reduceIte]
      rfl
    · rintro i tm hp hi ⟨h0, t1, t4, t5, ⟨id, t3, hB, hid⟩, hall⟩
      obtain ⟨j, hj⟩ : ∃ j, q.jobs[i]? = some j := ⟨_, List.getElem?_eq_getElem hi⟩
      refine (rcheck_job h1 hj h0 t1 t4 t5 t3 hB hid).mono ?_
      rintro e tm' hp' (⟨h, rfl, k2⟩ | ⟨h, rfl, k0, k1, k4, k5, id', k3, kB, kid⟩)
      · refine .inl ⟨rfl, k2, inv fun v => ?_⟩
        have h5 := v.js j (List.mem_of_getElem? hj)
        have h6 := v.kn j.act (List.mem_append_left _ (List.mem_map.2 ⟨j, List.mem_of_getElem? hj, rfl⟩))
        have h7 : ahead q.jobs i < j.txn := by
          unfold ahead
          split
          · exact h5.1
          · rename_i hne
            have hprev : q.jobs[i - 1]? = some q.jobs[i - 1] := List.getElem?_eq_getElem (by omega)
            rw [List.getD_eq_getElem?_getD, hprev]
            have := (List.pairwise_iff_getElem.1 v.up) (i - 1) i (by omega) hi (by omega)
            rw [List.getElem?_eq_getElem hi] at hj
            rw [Option.some.inj hj] at this
            exact this
        have : okJ (ahead q.jobs i) q.next j = true := by
          simp only [okJ, h7, h5.2.1, h6, h5.2.2.1, h5.2.2.2.1, h5.2.2.2.2.1, h5.2.2.2.2.2, decide_true, Bool.and_self]
        rw [h] at this
        cases this
      · refine ⟨k0, k1, ?_, k5, ⟨id', k3, kB, .inr kid⟩, ?_⟩
        · rw [k4, ahead, if_neg (by omega), Nat.add_sub_cancel, List.getD_eq_getElem?_getD, hj]
          rfl
        · intro k x hk hx
          by_cases hki : k = i
          · subst hki
            rw [hj] at hx
            cases hx
            exact h
          · exact hall k x (by omega) hx
    · rintro tm hp ⟨h0, t1, t4, t5, ⟨id, t3, hB, hid⟩, hall⟩
      rw [List.take_length] at t3 hB
      refine vcE.ex (by simp (disch := first | assumption | omega | with_unfolding_all rfl) only [exC, exOps, exOp, wantedE, ↓reduceIte, ROp.run, evsE, evE, t5, putE, ty, Nat.reduceEqDiff, t1, same, faddrA, Option.map_some, loadA, rowA, h0, ↓hq0, binA, intA, dec_false]; rfl) ?_
      refine .inr ⟨rfl, h0, ?_, fun k j hj => hall k j (List.getElem?_eq_some_iff.1 hj).1 hj, id, ?_, hB, fun hne => ?_⟩
      · simp only [upd_app, Nat.reduceEqDiff, ↓reduceIte, t1]
      · simp only [upd_app, Nat.reduceEqDiff, ↓reduceIte, t3]
      · rcases hid with h | h
        · rw [List.eq_nil_of_length_eq_zero h] at hne
          exact absurd rfl hne
        · exact h
  rintro e tm hp (⟨rfl, k2, hv⟩ | ⟨rfl, h0, t1, hjs, id, t3, hB, hid⟩)
  · exact bad hv k2
  have hjl : (q.jobs.map (·.act)).length = q.jobs.length := List.length_map _
  have hp0 : 0 < hp.length := get_lt h0
  obtain ⟨id1, hp1, a1, b1, i1, o1⟩ := bld_app hB q.failed (by omega) hid
  have l1 : (q.jobs.map (·.act) ++ q.failed).length = q.jobs.length + q.failed.length := by rw [List.length_append, hjl]
  obtain ⟨id2, hp2, a2, b2, i2, o2⟩ := bld_app b1 q.settled (by rw [l1]; omega) (fun h => (i1 h).resolve_right (by omega))
  have h01 := o1 _ h0
  have h02 := o2 _ h01
  have hacts : q.jobs.map (·.act) ++ q.failed ++ q.settled = q.acts := by rw [List.append_assoc]; rfl
  have lA : q.acts.length ≤ 4611686018427387904 := by rw [← hacts, List.length_append, l1]; omega
  rw [hacts] at a2 b2
  refine vcE.seq (vcE.forks (fun tm' hp' => tm' 1 = .ptr 0 0 ∧ tm' 3 = bld id2 q.acts.length 5 ∧ hp' = hp2) ?_ ?_)
  · repeat' (first | with_reducible exact exTs_nil | with_reducible refine exT_fork ?_ | (with_reducible show exT _ _ _ (Tr.take _ _) _ _ _; refine exT_take rfl (by simp (disch := first | assumption | omega | with_unfolding_all rfl) only [exOp, wantedE, ↓reduceIte, ROp.run, evsE, evE, t3, putE, ty, Nat.reduceEqDiff, t1, same, faddrA, Option.map_some, loadA, rowA, h0, ↓hq3, h01, ↓hq4, ↓a2, ↓a1]; rfl) ?_) | (with_reducible show exTs _ _ _ (_ :: _) _ _ _; refine exTs_cons rfl (by simp (disch := first | assumption | omega | with_unfolding_all rfl) only [exOp, wantedE, ↓reduceIte, ROp.run, evsE, evE, ty, Nat.reduceEqDiff, ↓a1, putE, same, loadA, rowA, h0, ↓hq4, Option.map_some]; rfl) ?_ ?_))
    all_goals (with_reducible refine exT_done ?_)
    all_goals refine ⟨?_, ?_, ?_⟩
    all_goals simp only [upd_app, Nat.reduceEqDiff, ↓reduceIte, t1]
  rintro tm' hp' ⟨t1, t3, rfl⟩
  refine vcE.then (fun e tm hp => (e = .ret ∧ tm 2 = .int .i64 2 ∧ q.valid = false) ∨ (e = .normal ∧ hp = hp' ∧ tm 1 = .ptr 0 0 ∧ ∀ k x, q.acts[k]? = some x → (x.known && !(q.acts.take k).any (fun b => x.alike b)) = true)) ?_ ?_
  · refine vcE.step (by simp (disch := first | assumption | omega | with_unfolding_all rfl) only [exC, exOps, exOp, wantedE, ↓reduceIte, ROp.run, evsE, evE, putE]; rfl) (vcE.block (vcE.count (by intro l tm hp h; simp at h)
      (fun i tm hp => hp = hp' ∧ tm 1 = .ptr 0 0 ∧ tm 3 = bld id2 q.acts.length 5 ∧ tm 6 = .int .i64 i ∧ ∀ k x, k < i → q.acts[k]? = some x → (x.known && !(q.acts.take k).any (fun b => x.alike b)) = true) q.acts.length ⟨rfl, ?_, ?_, rfl, by omega⟩ ?_ ?_))
    · simp only [upd_app, Nat.reduceEqDiff, ↓reduceIte, t1]
    · simp only [upd_app, Nat.reduceEqDiff, ↓reduceIte, t3]
    · rintro i tm hp hi ⟨rfl, t1, t3, t6, hall⟩
      obtain ⟨x, hx⟩ : ∃ x, q.acts[i]? = some x := ⟨_, List.getElem?_eq_getElem hi⟩
      have hpos := bld_pos (id := id2) (len := q.acts.length) (sz := 5) (by omega)
      have hrow := b2.resolve_left (fun h => by rw [h] at hi; simp at hi)
      rw [hpos] at t3
      refine (rcheck_act lA hx hrow t1 t3 t6).mono ?_
      rintro e tm' hp' (⟨h, rfl, k2⟩ | ⟨h, rfl, rfl, k1, k3, k6⟩)
      · refine .inl ⟨rfl, k2, ?_⟩
        cases hv : q.valid
        · rfl
        · simp only [Que.valid, Bool.and_eq_true] at hv
          have := okActs_at i hv.2.2.2 x hx
          rw [List.nil_append, h] at this
          cases this
      · refine ⟨rfl, k1, by rw [k3, hpos], k6, ?_⟩
        intro k y hk hy
        by_cases hki : k = i
        · subst hki
          rw [hx] at hy
          cases hy
          exact h
        · exact hall k y (by omega) hy
    · rintro tm hp ⟨rfl, t1, t3, t6, hall⟩
      refine vcE.ex (by simp (disch := first | assumption | omega | with_unfolding_all rfl) only [exC, exOps, exOp, wantedE, ↓reduceIte, ROp.run, evsE, evE, t6, putE, ty, Nat.reduceEqDiff, t3, bld_fits, same, bld_len, Option.map_some, binA, intA, dec_false]; rfl) ?_
      refine .inr ⟨rfl, rfl, ?_, fun k x hx => hall k x (List.getElem?_eq_some_iff.1 hx).1 hx⟩
      simp only [upd_app, Nat.reduceEqDiff, ↓reduceIte, t1]
  rintro e tm hp (⟨rfl, k2, hv⟩ | ⟨rfl, rfl, t1, has⟩)
  · exact bad hv k2
  have c1 : TR1 76 [.agg q.c] = _ := (TR1_ne rfl).trans (TR0_flying hq.j)
  by_cases h8 : flyers q.jobs ≤ 4
  · have n8 : ¬ ((flyers q.jobs : Int) > 4) := by omega
    refine vcE.ex (by simp (disch := first | assumption | omega | with_unfolding_all rfl) only [exC, exOps, exOp, wantedE, ↓reduceIte, ROp.run, evsE, evE, t1, same, loadA, rowA, h02, ↓pickQ, Option.map_some, putE, ty, List.append_nil, frzL, frz_agg, queL_frz, c1, Cls.isFree, callCls, nidL, tz, queL_nid, binA, intA, n8, decide_false]; rfl) ?_
    refine ⟨_, rfl, ?_⟩
    have hoj : okJobs q.next 0 q.jobs = true := okJobs_of fun k j hj => by
      have := hjs k j hj
      simp only [okJ, Bool.and_eq_true] at this
      simp only [okJob, Bool.and_eq_true]
      exact ⟨this.1, this.2.1, this.2.2.2⟩
    have hoa : okActs [] q.acts = true := okActs_of fun k x hx => by
      rw [List.nil_append]
      exact has k x hx
    have hv : q.valid = true := by simp only [Que.valid, Que.sized, hoj, hoa, h1, h2, h3, h4, h5, h6, h7, h8, decide_true, Bool.and_self]
    simp only [Que.check, hv, if_true]
    rfl
  · have n8 : ((flyers q.jobs : Int) > 4) := by omega
    refine vcE.ex (by simp (disch := first | assumption | omega | with_unfolding_all rfl) only [exC, exOps, exOp, wantedE, ↓reduceIte, ROp.run, evsE, evE, t1, same, loadA, rowA, h02, ↓pickQ, Option.map_some, putE, ty, List.append_nil, frzL, frz_agg, queL_frz, c1, Cls.isFree, callCls, nidL, tz, queL_nid, binA, intA, n8, dec_true]; rfl) ?_
    refine bad (inv fun v => h8 v.fl) ?_
    simp only [upd_app, Nat.reduceEqDiff, ↓reduceIte]
end
end Go.Gi
