/- Queues: Check. -/
import Derived.Test.YtakdhioafodhcaaGiQuI
set_option linter.unusedVariables false
set_option linter.unusedSimpArgs false
namespace Go.Gi
open Go Go.Proofs

/-- A job within bounds, behind a number. -/
def okJob (next ahead : Int) (j : Job) : Bool := decide (ahead < j.txn) && (decide (j.txn < next) && (decide (0 ≤ j.tries) && (decide (j.tries < 5) && (decide (0 ≤ j.at_) && decide (j.at_ ≤ 1152921504606847040)))))
theorem okJobs_cons (next ahead : Int) (j : Job) (l : List Job) : okJobs next ahead (j :: l) = (okJob next ahead j && okJobs next j.txn l) := rfl
/-- The number behind which the next job stands. -/
def ahead (l : List Job) (i : Nat) : Int := if i = 0 then 0 else (l.getD (i - 1) .zero).txn
theorem okJobs_at {next : Int} : ∀ {l : List Job} {a : Int} (i : Nat), okJobs next a l = true → ∀ j, l[i]? = some j → okJob next (if i = 0 then a else (l.getD (i - 1) .zero).txn) j = true
  | [], a, i, _, j, hj => by simp at hj
  | x :: l, a, 0, h, j, hj => by
    simp only [List.getElem?_cons_zero, Option.some.injEq] at hj
    subst hj
    rw [okJobs_cons, Bool.and_eq_true] at h
    exact h.1
  | x :: l, a, i + 1, h, j, hj => by
    rw [okJobs_cons, Bool.and_eq_true] at h
    have := okJobs_at i h.2 j (by simpa using hj)
    rw [if_neg (by omega)]
    cases i with
    | zero => simpa using this
    | succ i => simpa using this
theorem okJobs_of {next : Int} : ∀ {l : List Job} {a : Int}, (∀ (i : Nat) (j : Job), l[i]? = some j → okJob next (if i = 0 then a else (l.getD (i - 1) .zero).txn) j = true) → okJobs next a l = true
  | [], a, _ => rfl
  | x :: l, a, h => by
    rw [okJobs_cons, Bool.and_eq_true]
    refine ⟨h 0 x rfl, okJobs_of fun i j hj => ?_⟩
    have := h (i + 1) j (by simpa using hj)
    rw [if_neg (by omega)] at this
    cases i with
    | zero => simpa using this
    | succ i => simpa using this
theorem okActs_at : ∀ {l a : List Act} (i : Nat), okActs a l = true → ∀ x, l[i]? = some x → (x.known && !(a ++ l.take i).any (fun b => x.alike b)) = true
  | [], a, i, _, j, hj => by simp at hj
  | y :: l, a, 0, h, x, hj => by
    simp only [List.getElem?_cons_zero, Option.some.injEq] at hj
    subst hj
    simp only [okActs, Bool.and_eq_true] at h
    simpa using h.1
  | y :: l, a, i + 1, h, x, hj => by
    simp only [okActs, Bool.and_eq_true] at h
    have := okActs_at i h.2 x (by simpa using hj)
    simpa using this
theorem okActs_of : ∀ {l a : List Act}, (∀ (i : Nat) (x : Act), l[i]? = some x → (x.known && !(a ++ l.take i).any (fun b => x.alike b)) = true) → okActs a l = true
  | [], a, _ => rfl
  | y :: l, a, h => by
    have h0 := h 0 y rfl
    simp only [okActs, Bool.and_eq_true]
    refine ⟨by simpa using h0, okActs_of fun i x hj => ?_⟩
    have := h (i + 1) x (by simpa using hj)
    simpa using this

theorem S_hi {l : List Act} {i : Nat} (h : i ≤ l.length) : sliceA 5 (encA.S l) none (some (.int .i64 (i : Int))) none = some (encA.S (l.take i)) := by
  simp only [Enc.S, sliceA, bndA, cutA, Option.getD_none, Option.getD_some, Option.isSome_none, Option.isNone_some, Bool.false_eq_true, if_true]
  rw [if_pos ⟨fun h => h.elim, by omega, by omega, .inr (by omega), by omega, by omega⟩]
  have : encA.sz = 5 := rfl
  simp only [Int.toNat_natCast, Int.toNat_zero, Nat.zero_mul, List.drop_zero, Nat.sub_zero, Option.map_some, false_and, if_false]
  rw [← this, encA.cs_take]
  simp [Nat.min_eq_left h]

theorem check_job {hint : Nat → Nat} {q : Que} (hjl : q.jobs.length ≤ 1073741824) {i : Nat} {j : Job} (hj : q.jobs[i]? = some j) {tm : Env} {hp : HP} {a : Int} (h0 : hp[0]? = some (some (.row 29 q.c))) (t1 : tm 1 = .ptr 0 0) (t4 : tm 4 = .int .i64 a) (t54 : tm 54 = encJ.S q.jobs) (t55 : tm 55 = .int .i64 q.jobs.length) (t56 : tm 56 = .int .i64 i) :
    vcE Try.prog hint T4 114 b27_0 tm hp fun e tm' hp' => (okJob q.next a j = false ∧ e = .ret ∧ tm' 2 = .int .i64 2) ∨ (okJob q.next a j = true ∧ e = .normal ∧ hp'[0]? = some (some (.row 29 q.c)) ∧ tm' 1 = .ptr 0 0 ∧ tm' 4 = .int .i64 j.txn ∧ tm' 54 = encJ.S q.jobs ∧ tm' 55 = .int .i64 q.jobs.length ∧ tm' 56 = .int .i64 ((i + 1 : Nat) : Int)) := by
  have hi := (List.getElem?_eq_some_iff.1 hj).1
  have hcl : True := trivial
  have hpick : pickA (some 10) (encJ.cs q.jobs) (i * 10) = some (.agg j.c) := encJ.pick hj
  have hi1 : iaddrA 10 (encJ.S q.jobs) (.int .i64 i) = some (.fptr (encJ.cs q.jobs) (i * 10)) := encJ.S_iaddr hi
  have g0a : ∀ l, (hp ++ l)[0]? = some (some (.row 29 q.c)) := fun l => app_get h0
  have hg : ∀ x y : Int, (x ≥ y) = (y ≤ x) := fun _ _ => rfl
  have hg2 : ∀ x y : Int, (x > y) = (y < x) := fun _ _ => rfl
  have hw : IntKind.wrap .i64 ((i : Int) + 1) = (i : Int) + 1 := wrap_i64 (by omega) (by omega)
  have hq1 : pickA none q.c 1 = some (.int .i64 q.next) := rfl
  unfold okJob
  refine vcE.step (by simp (disch := first | assumption | omega | with_unfolding_all rfl) only [exC, exOps, exOp, wantedE, ↓reduceIte, ROp.run, evsE, evE, t56, t55, same, binA, intA, dec_true, Option.map_some, putE]; rfl) (vcE.step (by simp (disch := first | assumption | omega | with_unfolding_all rfl) only [exC, evE, ty, ↓reduceIte]; rfl) (vcE.seq (vcE.block (vcE.step (by simp (disch := first | assumption | omega | with_unfolding_all rfl) only [exC, exOps, exOp, wantedE, ↓reduceIte, ROp.run, evsE, evE, ty, Nat.reduceEqDiff, t54, t56, same, hi1, Option.map_some, putE, loadA, rowA, ↓hpick, allocA, storeA_eq, getA0, List.getElem?_cons_zero, tz, Job.c_len, List.length_cons, List.length_nil, Nat.reduceAdd, Nat.reduceLeDiff, dec_true, over, List.take_zero, List.nil_append, List.drop_succ_cons, List.drop_nil, List.append_nil, setA0, List.set_cons_zero]; rfl) ?_))))
  by_cases k1 : a < j.txn
  · by_cases k2 : j.txn < q.next
    · by_cases k3 : 0 ≤ j.tries
      · by_cases k4 : j.tries < 5
        · by_cases k5 : 0 ≤ j.at_
          · by_cases k6 : j.at_ ≤ 1152921504606847040
            · refine vcE.step (by simp (disch := first | assumption | omega | with_unfolding_all rfl) only [exC, exOps, exOp, wantedE, ↓reduceIte, ROp.run, evsE, evE, Job.c, ty, same, faddrA, Option.map_some, putE, loadA, rowA, getA0, List.getElem?_cons_zero, pickA, tz, Nat.reduceEqDiff, t4, binA, intA, dec_false, beq_self_eq_true, t1, g0a, ↓hq1, hg, List.getElem?_cons_succ, hg2]; rfl) ?_
              refine vcE.ex (by simp (disch := first | assumption | omega | with_unfolding_all rfl) only [exC, exOps, exOp, wantedE, ↓reduceIte, ROp.run, evsE, evE, ty, Nat.reduceEqDiff, same, faddrA, Option.map_some, putE, loadA, rowA, getA0, List.getElem?_cons_zero, pickA, tz]; rfl) ?_
              refine vcE.ex (by simp (disch := first | assumption | omega | with_unfolding_all rfl) only [exC, exOps, exOp, wantedE, ↓reduceIte, ROp.run, evsE, evE, ty, Nat.reduceEqDiff, t56, same, binA, intA, hw, Option.map_some, putE]; rfl) ?_
              refine .inr ⟨by simp only [k1, k2, k3, k4, k5, k6, decide_true, Bool.and_self], rfl, g0a _, ?_, ?_, ?_, ?_, ?_⟩
              all_goals simp only [upd_app, Nat.reduceEqDiff, ↓reduceIte, t1, t54, t55]
              rfl
            · refine vcE.ex (by simp (disch := first | assumption | omega | with_unfolding_all rfl) only [exC, exOps, exOp, wantedE, ↓reduceIte, ROp.run, evsE, evE, Job.c, ty, same, faddrA, Option.map_some, putE, loadA, rowA, getA0, List.getElem?_cons_zero, pickA, tz, Nat.reduceEqDiff, t4, binA, intA, dec_false, beq_self_eq_true, t1, g0a, ↓hq1, hg, List.getElem?_cons_succ, hg2, dec_true]; rfl) ?_
              refine .inl ⟨by simp only [k6, decide_false, Bool.and_false], rfl, ?_⟩
              simp only [upd_app, Nat.reduceEqDiff, ↓reduceIte]
          · refine vcE.ex (by simp (disch := first | assumption | omega | with_unfolding_all rfl) only [exC, exOps, exOp, wantedE, ↓reduceIte, ROp.run, evsE, evE, Job.c, ty, same, faddrA, Option.map_some, putE, loadA, rowA, getA0, List.getElem?_cons_zero, pickA, tz, Nat.reduceEqDiff, t4, binA, intA, dec_false, beq_self_eq_true, t1, g0a, ↓hq1, hg, List.getElem?_cons_succ, dec_true, beq_iff_eq]; rfl) ?_
            refine .inl ⟨by simp only [k5, decide_false, Bool.and_false, Bool.false_and], rfl, ?_⟩
            simp only [upd_app, Nat.reduceEqDiff, ↓reduceIte]
        · refine vcE.ex (by simp (disch := first | assumption | omega | with_unfolding_all rfl) only [exC, exOps, exOp, wantedE, ↓reduceIte, ROp.run, evsE, evE, Job.c, ty, same, faddrA, Option.map_some, putE, loadA, rowA, getA0, List.getElem?_cons_zero, pickA, tz, Nat.reduceEqDiff, t4, binA, intA, dec_false, beq_self_eq_true, t1, g0a, ↓hq1, hg, List.getElem?_cons_succ, dec_true, beq_iff_eq]; rfl) ?_
          refine .inl ⟨by simp only [k4, decide_false, Bool.and_false, Bool.false_and], rfl, ?_⟩
          simp only [upd_app, Nat.reduceEqDiff, ↓reduceIte]
      · refine vcE.ex (by simp (disch := first | assumption | omega | with_unfolding_all rfl) only [exC, exOps, exOp, wantedE, ↓reduceIte, ROp.run, evsE, evE, Job.c, ty, same, faddrA, Option.map_some, putE, loadA, rowA, getA0, List.getElem?_cons_zero, pickA, tz, Nat.reduceEqDiff, t4, binA, intA, dec_false, beq_self_eq_true, t1, g0a, ↓hq1, hg, List.getElem?_cons_succ, dec_true, beq_iff_eq]; rfl) ?_
        refine .inl ⟨by simp only [k3, decide_false, Bool.and_false, Bool.false_and], rfl, ?_⟩
        simp only [upd_app, Nat.reduceEqDiff, ↓reduceIte]
    · refine vcE.ex (by simp (disch := first | assumption | omega | with_unfolding_all rfl) only [exC, exOps, exOp, wantedE, ↓reduceIte, ROp.run, evsE, evE, Job.c, ty, same, faddrA, Option.map_some, putE, loadA, rowA, getA0, List.getElem?_cons_zero, pickA, tz, Nat.reduceEqDiff, t4, binA, intA, dec_false, beq_self_eq_true, t1, g0a, ↓hq1, hg, dec_true, beq_iff_eq]; rfl) ?_
      refine .inl ⟨by simp only [k2, decide_false, Bool.and_false, Bool.false_and], rfl, ?_⟩
      simp only [upd_app, Nat.reduceEqDiff, ↓reduceIte]
  · refine vcE.ex (by simp (disch := first | assumption | omega | with_unfolding_all rfl) only [exC, exOps, exOp, wantedE, ↓reduceIte, ROp.run, evsE, evE, Job.c, ty, same, faddrA, Option.map_some, putE, loadA, rowA, getA0, List.getElem?_cons_zero, pickA, tz, Nat.reduceEqDiff, t4, binA, intA, dec_true, beq_iff_eq]; rfl) ?_
    refine .inl ⟨by simp only [k1, decide_false, Bool.false_and], rfl, ?_⟩
    simp only [upd_app, Nat.reduceEqDiff, ↓reduceIte]

theorem over_za (a : Act) : over [.int .i64 0, .str [], .str [], .str [], .str []] 0 a.c = a.c := rfl
theorem check_act {hint : Nat → Nat} {l : List Act} (hal : l.length ≤ 3 * 1073741824) {i : Nat} {a : Act} (ha : l[i]? = some a) {tm : Env} {hp : HP} (t7 : tm 7 = encA.S l) (t96 : tm 96 = encA.S l) (t97 : tm 97 = .int .i64 l.length) (t98 : tm 98 = .int .i64 i) :
    vcE Try.prog hint T4 114 b27_1 tm hp fun e tm' hp' => ((a.known && !(l.take i).any (fun b => a.alike b)) = false ∧ e = .ret ∧ tm' 2 = .int .i64 2) ∨ ((a.known && !(l.take i).any (fun b => a.alike b)) = true ∧ e = .normal ∧ tm' 7 = encA.S l ∧ tm' 96 = encA.S l ∧ tm' 97 = .int .i64 l.length ∧ tm' 98 = .int .i64 ((i + 1 : Nat) : Int)) := by
  have hi := (List.getElem?_eq_some_iff.1 ha).1
  have hcl : True := trivial
  have hpick : pickA (some 5) (encA.cs l) (i * 5) = some (.agg a.c) := encA.pick ha
  have hi1 : iaddrA 5 (encA.S l) (.int .i64 i) = some (.fptr (encA.cs l) (i * 5)) := encA.S_iaddr hi
  have hsl := S_hi (l := l) (i := i) (by omega)
  have hkn := T4_known a
  have hha : T4 58 [encA.S (l.take i), .func 71 [.fptr a.c 0]] = _ := T4_has (by rw [List.length_take]; simp only [most]; omega) false a
  have hw : IntKind.wrap .i64 ((i : Int) + 1) = (i : Int) + 1 := wrap_i64 (by omega) (by omega)
  refine vcE.step (by simp (disch := first | assumption | omega | with_unfolding_all rfl) only [exC, exOps, exOp, wantedE, ↓reduceIte, ROp.run, evsE, evE, t98, t97, same, binA, intA, dec_true, Option.map_some, putE]; rfl) (vcE.step (by simp (disch := first | assumption | omega | with_unfolding_all rfl) only [exC, evE, ty, ↓reduceIte]; rfl) (vcE.seq (vcE.block (vcE.step (by simp (disch := first | assumption | omega | with_unfolding_all rfl) only [exC, exOps, exOp, wantedE, ↓reduceIte, ROp.run, evsE, evE, ty, Nat.reduceEqDiff, t98, putE, t96, same, hi1, Option.map_some, loadA, rowA, ↓hpick, allocA, storeA_eq, getA0, List.getElem?_cons_zero, tz, Act.c_len, List.length_cons, List.length_nil, Nat.reduceAdd, Nat.reduceLeDiff, dec_true, over, List.take_zero, List.nil_append, List.drop_succ_cons, List.drop_nil, List.append_nil, setA0, List.set_cons_zero]; rfl) ?_))))
  cases hk : a.known <;> rw [hk] at hkn
  · refine vcE.ex (by simp (disch := first | assumption | omega | with_unfolding_all rfl) only [exC, exOps, exOp, wantedE, ↓reduceIte, ROp.run, evsE, evE, ty, Nat.reduceEqDiff, same, loadA, rowA, getA0, List.getElem?_cons_zero, ↓pickA5, Option.map_some, putE, List.append_nil, frzL, frz_agg, actL_frz, hkn, Cls.isFree, callCls, nidL, tz, actL_nid, unA, beq_iff_eq]; rfl) ?_
    refine .inl ⟨rfl, rfl, ?_⟩
    simp only [upd_app, Nat.reduceEqDiff, ↓reduceIte]
  cases ht : (l.take i).any (fun b => a.alike b) <;> rw [ht] at hha
  · refine vcE.ex (by simp (disch := first | assumption | omega | with_unfolding_all rfl) only [exC, exOps, exOp, wantedE, ↓reduceIte, ROp.run, evsE, evE, ty, Nat.reduceEqDiff, same, loadA, rowA, getA0, List.getElem?_cons_zero, ↓pickA5, Option.map_some, putE, List.append_nil, frzL, frz_agg, actL_frz, hkn, Cls.isFree, callCls, nidL, tz, actL_nid, unA, beq_self_eq_true, t7, bounds3, ↓hsl, frz_func, frz_ptr, hha]; rfl) ?_
    refine vcE.ex (by simp (disch := first | assumption | omega | with_unfolding_all rfl) only [exC, exOps, exOp, wantedE, ↓reduceIte, ROp.run, evsE, evE, ty, Nat.reduceEqDiff, t98, same, binA, intA, hw, Option.map_some, putE]; rfl) ?_
    refine .inr ⟨rfl, rfl, ?_, ?_, ?_, ?_⟩
    all_goals simp only [upd_app, Nat.reduceEqDiff, ↓reduceIte, t7, t96, t97]
    rfl
  · refine vcE.ex (by simp (disch := first | assumption | omega | with_unfolding_all rfl) only [exC, exOps, exOp, wantedE, ↓reduceIte, ROp.run, evsE, evE, ty, Nat.reduceEqDiff, same, loadA, rowA, getA0, List.getElem?_cons_zero, ↓pickA5, Option.map_some, putE, List.append_nil, frzL, frz_agg, actL_frz, hkn, Cls.isFree, callCls, nidL, tz, actL_nid, unA, beq_self_eq_true, t7, bounds3, ↓hsl, frz_func, frz_ptr, hha]; rfl) ?_
    refine .inl ⟨rfl, rfl, ?_⟩
    simp only [upd_app, Nat.reduceEqDiff, ↓reduceIte]

theorem pCheck (q : Que) (hq : Fits q) : PCF Try.prog 27 [.agg q.c] (.int .i64 q.check) := by
  have hx : NoIdL [.agg q.c] := nidL_ok (by rw [nidL, queN]; rfl)
  refine pcf_of hx ((calls_e hmG T4_ok comp27 (by decide) (by simp) (K := fun r' hp' => fresh hp' r' = some (.int .i64 q.check)) ?_).mono fun _ _ => fresh_ok)
  have hcl : True := trivial
  have hfl : T4 63 [.agg [encJ.S q.jobs, .int .i64 q.next, .int .i64 q.now, encA.S q.failed, encA.S q.settled, .bool q.resync]] = _ := T4_flying hq
  have hac : T4 59 [.agg [encJ.S q.jobs, .int .i64 q.next, .int .i64 q.now, encA.S q.failed, encA.S q.settled, .bool q.resync]] = _ := T4_actions hq
  have hjl := hq.j
  have hal := acts_le hq
  simp only [most] at hjl hal
  have hg : ∀ x y : Int, (x ≥ y) = (y ≤ x) := fun _ _ => rfl
  have hg2 : ∀ x y : Int, (x > y) = (y < x) := fun _ _ => rfl
  have bad : ∀ {tm : Env} {hp : HP}, q.valid = false → tm 2 = .int .i64 2 → RetE [.t 2] (fun r' hp' => fresh hp' r' = some (.int .i64 q.check)) .ret tm hp := by
    intro tm hp h h2
    refine ⟨_, by simp only [resE, resEL, resE1, h2]; rfl, ?_⟩
    simp only [Que.check, h, Bool.false_eq_true, if_false]
    rfl
  have inv : ∀ {p : Prop}, (Valid q → False) → q.valid = false := fun {p} h => by
    cases hv : q.valid
    · rfl
    · exact (h (valid_iff.1 hv)).elim
  refine vcE.step (by simp (disch := first | assumption | omega | with_unfolding_all rfl) only [exC, exOps, exOp, wantedE, ↓reduceIte, ROp.run, evsE, evE, ty, List.getD_cons_zero, tz, List.length_nil, List.nil_append, putE]; rfl) ?_
  by_cases h1 : q.jobs.length ≤ 32
  · by_cases h2 : 1 ≤ q.next
    · by_cases h3 : q.next ≤ 1152921504606846976
      · by_cases h4 : 0 ≤ q.now
        · by_cases h5 : q.now ≤ 1152921504606846976
          · by_cases h6 : q.failed.length ≤ 64
            · by_cases h7 : q.settled.length ≤ 64
              · by_cases h8 : flyers q.jobs ≤ 4
                · refine vcE.step (by simp (disch := first | assumption | omega | with_unfolding_all rfl) only [exC, exOps, exOp, wantedE, ↓reduceIte, ROp.run, evsE, evE, Que.c, ty, Nat.reduceEqDiff, same, faddrA, Option.map_some, putE, loadA, rowA, List.getElem?_cons_zero, pickA, binA, intA, dec_true, beq_self_eq_true, List.getElem?_cons_succ, tz, hg, List.length_cons, List.length_nil, Nat.reduceAdd, Nat.reduceLeDiff, List.drop_zero, List.take_succ_cons, List.take_zero, List.append_nil, frzL, frz_agg, hfl, Cls.isFree, callCls, nidL]; rfl) (vcE.step (by simp (disch := first | assumption | omega | with_unfolding_all rfl) only [exC, exOps, exOp, wantedE, ↓reduceIte, ROp.run, evsE, evE, ty, putE, same, unA, Option.map_some]; rfl) (vcE.step (by simp (disch := first | assumption | omega | with_unfolding_all rfl) only [exC, exOps, exOp, wantedE, ↓reduceIte, ROp.run, evsE, evE, putE]; rfl) ?_))
                  refine vcE.then (fun e tm hp => (e = .ret ∧ tm 2 = .int .i64 2 ∧ q.valid = false) ∨ (e = .normal ∧ hp[0]? = some (some (.row 29 q.c)) ∧ tm 1 = .ptr 0 0 ∧ okJobs q.next 0 q.jobs = true)) ?_ ?_
                  · refine vcE.step (by simp (disch := first | assumption | omega | with_unfolding_all rfl) only [exC, exOps, exOp, wantedE, ↓reduceIte, ROp.run, evsE, evE, ty, Nat.reduceEqDiff, same, faddrA, Option.map_some, putE, loadA, rowA, List.getElem?_cons_zero, pickA]; rfl) (vcE.block (vcE.count (by intro l tm hp h; simp at h)
                      (fun i tm hp => hp[0]? = some (some (.row 29 q.c)) ∧ tm 1 = .ptr 0 0 ∧ tm 4 = .int .i64 (ahead q.jobs i) ∧ tm 54 = encJ.S q.jobs ∧ tm 55 = .int .i64 q.jobs.length ∧ tm 56 = .int .i64 i ∧ ∀ k j, k < i → q.jobs[k]? = some j → okJob q.next (ahead q.jobs k) j = true) q.jobs.length ⟨rfl, rfl, rfl, rfl, rfl, rfl, by omega⟩ ?_ ?_))
                    · rintro i tm hp hi ⟨k0, t1, t4, t54, t55, t56, hall⟩
                      obtain ⟨j, hj⟩ : ∃ j, q.jobs[i]? = some j := ⟨_, List.getElem?_eq_getElem hi⟩
                      refine (check_job hjl hj k0 t1 t4 t54 t55 t56).mono ?_
                      rintro e tm' hp' (⟨h, rfl, h2⟩ | ⟨h, rfl, h0', h1', h4', h54, h55, h56⟩)
                      · refine .inl ⟨rfl, h2, ?_⟩
                        cases hv : q.valid
                        · rfl
                        · simp only [Que.valid, Bool.and_eq_true] at hv
                          have := okJobs_at i hv.2.2.1 j hj
                          rw [show (if i = 0 then 0 else (q.jobs.getD (i - 1) .zero).txn) = ahead q.jobs i from rfl, h] at this
                          cases this
                      · refine ⟨h0', h1', ?_, h54, h55, h56, ?_⟩
                        · rw [h4', ahead, if_neg (by omega), Nat.add_sub_cancel, List.getD_eq_getElem?_getD, hj]
                          rfl
                        · intro k x hk hx
                          by_cases hki : k = i
                          · subst hki
                            rw [hj] at hx
                            cases hx
                            exact h
                          · exact hall k x (by omega) hx
                    · rintro tm hp ⟨k0, t1, t4, t54, t55, t56, hall⟩
                      refine vcE.ex (by simp (disch := first | assumption | omega | with_unfolding_all rfl) only [exC, exOps, exOp, wantedE, ↓reduceIte, ROp.run, evsE, evE, t56, t55, same, binA, intA, dec_false, Option.map_some, putE, ty]; rfl) ?_
                      refine .inr ⟨rfl, k0, ?_, okJobs_of fun k j hj => hall k j (List.getElem?_eq_some_iff.1 hj).1 hj⟩
                      simp only [upd_app, Nat.reduceEqDiff, ↓reduceIte, t1]
                  · rintro e tm hp (⟨rfl, h2, hv⟩ | ⟨rfl, k0, t1, hoj⟩)
                    · exact bad hv h2
                    refine vcE.step (by simp (disch := first | assumption | omega | with_unfolding_all rfl) only [exC, exOps, exOp, wantedE, ↓reduceIte, ROp.run, evsE, evE, t1, same, loadA, rowA, k0, Que.c, pickA, ty, List.length_cons, List.length_nil, Nat.reduceAdd, Nat.reduceLeDiff, List.drop_zero, List.take_succ_cons, List.take_zero, Option.map_some, putE, List.append_nil, frzL, frz_agg, tz, hac, Cls.isFree, callCls, nidL]; rfl) ?_
                    refine vcE.then (fun e tm hp => (e = .ret ∧ tm 2 = .int .i64 2 ∧ q.valid = false) ∨ (e = .normal ∧ okActs [] q.acts = true)) ?_ ?_
                    · refine vcE.step (by simp (disch := first | assumption | omega | with_unfolding_all rfl) only [exC, exOps, exOp, wantedE, ↓reduceIte, ROp.run, evsE, evE, ty, putE, same, Option.map_some]; rfl) (vcE.block (vcE.count (by intro l tm hp h; simp at h)
                        (fun i tm hp => tm 7 = encA.S q.acts ∧ tm 96 = encA.S q.acts ∧ tm 97 = .int .i64 q.acts.length ∧ tm 98 = .int .i64 i ∧ ∀ k x, k < i → q.acts[k]? = some x → (x.known && !(q.acts.take k).any (fun b => x.alike b)) = true) q.acts.length ⟨rfl, rfl, rfl, rfl, by omega⟩ ?_ ?_))
                      · rintro i tm hp hi ⟨t7, t96, t97, t98, hall⟩
                        obtain ⟨x, hx⟩ : ∃ x, q.acts[i]? = some x := ⟨_, List.getElem?_eq_getElem hi⟩
                        refine (check_act hal hx t7 t96 t97 t98).mono ?_
                        rintro e tm' hp' (⟨h, rfl, h2⟩ | ⟨h, rfl, h7', h96, h97, h98⟩)
                        · refine .inl ⟨rfl, h2, ?_⟩
                          cases hv : q.valid
                          · rfl
                          · simp only [Que.valid, Bool.and_eq_true] at hv
                            have := okActs_at i hv.2.2.2 x hx
                            rw [List.nil_append, h] at this
                            cases this
                        · refine ⟨h7', h96, h97, h98, ?_⟩
                          intro k y hk hy
                          by_cases hki : k = i
                          · subst hki
                            rw [hx] at hy
                            cases hy
                            exact h
                          · exact hall k y (by omega) hy
                      · rintro tm hp ⟨t7, t96, t97, t98, hall⟩
                        refine vcE.ex (by simp (disch := first | assumption | omega | with_unfolding_all rfl) only [exC, exOps, exOp, wantedE, ↓reduceIte, ROp.run, evsE, evE, t98, t97, same, binA, intA, dec_false, Option.map_some, putE, ty]; rfl) ?_
                        refine .inr ⟨rfl, okActs_of fun k x hx => ?_⟩
                        rw [List.nil_append]
                        exact hall k x (List.getElem?_eq_some_iff.1 hx).1 hx
                    · rintro e tm hp (⟨rfl, h2, hv⟩ | ⟨rfl, hoa⟩)
                      · exact bad hv h2
                      · refine vcE.ex (by simp (disch := first | assumption | omega | with_unfolding_all rfl) only [exC, exOps, exOp, wantedE, ↓reduceIte, ROp.run, evsE, evE, putE]; rfl) ?_
                        refine ⟨_, rfl, ?_⟩
                        have hv : q.valid = true := by simp only [Que.valid, Que.sized, hoj, hoa, h1, h2, h3, h4, h5, h6, h7, h8, decide_true, Bool.and_self]
                        simp only [Que.check, hv, if_true]
                        rfl
                · refine vcE.ex (by simp (disch := first | assumption | omega | with_unfolding_all rfl) only [exC, exOps, exOp, wantedE, ↓reduceIte, ROp.run, evsE, evE, Que.c, ty, Nat.reduceEqDiff, same, faddrA, Option.map_some, putE, loadA, rowA, List.getElem?_cons_zero, pickA, binA, intA, dec_true, beq_self_eq_true, List.getElem?_cons_succ, tz, hg, List.length_cons, List.length_nil, Nat.reduceAdd, Nat.reduceLeDiff, List.drop_zero, List.take_succ_cons, List.take_zero, List.append_nil, frzL, frz_agg, hfl, Cls.isFree, callCls, nidL, dec_false, unA]; rfl) ?_
                  refine bad (inv (p := True) fun v => h8 v.fl) ?_
                  simp only [upd_app, Nat.reduceEqDiff, ↓reduceIte]
              · refine vcE.ex (by simp (disch := first | assumption | omega | with_unfolding_all rfl) only [exC, exOps, exOp, wantedE, ↓reduceIte, ROp.run, evsE, evE, Que.c, ty, Nat.reduceEqDiff, same, faddrA, Option.map_some, putE, loadA, rowA, List.getElem?_cons_zero, pickA, binA, intA, dec_true, beq_self_eq_true, List.getElem?_cons_succ, tz, hg, dec_false, beq_iff_eq, unA]; rfl) ?_
                refine bad (inv (p := True) fun v => h7 v.ns) ?_
                simp only [upd_app, Nat.reduceEqDiff, ↓reduceIte]
            · refine vcE.ex (by simp (disch := first | assumption | omega | with_unfolding_all rfl) only [exC, exOps, exOp, wantedE, ↓reduceIte, ROp.run, evsE, evE, Que.c, ty, Nat.reduceEqDiff, same, faddrA, Option.map_some, putE, loadA, rowA, List.getElem?_cons_zero, pickA, binA, intA, dec_true, beq_self_eq_true, List.getElem?_cons_succ, tz, hg, dec_false, beq_iff_eq, unA]; rfl) ?_
              refine bad (inv (p := True) fun v => h6 v.nf) ?_
              simp only [upd_app, Nat.reduceEqDiff, ↓reduceIte]
          · refine vcE.ex (by simp (disch := first | assumption | omega | with_unfolding_all rfl) only [exC, exOps, exOp, wantedE, ↓reduceIte, ROp.run, evsE, evE, Que.c, ty, Nat.reduceEqDiff, same, faddrA, Option.map_some, putE, loadA, rowA, List.getElem?_cons_zero, pickA, binA, intA, dec_true, beq_self_eq_true, List.getElem?_cons_succ, tz, hg, dec_false, beq_iff_eq, unA]; rfl) ?_
            refine bad (inv (p := True) fun v => h5 v.t2) ?_
            simp only [upd_app, Nat.reduceEqDiff, ↓reduceIte]
        · refine vcE.ex (by simp (disch := first | assumption | omega | with_unfolding_all rfl) only [exC, exOps, exOp, wantedE, ↓reduceIte, ROp.run, evsE, evE, Que.c, ty, Nat.reduceEqDiff, same, faddrA, Option.map_some, putE, loadA, rowA, List.getElem?_cons_zero, pickA, binA, intA, dec_true, beq_self_eq_true, List.getElem?_cons_succ, tz, hg, dec_false, beq_iff_eq, unA]; rfl) ?_
          refine bad (inv (p := True) fun v => h4 v.t1) ?_
          simp only [upd_app, Nat.reduceEqDiff, ↓reduceIte]
      · refine vcE.ex (by simp (disch := first | assumption | omega | with_unfolding_all rfl) only [exC, exOps, exOp, wantedE, ↓reduceIte, ROp.run, evsE, evE, Que.c, ty, Nat.reduceEqDiff, same, faddrA, Option.map_some, putE, loadA, rowA, List.getElem?_cons_zero, pickA, binA, intA, dec_true, beq_self_eq_true, List.getElem?_cons_succ, tz, hg, dec_false, beq_iff_eq, unA]; rfl) ?_
        refine bad (inv (p := True) fun v => h3 v.n2) ?_
        simp only [upd_app, Nat.reduceEqDiff, ↓reduceIte]
    · refine vcE.ex (by simp (disch := first | assumption | omega | with_unfolding_all rfl) only [exC, exOps, exOp, wantedE, ↓reduceIte, ROp.run, evsE, evE, Que.c, ty, Nat.reduceEqDiff, same, faddrA, Option.map_some, putE, loadA, rowA, List.getElem?_cons_zero, pickA, binA, intA, dec_true, beq_self_eq_true, List.getElem?_cons_succ, tz, hg, dec_false, beq_iff_eq, unA]; rfl) ?_
      refine bad (inv (p := True) fun v => h2 v.n1) ?_
      simp only [upd_app, Nat.reduceEqDiff, ↓reduceIte]
  · refine vcE.ex (by simp (disch := first | assumption | omega | with_unfolding_all rfl) only [exC, exOps, exOp, wantedE, ↓reduceIte, ROp.run, evsE, evE, Que.c, ty, Nat.reduceEqDiff, same, faddrA, Option.map_some, putE, loadA, rowA, List.getElem?_cons_zero, pickA, binA, intA, dec_false, beq_iff_eq, unA]; rfl) ?_
    refine bad (inv (p := True) fun v => h1 v.nj) ?_
    simp only [upd_app, Nat.reduceEqDiff, ↓reduceIte]

end Go.Gi
