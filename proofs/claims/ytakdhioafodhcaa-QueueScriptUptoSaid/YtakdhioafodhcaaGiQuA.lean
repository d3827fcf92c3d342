/- Queues in memory: the small functions of package queue, and copies; what they give. -/
import Derived.Test.YtakdhioafodhcaaGoQ
import Derived.Test.YtakdhioafodhcaaGiSN
import Derived.Test.YtakdhioafodhcaaGiQuM
set_option linter.unusedVariables false
set_option linter.unusedSimpArgs false
namespace Go.Gi
open Go Go.Proofs

theorem hmG : Try.prog.follows .mixedOrders = true := by kernel_rfl

def encI : Enc Int where
  c n := [.int .i64 n]
  sz := 1
  pos := by omega
  len _ := rfl
  nd _ := rfl
  ip := true
  pl _ _ := rfl
  fz _ _ := rfl
  dec := fun
    | [.int .i64 n] => some n
    | _ => none
  dec_c _ := rfl
  dec_some cs a h := by
    split at h
    · cases h; rfl
    · cases h
def Act.c (a : Act) : List AV := [.int .i64 a.kind, .str a.room, .str a.sub, .str a.reason, .str a.deny]
def Job.c (j : Job) : List AV := [.int .i64 j.txn, .int .i64 j.act.kind, .str j.act.room, .str j.act.sub, .str j.act.reason, .str j.act.deny, .bool j.fly, .bool j.doubt, .int .i64 j.tries, .int .i64 j.at_]
def encA : Enc Act where
  c := Act.c
  sz := 5
  pos := by omega
  len _ := rfl
  nd _ := rfl
  ip := true
  pl _ _ := rfl
  fz _ _ := rfl
  dec := fun
    | [.int .i64 k, .str r, .str s, .str t, .str d] => some ⟨k, r, s, t, d⟩
    | _ => none
  dec_c _ := rfl
  dec_some cs a h := by
    split at h
    · cases h; rfl
    · cases h
def encJ : Enc Job where
  c := Job.c
  sz := 10
  pos := by omega
  len _ := rfl
  nd _ := rfl
  ip := true
  pl _ _ := rfl
  fz _ _ := rfl
  dec := fun
    | [.int .i64 x, .int .i64 k, .str r, .str s, .str t, .str d, .bool f, .bool q, .int .i64 n, .int .i64 m] => some ⟨x, ⟨k, r, s, t, d⟩, f, q, n, m⟩
    | _ => none
  dec_c _ := rfl
  dec_some cs a h := by
    split at h
    · cases h; rfl
    · cases h
def Que.c (q : Que) : List AV := [encJ.S q.jobs, .int .i64 q.next, .int .i64 q.now, encA.S q.failed, encA.S q.settled, .bool q.resync]

def elI : El Int where
  E := encI
  v n := .int .i64 n
  sh := none
  K := .prim
  pk := fun {l i a} h => by
    have := encI.pick1 (l := l) rfl h (v := .int .i64 a) rfl rfl
    simpa [encI] using this
  nt _ := rfl
  ce _ := rfl
  nv _ := rfl
  fz _ _ := rfl
  eq a b := by simp [binA, intA]
  ne a b := by simp [binA, intA, bne]
theorem act_ext (a b : Act) : (a = b) ↔ (a.kind = b.kind ∧ a.room = b.room ∧ a.sub = b.sub ∧ a.reason = b.reason ∧ a.deny = b.deny) := by
  cases a; cases b; simp
theorem job_ext (a b : Job) : (a = b) ↔ (a.txn = b.txn ∧ a.act = b.act ∧ a.fly = b.fly ∧ a.doubt = b.doubt ∧ a.tries = b.tries ∧ a.at_ = b.at_) := by
  cases a; cases b; simp
def elA : El Act := El.st encA [.int, .str, .str, .str, .str] fun a b => by
  simp only [eqA, encA, Act.c, leavesEq, leafEq, if_true, Option.some.injEq]
  rw [Bool.eq_iff_iff]
  simp [act_ext]
def elJ : El Job := El.st encJ [.int, .int, .str, .str, .str, .str, .bool, .bool, .int, .int] fun a b => by
  simp only [eqA, encJ, Job.c, leavesEq, leafEq, if_true, Option.some.injEq]
  rw [Bool.eq_iff_iff]
  simp [act_ext, job_ext, and_assoc]

/-- So many elements fit. -/
abbrev most : Nat := 1073741824

def R1.act : R1 Act := R1.agg encA
def R1.job : R1 Job := R1.agg encJ
def R1.que : R1 Que where
  v q := .agg q.c
  un := fun
    | .agg [x, .int .i64 n, .int .i64 t, y, z, .bool r] => match encJ.un x, encA.un y, encA.un z with
      | some js, some fs, some ss => some ⟨js, n, t, fs, ss, r⟩
      | _, _, _ => none
    | _ => none
  un_v q := by simp only [Que.c, encJ.un_S, encA.un_S]
  un_some x q h := by
    split at h
    · split at h
      · rename_i h1 h2 h3
        cases h
        rw [encJ.un_some h1, encA.un_some h2, encA.un_some h3]
        rfl
      · cases h
    · cases h
/-- A queue that has no more elements than fit. -/
structure Fits (q : Que) : Prop where
  j : q.jobs.length ≤ most
  f : q.failed.length ≤ most
  s : q.settled.length ≤ most
instance (q : Que) : Decidable (Fits q) := decidable_of_iff (q.jobs.length ≤ most ∧ q.failed.length ≤ most ∧ q.settled.length ≤ most) ⟨fun ⟨a, b, c⟩ => ⟨a, b, c⟩, fun ⟨a, b, c⟩ => ⟨a, b, c⟩⟩

theorem actN (a : Act) : nid (.agg a.c) = true := rfl
theorem jobN (j : Job) : nid (.agg j.c) = true := rfl
theorem queN (q : Que) : nid (.agg q.c) = true := by simp only [Que.c, nid, nidL, Enc.S_nid, Bool.and_self]
theorem act_frz (a : Act) (hp : HP) : frz hp (.agg a.c) = some (.agg a.c) := rfl
theorem job_frz (j : Job) (hp : HP) : frz hp (.agg j.c) = some (.agg j.c) := rfl
theorem que_frz (q : Que) (hp : HP) : frz hp (.agg q.c) = some (.agg q.c) := by simp only [Que.c, frz, frzL, Enc.S_frz]

theorem pAlike (a b : Act) : PCF Try.prog 25 [.agg a.c, .agg b.c] (.bool (a.alike b)) := by
  refine pcf_e hmG (TabOk.none _) comp25 (by decide) (by simp) (nidL_ok (by simp only [nidL, actN, Bool.and_self])) ?_
  unfold Act.alike
  by_cases h1 : a.room = b.room <;> by_cases h2 : a.kind = b.kind
  all_goals refine vcE.ex (by simp (disch := first | assumption | omega) only [exC, exOps, exOp, wantedE, ↓reduceIte, ROp.run, evsE, evE, Act.c, ty, List.getD_cons_zero, tz, List.length_nil, List.nil_append, putE, Nat.reduceEqDiff, List.getD_cons_succ, List.length_cons, List.cons_append, same, faddrA, Option.map_some, loadA, rowA, List.getElem?_cons_zero, pickA, List.getElem?_cons_succ, binA, strA, dec_true, beq_self_eq_true, intA, dec_false, beq_iff_eq]; rfl) ?_
  all_goals refine ⟨_, rfl, ?_⟩
  all_goals simp only [upd_app, Nat.reduceEqDiff, ↓reduceIte, fresh_bool, h1, h2, decide_true, decide_false, Bool.true_and, Bool.false_and]
theorem pKnown (a : Act) : PCF Try.prog 57 [.agg a.c] (.bool a.known) := by
  refine pcf_e hmG (TabOk.none _) comp57 (by decide) (by simp) (nidL_ok (by simp only [nidL, actN, Bool.and_self])) ?_
  unfold Act.known
  by_cases h1 : 1 ≤ a.kind
  all_goals refine vcE.ex (by simp (disch := first | assumption | omega) only [exC, exOps, exOp, wantedE, ↓reduceIte, ROp.run, evsE, evE, Act.c, ty, List.getD_cons_zero, tz, List.length_nil, List.nil_append, putE, Nat.reduceEqDiff, same, faddrA, Option.map_some, loadA, rowA, List.getElem?_cons_zero, pickA, binA, intA, ge_iff_le, dec_true, beq_self_eq_true, dec_false, beq_iff_eq]; rfl) ?_
  all_goals refine ⟨_, rfl, ?_⟩
  all_goals simp only [upd_app, Nat.reduceEqDiff, ↓reduceIte, fresh_bool, h1, decide_true, decide_false, Bool.true_and, Bool.false_and]
theorem pWaits (j : Job) : PCF Try.prog 62 [.agg j.c] (.bool j.waits) := by
  refine pcf_e hmG (TabOk.none _) comp62 (by decide) (by simp) (nidL_ok (by simp only [nidL, jobN, Bool.and_self])) ?_
  unfold Job.waits
  cases hf : j.fly
  all_goals refine vcE.ex (by simp (disch := first | assumption | omega) only [exC, exOps, exOp, wantedE, ↓reduceIte, ROp.run, evsE, evE, Job.c, hf, ty, List.getD_cons_zero, tz, List.length_nil, List.nil_append, putE, Nat.reduceEqDiff, same, faddrA, Option.map_some, loadA, rowA, List.getElem?_cons_zero, pickA, List.getElem?_cons_succ, unA, beq_self_eq_true, beq_iff_eq]; rfl) ?_
  all_goals refine ⟨_, rfl, ?_⟩
  all_goals simp only [upd_app, Nat.reduceEqDiff, ↓reduceIte, fresh_bool, Bool.not_false, Bool.not_true, Bool.true_and, Bool.false_and]
theorem pEmpty : PCF Try.prog 13 [] (.agg Que.empty.c) := by
  refine pcf_e hmG (TabOk.none _) comp13 (by decide) (by simp) (nidL_ok rfl) ?_
  refine vcE.ex (by simp (disch := first | assumption | omega) only [exC, exOps, exOp, wantedE, ↓reduceIte, ROp.run, evsE, allocA, List.length_nil, List.nil_append, putE, evE, List.length_cons, ty, same]; rfl) ?_
  exact ⟨_, rfl, rfl⟩
def banA (u : List UInt8) : Act := ⟨1, [33, 114, 58, 120], u, [], []⟩
theorem pBan (u : List UInt8) : PCF Try.prog 54 [.str u] (.agg (banA u).c) := by
  refine pcf_e hmG (TabOk.none _) comp54 (by decide) (by simp) (nidL_ok rfl) ?_
  refine vcE.ex (by simp (disch := first | assumption | omega) only [exC, exOps, exOp, wantedE, ↓reduceIte, ROp.run, evsE, allocA, List.length_nil, List.nil_append, putE, evE, ty, reduceCtorEq, List.getD_cons_zero, List.length_cons, Nat.reduceAdd, same]; rfl) ?_
  exact ⟨_, rfl, rfl⟩
theorem pPick (n m : Int) (hm : m ≤ 9223372036854775807) : PCF Try.prog 18 [.int .i64 n, .int .i64 m] (.int .i64 (pick n m)) := by
  refine pcf_e hmG (TabOk.none _) comp18 (by decide) (by simp) (nidL_ok rfl) ?_
  unfold pick
  by_cases h1 : m < 1
  · refine vcE.ex (by simp (disch := first | assumption | omega) only [exC, exOps, exOp, wantedE, ↓reduceIte, ROp.run, evsE, evE, putE, ty, Nat.reduceEqDiff, List.getD_cons_succ, List.getD_cons_zero, same, binA, intA, dec_true, Option.map_some]; rfl) ?_
    refine ⟨_, rfl, ?_⟩
    simp only [upd_app, Nat.reduceEqDiff, ↓reduceIte, fresh_int, h1]
  · have hb : -m < n.tmod m ∧ n.tmod m < m := ⟨Int.lt_tmod_of_pos n (by omega), Int.tmod_lt_of_pos n (by omega)⟩
    have h0 : ¬ m = 0 := by omega
    by_cases h2 : n.tmod m < 0
    all_goals refine vcE.ex (by simp (disch := first | assumption | omega) only [exC, exOps, exOp, wantedE, ↓reduceIte, ROp.run, evsE, evE, putE, ty, Nat.reduceEqDiff, List.getD_cons_succ, List.getD_cons_zero, same, binA, intA, dec_false, Option.map_some, reduceCtorEq, h0, dec_true]; rfl) ?_
    all_goals refine ⟨_, rfl, ?_⟩
    all_goals simp only [upd_app, Nat.reduceEqDiff, ↓reduceIte, fresh_int, h1, h2]
theorem pLightA (a : Act) : PCF Try.prog 11 [.agg a.c] (.bool a.light) := by
  refine pcf_e hmG (TabOk.none _) comp11 (by decide) (by simp) (nidL_ok (by rw [nidL, actN]; rfl)) ?_
  unfold Act.light
  by_cases h1 : a.room.length ≤ 300 <;> by_cases h2 : a.sub.length ≤ 300 <;> by_cases h3 : a.reason.length ≤ 300
  all_goals refine vcE.ex (by simp (disch := first | assumption | omega) only [exC, exOps, exOp, wantedE, ↓reduceIte, ROp.run, evsE, evE, Act.c, ty, List.getD_cons_zero, tz, List.length_nil, List.nil_append, putE, Nat.reduceEqDiff, same, faddrA, Option.map_some, loadA, rowA, List.getElem?_cons_zero, pickA, List.getElem?_cons_succ, binA, intA, dec_true, beq_self_eq_true, dec_false, beq_iff_eq]; rfl) ?_
  all_goals refine ⟨_, rfl, ?_⟩
  all_goals simp only [upd_app, Nat.reduceEqDiff, ↓reduceIte, fresh_bool, h1, h2, h3, decide_true, decide_false, Bool.and_false, Bool.true_and, Bool.false_and]
  all_goals first | rfl | (congr 2; rw [decide_eq_decide]; omega)
theorem pBackoff (n : Int) : PCF Try.prog 30 [.int .i64 n] (.int .i64 (backoff n)) := by
  refine pcf_e hmG (TabOk.none _) comp30 (by decide) (by simp) (nidL_ok rfl) ?_
  by_cases h1 : n < 1
  · refine vcE.ex (by simp (disch := first | assumption | omega) only [exC, exOps, exOp, wantedE, ↓reduceIte, ROp.run, evsE, evE, putE, ty, reduceCtorEq, List.getD_cons_zero, same, binA, intA, dec_true, Option.map_some]; rfl) ?_
    refine ⟨_, rfl, ?_⟩
    simp only [upd_app, Nat.reduceEqDiff, ↓reduceIte, fresh_int, backoff, h1]
  · obtain ⟨m, hm, h2⟩ : ∃ m : Nat, min n 20 = m ∧ (m = 1 ∨ m = 2 ∨ m = 3 ∨ m = 4 ∨ m = 5 ∨ m = 6 ∨ m = 7 ∨ m = 8 ∨ m = 9 ∨ m = 10 ∨ m = 11 ∨ m = 12 ∨ m = 13 ∨ m = 14 ∨ m = 15 ∨ m = 16 ∨ m = 17 ∨ m = 18 ∨ m = 19 ∨ m = 20) := ⟨(min n 20).toNat, by omega, by omega⟩
    have e : backoff n = min 64 (2 ^ m) := by
      unfold backoff
      rw [if_neg h1, hm, Int.toNat_natCast]
    rw [e]
    have hmin : minmaxA false [.int .i64 n, .int .i64 20] = some (.int .i64 m) := by
      rw [← hm]
      clear e
      simp only [minmaxA, minmaxA.go, Bool.false_eq_true, if_false]
      congr 2
      split <;> omega
    refine vcE.step (by simp (disch := first | assumption | omega) only [exC, exOps, exOp, wantedE, ↓reduceIte, ROp.run, evsE, evE, putE]; rfl) (vcE.step (by simp (disch := first | assumption | omega) only [exC, exOps, exOp, wantedE, ↓reduceIte, ROp.run, evsE, evE, ty, reduceCtorEq, List.getD_cons_zero, putE, same, binA, intA, dec_false, Option.map_some]; rfl) ?_)
    rcases h2 with rfl | rfl | rfl | rfl | rfl | rfl | rfl | rfl | rfl | rfl | rfl | rfl | rfl | rfl | rfl | rfl | rfl | rfl | rfl | rfl
    all_goals refine vcE.ex (by simp (disch := omega) only [exC, exOps, exOp, wantedE, ↓reduceIte, ROp.run, evsE, evE, ty, reduceCtorEq, List.getD_cons_zero, putE, same, ↓hmin, Option.map_some, binA, Int.toNat_natCast, if_neg]; rfl) ?_
    all_goals exact ⟨_, rfl, rfl⟩

end Go.Gi
