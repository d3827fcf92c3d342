/- Queues: a transaction's place, whether some action is alike, how many jobs are flying, all actions; copies of queues. -/
import Derived.Test.YtakdhioafodhcaaGiQuA
set_option linter.unusedVariables false
set_option linter.unusedSimpArgs false
namespace Go.Gi
open Go Go.Proofs

/-- One of two functions, with what it captured. -/
def R1.fn2 {α : Type} (f g : FuncId) (hfg : Nat.beq f g = false) (s : Rp α) : R1 (Bool × α) where
  v a := .func (if a.1 then f else g) (s.v a.2)
  un := fun
    | .func h cs => match s.un cs with
      | some a => if h = f then some (true, a) else if h = g then some (false, a) else none
      | none => none
    | _ => none
  un_v a := by
    have h : ¬ g = f := by rintro rfl; simp at hfg
    obtain ⟨b, a⟩ := a
    cases b <;> simp [s.un_v, h]
  un_some x a h := by
    split at h
    · split at h
      · rename_i f' cs a' hs
        split at h
        · rename_i e; cases h; rw [s.un_some _ _ hs, e]; rfl
        · split at h
          · rename_i e; cases h; rw [s.un_some _ _ hs, e]; rfl
          · cases h
      · cases h
    · cases h

theorem Act.c_len (a : Act) : a.c.length = 5 := rfl
theorem Job.c_len (j : Job) : j.c.length = 10 := rfl
theorem Que.c_len (q : Que) : q.c.length = 6 := rfl

def T0 : Tab := ((Tab.none.addR 25 (.cons .act (.cons .act .nil)) fun p => .rd true (.bool (p.1.alike p.2.1))).addR 57 (.cons .act .nil) fun p => .rd true (.bool p.1.known)).addR 62 (.cons .job .nil) fun p => .rd true (.bool p.1.waits)
theorem T0_ok : TabOk Try.prog T0 := by
  refine TabOk.addR (TabOk.addR (TabOk.addR (TabOk.none _) ?_) ?_) ?_
  · exact fun p => pAlike p.1 p.2.1
  · exact fun p => pKnown p.1
  · exact fun p => pWaits p.1
theorem T0_alike (a b : Act) : T0 25 [.agg a.c, .agg b.c] = some (.rd true (.bool (a.alike b))) := rfl
theorem T0_known (a : Act) : T0 57 [.agg a.c] = some (.rd true (.bool a.known)) := rfl
theorem T0_waits (j : Job) : T0 62 [.agg j.c] = some (.rd true (.bool j.waits)) := rfl

theorem pAt1 (j : Job) (t : Int) : PCF Try.prog 109 [.agg j.c, .fptr [.int .i64 t] 0] (.bool (decide (j.txn = t))) := by
  refine pcf_e hmG (TabOk.none _) comp109 (by decide) (by simp) (nidL_ok rfl) ?_
  refine vcE.ex (by simp (disch := first | assumption | omega) only [exC, exOps, exOp, wantedE, ↓reduceIte, ROp.run, evsE, evE, Job.c, ty, List.getD_cons_zero, tz, List.length_nil, List.nil_append, putE, Nat.reduceEqDiff, same, faddrA, Option.map_some, loadA, rowA, List.getElem?_cons_zero, pickA, List.getD_cons_succ, binA, intA]; rfl) ?_
  exact ⟨_, rfl, rfl⟩
theorem pPut1 (a b : Act) : PCF Try.prog 60 [.agg b.c, .fptr a.c 0] (.bool (a.alike b)) := by
  refine pcf_e hmG T0_ok comp60 (by decide) (by simp) (nidL_ok rfl) ?_
  have h := T0_alike a b
  simp only [Act.c] at h
  refine vcE.ex (by simp (disch := first | assumption | omega) only [exC, exOps, exOp, wantedE, ↓reduceIte, ROp.run, evsE, evE, Act.c, ty, List.getD_cons_zero, tz, List.length_nil, List.nil_append, putE, Nat.reduceEqDiff, List.getD_cons_succ, same, loadA, rowA, pickA, List.length_cons, Nat.reduceAdd, Nat.reduceLeDiff, List.drop_zero, List.take_succ_cons, List.take_zero, Option.map_some, List.getElem?_cons_zero, List.append_nil, frzL, frz_agg, h, Cls.isFree, callCls, nidL]; rfl) ?_
  exact ⟨_, rfl, rfl⟩
theorem pCheck1 (a b : Act) : PCF Try.prog 71 [.agg b.c, .fptr a.c 0] (.bool (a.alike b)) := by
  refine pcf_e hmG T0_ok comp71 (by decide) (by simp) (nidL_ok rfl) ?_
  have h := T0_alike a b
  simp only [Act.c] at h
  refine vcE.ex (by simp (disch := first | assumption | omega) only [exC, exOps, exOp, wantedE, ↓reduceIte, ROp.run, evsE, evE, Act.c, ty, List.getD_cons_zero, tz, List.length_nil, List.nil_append, putE, Nat.reduceEqDiff, List.getD_cons_succ, same, loadA, rowA, pickA, List.length_cons, Nat.reduceAdd, Nat.reduceLeDiff, List.drop_zero, List.take_succ_cons, List.take_zero, Option.map_some, List.getElem?_cons_zero, List.append_nil, frzL, frz_agg, h, Cls.isFree, callCls, nidL]; rfl) ?_
  exact ⟨_, rfl, rfl⟩
def T1 : Tab := ((T0.addR 109 (.cons .job (.cons (.fp encI) .nil)) fun p => .rd true (.bool (decide (p.1.txn = p.2.1)))).addR 60 (.cons .act (.cons (.fp encA) .nil)) fun p => .rd true (.bool (p.2.1.alike p.1))).addR 71 (.cons .act (.cons (.fp encA) .nil)) fun p => .rd true (.bool (p.2.1.alike p.1))
theorem T1_ok : TabOk Try.prog T1 := by
  refine TabOk.addR (TabOk.addR (TabOk.addR T0_ok ?_) ?_) ?_
  · exact fun p => pAt1 p.1 p.2.1
  · exact fun p => pPut1 p.2.1 p.1
  · exact fun p => pCheck1 p.2.1 p.1
theorem T1_ne {g : FuncId} {xs : List AV} (h : (Nat.beq g 109 || Nat.beq g 60 || Nat.beq g 71) = false) : T1 g xs = T0 g xs := by
  simp only [Bool.or_eq_false_iff] at h
  rw [T1, Tab.addR_ne _ _ _ _ h.2, Tab.addR_ne _ _ _ _ h.1.2, Tab.addR_ne _ _ _ _ h.1.1]

def isTxn (t : Int) (j : Job) : Bool := decide (j.txn = t)
theorem pIdxJ {l : List Job} (hl : l.length ≤ most) (t : Int) : PCF Try.prog 108 [encJ.S l, .func 109 [.fptr [.int .i64 t] 0]] (.int .i64 (idx (isTxn t) l)) :=
  index_pc hmG T1_ok encJ comp108 (b := true) (fun hp => rfl) rfl (by simp only [most] at hl; omega) fun a _ => rfl
def putFn (b : Bool) : FuncId := if b then 60 else 71
theorem pIdxA {l : List Act} (hl : l.length ≤ 3 * most) (b : Bool) (a : Act) : PCF Try.prog 106 [encA.S l, .func (putFn b) [.fptr a.c 0]] (.int .i64 (idx (fun x => a.alike x) l)) :=
  index_pc hmG T1_ok encA comp106 (b := true) (fun hp => rfl) rfl (by simp only [most] at hl; omega) fun x _ => by cases b <;> rfl

abbrev R1.putF : R1 (Bool × (Act × Unit)) := .fn2 60 71 rfl (.cons (.fp encA) .nil)
def T2 : Tab := ((T1.addO 108 (.cons (.S encJ) (.cons (.fn 109 (.cons (.fp encI) .nil)) .nil)) fun p => if p.1.length ≤ most then some (.rd true (.int .i64 (idx (isTxn p.2.1.1) p.1))) else none).addO
  106 (.cons (.S encA) (.cons .putF .nil)) fun p => if p.1.length ≤ 3 * most then some (.rd true (.int .i64 (idx (fun x => p.2.1.2.1.alike x) p.1))) else none)
theorem T2_ok : TabOk Try.prog T2 := by
  refine (T1_ok.addO ?_).addO ?_
  · intro p r h
    split at h
    · rename_i hv; cases h; exact pIdxJ hv _
    · cases h
  · intro p r h
    split at h
    · rename_i hv; cases h; exact pIdxA hv p.2.1.1 _
    · cases h
theorem T2_idxA {l : List Act} (hl : l.length ≤ 3 * most) (b : Bool) (a : Act) : T2 106 [encA.S l, .func (putFn b) [.fptr a.c 0]] = some (.rd true (.int .i64 (idx (fun x => a.alike x) l))) :=
  (Tab.addO_self _ _ (.cons (.S encA) (.cons .putF .nil)) _ (l, (b, (a, ())), ())).trans (if_pos hl)
theorem T2_idxJ {l : List Job} (hl : l.length ≤ most) (t : Int) : T2 108 [encJ.S l, .func 109 [.fptr [.int .i64 t] 0]] = some (.rd true (.int .i64 (idx (isTxn t) l))) := by
  rw [T2, Tab.addO_ne _ _ _ _ rfl]
  exact (Tab.addO_self _ _ (.cons (.S encJ) (.cons (.fn 109 (.cons (.fp encI) .nil)) .nil)) _ (l, (t, ()), ())).trans (if_pos hl)
theorem T2_ne {g : FuncId} {xs : List AV} (h : (Nat.beq g 108 || Nat.beq g 106) = false) : T2 g xs = T1 g xs := by
  simp only [Bool.or_eq_false_iff] at h
  rw [T2, Tab.addO_ne _ _ _ _ h.2, Tab.addO_ne _ _ _ _ h.1]

theorem pAt (q : Que) (hl : q.jobs.length ≤ most) (t : Int) : PCF Try.prog 61 [.agg q.c, .int .i64 t] (.int .i64 (idx (isTxn t) q.jobs)) := by
  refine pcf_e hmG T2_ok comp61 (by decide) (by simp) (nidL_ok (by rw [nidL, queN]; rfl)) ?_
  refine vcE.ex (by simp (disch := first | assumption | omega) only [exC, exOps, exOp, wantedE, ↓reduceIte, ROp.run, evsE, evE, Que.c, ty, List.getD_cons_zero, tz, List.length_nil, List.nil_append, putE, Nat.reduceEqDiff, List.getD_cons_succ, List.length_cons, List.cons_append, same, faddrA, Option.map_some, loadA, rowA, List.getElem?_cons_zero, pickA, List.append_nil, frzL, frz_func, frz_ptr, List.getElem?_cons_succ, nidL, T2_idxJ, Cls.isFree, callCls]; rfl) ?_
  exact ⟨_, rfl, rfl⟩
theorem pHas {l : List Act} (hl : l.length ≤ 3 * most) (b : Bool) (a : Act) : PCF Try.prog 58 [encA.S l, .func (putFn b) [.fptr a.c 0]] (.bool (l.any fun x => a.alike x)) := by
  rw [← idx_ge]
  exact contains_pc hmG T2_ok comp58 (encA.S_nid l) rfl (encA.S_frz _ l) rfl (T2_idxA hl b a)

theorem flyers_take {l : List Job} {i : Nat} {j : Job} (h : l[i]? = some j) : flyers (l.take (i + 1)) = flyers (l.take i) + if j.fly then 1 else 0 := by
  simp only [flyers, List.take_add_one, h, Option.toList_some, List.countP_append, List.countP_singleton]
theorem flyers_le (l : List Job) (i : Nat) : flyers (l.take i) ≤ l.length := by
  have h1 : flyers (l.take i) ≤ (l.take i).length := List.countP_le_length
  rw [List.length_take] at h1
  omega
theorem pFlying (q : Que) (hl : q.jobs.length ≤ most) : PCF Try.prog 63 [.agg q.c] (.int .i64 (flyers q.jobs)) := by
  refine pcf_e hmG T2_ok comp63 (by decide) (by simp) (nidL_ok (by rw [nidL, queN]; rfl)) ?_
  simp only [most] at hl
  refine vcE.step (by simp (disch := first | assumption | omega) only [exC, exOps, exOp, wantedE, ↓reduceIte, ROp.run, evsE, evE, Que.c, ty, List.getD_cons_zero, tz, List.length_nil, List.nil_append, putE]; rfl) (vcE.step (by simp (disch := first | assumption | omega) only [exC, exOps, exOp, wantedE, ↓reduceIte, ROp.run, evsE, evE, putE]; rfl) (vcE.then (fun e tm hp => e = .normal ∧ tm 3 = .int .i64 (flyers q.jobs)) ?_ ?_))
  · refine vcE.step (by simp (disch := first | assumption | omega) only [exC, exOps, exOp, wantedE, ↓reduceIte, ROp.run, evsE, evE, ty, Nat.reduceEqDiff, same, faddrA, Option.map_some, putE, loadA, rowA, List.getElem?_cons_zero, pickA]; rfl) (vcE.block (vcE.count (by intro l tm hp h; simp at h)
      (fun i tm hp => tm 7 = encJ.S q.jobs ∧ tm 8 = .int .i64 q.jobs.length ∧ tm 9 = .int .i64 i ∧ tm 3 = .int .i64 (flyers (q.jobs.take i))) q.jobs.length ⟨rfl, rfl, rfl, rfl⟩ ?_ ?_))
    · rintro i tm hp hi ⟨e7, e8, e9, e3⟩
      obtain ⟨j, hj⟩ : ∃ j, q.jobs[i]? = some j := ⟨_, List.getElem?_eq_getElem hi⟩
      have hpick : pickA (some 10) (encJ.cs q.jobs) (i * 10) = some (.agg j.c) := encJ.pick hj
      have hi1 : iaddrA 10 (encJ.S q.jobs) (.int .i64 i) = some (.fptr (encJ.cs q.jobs) (i * 10)) := encJ.S_iaddr hi
      have ht := flyers_take hj
      have hle := flyers_le q.jobs i
      cases hf : j.fly <;> rw [hf] at ht
      all_goals refine vcE.ex (by simp (disch := first | assumption | omega) only [exC, exOps, exOp, wantedE, ↓reduceIte, ROp.run, evsE, evE, e9, e8, same, binA, intA, dec_true, Option.map_some, putE, ty, Nat.reduceEqDiff, e7, hi1, loadA, rowA, ↓hpick, Job.c, hf, allocA, storeA_eq, List.getElem?_concat_length, tz, List.length_cons, List.length_nil, Nat.reduceAdd, Nat.reduceLeDiff, decide_true, over, List.take_zero, List.nil_append, List.drop_succ_cons, List.drop_nil, List.append_nil, set_concat, faddrA, pickA, List.getElem?_cons_succ, List.getElem?_cons_zero, e3]; rfl) ?_
      all_goals refine ⟨?_, ?_, ?_, ?_⟩
      all_goals simp only [upd_app, Nat.reduceEqDiff, ↓reduceIte, e7, e8, e3, ht]
      all_goals rfl
    · rintro tm hp ⟨e7, e8, e9, e3⟩
      refine vcE.ex (by simp (disch := first | assumption | omega) only [exC, exOps, exOp, wantedE, ↓reduceIte, ROp.run, evsE, evE, e9, e8, same, binA, intA, dec_false, Option.map_some, putE, ty]; rfl) ?_
      refine ⟨rfl, ?_⟩
      simp only [upd_app, Nat.reduceEqDiff, ↓reduceIte, e3, List.take_length]
  · rintro e tm hp ⟨rfl, h3⟩
    refine vcE.ex (by simp (disch := first | assumption | omega) only [exC, exOps, exOp, wantedE, ↓reduceIte, ROp.run, evsE, evE, h3, putE, ty]; rfl) ?_
    exact ⟨_, rfl, rfl⟩

theorem pActions (q : Que) (hq : Fits q) : PCF Try.prog 59 [.agg q.c] (encA.S q.acts) := by
  have hx : NoIdL [.agg q.c] := nidL_ok (by rw [nidL, queN]; rfl)
  refine pcf_of hx ((calls_e hmG T2_ok comp59 (by decide) (by simp) (K := fun r' hp' => fresh hp' r' = some (encA.S q.acts)) ?_).mono fun _ _ => fresh_ok)
  obtain ⟨hl, hf, hs⟩ := hq
  simp only [most] at hl hf hs
  refine vcE.step (by simp (disch := first | assumption | omega) only [exC, exOps, exOp, wantedE, ↓reduceIte, ROp.run, evsE, evE, Que.c, ty, List.getD_cons_zero, tz, List.length_nil, List.nil_append, putE]; rfl) (vcE.step (by simp (disch := first | assumption | omega) only [exC, exOps, exOp, wantedE, ↓reduceIte, ROp.run, evsE, evE, putE]; rfl) (vcE.then (fun e tm hp => e = .normal ∧ tm 1 = .ptr 0 0 ∧ hp[0]? = some (some (.row 29 q.c)) ∧ ∃ id, tm 3 = bld id (q.jobs.map (·.act)).length 5 ∧ BldAt encA hp id 23 (q.jobs.map (·.act))) ?_ ?_))
  · refine vcE.step (by simp (disch := first | assumption | omega) only [exC, exOps, exOp, wantedE, ↓reduceIte, ROp.run, evsE, evE, ty, Nat.reduceEqDiff, same, faddrA, Option.map_some, putE, loadA, rowA, List.getElem?_cons_zero, pickA]; rfl) (vcE.block (vcE.count (by intro l tm hp h; simp at h)
      (fun i tm hp => tm 7 = encJ.S q.jobs ∧ tm 8 = .int .i64 q.jobs.length ∧ tm 9 = .int .i64 i ∧ tm 1 = .ptr 0 0 ∧ hp[0]? = some (some (.row 29 q.c)) ∧ ∃ id, tm 3 = bld id ((q.jobs.take i).map (·.act)).length 5 ∧ BldAt encA hp id 23 ((q.jobs.take i).map (·.act)) ∧ (i = 0 ∨ id ≠ 0)) q.jobs.length ⟨rfl, rfl, rfl, rfl, rfl, 0, rfl, BldAt.nil _ _ _ _, .inl rfl⟩ ?_ ?_))
    · rintro i tm hp hi ⟨e7, e8, e9, e1, hr, id, e3, hB, hid⟩
      obtain ⟨j, hj⟩ : ∃ j, q.jobs[i]? = some j := ⟨_, List.getElem?_eq_getElem hi⟩
      have hpick : pickA (some 10) (encJ.cs q.jobs) (i * 10) = some (.agg j.c) := encJ.pick hj
      have hi1 : iaddrA 10 (encJ.S q.jobs) (.int .i64 i) = some (.fptr (encJ.cs q.jobs) (i * 10)) := encJ.S_iaddr hi
      have hlen : ((q.jobs.take i).map (·.act)).length = i := by rw [List.length_map, List.length_take]; omega
      have hst : storeA (hp ++ [some (.row 42 [.int .i64 0, .int .i64 0, .str [], .str [], .str [], .str [], .bool false, .bool false, .int .i64 0, .int .i64 0])]) 10 (.ptr hp.length 0) (.agg j.c) = some (hp ++ [some (.row 42 j.c)]) := alloc_store (E := encJ) rfl
      have hld : loadA (hp ++ [some (.row 42 j.c)]) (some 5) (.ptr hp.length 1) = some (.agg j.act.c) := by
        simp [loadA, rowA, pickA, Job.c, Act.c]
      generalize hL : (q.jobs.take i).map (·.act) = L at *
      have hB2 := (hB.app [some (.row 42 j.c)]).app [some (.row 23 j.act.c)]
      have hmore : appA 23 5 72 (hp ++ [some (.row 42 j.c)] ++ [some (.row 23 j.act.c)]) (bld id L.length 5) (.sl (hp.length + 1) 0 1 5 1 true) = some (bld (hp.length + 1 + 1) (L ++ [j.act]).length 5, bldH (hp ++ [some (.row 42 j.c)] ++ [some (.row 23 j.act.c)]) id L.length (.row 23 (encA.cs (L ++ [j.act])))) := by
        have hg : (hp ++ [some (Blk.row 42 j.c)] ++ [some (Blk.row 23 j.act.c)])[hp.length + 1]? = some (some (.row 23 (encA.cs [j.act]))) := by simp [Enc.cs, encA]
        have := hB2.more (m := [j.act]) (bytes := 72) (encA.sl_src (lo := 1) (ex := true) hg) (by simp) (by simp only [List.length_cons, List.length_nil]; omega) (by simp only [List.length_cons, List.length_nil]; omega)
        rw [show (hp ++ [some (Blk.row 42 j.c)] ++ [some (Blk.row 23 j.act.c)]).length = hp.length + 1 + 1 by simp] at this
        exact this
      have hstep : (q.jobs.take (i + 1)).map (·.act) = L ++ [j.act] := by
        rw [List.take_add_one, hj, List.map_append, hL]
        rfl
      refine vcE.ex (by simp (disch := first | assumption | omega) only [exC, exOps, exOp, wantedE, ↓reduceIte, ROp.run, evsE, evE, e9, e8, same, binA, intA, dec_true, Option.map_some, putE, ty, Nat.reduceEqDiff, e7, hi1, loadA, rowA, ↓hpick, allocA, ↓hst, e3, faddrA, ↓hld, bslA, tz, Act.c_len, beq_self_eq_true, List.length_append, List.length_cons, List.length_nil, flatA, List.flatMap_cons, List.flatMap_nil, List.append_nil, ↓hmore]; rfl) ?_
      rw [hstep]
      refine ⟨?_, ?_, ?_, ?_, ?_, hp.length + 1 + 1, ?_, ?_, .inr (by omega)⟩
      · simp only [upd_app, Nat.reduceEqDiff, ↓reduceIte, e7]
      · simp only [upd_app, Nat.reduceEqDiff, ↓reduceIte, e8]
      · simp only [upd_app, Nat.reduceEqDiff, ↓reduceIte]; rfl
      · simp only [upd_app, Nat.reduceEqDiff, ↓reduceIte, e1]
      · refine bldH_other (app_get (app_get hr)) ?_
        rcases hid with rfl | hid
        · left; omega
        · right; exact Ne.symm hid
      · simp only [upd_app, Nat.reduceEqDiff, ↓reduceIte, List.length_append, List.length_cons, List.length_nil]
      · have := BldAt.moreAt encA (hp ++ [some (.row 42 j.c)] ++ [some (.row 23 j.act.c)]) id L.length 23 (L ++ [j.act])
        simpa using this
    · rintro tm hp ⟨e7, e8, e9, e1, hr, id, e3, hB, hid⟩
      refine vcE.ex (by simp (disch := first | assumption | omega) only [exC, exOps, exOp, wantedE, ↓reduceIte, ROp.run, evsE, evE, e9, e8, same, binA, intA, dec_false, Option.map_some, putE, ty]; rfl) ?_
      rw [List.take_length] at e3 hB
      refine ⟨rfl, ?_, hr, id, ?_, hB⟩
      · simp only [upd_app, Nat.reduceEqDiff, ↓reduceIte, e1]
      · simp only [upd_app, Nat.reduceEqDiff, ↓reduceIte, e3]
  · rintro e tm hp ⟨rfl, e1, hr, id, e3, hB⟩
    have hm : (q.jobs.map (·.act)).length = q.jobs.length := List.length_map _
    generalize hL : q.jobs.map (·.act) = L at *
    rw [show r59_7 = r59_7.take 6 ++ (r59_7.drop 6).take 1 ++ r59_7.drop 7 from rfl]
    have hrow : (hp ++ [some (Blk.row 27 [bld id L.length 5, encA.S q.failed, encA.S q.settled])])[hp.length]? = some (some (.row 27 [bld id L.length 5, encA.S q.failed, encA.S q.settled])) := by simp
    have hfl : ([L, q.failed, q.settled] : List (List Act)).flatten = q.acts := by simp [Que.acts, hL]
    have hal : q.acts.length ≤ 3 * 1073741824 := by
      rw [← hfl]
      simp only [List.flatten_cons, List.flatten_nil, List.length_append, List.length_nil]
      omega
    have hcc := concat_calls hmG encA (⟨0, [], [], [], []⟩ : Act) comp107 comp129 (lo := 3) (ex := true) (ls := [L, q.failed, q.settled]) hrow rfl (by
      intro x hx
      simp only [List.mem_cons, List.not_mem_nil, or_false] at hx
      rcases hx with rfl | rfl | rfl
      · exact bld_one _ _ _
      · rfl
      · rfl) (by
      intro i x l h1 h2
      match i, h1, h2 with
      | 0, h1, h2 =>
        simp only [List.getElem?_cons_zero, Option.some.injEq] at h1 h2
        subst h1 h2
        exact ⟨bld_fits _ _ _, fun _ => bld_len _ _ _ _, fun new => ((hB.app _).app new).src⟩
      | 1, h1, h2 =>
        simp only [List.getElem?_cons_zero, List.getElem?_cons_succ, Option.some.injEq] at h1 h2
        subst h1 h2
        exact ⟨rfl, fun _ => rfl, fun new => encA.S_src _ _⟩
      | 2, h1, h2 =>
        simp only [List.getElem?_cons_zero, List.getElem?_cons_succ, Option.some.injEq] at h1 h2
        subst h1 h2
        exact ⟨rfl, fun _ => rfl, fun new => encA.S_src _ _⟩
      | i + 3, h1, h2 => simp at h1) (by rw [hfl]; omega) (by rw [hfl]; omega) (by simp)
    rw [hfl] at hcc
    have hone : oneA (bld id L.length 5) = true := bld_one _ _ _
    have hnt : notTup (bld id L.length 5) = true := by unfold bld; split <;> rfl
    have hce : cellsA (bld id L.length 5) = [bld id L.length 5] := bld_cells _ _ _
    refine vcE.seq (vcE.app (vcE.app (vcE.ex (by simp (disch := first | assumption | omega) only [exC, List.take_succ_cons, List.take_zero, exOps, exOp, wantedE, ↓reduceIte, ROp.run, evsE, evE, e3, putE, ty, Nat.reduceEqDiff, e1, same, faddrA, Option.map_some, loadA, rowA, hr, Que.c, pickA, List.getElem?_cons_succ, List.getElem?_cons_zero, bslA, hnt, hce, List.length_cons, List.length_nil, beq_self_eq_true, Nat.reduceAdd, flatA, List.flatMap_cons, List.flatMap_nil, List.append_nil, List.cons_append, List.nil_append]; rfl) ⟨rfl, vcE.call (f := 107) (caps := []) (ys := [.sl hp.length 0 3 1 3 true]) rfl rfl hcc ?_⟩)))
    rintro r hp' ⟨rfl, rfl⟩
    refine ⟨rfl, vcE.ex (by simp (disch := first | assumption | omega) only [exC, putE]; rfl) ?_⟩
    refine vcE.ex (by simp (disch := first | assumption | omega) only [exC, putE, evE, ty, ↓reduceIte]; rfl) ?_
    exact ⟨_, rfl, cat_fresh encA _ _ _ _⟩

end Go.Gi
