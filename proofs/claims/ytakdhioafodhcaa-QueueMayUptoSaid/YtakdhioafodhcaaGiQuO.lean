/- Queues: QueueMay. -/
import Derived.Test.YtakdhioafodhcaaGiQuV
set_option linter.unusedVariables false
set_option linter.unusedSimpArgs false
namespace Go.Gi
open Go Go.Proofs

/-- The table for the laws that go through calls. -/
def T10 : Tab := ((((T8.addR 10 .nil fun _ => .rd true (.bool true)).addO 21 (.cons (.S encC) .nil) fun p => if p.1.length ≤ 4611686018427387904 then some (.rd false (.bool (lightC p.1))) else none).addO 26 (.cons .que .nil) fun p => if Fits p.1 then some (.rd false (.bool p.1.light)) else none).addO
  23 (.cons .que .nil) fun p => if Fits p.1 then some (.rd false (.agg p.1.c)) else none).addO 22 (.cons .que (.cons (.agg encC) .nil)) fun p => if OkQ p.1 ∧ p.2.1.keep.length ≤ most then some (.rd false (doV p.1 p.2.1)) else none
theorem T10_ok : TabOk Try.prog T10 := by
  refine TabOk.addO (TabOk.addO (TabOk.addO (TabOk.addO (TabOk.addR T8_ok ?_) ?_) ?_) ?_) ?_
  · exact fun _ => pLives
  · intro p r h
    split at h
    · rename_i hv; cases h; exact pLight p.1 hv
    · cases h
  · intro p r h
    split at h
    · rename_i hv; cases h; exact pLightQ p.1 hv
    · cases h
  · intro p r h
    split at h
    · rename_i hv; cases h; exact pOwn p.1 hv
    · cases h
  · intro p r h
    split at h
    · rename_i hv; cases h; exact pDo p.1 hv.1 p.2.1 hv.2
    · cases h
theorem T10_do {q : Que} (h : OkQ q) {c : Call} (h2 : c.keep.length ≤ most) : T10 22 [.agg q.c, .agg c.c] = some (.rd false (doV q c)) :=
  (Tab.addO_self _ _ (.cons .que (.cons (.agg encC) .nil)) _ (q, c, ())).trans (if_pos ⟨h, h2⟩)
theorem T10_own {q : Que} (h : Fits q) : T10 23 [.agg q.c] = some (.rd false (.agg q.c)) := by
  rw [T10, Tab.addO_ne _ _ _ _ rfl]
  exact (Tab.addO_self _ _ (.cons .que .nil) _ (q, ())).trans (if_pos h)
theorem T10_lightQ {q : Que} (h : Fits q) : T10 26 [.agg q.c] = some (.rd false (.bool q.light)) := by
  rw [T10, Tab.addO_ne _ _ _ _ rfl, Tab.addO_ne _ _ _ _ rfl]
  exact (Tab.addO_self _ _ (.cons .que .nil) _ (q, ())).trans (if_pos h)
theorem T10_light {l : List Call} (h : l.length ≤ 4611686018427387904) : T10 21 [encC.S l] = some (.rd false (.bool (lightC l))) := by
  rw [T10, Tab.addO_ne _ _ _ _ rfl, Tab.addO_ne _ _ _ _ rfl, Tab.addO_ne _ _ _ _ rfl]
  exact (Tab.addO_self _ _ (.cons (.S encC) .nil) _ (l, ())).trans (if_pos h)
theorem T10_ne {g : FuncId} {xs : List AV} (h : (Nat.beq g 10 || Nat.beq g 21 || Nat.beq g 26 || Nat.beq g 23 || Nat.beq g 22) = false) : T10 g xs = T8 g xs := by
  simp only [Bool.or_eq_false_iff] at h
  obtain ⟨⟨⟨⟨h0, h1⟩, h2⟩, h3⟩, h4⟩ := h
  rw [T10, Tab.addO_ne _ _ _ _ h4, Tab.addO_ne _ _ _ _ h3, Tab.addO_ne _ _ _ _ h2, Tab.addO_ne _ _ _ _ h1, Tab.addR_ne _ _ _ _ h0]
theorem T10_lives : T10 10 [] = some (.rd true (.bool true)) := by
  rw [T10, Tab.addO_ne _ _ _ _ rfl, Tab.addO_ne _ _ _ _ rfl, Tab.addO_ne _ _ _ _ rfl, Tab.addO_ne _ _ _ _ rfl]
  rfl
theorem T10_check {q : Que} (v : Valid q) : T10 27 [.agg q.c] = some (.rd true (.int .i64 0)) := by
  rw [T10_ne rfl, T8_check v.ok.fits, Que.check, valid_iff.2 v, if_pos rfl]

theorem callL_nid (c : Call) : nidL c.c = true := by simp only [Call.c, nidL, nid, Enc.S_nid, Bool.and_self]
theorem callL_frz (c : Call) (hp : HP) : frzL hp c.c = some c.c := by simp only [Call.c, frzL, frz, Enc.S_frz]

set_option maxHeartbeats 4000000 in
theorem may_round {hint : Nat → Nat} {q : Que} (v : Valid q) {l : List Call} {i : Nat} {c : Call} (hc : l[i]? = some c) (hl : l.length ≤ 4611686018427387904) (hk : c.keep.length ≤ most) {tm : Env} {hp : HP} (g0 : hp[0]? = some (some (.row 29 q.c))) (t1 : tm 1 = encC.S l) (t2 : tm 2 = .ptr 0 0) (t5 : tm 5 = .int .i64 i) :
    vcE Try.prog hint T10 115 b5_0 tm hp fun e tm' hp' => e = .normal ∧ hp'[0]? = some (some (.row 29 (doQ q c).1.c)) ∧ tm' 1 = encC.S l ∧ tm' 2 = .ptr 0 0 ∧ tm' 5 = .int .i64 ((i + 1 : Nat) : Int) := by
  have hi := (List.getElem?_eq_some_iff.1 hc).1
  have hcl : True := trivial
  have hlt : 0 < hp.length := get_lt g0
  have g0a : ∀ l, (hp ++ l)[0]? = some (some (.row 29 q.c)) := fun l => app_get g0
  have s0a : ∀ l x, List.set (hp ++ l) 0 x = hp.set 0 x ++ l := fun l x => List.set_append_left _ _ hlt
  have hia : iaddrA 10 (encC.S l) (.int .i64 i) = some (.fptr (encC.cs l) (i * 10)) := encC.S_iaddr hi
  have hpc : pickA (some 10) (encC.cs l) (i * 10) = some (.agg c.c) := encC.pick hc
  have hpk : pickA none (encC.cs l) (i * 10 + 0) = some (.int .i64 c.kind) := encC_kind hc
  have hw : IntKind.wrap .i64 ((i : Int) + 1) = (i : Int) + 1 := wrap_i64 (by omega) (by omega)
  have c1 := T10_own v.ok.fits
  have c2 := T10_do v.ok hk
  have v2 := do_valid v c
  have c3 := T10_check v2
  have c4 : T10 18 [.int .i64 c.kind, .int .i64 9] = _ := (T10_ne rfl).trans ((T8_ne rfl).trans (T7_pick c.kind 9 (by omega)))
  obtain ⟨m1, m2, m3, m4⟩ := do_may (q := q) c
  have hn1 := v.n1
  have hn2 := v.n2
  have c5 : ∀ b, T10 28 [.agg (doQ q c).1.c, .agg ({ q with resync := b } : Que).c] = _ := fun b => (T10_ne rfl).trans (T8_same v2.ok.fits (b := { q with resync := b }) ⟨v.ok.fits.j, v.ok.fits.f, v.ok.fits.s⟩)
  unfold doV at c2
  generalize doQ q c = r at *
  obtain ⟨p, e, w, n, gone⟩ := r
  simp only at *
  generalize hM : pick c.kind 9 = m at *
  have hp1 : pickA none p.c 1 = some (.int .i64 p.next) := rfl
  have hp2 : pickA none p.c 2 = some (.int .i64 p.now) := rfl
  have hq1 : pickA none q.c 1 = some (.int .i64 q.next) := rfl
  have hq2 : pickA none q.c 2 = some (.int .i64 q.now) := rfl
  have hnn : ¬ (p.now < q.now) := by omega
  have hnx : ¬ (p.next < q.next) := by omega
  refine vcE.step (by simp (disch := first | assumption | omega | with_unfolding_all rfl) only [exC, exOps, exOp, evE, evsE, putE, wantedE, Nat.reduceEqDiff, ↓reduceIte, ROp.run, same, binA, intA, strA, eqA, indexSA, byteA, unA, bounds3, Option.map_some, Option.map_none, dec_true, dec_false, Int.toNat_natCast, Int.natCast_nonneg, beq_self_eq_true, List.append_nil, beq_iff_eq, reduceCtorEq, List.getD_cons_zero, List.getD_cons_succ, loadA, rowA, pickA, bslA, storeA_eq, decide_true, flatA, List.length_cons, List.length_nil, Nat.reduceAdd, List.flatMap_cons, List.flatMap_nil, BEq.rfl, List.cons_append, List.nil_append, if_pos, if_neg, ordered, List.getElem?_cons_zero, List.getElem?_cons_succ, frzL, nidL, frz_func, frz_agg, frz_tup, frz_iface, fresh_func, fresh_agg, fresh_tup, fresh_iface, frz_ptr, frz_sl, fresh_sl, Cls.isFree, Cls.makes, callCls, chain, cond_true, tz, ty, faddrA, allocA, over, List.take_succ_cons, List.take_zero, List.drop_succ_cons, List.drop_zero, List.drop_nil, List.set_cons_zero, List.set_cons_succ, Nat.reduceLeDiff, and_self, Que.c_len, Act.c_len, Job.c_len, boxA_eq, ↓pickQ, ↓pickA5, queL_frz, queL_nid, actL_frz, actL_nid, jobL_frz, jobL_nid, hcl, cloneV, cloneH, ↓overQ, osl_one, osl_notTup, osl_cells, oslJ_frz, oslA_frz, dropQ, t1, t5, Enc.S_len, Enc.S_fits]; rfl) ?_
  refine vcE.seq (vcE.block (vcE.seq (vcE.forks (fun tm' hp' => tm' 1 = encC.S l ∧ tm' 2 = .ptr 0 0 ∧ tm' 5 = .int .i64 i ∧ tm' 6 = .ptr hp.length 0 ∧ tm' 7 = .int .i64 e ∧ tm' 9 = .int .i64 n ∧ hp' = hp ++ [some (.row 29 p.c)]) ?_ ?_)))
  · repeat' (first | with_reducible exact exTs_nil | with_reducible refine exT_fork ?_ | (with_reducible show exT _ _ _ (Tr.take _ _) _ _ _; refine exT_take rfl (by simp (disch := first | assumption | omega | with_unfolding_all rfl) only [exC, exOps, exOp, evE, evsE, putE, wantedE, Nat.reduceEqDiff, ↓reduceIte, ROp.run, same, binA, intA, strA, eqA, indexSA, byteA, unA, bounds3, Option.map_some, Option.map_none, dec_true, dec_false, Int.toNat_natCast, Int.natCast_nonneg, beq_self_eq_true, List.append_nil, beq_iff_eq, reduceCtorEq, List.getD_cons_zero, List.getD_cons_succ, loadA, rowA, pickA, bslA, storeA_eq, decide_true, flatA, List.length_cons, List.length_nil, Nat.reduceAdd, List.flatMap_cons, List.flatMap_nil, BEq.rfl, List.cons_append, List.nil_append, if_pos, if_neg, ordered, List.getElem?_cons_zero, List.getElem?_cons_succ, frzL, nidL, frz_func, frz_agg, frz_tup, frz_iface, fresh_func, fresh_agg, fresh_tup, fresh_iface, frz_ptr, frz_sl, fresh_sl, Cls.isFree, Cls.makes, callCls, chain, cond_true, tz, ty, faddrA, allocA, over, List.take_succ_cons, List.take_zero, List.drop_succ_cons, List.drop_zero, List.drop_nil, List.set_cons_zero, List.set_cons_succ, Nat.reduceLeDiff, and_self, Que.c_len, Act.c_len, Job.c_len, boxA_eq, ↓pickQ, ↓pickA5, queL_frz, queL_nid, actL_frz, actL_nid, jobL_frz, jobL_nid, cloneV, cloneH, ↓overQ, osl_one, osl_notTup, osl_cells, oslJ_frz, oslA_frz, dropQ, t1, t2, t5, g0, g0a, getA, getA0, setA, setA0, List.append_assoc, List.length_append, allocA, ↓over_zq, Que.c_cells, hia, ↓hpc, c1, c2, callL_nid, callL_frz, Bool.true_or, Bool.or_true]; rfl) ?_) | (with_reducible show exTs _ _ _ (_ :: _) _ _ _; refine exTs_cons rfl (by simp (disch := first | assumption | omega | with_unfolding_all rfl) only [exC, exOps, exOp, evE, evsE, putE, wantedE, Nat.reduceEqDiff, ↓reduceIte, ROp.run, same, binA, intA, strA, eqA, indexSA, byteA, unA, bounds3, Option.map_some, Option.map_none, dec_true, dec_false, Int.toNat_natCast, Int.natCast_nonneg, beq_self_eq_true, List.append_nil, beq_iff_eq, reduceCtorEq, List.getD_cons_zero, List.getD_cons_succ, loadA, rowA, pickA, bslA, storeA_eq, decide_true, flatA, List.length_cons, List.length_nil, Nat.reduceAdd, List.flatMap_cons, List.flatMap_nil, BEq.rfl, List.cons_append, List.nil_append, if_pos, if_neg, ordered, List.getElem?_cons_zero, List.getElem?_cons_succ, frzL, nidL, frz_func, frz_agg, frz_tup, frz_iface, fresh_func, fresh_agg, fresh_tup, fresh_iface, frz_ptr, frz_sl, fresh_sl, Cls.isFree, Cls.makes, callCls, chain, cond_true, tz, ty, faddrA, allocA, over, List.take_succ_cons, List.take_zero, List.drop_succ_cons, List.drop_zero, List.drop_nil, List.set_cons_zero, List.set_cons_succ, Nat.reduceLeDiff, and_self, Que.c_len, Act.c_len, Job.c_len, boxA_eq, ↓pickQ, ↓pickA5, queL_frz, queL_nid, actL_frz, actL_nid, jobL_frz, jobL_nid, cloneV, cloneH, ↓overQ, osl_one, osl_notTup, osl_cells, oslJ_frz, oslA_frz, dropQ, t1, t2, t5, g0, g0a, getA, getA0, setA, setA0, List.append_assoc, List.length_append, allocA, ↓over_zq, Que.c_cells, hia, ↓hpc, c1, c2, callL_nid, callL_frz, Bool.true_or, Bool.or_true]; rfl) ?_ ?_))
    all_goals (with_reducible refine exT_done ?_)
    all_goals refine ⟨?_, ?_, ?_, ?_, ?_, ?_, ?_⟩
    all_goals simp only [upd_app, Nat.reduceEqDiff, ↓reduceIte, t1, t2, t5]
  · rintro tm' hp' ⟨k1, k2, k5, k6, k7, k9, rfl⟩
    refine vcE.step (by simp (disch := first | assumption | omega | with_unfolding_all rfl) only [exC, exOps, exOp, evE, evsE, putE, wantedE, Nat.reduceEqDiff, ↓reduceIte, ROp.run, same, binA, intA, strA, eqA, indexSA, byteA, unA, bounds3, Option.map_some, Option.map_none, dec_true, dec_false, Int.toNat_natCast, Int.natCast_nonneg, beq_self_eq_true, List.append_nil, beq_iff_eq, reduceCtorEq, List.getD_cons_zero, List.getD_cons_succ, loadA, rowA, pickA, bslA, storeA_eq, decide_true, flatA, List.length_cons, List.length_nil, Nat.reduceAdd, List.flatMap_cons, List.flatMap_nil, BEq.rfl, List.cons_append, List.nil_append, if_pos, if_neg, ordered, List.getElem?_cons_zero, List.getElem?_cons_succ, frzL, nidL, frz_func, frz_agg, frz_tup, frz_iface, fresh_func, fresh_agg, fresh_tup, fresh_iface, frz_ptr, frz_sl, fresh_sl, Cls.isFree, Cls.makes, callCls, chain, cond_true, tz, ty, faddrA, allocA, over, List.take_succ_cons, List.take_zero, List.drop_succ_cons, List.drop_zero, List.drop_nil, List.set_cons_zero, List.set_cons_succ, Nat.reduceLeDiff, and_self, Que.c_len, Act.c_len, Job.c_len, boxA_eq, ↓pickQ, ↓pickA5, queL_frz, queL_nid, actL_frz, actL_nid, jobL_frz, jobL_nid, hcl, cloneV, cloneH, ↓overQ, osl_one, osl_notTup, osl_cells, oslJ_frz, oslA_frz, dropQ, k1, k2, k5, k6, k7, k9, g0, g0a, getA, getA0, List.getElem?_cons_zero, ↓hp1, ↓hp2, ↓hq1, ↓hq2, c3, hnn, hnx]; rfl) ?_
    refine vcE.then (fun e' tm2 hp2 => e' = .normal ∧ tm2 1 = encC.S l ∧ tm2 2 = .ptr 0 0 ∧ tm2 5 = .int .i64 i ∧ tm2 6 = .ptr hp.length 0 ∧ tm2 7 = .int .i64 e ∧ tm2 9 = .int .i64 n ∧ tm2 11 = .bool (decide (m < 2)) ∧ hp2 = hp ++ [some (.row 29 p.c)]) ?_ ?_
    · refine vcE.ex (by simp (disch := first | assumption | omega | with_unfolding_all rfl) only [exC, exOps, exOp, evE, evsE, putE, wantedE, Nat.reduceEqDiff, ↓reduceIte, ROp.run, same, binA, intA, strA, eqA, indexSA, byteA, unA, bounds3, Option.map_some, Option.map_none, dec_true, dec_false, Int.toNat_natCast, Int.natCast_nonneg, beq_self_eq_true, List.append_nil, beq_iff_eq, reduceCtorEq, List.getD_cons_zero, List.getD_cons_succ, loadA, rowA, pickA, bslA, storeA_eq, decide_true, flatA, List.length_cons, List.length_nil, Nat.reduceAdd, List.flatMap_cons, List.flatMap_nil, BEq.rfl, List.cons_append, List.nil_append, if_pos, if_neg, ordered, List.getElem?_cons_zero, List.getElem?_cons_succ, frzL, nidL, frz_func, frz_agg, frz_tup, frz_iface, fresh_func, fresh_agg, fresh_tup, fresh_iface, frz_ptr, frz_sl, fresh_sl, Cls.isFree, Cls.makes, callCls, chain, cond_true, tz, ty, faddrA, allocA, over, List.take_succ_cons, List.take_zero, List.drop_succ_cons, List.drop_zero, List.drop_nil, List.set_cons_zero, List.set_cons_succ, Nat.reduceLeDiff, and_self, Que.c_len, Act.c_len, Job.c_len, boxA_eq, ↓pickQ, ↓pickA5, queL_frz, queL_nid, actL_frz, actL_nid, jobL_frz, jobL_nid, hcl, cloneV, cloneH, ↓overQ, osl_one, osl_notTup, osl_cells, oslJ_frz, oslA_frz, dropQ, k1, k2, k5, k6, k7, k9, g0, g0a, getA, getA0, List.getElem?_cons_zero, hia, ↓hpk, c4]; rfl) ?_
      refine ⟨rfl, ?_, ?_, ?_, ?_, ?_, ?_, ?_, rfl⟩
      all_goals simp only [upd_app, Nat.reduceEqDiff, ↓reduceIte, k1, k2, k5, k6, k7, k9]
    clear k1 k2 k5 k6 k7 k9
    rintro e' tm' hp' ⟨rfl, k1, k2, k5, k6, k7, k9, k11, rfl⟩
    have hq5 : ∀ q : Que, pickA none q.c 5 = some (.bool q.resync) := fun _ => rfl
    have ho : ∀ (q : Que) b, List.take 5 q.c ++ [.bool b] = ({ q with resync := b } : Que).c := fun _ _ => rfl
    have fin : ∀ {tm : Env} {hp2 : HP}, tm 1 = encC.S l → tm 2 = .ptr 0 0 → tm 5 = .int .i64 i → hp2[0]? = some (some (.row 29 p.c)) → vcE Try.prog hint T10 115 (.reg r5_19) tm hp2 fun e tm' hp' => e = .normal ∧ hp'[0]? = some (some (.row 29 p.c)) ∧ tm' 1 = encC.S l ∧ tm' 2 = .ptr 0 0 ∧ tm' 5 = .int .i64 ((i + 1 : Nat) : Int) := by
      intro tm hp2 f1 f2 f5 f0
      refine vcE.ex (by simp (disch := first | assumption | omega | with_unfolding_all rfl) only [exC, exOps, exOp, evE, evsE, putE, wantedE, Nat.reduceEqDiff, ↓reduceIte, ROp.run, same, binA, intA, strA, eqA, indexSA, byteA, unA, bounds3, Option.map_some, Option.map_none, dec_true, dec_false, Int.toNat_natCast, Int.natCast_nonneg, beq_self_eq_true, List.append_nil, beq_iff_eq, reduceCtorEq, List.getD_cons_zero, List.getD_cons_succ, loadA, rowA, pickA, bslA, storeA_eq, decide_true, flatA, List.length_cons, List.length_nil, Nat.reduceAdd, List.flatMap_cons, List.flatMap_nil, BEq.rfl, List.cons_append, List.nil_append, if_pos, if_neg, ordered, List.getElem?_cons_zero, List.getElem?_cons_succ, frzL, nidL, frz_func, frz_agg, frz_tup, frz_iface, fresh_func, fresh_agg, fresh_tup, fresh_iface, frz_ptr, frz_sl, fresh_sl, Cls.isFree, Cls.makes, callCls, chain, cond_true, tz, ty, faddrA, allocA, over, List.take_succ_cons, List.take_zero, List.drop_succ_cons, List.drop_zero, List.drop_nil, List.set_cons_zero, List.set_cons_succ, Nat.reduceLeDiff, and_self, Que.c_len, Act.c_len, Job.c_len, boxA_eq, ↓pickQ, ↓pickA5, queL_frz, queL_nid, actL_frz, actL_nid, jobL_frz, jobL_nid, hcl, cloneV, cloneH, ↓overQ, osl_one, osl_notTup, osl_cells, oslJ_frz, oslA_frz, dropQ, f5, hw]; rfl) ?_
      refine ⟨rfl, f0, ?_, ?_, ?_⟩
      all_goals simp only [upd_app, Nat.reduceEqDiff, ↓reduceIte, f1, f2]
      rfl
    have g0f : ∀ ys : HP, (hp.set 0 (some (Blk.row 29 p.c)) ++ ys)[0]? = some (some (.row 29 p.c)) := fun ys => app_get (set_get g0)
    by_cases he : e = 0
    · obtain ⟨n1, n2⟩ := m4 he
      by_cases hm2 : m < 2
      · obtain ⟨n3, n4⟩ := n1 hm2
        have hw2 : IntKind.wrap .i64 (n + 1) = n + 1 := wrap_i64 (by omega) (by omega)
        have x1 : decide (n = q.next) = true := by simp [n3]
        have x2 : decide (p.next = n + 1) = true := by simp [n3, n4]
        refine vcE.ex (by simp (disch := first | assumption | omega | with_unfolding_all rfl) only [exC, exOps, exOp, evE, evsE, putE, wantedE, Nat.reduceEqDiff, ↓reduceIte, ROp.run, same, binA, intA, strA, eqA, indexSA, byteA, unA, bounds3, Option.map_some, Option.map_none, dec_true, dec_false, Int.toNat_natCast, Int.natCast_nonneg, beq_self_eq_true, List.append_nil, beq_iff_eq, reduceCtorEq, List.getD_cons_zero, List.getD_cons_succ, loadA, rowA, pickA, bslA, storeA_eq, decide_true, flatA, List.length_cons, List.length_nil, Nat.reduceAdd, List.flatMap_cons, List.flatMap_nil, BEq.rfl, List.cons_append, List.nil_append, if_pos, if_neg, ordered, List.getElem?_cons_zero, List.getElem?_cons_succ, frzL, nidL, frz_func, frz_agg, frz_tup, frz_iface, fresh_func, fresh_agg, fresh_tup, fresh_iface, frz_ptr, frz_sl, fresh_sl, Cls.isFree, Cls.makes, callCls, chain, cond_true, tz, ty, faddrA, allocA, over, List.take_succ_cons, List.take_zero, List.drop_succ_cons, List.drop_zero, List.drop_nil, List.set_cons_zero, List.set_cons_succ, Nat.reduceLeDiff, and_self, Que.c_len, Act.c_len, Job.c_len, boxA_eq, ↓pickQ, ↓pickA5, queL_frz, queL_nid, actL_frz, actL_nid, jobL_frz, jobL_nid, hcl, cloneV, cloneH, ↓overQ, osl_one, osl_notTup, osl_cells, oslJ_frz, oslA_frz, dropQ, k1, k2, k5, k6, k7, k9, k11, decide_true, decide_false, g0, g0a, s0a, getA, getA0, setA, setA0, List.append_assoc, List.length_append, allocA, ↓over_zq, ↓over_qq, Que.c_cells, List.getElem?_cons_zero, List.getElem?_cons_succ, List.length_set, ↓hp1, ↓hp2, ↓hq1, ↓hq2, he, hm2, hw2, x1, x2]; rfl) ?_
        refine fin ?_ ?_ ?_ (g0f _)
        all_goals simp only [upd_app, Nat.reduceEqDiff, ↓reduceIte, k1, k2, k5]
      · have n3 := n2 hm2
        have x1 : decide (p.next = q.next) = true := by simp [n3]
        refine vcE.ex (by simp (disch := first | assumption | omega | with_unfolding_all rfl) only [exC, exOps, exOp, evE, evsE, putE, wantedE, Nat.reduceEqDiff, ↓reduceIte, ROp.run, same, binA, intA, strA, eqA, indexSA, byteA, unA, bounds3, Option.map_some, Option.map_none, dec_true, dec_false, Int.toNat_natCast, Int.natCast_nonneg, beq_self_eq_true, List.append_nil, beq_iff_eq, reduceCtorEq, List.getD_cons_zero, List.getD_cons_succ, loadA, rowA, pickA, bslA, storeA_eq, decide_true, flatA, List.length_cons, List.length_nil, Nat.reduceAdd, List.flatMap_cons, List.flatMap_nil, BEq.rfl, List.cons_append, List.nil_append, if_pos, if_neg, ordered, List.getElem?_cons_zero, List.getElem?_cons_succ, frzL, nidL, frz_func, frz_agg, frz_tup, frz_iface, fresh_func, fresh_agg, fresh_tup, fresh_iface, frz_ptr, frz_sl, fresh_sl, Cls.isFree, Cls.makes, callCls, chain, cond_true, tz, ty, faddrA, allocA, over, List.take_succ_cons, List.take_zero, List.drop_succ_cons, List.drop_zero, List.drop_nil, List.set_cons_zero, List.set_cons_succ, Nat.reduceLeDiff, and_self, Que.c_len, Act.c_len, Job.c_len, boxA_eq, ↓pickQ, ↓pickA5, queL_frz, queL_nid, actL_frz, actL_nid, jobL_frz, jobL_nid, hcl, cloneV, cloneH, ↓overQ, osl_one, osl_notTup, osl_cells, oslJ_frz, oslA_frz, dropQ, k1, k2, k5, k6, k7, k9, k11, decide_true, decide_false, g0, g0a, s0a, getA, getA0, setA, setA0, List.append_assoc, List.length_append, allocA, ↓over_zq, ↓over_qq, Que.c_cells, List.getElem?_cons_zero, List.getElem?_cons_succ, List.length_set, ↓hp1, ↓hp2, ↓hq1, ↓hq2, he, hm2, x1]; rfl) ?_
        refine fin ?_ ?_ ?_ (g0f _)
        all_goals simp only [upd_app, Nat.reduceEqDiff, ↓reduceIte, k1, k2, k5]
    · have hpe := m3 he
      have c6 := c5 (q.resync || (decide (m < 2) && decide (e = 13)))
      rw [← hpe, decide_eq_true rfl] at c6
      have c1' := T10_own v.ok.fits
      have key : ∀ b, b = (q.resync || (decide (m < 2) && decide (e = 13))) → T10 28 [.agg p.c, .agg ({ q with resync := b } : Que).c] = some (.rd true (.bool true)) := by
        rintro b rfl
        rw [← hpe]
        exact c6
      cases hrs : q.resync
      · by_cases hm2 : m < 2
        · by_cases h13 : e = 13
          · have c7 := key true (by simp [hm2, h13])
            refine vcE.ex (by simp (disch := first | assumption | omega | with_unfolding_all rfl) only [exC, exOps, exOp, evE, evsE, putE, wantedE, Nat.reduceEqDiff, ↓reduceIte, ROp.run, same, binA, intA, strA, eqA, indexSA, byteA, unA, bounds3, Option.map_some, Option.map_none, dec_true, dec_false, Int.toNat_natCast, Int.natCast_nonneg, beq_self_eq_true, List.append_nil, beq_iff_eq, reduceCtorEq, List.getD_cons_zero, List.getD_cons_succ, loadA, rowA, pickA, bslA, storeA_eq, decide_true, flatA, List.length_cons, List.length_nil, Nat.reduceAdd, List.flatMap_cons, List.flatMap_nil, BEq.rfl, List.cons_append, List.nil_append, if_pos, if_neg, ordered, List.getElem?_cons_zero, List.getElem?_cons_succ, frzL, nidL, frz_func, frz_agg, frz_tup, frz_iface, fresh_func, fresh_agg, fresh_tup, fresh_iface, frz_ptr, frz_sl, fresh_sl, Cls.isFree, Cls.makes, callCls, chain, cond_true, tz, ty, faddrA, allocA, over, List.take_succ_cons, List.take_zero, List.drop_succ_cons, List.drop_zero, List.drop_nil, List.set_cons_zero, List.set_cons_succ, Nat.reduceLeDiff, and_self, Que.c_len, Act.c_len, Job.c_len, boxA_eq, ↓pickQ, ↓pickA5, queL_frz, queL_nid, actL_frz, actL_nid, jobL_frz, jobL_nid, hcl, cloneV, cloneH, ↓overQ, osl_one, osl_notTup, osl_cells, oslJ_frz, oslA_frz, dropQ, k1, k2, k5, k6, k7, k9, k11, decide_true, decide_false, g0, g0a, s0a, getA, getA0, setA, setA0, List.append_assoc, List.length_append, allocA, ↓over_zq, ↓over_qq, Que.c_cells, List.getElem?_cons_zero, List.getElem?_cons_succ, List.length_set, ↓hp1, ↓hp2, ↓hq1, ↓hq2, ↓hq5, ↓ho, hrs, he, hm2, h13, c1, c7, queL_frz, queL_nid, Bool.true_or, Bool.or_true]; rfl) ?_
            refine fin ?_ ?_ ?_ (g0f _)
            all_goals simp only [upd_app, Nat.reduceEqDiff, ↓reduceIte, k1, k2, k5]
          · have c7 := key false (by simp [hrs, hm2, h13])
            refine vcE.ex (by simp (disch := first | assumption | omega | with_unfolding_all rfl) only [exC, exOps, exOp, evE, evsE, putE, wantedE, Nat.reduceEqDiff, ↓reduceIte, ROp.run, same, binA, intA, strA, eqA, indexSA, byteA, unA, bounds3, Option.map_some, Option.map_none, dec_true, dec_false, Int.toNat_natCast, Int.natCast_nonneg, beq_self_eq_true, List.append_nil, beq_iff_eq, reduceCtorEq, List.getD_cons_zero, List.getD_cons_succ, loadA, rowA, pickA, bslA, storeA_eq, decide_true, flatA, List.length_cons, List.length_nil, Nat.reduceAdd, List.flatMap_cons, List.flatMap_nil, BEq.rfl, List.cons_append, List.nil_append, if_pos, if_neg, ordered, List.getElem?_cons_zero, List.getElem?_cons_succ, frzL, nidL, frz_func, frz_agg, frz_tup, frz_iface, fresh_func, fresh_agg, fresh_tup, fresh_iface, frz_ptr, frz_sl, fresh_sl, Cls.isFree, Cls.makes, callCls, chain, cond_true, tz, ty, faddrA, allocA, over, List.take_succ_cons, List.take_zero, List.drop_succ_cons, List.drop_zero, List.drop_nil, List.set_cons_zero, List.set_cons_succ, Nat.reduceLeDiff, and_self, Que.c_len, Act.c_len, Job.c_len, boxA_eq, ↓pickQ, ↓pickA5, queL_frz, queL_nid, actL_frz, actL_nid, jobL_frz, jobL_nid, hcl, cloneV, cloneH, ↓overQ, osl_one, osl_notTup, osl_cells, oslJ_frz, oslA_frz, dropQ, k1, k2, k5, k6, k7, k9, k11, decide_true, decide_false, g0, g0a, s0a, getA, getA0, setA, setA0, List.append_assoc, List.length_append, allocA, ↓over_zq, ↓over_qq, Que.c_cells, List.getElem?_cons_zero, List.getElem?_cons_succ, List.length_set, ↓hp1, ↓hp2, ↓hq1, ↓hq2, ↓hq5, ↓ho, hrs, he, hm2, h13, c1, c7, queL_frz, queL_nid, Bool.true_or, Bool.or_true]; rfl) ?_
            refine fin ?_ ?_ ?_ (g0f _)
            all_goals simp only [upd_app, Nat.reduceEqDiff, ↓reduceIte, k1, k2, k5]
        · have c7 := key false (by simp [hrs, hm2])
          refine vcE.ex (by simp (disch := first | assumption | omega | with_unfolding_all rfl) only [exC, exOps, exOp, evE, evsE, putE, wantedE, Nat.reduceEqDiff, ↓reduceIte, ROp.run, same, binA, intA, strA, eqA, indexSA, byteA, unA, bounds3, Option.map_some, Option.map_none, dec_true, dec_false, Int.toNat_natCast, Int.natCast_nonneg, beq_self_eq_true, List.append_nil, beq_iff_eq, reduceCtorEq, List.getD_cons_zero, List.getD_cons_succ, loadA, rowA, pickA, bslA, storeA_eq, decide_true, flatA, List.length_cons, List.length_nil, Nat.reduceAdd, List.flatMap_cons, List.flatMap_nil, BEq.rfl, List.cons_append, List.nil_append, if_pos, if_neg, ordered, List.getElem?_cons_zero, List.getElem?_cons_succ, frzL, nidL, frz_func, frz_agg, frz_tup, frz_iface, fresh_func, fresh_agg, fresh_tup, fresh_iface, frz_ptr, frz_sl, fresh_sl, Cls.isFree, Cls.makes, callCls, chain, cond_true, tz, ty, faddrA, allocA, over, List.take_succ_cons, List.take_zero, List.drop_succ_cons, List.drop_zero, List.drop_nil, List.set_cons_zero, List.set_cons_succ, Nat.reduceLeDiff, and_self, Que.c_len, Act.c_len, Job.c_len, boxA_eq, ↓pickQ, ↓pickA5, queL_frz, queL_nid, actL_frz, actL_nid, jobL_frz, jobL_nid, hcl, cloneV, cloneH, ↓overQ, osl_one, osl_notTup, osl_cells, oslJ_frz, oslA_frz, dropQ, k1, k2, k5, k6, k7, k9, k11, decide_true, decide_false, g0, g0a, s0a, getA, getA0, setA, setA0, List.append_assoc, List.length_append, allocA, ↓over_zq, ↓over_qq, Que.c_cells, List.getElem?_cons_zero, List.getElem?_cons_succ, List.length_set, ↓hp1, ↓hp2, ↓hq1, ↓hq2, ↓hq5, ↓ho, hrs, he, hm2, c1, c7, queL_frz, queL_nid, Bool.true_or, Bool.or_true]; rfl) ?_
          refine fin ?_ ?_ ?_ (g0f _)
          all_goals simp only [upd_app, Nat.reduceEqDiff, ↓reduceIte, k1, k2, k5]
      · have c7 := key true (by simp [hrs])
        refine vcE.ex (by simp (disch := first | assumption | omega | with_unfolding_all rfl) only [exC, exOps, exOp, evE, evsE, putE, wantedE, Nat.reduceEqDiff, ↓reduceIte, ROp.run, same, binA, intA, strA, eqA, indexSA, byteA, unA, bounds3, Option.map_some, Option.map_none, dec_true, dec_false, Int.toNat_natCast, Int.natCast_nonneg, beq_self_eq_true, List.append_nil, beq_iff_eq, reduceCtorEq, List.getD_cons_zero, List.getD_cons_succ, loadA, rowA, pickA, bslA, storeA_eq, decide_true, flatA, List.length_cons, List.length_nil, Nat.reduceAdd, List.flatMap_cons, List.flatMap_nil, BEq.rfl, List.cons_append, List.nil_append, if_pos, if_neg, ordered, List.getElem?_cons_zero, List.getElem?_cons_succ, frzL, nidL, frz_func, frz_agg, frz_tup, frz_iface, fresh_func, fresh_agg, fresh_tup, fresh_iface, frz_ptr, frz_sl, fresh_sl, Cls.isFree, Cls.makes, callCls, chain, cond_true, tz, ty, faddrA, allocA, over, List.take_succ_cons, List.take_zero, List.drop_succ_cons, List.drop_zero, List.drop_nil, List.set_cons_zero, List.set_cons_succ, Nat.reduceLeDiff, and_self, Que.c_len, Act.c_len, Job.c_len, boxA_eq, ↓pickQ, ↓pickA5, queL_frz, queL_nid, actL_frz, actL_nid, jobL_frz, jobL_nid, hcl, cloneV, cloneH, ↓overQ, osl_one, osl_notTup, osl_cells, oslJ_frz, oslA_frz, dropQ, k1, k2, k5, k6, k7, k9, k11, decide_true, decide_false, g0, g0a, s0a, getA, getA0, setA, setA0, List.append_assoc, List.length_append, allocA, ↓over_zq, ↓over_qq, Que.c_cells, List.getElem?_cons_zero, List.getElem?_cons_succ, List.length_set, ↓hp1, ↓hp2, ↓hq1, ↓hq2, ↓hq5, ↓ho, hrs, he, c1, c7, queL_frz, queL_nid, Bool.true_or, Bool.or_true]; rfl) ?_
        refine fin ?_ ?_ ?_ (g0f _)
        all_goals simp only [upd_app, Nat.reduceEqDiff, ↓reduceIte, k1, k2, k5]

/-- The queue behind so many calls. -/
def runQ (q : Que) (l : List Call) : Que := l.foldl (fun q c => (doQ q c).1) q
theorem runQ_valid {q : Que} (v : Valid q) : ∀ l : List Call, Valid (runQ q l) := by
  intro l
  induction l generalizing q with
  | nil => exact v
  | cons c l ih => exact ih (do_valid v c)
theorem runQ_succ {q : Que} {l : List Call} {i : Nat} {c : Call} (h : l[i]? = some c) : runQ q (l.take (i + 1)) = (doQ (runQ q (l.take i)) c).1 := by
  rw [List.take_add_one, h, runQ, List.foldl_append]
  rfl
theorem light_len {l : List Call} (h : lightC l = true) : l.length ≤ 60 ∧ ∀ c ∈ l, c.keep.length ≤ most := by
  simp only [lightC, Bool.and_eq_true, List.all_eq_true, Call.light, decide_eq_true_eq] at h
  refine ⟨h.2, fun c hc => ?_⟩
  have := (h.1 c hc).2.1
  simp only [most]
  omega

theorem lawMay (q : Que) (l : List Call) (hq : Fits q) (hl : l.length ≤ 4611686018427387904) : PC Try.prog 5 [.agg q.c, encC.S l] (.bool true) := by
  refine pc_e hmG T10_ok comp5 (by decide) (by simp) (nidL_ok (by rw [nidL, queN]; simp only [nidL, Enc.S_nid, Bool.and_self])) ?_
  have hcl : True := trivial
  have c0 := T10_lives
  have c1 := T10_light hl
  have c2 := T10_lightQ hq
  have c3 : T10 27 [.agg q.c] = _ := (T10_ne rfl).trans (T8_check hq)
  refine vcE.step (by simp (disch := first | assumption | omega | with_unfolding_all rfl) only [exC, exOps, exOp, evE, evsE, putE, wantedE, Nat.reduceEqDiff, ↓reduceIte, ROp.run, same, binA, intA, strA, eqA, indexSA, byteA, unA, bounds3, Option.map_some, Option.map_none, dec_true, dec_false, Int.toNat_natCast, Int.natCast_nonneg, beq_self_eq_true, List.append_nil, beq_iff_eq, reduceCtorEq, List.getD_cons_zero, List.getD_cons_succ, loadA, rowA, pickA, bslA, storeA_eq, decide_true, flatA, List.length_cons, List.length_nil, Nat.reduceAdd, List.flatMap_cons, List.flatMap_nil, BEq.rfl, List.cons_append, List.nil_append, if_pos, if_neg, ordered, List.getElem?_cons_zero, List.getElem?_cons_succ, frzL, nidL, frz_func, frz_agg, frz_tup, frz_iface, fresh_func, fresh_agg, fresh_tup, fresh_iface, frz_ptr, frz_sl, fresh_sl, Cls.isFree, Cls.makes, callCls, chain, cond_true, tz, ty, faddrA, allocA, over, List.take_succ_cons, List.take_zero, List.drop_succ_cons, List.drop_zero, List.drop_nil, List.set_cons_zero, List.set_cons_succ, Nat.reduceLeDiff, and_self, Que.c_len, Act.c_len, Job.c_len, boxA_eq, ↓pickQ, ↓pickA5, queL_frz, queL_nid, actL_frz, actL_nid, jobL_frz, jobL_nid, hcl, cloneV, cloneH, ↓overQ, osl_one, osl_notTup, osl_cells, oslJ_frz, oslA_frz, dropQ]; rfl) (vcE.step (by simp (disch := first | assumption | omega | with_unfolding_all rfl) only [exC, exOps, exOp, evE, evsE, putE, wantedE, Nat.reduceEqDiff, ↓reduceIte, ROp.run, same, binA, intA, strA, eqA, indexSA, byteA, unA, bounds3, Option.map_some, Option.map_none, dec_true, dec_false, Int.toNat_natCast, Int.natCast_nonneg, beq_self_eq_true, List.append_nil, beq_iff_eq, reduceCtorEq, List.getD_cons_zero, List.getD_cons_succ, loadA, rowA, pickA, bslA, storeA_eq, decide_true, flatA, List.length_cons, List.length_nil, Nat.reduceAdd, List.flatMap_cons, List.flatMap_nil, BEq.rfl, List.cons_append, List.nil_append, if_pos, if_neg, ordered, List.getElem?_cons_zero, List.getElem?_cons_succ, frzL, nidL, frz_func, frz_agg, frz_tup, frz_iface, fresh_func, fresh_agg, fresh_tup, fresh_iface, frz_ptr, frz_sl, fresh_sl, Cls.isFree, Cls.makes, callCls, chain, cond_true, tz, ty, faddrA, allocA, over, List.take_succ_cons, List.take_zero, List.drop_succ_cons, List.drop_zero, List.drop_nil, List.set_cons_zero, List.set_cons_succ, Nat.reduceLeDiff, and_self, Que.c_len, Act.c_len, Job.c_len, boxA_eq, ↓pickQ, ↓pickA5, queL_frz, queL_nid, actL_frz, actL_nid, jobL_frz, jobL_nid, hcl, cloneV, cloneH, ↓overQ, osl_one, osl_notTup, osl_cells, oslJ_frz, oslA_frz, dropQ, c0, Bool.not_true]; rfl) ?_)
  cases h1 : lightC l <;> rw [h1] at c1
  · refine vcE.ex (by simp (disch := first | assumption | omega | with_unfolding_all rfl) only [exC, exOps, exOp, evE, evsE, putE, wantedE, Nat.reduceEqDiff, ↓reduceIte, ROp.run, same, binA, intA, strA, eqA, indexSA, byteA, unA, bounds3, Option.map_some, Option.map_none, dec_true, dec_false, Int.toNat_natCast, Int.natCast_nonneg, beq_self_eq_true, List.append_nil, beq_iff_eq, reduceCtorEq, List.getD_cons_zero, List.getD_cons_succ, loadA, rowA, pickA, bslA, storeA_eq, decide_true, flatA, List.length_cons, List.length_nil, Nat.reduceAdd, List.flatMap_cons, List.flatMap_nil, BEq.rfl, List.cons_append, List.nil_append, if_pos, if_neg, ordered, List.getElem?_cons_zero, List.getElem?_cons_succ, frzL, nidL, frz_func, frz_agg, frz_tup, frz_iface, fresh_func, fresh_agg, fresh_tup, fresh_iface, frz_ptr, frz_sl, fresh_sl, Cls.isFree, Cls.makes, callCls, chain, cond_true, tz, ty, faddrA, allocA, over, List.take_succ_cons, List.take_zero, List.drop_succ_cons, List.drop_zero, List.drop_nil, List.set_cons_zero, List.set_cons_succ, Nat.reduceLeDiff, and_self, Que.c_len, Act.c_len, Job.c_len, boxA_eq, ↓pickQ, ↓pickA5, queL_frz, queL_nid, actL_frz, actL_nid, jobL_frz, jobL_nid, hcl, cloneV, cloneH, ↓overQ, osl_one, osl_notTup, osl_cells, oslJ_frz, oslA_frz, dropQ, c1, Enc.S_frz, Enc.S_nid, Bool.not_false, Bool.or_true]; rfl) ?_
    exact ⟨_, rfl, rfl⟩
  cases h2 : q.light <;> rw [h2] at c2
  · refine vcE.ex (by simp (disch := first | assumption | omega | with_unfolding_all rfl) only [exC, exOps, exOp, evE, evsE, putE, wantedE, Nat.reduceEqDiff, ↓reduceIte, ROp.run, same, binA, intA, strA, eqA, indexSA, byteA, unA, bounds3, Option.map_some, Option.map_none, dec_true, dec_false, Int.toNat_natCast, Int.natCast_nonneg, beq_self_eq_true, List.append_nil, beq_iff_eq, reduceCtorEq, List.getD_cons_zero, List.getD_cons_succ, loadA, rowA, pickA, bslA, storeA_eq, decide_true, flatA, List.length_cons, List.length_nil, Nat.reduceAdd, List.flatMap_cons, List.flatMap_nil, BEq.rfl, List.cons_append, List.nil_append, if_pos, if_neg, ordered, List.getElem?_cons_zero, List.getElem?_cons_succ, frzL, nidL, frz_func, frz_agg, frz_tup, frz_iface, fresh_func, fresh_agg, fresh_tup, fresh_iface, frz_ptr, frz_sl, fresh_sl, Cls.isFree, Cls.makes, callCls, chain, cond_true, tz, ty, faddrA, allocA, over, List.take_succ_cons, List.take_zero, List.drop_succ_cons, List.drop_zero, List.drop_nil, List.set_cons_zero, List.set_cons_succ, Nat.reduceLeDiff, and_self, Que.c_len, Act.c_len, Job.c_len, boxA_eq, ↓pickQ, ↓pickA5, queL_frz, queL_nid, actL_frz, actL_nid, jobL_frz, jobL_nid, hcl, cloneV, cloneH, ↓overQ, osl_one, osl_notTup, osl_cells, oslJ_frz, oslA_frz, dropQ, c1, c2, queL_frz, queL_nid, Enc.S_frz, Enc.S_nid, Bool.not_false, Bool.not_true, Bool.or_true]; rfl) ?_
    exact ⟨_, rfl, rfl⟩
  by_cases h3 : q.valid = true
  · have v := valid_iff.1 h3
    rw [Que.check, if_pos h3] at c3
    obtain ⟨l60, lk⟩ := light_len h1
    refine vcE.step (by simp (disch := first | assumption | omega | with_unfolding_all rfl) only [exC, exOps, exOp, evE, evsE, putE, wantedE, Nat.reduceEqDiff, ↓reduceIte, ROp.run, same, binA, intA, strA, eqA, indexSA, byteA, unA, bounds3, Option.map_some, Option.map_none, dec_true, dec_false, Int.toNat_natCast, Int.natCast_nonneg, beq_self_eq_true, List.append_nil, beq_iff_eq, reduceCtorEq, List.getD_cons_zero, List.getD_cons_succ, loadA, rowA, pickA, bslA, storeA_eq, decide_true, flatA, List.length_cons, List.length_nil, Nat.reduceAdd, List.flatMap_cons, List.flatMap_nil, BEq.rfl, List.cons_append, List.nil_append, if_pos, if_neg, ordered, List.getElem?_cons_zero, List.getElem?_cons_succ, frzL, nidL, frz_func, frz_agg, frz_tup, frz_iface, fresh_func, fresh_agg, fresh_tup, fresh_iface, frz_ptr, frz_sl, fresh_sl, Cls.isFree, Cls.makes, callCls, chain, cond_true, tz, ty, faddrA, allocA, over, List.take_succ_cons, List.take_zero, List.drop_succ_cons, List.drop_zero, List.drop_nil, List.set_cons_zero, List.set_cons_succ, Nat.reduceLeDiff, and_self, Que.c_len, Act.c_len, Job.c_len, boxA_eq, ↓pickQ, ↓pickA5, queL_frz, queL_nid, actL_frz, actL_nid, jobL_frz, jobL_nid, hcl, cloneV, cloneH, ↓overQ, osl_one, osl_notTup, osl_cells, oslJ_frz, oslA_frz, dropQ, c1, c2, c3, queL_frz, queL_nid, Enc.S_frz, Enc.S_nid, Bool.not_false, Bool.not_true, Bool.or_true, Bool.true_or]; rfl) ?_
    refine vcE.then (fun e tm hp => e = .normal) ?_ ?_
    · refine vcE.step (by simp (disch := first | assumption | omega | with_unfolding_all rfl) only [exC, exOps, exOp, evE, evsE, putE, wantedE, Nat.reduceEqDiff, ↓reduceIte, ROp.run, same, binA, intA, strA, eqA, indexSA, byteA, unA, bounds3, Option.map_some, Option.map_none, dec_true, dec_false, Int.toNat_natCast, Int.natCast_nonneg, beq_self_eq_true, List.append_nil, beq_iff_eq, reduceCtorEq, List.getD_cons_zero, List.getD_cons_succ, loadA, rowA, pickA, bslA, storeA_eq, decide_true, flatA, List.length_cons, List.length_nil, Nat.reduceAdd, List.flatMap_cons, List.flatMap_nil, BEq.rfl, List.cons_append, List.nil_append, if_pos, if_neg, ordered, List.getElem?_cons_zero, List.getElem?_cons_succ, frzL, nidL, frz_func, frz_agg, frz_tup, frz_iface, fresh_func, fresh_agg, fresh_tup, fresh_iface, frz_ptr, frz_sl, fresh_sl, Cls.isFree, Cls.makes, callCls, chain, cond_true, tz, ty, faddrA, allocA, over, List.take_succ_cons, List.take_zero, List.drop_succ_cons, List.drop_zero, List.drop_nil, List.set_cons_zero, List.set_cons_succ, Nat.reduceLeDiff, and_self, Que.c_len, Act.c_len, Job.c_len, boxA_eq, ↓pickQ, ↓pickA5, queL_frz, queL_nid, actL_frz, actL_nid, jobL_frz, jobL_nid, hcl, cloneV, cloneH, ↓overQ, osl_one, osl_notTup, osl_cells, oslJ_frz, oslA_frz, dropQ]; rfl) (vcE.block (vcE.count (by intro l tm hp h; simp at h)
        (fun i tm hp => hp[0]? = some (some (.row 29 (runQ q (l.take i)).c)) ∧ tm 1 = encC.S l ∧ tm 2 = .ptr 0 0 ∧ tm 5 = .int .i64 i) l.length ⟨rfl, ?_, ?_, rfl⟩ ?_ ?_))
      · simp only [upd_app, Nat.reduceEqDiff, ↓reduceIte]
        rfl
      · simp only [upd_app, Nat.reduceEqDiff, ↓reduceIte]
      · rintro i tm hp hi ⟨g0, t1, t2, t5⟩
        obtain ⟨c, hc⟩ : ∃ c, l[i]? = some c := ⟨_, List.getElem?_eq_getElem hi⟩
        refine (may_round (runQ_valid v _) hc hl (lk c (List.mem_of_getElem? hc)) g0 t1 t2 t5).mono ?_
        rintro e tm' hp' ⟨rfl, k0, k1, k2, k5⟩
        rw [runQ_succ hc]
        exact ⟨k0, k1, k2, k5⟩
      · rintro tm hp ⟨g0, t1, t2, t5⟩
        exact vcE.ex (by simp (disch := first | assumption | omega | with_unfolding_all rfl) only [exC, exOps, exOp, evE, evsE, putE, wantedE, Nat.reduceEqDiff, ↓reduceIte, ROp.run, same, binA, intA, strA, eqA, indexSA, byteA, unA, bounds3, Option.map_some, Option.map_none, dec_true, dec_false, Int.toNat_natCast, Int.natCast_nonneg, beq_self_eq_true, List.append_nil, beq_iff_eq, reduceCtorEq, List.getD_cons_zero, List.getD_cons_succ, loadA, rowA, pickA, bslA, storeA_eq, decide_true, flatA, List.length_cons, List.length_nil, Nat.reduceAdd, List.flatMap_cons, List.flatMap_nil, BEq.rfl, List.cons_append, List.nil_append, if_pos, if_neg, ordered, List.getElem?_cons_zero, List.getElem?_cons_succ, frzL, nidL, frz_func, frz_agg, frz_tup, frz_iface, fresh_func, fresh_agg, fresh_tup, fresh_iface, frz_ptr, frz_sl, fresh_sl, Cls.isFree, Cls.makes, callCls, chain, cond_true, tz, ty, faddrA, allocA, over, List.take_succ_cons, List.take_zero, List.drop_succ_cons, List.drop_zero, List.drop_nil, List.set_cons_zero, List.set_cons_succ, Nat.reduceLeDiff, and_self, Que.c_len, Act.c_len, Job.c_len, boxA_eq, ↓pickQ, ↓pickA5, queL_frz, queL_nid, actL_frz, actL_nid, jobL_frz, jobL_nid, hcl, cloneV, cloneH, ↓overQ, osl_one, osl_notTup, osl_cells, oslJ_frz, oslA_frz, dropQ, t1, t5, Enc.S_len, Enc.S_fits]; rfl) rfl
    · rintro e tm hp rfl
      refine vcE.ex (by simp (disch := first | assumption | omega | with_unfolding_all rfl) only [exC, exOps, exOp, evE, evsE, putE, wantedE, Nat.reduceEqDiff, ↓reduceIte, ROp.run, same, binA, intA, strA, eqA, indexSA, byteA, unA, bounds3, Option.map_some, Option.map_none, dec_true, dec_false, Int.toNat_natCast, Int.natCast_nonneg, beq_self_eq_true, List.append_nil, beq_iff_eq, reduceCtorEq, List.getD_cons_zero, List.getD_cons_succ, loadA, rowA, pickA, bslA, storeA_eq, decide_true, flatA, List.length_cons, List.length_nil, Nat.reduceAdd, List.flatMap_cons, List.flatMap_nil, BEq.rfl, List.cons_append, List.nil_append, if_pos, if_neg, ordered, List.getElem?_cons_zero, List.getElem?_cons_succ, frzL, nidL, frz_func, frz_agg, frz_tup, frz_iface, fresh_func, fresh_agg, fresh_tup, fresh_iface, frz_ptr, frz_sl, fresh_sl, Cls.isFree, Cls.makes, callCls, chain, cond_true, tz, ty, faddrA, allocA, over, List.take_succ_cons, List.take_zero, List.drop_succ_cons, List.drop_zero, List.drop_nil, List.set_cons_zero, List.set_cons_succ, Nat.reduceLeDiff, and_self, Que.c_len, Act.c_len, Job.c_len, boxA_eq, ↓pickQ, ↓pickA5, queL_frz, queL_nid, actL_frz, actL_nid, jobL_frz, jobL_nid, hcl, cloneV, cloneH, ↓overQ, osl_one, osl_notTup, osl_cells, oslJ_frz, oslA_frz, dropQ]; rfl) ?_
      exact ⟨_, rfl, rfl⟩
  · have hn : q.check = 2 := by rw [Que.check, if_neg h3]
    rw [hn] at c3
    refine vcE.ex (by simp (disch := first | assumption | omega | with_unfolding_all rfl) only [exC, exOps, exOp, evE, evsE, putE, wantedE, Nat.reduceEqDiff, ↓reduceIte, ROp.run, same, binA, intA, strA, eqA, indexSA, byteA, unA, bounds3, Option.map_some, Option.map_none, dec_true, dec_false, Int.toNat_natCast, Int.natCast_nonneg, beq_self_eq_true, List.append_nil, beq_iff_eq, reduceCtorEq, List.getD_cons_zero, List.getD_cons_succ, loadA, rowA, pickA, bslA, storeA_eq, decide_true, flatA, List.length_cons, List.length_nil, Nat.reduceAdd, List.flatMap_cons, List.flatMap_nil, BEq.rfl, List.cons_append, List.nil_append, if_pos, if_neg, ordered, List.getElem?_cons_zero, List.getElem?_cons_succ, frzL, nidL, frz_func, frz_agg, frz_tup, frz_iface, fresh_func, fresh_agg, fresh_tup, fresh_iface, frz_ptr, frz_sl, fresh_sl, Cls.isFree, Cls.makes, callCls, chain, cond_true, tz, ty, faddrA, allocA, over, List.take_succ_cons, List.take_zero, List.drop_succ_cons, List.drop_zero, List.drop_nil, List.set_cons_zero, List.set_cons_succ, Nat.reduceLeDiff, and_self, Que.c_len, Act.c_len, Job.c_len, boxA_eq, ↓pickQ, ↓pickA5, queL_frz, queL_nid, actL_frz, actL_nid, jobL_frz, jobL_nid, hcl, cloneV, cloneH, ↓overQ, osl_one, osl_notTup, osl_cells, oslJ_frz, oslA_frz, dropQ, c1, c2, c3, queL_frz, queL_nid, Enc.S_frz, Enc.S_nid, Bool.not_false, Bool.not_true, Bool.or_true, Bool.true_or]; rfl) ?_
    exact ⟨_, rfl, rfl⟩

end Go.Gi
