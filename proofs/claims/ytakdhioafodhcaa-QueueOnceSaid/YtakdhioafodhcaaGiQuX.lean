/- Queues: QueueOnce; the law's map. -/
/- Queues: QueueOnce, part by part. -/
/- Queues: QueueOnce, what is put. -/
/- Queues: QueueOnce. -/
import Derived.Test.YtakdhioafodhcaaGiQuV
set_option linter.unusedVariables false
set_option linter.unusedSimpArgs false
namespace Go.Gi
section
open Go Go.Proofs

def rowM (es : List (Int × Act)) : List (AV × AV) := es.map fun e => (.int .i64 e.1, .agg e.2.c)
theorem rowM_len (es : List (Int × Act)) : (rowM es).length = es.length := List.length_map _
theorem find_rowM (t : Int) : ∀ (es : List (Int × Act)) (i : Nat), findA (.int .i64 t) (rowM es) i = some (match es.findIdx? (fun e => decide (e.1 = t)), es.find? (fun e => decide (e.1 = t)) with
    | some j, some e => some (i + j, .agg e.2.c)
    | _, _ => none)
  | [], i => rfl
  | e :: es, i => by
    have ih := find_rowM t es (i + 1)
    simp only [rowM, List.map_cons, findA, keyEqA, kEq, cond_true] at ih ⊢
    by_cases h : e.1 = t
    · rw [decide_eq_true h.symm]
      simp [List.findIdx?_cons, h]
    · rw [decide_eq_false (fun h2 => h h2.symm)]
      simp only [ih, List.findIdx?_cons, List.find?_cons, h, decide_false, Bool.false_eq_true, if_false]
      cases es.findIdx? (fun e => decide (e.1 = t)) <;> cases es.find? (fun e => decide (e.1 = t)) <;> simp
      omega
/-- A map of actions lies there. -/
def MapAt (hp : HP) (es : List (Int × Act)) : Prop := ∃ bs k, hp[1]? = some (some (.map (rowM es) bs k))
theorem MapAt.app {hp : HP} {es : List (Int × Act)} (h : MapAt hp es) (new : HP) : MapAt (hp ++ new) es := by
  obtain ⟨bs, k, h⟩ := h
  exact ⟨bs, k, app_get h⟩
theorem find_under {es : List (Int × Act)} {t : Int} : (under es t = none ∧ es.findIdx? (fun e => decide (e.1 = t)) = none ∧ es.find? (fun e => decide (e.1 = t)) = none) ∨ ∃ a j, under es t = some a ∧ es.findIdx? (fun e => decide (e.1 = t)) = some j ∧ j < es.length ∧ (∃ e, es.find? (fun e => decide (e.1 = t)) = some e ∧ e.2 = a ∧ es[j]? = some e ∧ e.1 = t) := by
  cases hf : es.findIdx? (fun e => decide (e.1 = t)) with
  | none =>
    left
    have h2 := List.findIdx?_eq_none_iff.1 hf
    have h3 : es.find? (fun e => decide (e.1 = t)) = none := List.find?_eq_none.2 fun x hx => by simp [h2 x hx]
    exact ⟨by rw [under, h3]; rfl, rfl, h3⟩
  | some j =>
    right
    obtain ⟨h1, h2, h3⟩ := List.findIdx?_eq_some_iff_getElem.1 hf
    have h4 : es.find? (fun e => decide (e.1 = t)) = some es[j] := List.find?_eq_some_iff_getElem.2 ⟨h2, j, h1, rfl, fun k hk => by have := h3 k hk; simpa using this⟩
    refine ⟨es[j].2, j, by rw [under, h4]; rfl, rfl, h1, es[j], h4, rfl, List.getElem?_eq_getElem h1, by simpa using h2⟩
theorem look_t {hp : HP} {es : List (Int × Act)} (h : MapAt hp es) (t : Int) (z : AV) : lookA hp .int z true (.map 1) (.int .i64 t) = some (.tup [match under es t with | some a => .agg a.c | none => z, .bool (under es t).isSome]) := by
  obtain ⟨bs, k, h⟩ := h
  simp only [lookA, keyA, cond_true, rowsA, h, find_rowM]
  rcases find_under (es := es) (t := t) with ⟨h1, h2, h3⟩ | ⟨a, j, h1, h2, h3, e, h4, h5, h6⟩
  · rw [h1, h2, h3]
    rfl
  · rw [h1, h2, h4, ← h5]
    rfl
theorem look_f {hp : HP} {es : List (Int × Act)} (h : MapAt hp es) (t : Int) (z : AV) : lookA hp .int z false (.map 1) (.int .i64 t) = some (match under es t with | some a => .agg a.c | none => z) := by
  obtain ⟨bs, k, h⟩ := h
  simp only [lookA, keyA, cond_true, cond_false, rowsA, h, find_rowM]
  rcases find_under (es := es) (t := t) with ⟨h1, h2, h3⟩ | ⟨a, j, h1, h2, h3, e, h4, h5, h6⟩
  · rw [h1, h2, h3]
  · rw [h1, h2, h4, ← h5]
theorem mapup_new {hp : HP} {es : List (Int × Act)} (h : MapAt hp es) {t : Int} (hn : under es t = none) (a : Act) : ∃ b, mapupA hp .int (.map 1) (.int .i64 t) (.agg a.c) = some (hp.set 1 b) ∧ MapAt (hp.set 1 b) (es ++ [(t, a)]) := by
  obtain ⟨bs, k, h⟩ := h
  rcases find_under (es := es) (t := t) with ⟨h1, h2, h3⟩ | ⟨a, j, h1, h2, h3, e, h4, h5, h6⟩
  · refine ⟨_, ?_, bs ++ [k], k + 1, set_get h⟩
    simp only [mapupA, keyA, cond_true, h, find_rowM, h2, h3]
    simp [rowM]
  · rw [hn] at h1
    cases h1
theorem del_cut {hp : HP} {es : List (Int × Act)} (h : MapAt hp es) (hu : es.Pairwise fun a b => a.1 ≠ b.1) (t : Int) : ∃ b, delA hp .int (.map 1) (.int .i64 t) = some (hp.set 1 b) ∧ MapAt (hp.set 1 b) (cut es t) := by
  obtain ⟨bs, k, h⟩ := h
  rcases find_under (es := es) (t := t) with ⟨h1, h2, h3⟩ | ⟨a, j, h1, h2, h3, e, h4, h5, h6, h7⟩
  · refine ⟨some (.map (rowM es) bs k), ?_, bs, k, ?_⟩
    · simp only [delA, keyA, cond_true, h, find_rowM, h2, h3]
      rw [set_same h]
    · rw [cut, List.filter_eq_self.2]
      · exact set_get h
      · intro x hx
        have := List.find?_eq_none.1 h3 x hx
        simpa using this
  · refine ⟨_, ?_, bs.eraseIdx j, k, set_get h⟩
    simp only [delA, keyA, cond_true, h, find_rowM, h2, h4, Nat.zero_add]
    have e2 : cut es t = es.eraseIdx j := by
      have hl : es = es.take j ++ e :: es.drop (j + 1) := by
        have hg : e = es[j] := by rw [List.getElem?_eq_getElem h3] at h6; exact (Option.some.inj h6).symm
        rw [hg, ← List.drop_eq_getElem_cons h3, List.take_append_drop]
      rw [List.eraseIdx_eq_take_drop_succ]
      unfold cut
      conv => lhs; rw [hl]
      rw [hl] at hu
      obtain ⟨_, u1, u2⟩ := List.pairwise_append.1 hu
      rw [List.filter_append, List.filter_cons_of_neg (by simp [h7]), ← List.filter_append]
      refine List.filter_eq_self.2 fun x hx => ?_
      rcases List.mem_append.1 hx with hx | hx
      · have := u2 x hx _ List.mem_cons_self
        rw [h7] at this
        simp [this]
      · have := (List.pairwise_cons.1 u1).1 x hx
        rw [h7] at this
        simp [Ne.symm this]
    rw [e2]
    simp only [rowM, List.eraseIdx_eq_take_drop_succ, List.map_append, List.map_take, List.map_drop]
theorem MapAt.len {hp : HP} {es : List (Int × Act)} (h : MapAt hp es) : lenA hp (.map 1) = some (.int .i64 es.length) := by
  obtain ⟨bs, k, h⟩ := h
  simp only [lenA, h, rowM_len]
end

section
open Go Go.Proofs

/-- With copies that the caller may write. -/
def T11 : Tab := T10.addO 24 (.cons (.S encA) .nil) fun p => if p.1.length ≤ most then some (.mk fun k => (ownV 5 p.1.length k, ownH 23 p.1.length (encA.cs p.1))) else none
theorem T11_ok : TabOk Try.prog T11 := by
  refine TabOk.addO T10_ok ?_
  intro p r h
  split at h
  · rename_i hv
    cases h
    simp only [most] at hv
    exact fun hp => own_calls hmG encA comp24 (by omega) (by omega) hp
  · cases h
theorem T11_own {l : List Act} (h : l.length ≤ most) : T11 24 [encA.S l] = some (.mk fun k => (ownV 5 l.length k, ownH 23 l.length (encA.cs l))) :=
  (Tab.addO_self _ _ (.cons (.S encA) .nil) _ (l, ())).trans (if_pos h)
theorem T11_ne {g : FuncId} {xs : List AV} (h : Nat.beq g 24 = false) : T11 g xs = T10 g xs := Tab.addO_ne _ _ _ _ h _
theorem T11_alike (a b : Act) : T11 25 [.agg a.c, .agg b.c] = some (.rd true (.bool (a.alike b))) := rfl

/-- How things stand within a round. -/
structure On (l : List Call) (i : Nat) (q p : Que) (k : Nat) (kind e w n : Int) (gone : List Job) (es : List (Int × Act)) (tm : Env) (hp : HP) : Prop where
  g0 : hp[0]? = some (some (.row 29 q.c))
  gk : hp[k]? = some (some (.row 29 p.c))
  k2 : 1 < k
  m : MapAt hp es
  t0 : tm 0 = encC.S l
  t3 : tm 3 = .ptr 0 0
  t4 : tm 4 = .map 1
  t5 : tm 5 = .int .i64 i
  t6 : tm 6 = .int .i64 kind
  t7 : tm 7 = .ptr k 0
  t8 : tm 8 = .int .i64 e
  t9 : tm 9 = .int .i64 w
  t10 : tm 10 = .int .i64 n
  t11 : tm 11 = encJ.S gone
/-- Others may change, and blocks may come. -/
theorem On.keep {l : List Call} {i : Nat} {q p : Que} {k : Nat} {kind e w n : Int} {gone : List Job} {es : List (Int × Act)} {tm tm' : Env} {hp : HP} (h : On l i q p k kind e w n gone es tm hp) (new : HP) (h0 : tm' 0 = tm 0) (h3 : tm' 3 = tm 3) (h4 : tm' 4 = tm 4) (h5 : tm' 5 = tm 5) (h6 : tm' 6 = tm 6) (h7 : tm' 7 = tm 7) (h8 : tm' 8 = tm 8) (h9 : tm' 9 = tm 9) (h10 : tm' 10 = tm 10) (h11 : tm' 11 = tm 11) : On l i q p k kind e w n gone es tm' (hp ++ new) :=
  ⟨app_get h.g0, app_get h.gk, h.k2, h.m.app _, h0.trans h.t0, h3.trans h.t3, h4.trans h.t4, h5.trans h.t5, h6.trans h.t6, h7.trans h.t7, h8.trans h.t8, h9.trans h.t9, h10.trans h.t10, h11.trans h.t11⟩
theorem On.keep' {l : List Call} {i : Nat} {q p : Que} {k : Nat} {kind e w n : Int} {gone : List Job} {es : List (Int × Act)} {tm tm' : Env} {hp : HP} (h : On l i q p k kind e w n gone es tm hp) (h0 : tm' 0 = tm 0) (h3 : tm' 3 = tm 3) (h4 : tm' 4 = tm 4) (h5 : tm' 5 = tm 5) (h6 : tm' 6 = tm 6) (h7 : tm' 7 = tm 7) (h8 : tm' 8 = tm 8) (h9 : tm' 9 = tm 9) (h10 : tm' 10 = tm 10) (h11 : tm' 11 = tm 11) : On l i q p k kind e w n gone es tm' hp := by
  have := h.keep [] h0 h3 h4 h5 h6 h7 h8 h9 h10 h11
  rwa [List.append_nil] at this
/-- The map changes. -/
theorem On.map {l : List Call} {i : Nat} {q p : Que} {k : Nat} {kind e w n : Int} {gone : List Job} {es es' : List (Int × Act)} {tm : Env} {hp : HP} (h : On l i q p k kind e w n gone es tm hp) {b : Option Blk} (hb : MapAt (hp.set 1 b) es') : On l i q p k kind e w n gone es' tm (hp.set 1 b) :=
  ⟨by rw [set_get_ne (by omega)]; exact h.g0, by rw [set_get_ne (by have := h.k2; omega)]; exact h.gk, h.k2, hb, h.t0, h.t3, h.t4, h.t5, h.t6, h.t7, h.t8, h.t9, h.t10, h.t11⟩
theorem encJ_txn {l : List Job} {i : Nat} {j : Job} (h : l[i]? = some j) : pickA none (encJ.cs l) (i * 10 + 0) = some (.int .i64 j.txn) := by
  have := encJ.pick_part h (sh := none) (o := 0) (by show 0 + 1 ≤ 10; omega)
  rw [show encJ.sz = 10 from rfl] at this
  rw [this]
  rfl
theorem encJ_fly {l : List Job} {i : Nat} {j : Job} (h : l[i]? = some j) : pickA none (encJ.cs l) (i * 10 + 6) = some (.bool j.fly) := by
  have := encJ.pick_part h (sh := none) (o := 6) (by show 6 + 1 ≤ 10; omega)
  rw [show encJ.sz = 10 from rfl] at this
  rw [this]
  rfl
theorem encJ_doubt {l : List Job} {i : Nat} {j : Job} (h : l[i]? = some j) : pickA none (encJ.cs l) (i * 10 + 7) = some (.bool j.doubt) := by
  have := encJ.pick_part h (sh := none) (o := 7) (by show 7 + 1 ≤ 10; omega)
  rw [show encJ.sz = 10 from rfl] at this
  rw [this]
  rfl
theorem encC_txn {l : List Call} {i : Nat} {x : Call} (h : l[i]? = some x) : pickA none (encC.cs l) (i * 10 + 6) = some (.int .i64 x.txn) := by
  have := encC.pick_part h (sh := none) (o := 6) (by show 6 + 1 ≤ 10; omega)
  rw [show encC.sz = 10 from rfl] at this
  rw [this]
  rfl
section
variable {hint : Nat → Nat} {l : List Call} {i : Nat} {c : Call} {q p : Que} {k : Nat} {kind e w n : Int} {gone : List Job} {es : List (Int × Act)} {tm : Env} {hp : HP}

theorem once_gone (hc : l[i]? = some c) (hl : l.length ≤ 4611686018427387904) (h : On l i q p k kind e w n gone es tm hp) (hgl : gone.length ≤ most) (hu : es.Pairwise fun a b => a.1 ≠ b.1) (hg : ∀ (j : Nat) x, gone[j]? = some x → x.fly = false ∧ x.doubt = false ∧ under (cuts es ((gone.take j).map (·.txn))) x.txn = some x.act) :
    vcE Try.prog hint T11 199 (IC.seq (IC.reg r4_22) (IC.block 4 (IC.loop b4_1))) tm hp fun e' tm' hp' => e' = .normal ∧ On l i q p k kind e w n gone (cuts es (gone.map (·.txn))) tm' hp' := by
  simp only [most] at hgl
  have hcl : True := trivial
  refine vcE.step (by simp (disch := first | assumption | omega | with_unfolding_all rfl) only [exC, exOps, exOp, evE, evsE, putE, wantedE, Nat.reduceEqDiff, ↓reduceIte, ROp.run, same, binA, intA, strA, eqA, indexSA, byteA, unA, bounds3, Option.map_some, Option.map_none, dec_true, dec_false, Int.toNat_natCast, Int.natCast_nonneg, beq_self_eq_true, List.append_nil, beq_iff_eq, reduceCtorEq, List.getD_cons_zero, List.getD_cons_succ, loadA, rowA, pickA, bslA, storeA_eq, decide_true, flatA, List.length_cons, List.length_nil, Nat.reduceAdd, List.flatMap_cons, List.flatMap_nil, BEq.rfl, List.cons_append, List.nil_append, if_pos, if_neg, ordered, List.getElem?_cons_zero, List.getElem?_cons_succ, frzL, nidL, frz_func, frz_agg, frz_tup, frz_iface, fresh_func, fresh_agg, fresh_tup, fresh_iface, frz_ptr, frz_sl, fresh_sl, Cls.isFree, Cls.makes, callCls, chain, cond_true, tz, ty, faddrA, allocA, over, List.take_succ_cons, List.take_zero, List.drop_succ_cons, List.drop_zero, List.drop_nil, List.set_cons_zero, List.set_cons_succ, Nat.reduceLeDiff, and_self, Que.c_len, Act.c_len, Job.c_len, boxA_eq, ↓pickQ, ↓pickA5, queL_frz, queL_nid, actL_frz, actL_nid, jobL_frz, jobL_nid, hcl, cloneV, cloneH, ↓overQ, osl_one, osl_notTup, osl_cells, oslJ_frz, oslA_frz, dropQ]; rfl) (vcE.block (vcE.count (by intro l tm hp h; simp at h)
    (fun j tm' hp' => On l i q p k kind e w n gone (cuts es ((gone.take j).map (·.txn))) tm' hp' ∧ tm' 16 = .int .i64 j) gone.length ⟨?_, rfl⟩ ?_ ?_))
  · have := h.keep' (tm' := upd tm 16 (.int .i64 0)) rfl rfl rfl rfl rfl rfl rfl rfl rfl rfl
    exact this
  · rintro j tm hp hj ⟨h, t16⟩
    obtain ⟨x, hx⟩ : ∃ x, gone[j]? = some x := ⟨_, List.getElem?_eq_getElem hj⟩
    obtain ⟨f1, f2, f3⟩ := hg j x hx
    have hia : iaddrA 10 (encJ.S gone) (.int .i64 j) = some (.fptr (encJ.cs gone) (j * 10)) := encJ.S_iaddr hj
    have p6 := encJ_fly hx
    have p7 := encJ_doubt hx
    have p0 := encJ_txn hx
    have p1 := encJ_act hx
    rw [f1] at p6
    rw [f2] at p7
    have hlk := look_f h.m x.txn (.agg [.int .i64 0, .str [], .str [], .str [], .str []])
    rw [f3] at hlk
    have hne : binA .neq (.st [.int, .str, .str, .str, .str]) (.agg x.act.c) (.agg x.act.c) = some (.bool (!decide (x.act = x.act))) := elA.ne x.act x.act
    rw [decide_eq_true rfl] at hne
    have hup : (cuts es ((gone.take j).map (·.txn))).Pairwise fun a b => a.1 ≠ b.1 := by
      rw [cuts_eq]
      exact hu.sublist List.filter_sublist
    obtain ⟨b, hd1, hd2⟩ := del_cut h.m hup x.txn
    have hw : IntKind.wrap .i64 ((j : Int) + 1) = (j : Int) + 1 := wrap_i64 (by omega) (by omega)
    refine vcE.ex (by simp (disch := first | assumption | omega | with_unfolding_all rfl) only [exC, exOps, exOp, evE, evsE, putE, wantedE, Nat.reduceEqDiff, ↓reduceIte, ROp.run, same, binA, intA, strA, eqA, indexSA, byteA, unA, bounds3, Option.map_some, Option.map_none, dec_true, dec_false, Int.toNat_natCast, Int.natCast_nonneg, beq_self_eq_true, List.append_nil, beq_iff_eq, reduceCtorEq, List.getD_cons_zero, List.getD_cons_succ, loadA, rowA, pickA, bslA, storeA_eq, decide_true, flatA, List.length_cons, List.length_nil, Nat.reduceAdd, List.flatMap_cons, List.flatMap_nil, BEq.rfl, List.cons_append, List.nil_append, if_pos, if_neg, ordered, List.getElem?_cons_zero, List.getElem?_cons_succ, frzL, nidL, frz_func, frz_agg, frz_tup, frz_iface, fresh_func, fresh_agg, fresh_tup, fresh_iface, frz_ptr, frz_sl, fresh_sl, Cls.isFree, Cls.makes, callCls, chain, cond_true, tz, ty, faddrA, allocA, over, List.take_succ_cons, List.take_zero, List.drop_succ_cons, List.drop_zero, List.drop_nil, List.set_cons_zero, List.set_cons_succ, Nat.reduceLeDiff, and_self, Que.c_len, Act.c_len, Job.c_len, boxA_eq, ↓pickQ, ↓pickA5, queL_frz, queL_nid, actL_frz, actL_nid, jobL_frz, jobL_nid, hcl, cloneV, cloneH, ↓overQ, osl_one, osl_notTup, osl_cells, oslJ_frz, oslA_frz, dropQ, h.t4, h.t11, t16, hia, ↓p6, ↓p7, ↓p0, ↓p1, ↓hlk, ↓hne, ↓hd1, hw, Enc.S_len, Enc.S_fits, Bool.not_true]; rfl) ?_
    have hcut : cuts es ((gone.take (j + 1)).map (·.txn)) = cut (cuts es ((gone.take j).map (·.txn))) x.txn := by
      rw [List.take_add_one, hx]
      simp only [cuts, Option.toList_some, List.map_append, List.map_cons, List.map_nil, List.foldl_append, List.foldl_cons, List.foldl_nil]
    rw [hcut]
    refine ⟨(h.map hd2).keep' ?_ ?_ ?_ ?_ ?_ ?_ ?_ ?_ ?_ ?_, ?_⟩
    all_goals simp only [upd_app, Nat.reduceEqDiff, ↓reduceIte]
    rfl
  · rintro tm hp ⟨h, t16⟩
    rw [List.take_length] at h
    refine vcE.ex (by simp (disch := first | assumption | omega | with_unfolding_all rfl) only [exC, exOps, exOp, evE, evsE, putE, wantedE, Nat.reduceEqDiff, ↓reduceIte, ROp.run, same, binA, intA, strA, eqA, indexSA, byteA, unA, bounds3, Option.map_some, Option.map_none, dec_true, dec_false, Int.toNat_natCast, Int.natCast_nonneg, beq_self_eq_true, List.append_nil, beq_iff_eq, reduceCtorEq, List.getD_cons_zero, List.getD_cons_succ, loadA, rowA, pickA, bslA, storeA_eq, decide_true, flatA, List.length_cons, List.length_nil, Nat.reduceAdd, List.flatMap_cons, List.flatMap_nil, BEq.rfl, List.cons_append, List.nil_append, if_pos, if_neg, ordered, List.getElem?_cons_zero, List.getElem?_cons_succ, frzL, nidL, frz_func, frz_agg, frz_tup, frz_iface, fresh_func, fresh_agg, fresh_tup, fresh_iface, frz_ptr, frz_sl, fresh_sl, Cls.isFree, Cls.makes, callCls, chain, cond_true, tz, ty, faddrA, allocA, over, List.take_succ_cons, List.take_zero, List.drop_succ_cons, List.drop_zero, List.drop_nil, List.set_cons_zero, List.set_cons_succ, Nat.reduceLeDiff, and_self, Que.c_len, Act.c_len, Job.c_len, boxA_eq, ↓pickQ, ↓pickA5, queL_frz, queL_nid, actL_frz, actL_nid, jobL_frz, jobL_nid, hcl, cloneV, cloneH, ↓overQ, osl_one, osl_notTup, osl_cells, oslJ_frz, oslA_frz, dropQ, h.t11, t16, Enc.S_len, Enc.S_fits]; rfl) ?_
    refine ⟨rfl, h.keep' ?_ ?_ ?_ ?_ ?_ ?_ ?_ ?_ ?_ ?_⟩
    all_goals simp only [upd_app, Nat.reduceEqDiff, ↓reduceIte]

theorem once_ans (hc : l[i]? = some c) (h : On l i q p k kind e w n gone es tm hp) (hu : es.Pairwise fun a b => a.1 ≠ b.1) :
    vcE Try.prog hint T11 199 (IC.seq (IC.reg r4_28) (IC.cond (.t 143) (IC.reg r4_29) IC.skip)) tm hp fun e' tm' hp' => e' = .normal ∧ On l i q p k kind e w n gone (if kind = 4 ∧ e = 0 ∧ w ≠ 2 then cut es c.txn else es) tm' hp' := by
  have hcl : True := trivial
  have hi := (List.getElem?_eq_some_iff.1 hc).1
  have hia : iaddrA 10 (encC.S l) (.int .i64 i) = some (.fptr (encC.cs l) (i * 10)) := encC.S_iaddr hi
  have p6 := encC_txn hc
  obtain ⟨b, hd1, hd2⟩ := del_cut h.m hu c.txn
  by_cases h1 : kind = 4
  · by_cases h2 : e = 0
    · by_cases h3 : w = 2
      · refine vcE.ex (by simp (disch := first | assumption | omega | with_unfolding_all rfl) only [exC, exOps, exOp, evE, evsE, putE, wantedE, Nat.reduceEqDiff, ↓reduceIte, ROp.run, same, binA, intA, strA, eqA, indexSA, byteA, unA, bounds3, Option.map_some, Option.map_none, dec_true, dec_false, Int.toNat_natCast, Int.natCast_nonneg, beq_self_eq_true, List.append_nil, beq_iff_eq, reduceCtorEq, List.getD_cons_zero, List.getD_cons_succ, loadA, rowA, pickA, bslA, storeA_eq, decide_true, flatA, List.length_cons, List.length_nil, Nat.reduceAdd, List.flatMap_cons, List.flatMap_nil, BEq.rfl, List.cons_append, List.nil_append, if_pos, if_neg, ordered, List.getElem?_cons_zero, List.getElem?_cons_succ, frzL, nidL, frz_func, frz_agg, frz_tup, frz_iface, fresh_func, fresh_agg, fresh_tup, fresh_iface, frz_ptr, frz_sl, fresh_sl, Cls.isFree, Cls.makes, callCls, chain, cond_true, tz, ty, faddrA, allocA, over, List.take_succ_cons, List.take_zero, List.drop_succ_cons, List.drop_zero, List.drop_nil, List.set_cons_zero, List.set_cons_succ, Nat.reduceLeDiff, and_self, Que.c_len, Act.c_len, Job.c_len, boxA_eq, ↓pickQ, ↓pickA5, queL_frz, queL_nid, actL_frz, actL_nid, jobL_frz, jobL_nid, hcl, cloneV, cloneH, ↓overQ, osl_one, osl_notTup, osl_cells, oslJ_frz, oslA_frz, dropQ, h.t6, h.t8, h.t9, h1, h2, h3, decide_true, decide_false]; rfl) ?_
        rw [if_neg (by simp [h3])]
        refine ⟨rfl, ?_⟩
        subst h1 h2 h3
        refine h.keep' ?_ ?_ ?_ ?_ ?_ ?_ ?_ ?_ ?_ ?_
        all_goals simp only [upd_app, Nat.reduceEqDiff, ↓reduceIte]
      · refine vcE.ex (by simp (disch := first | assumption | omega | with_unfolding_all rfl) only [exC, exOps, exOp, evE, evsE, putE, wantedE, Nat.reduceEqDiff, ↓reduceIte, ROp.run, same, binA, intA, strA, eqA, indexSA, byteA, unA, bounds3, Option.map_some, Option.map_none, dec_true, dec_false, Int.toNat_natCast, Int.natCast_nonneg, beq_self_eq_true, List.append_nil, beq_iff_eq, reduceCtorEq, List.getD_cons_zero, List.getD_cons_succ, loadA, rowA, pickA, bslA, storeA_eq, decide_true, flatA, List.length_cons, List.length_nil, Nat.reduceAdd, List.flatMap_cons, List.flatMap_nil, BEq.rfl, List.cons_append, List.nil_append, if_pos, if_neg, ordered, List.getElem?_cons_zero, List.getElem?_cons_succ, frzL, nidL, frz_func, frz_agg, frz_tup, frz_iface, fresh_func, fresh_agg, fresh_tup, fresh_iface, frz_ptr, frz_sl, fresh_sl, Cls.isFree, Cls.makes, callCls, chain, cond_true, tz, ty, faddrA, allocA, over, List.take_succ_cons, List.take_zero, List.drop_succ_cons, List.drop_zero, List.drop_nil, List.set_cons_zero, List.set_cons_succ, Nat.reduceLeDiff, and_self, Que.c_len, Act.c_len, Job.c_len, boxA_eq, ↓pickQ, ↓pickA5, queL_frz, queL_nid, actL_frz, actL_nid, jobL_frz, jobL_nid, hcl, cloneV, cloneH, ↓overQ, osl_one, osl_notTup, osl_cells, oslJ_frz, oslA_frz, dropQ, h.t0, h.t4, h.t5, h.t6, h.t8, h.t9, h1, h2, h3, hia, ↓p6, ↓hd1, decide_true, decide_false, Bool.not_false]; rfl) ?_
        rw [if_pos ⟨h1, h2, h3⟩]
        refine ⟨rfl, ?_⟩
        subst h1 h2
        refine (h.map hd2).keep' ?_ ?_ ?_ ?_ ?_ ?_ ?_ ?_ ?_ ?_
        all_goals simp only [upd_app, Nat.reduceEqDiff, ↓reduceIte]
    · refine vcE.ex (by simp (disch := first | assumption | omega | with_unfolding_all rfl) only [exC, exOps, exOp, evE, evsE, putE, wantedE, Nat.reduceEqDiff, ↓reduceIte, ROp.run, same, binA, intA, strA, eqA, indexSA, byteA, unA, bounds3, Option.map_some, Option.map_none, dec_true, dec_false, Int.toNat_natCast, Int.natCast_nonneg, beq_self_eq_true, List.append_nil, beq_iff_eq, reduceCtorEq, List.getD_cons_zero, List.getD_cons_succ, loadA, rowA, pickA, bslA, storeA_eq, decide_true, flatA, List.length_cons, List.length_nil, Nat.reduceAdd, List.flatMap_cons, List.flatMap_nil, BEq.rfl, List.cons_append, List.nil_append, if_pos, if_neg, ordered, List.getElem?_cons_zero, List.getElem?_cons_succ, frzL, nidL, frz_func, frz_agg, frz_tup, frz_iface, fresh_func, fresh_agg, fresh_tup, fresh_iface, frz_ptr, frz_sl, fresh_sl, Cls.isFree, Cls.makes, callCls, chain, cond_true, tz, ty, faddrA, allocA, over, List.take_succ_cons, List.take_zero, List.drop_succ_cons, List.drop_zero, List.drop_nil, List.set_cons_zero, List.set_cons_succ, Nat.reduceLeDiff, and_self, Que.c_len, Act.c_len, Job.c_len, boxA_eq, ↓pickQ, ↓pickA5, queL_frz, queL_nid, actL_frz, actL_nid, jobL_frz, jobL_nid, hcl, cloneV, cloneH, ↓overQ, osl_one, osl_notTup, osl_cells, oslJ_frz, oslA_frz, dropQ, h.t6, h.t8, h.t9, h1, h2, decide_true, decide_false]; rfl) ?_
      rw [if_neg (by simp [h2])]
      refine ⟨rfl, ?_⟩
      subst h1
      refine h.keep' ?_ ?_ ?_ ?_ ?_ ?_ ?_ ?_ ?_ ?_
      all_goals simp only [upd_app, Nat.reduceEqDiff, ↓reduceIte]
  · refine vcE.ex (by simp (disch := first | assumption | omega | with_unfolding_all rfl) only [exC, exOps, exOp, evE, evsE, putE, wantedE, Nat.reduceEqDiff, ↓reduceIte, ROp.run, same, binA, intA, strA, eqA, indexSA, byteA, unA, bounds3, Option.map_some, Option.map_none, dec_true, dec_false, Int.toNat_natCast, Int.natCast_nonneg, beq_self_eq_true, List.append_nil, beq_iff_eq, reduceCtorEq, List.getD_cons_zero, List.getD_cons_succ, loadA, rowA, pickA, bslA, storeA_eq, decide_true, flatA, List.length_cons, List.length_nil, Nat.reduceAdd, List.flatMap_cons, List.flatMap_nil, BEq.rfl, List.cons_append, List.nil_append, if_pos, if_neg, ordered, List.getElem?_cons_zero, List.getElem?_cons_succ, frzL, nidL, frz_func, frz_agg, frz_tup, frz_iface, fresh_func, fresh_agg, fresh_tup, fresh_iface, frz_ptr, frz_sl, fresh_sl, Cls.isFree, Cls.makes, callCls, chain, cond_true, tz, ty, faddrA, allocA, over, List.take_succ_cons, List.take_zero, List.drop_succ_cons, List.drop_zero, List.drop_nil, List.set_cons_zero, List.set_cons_succ, Nat.reduceLeDiff, and_self, Que.c_len, Act.c_len, Job.c_len, boxA_eq, ↓pickQ, ↓pickA5, queL_frz, queL_nid, actL_frz, actL_nid, jobL_frz, jobL_nid, hcl, cloneV, cloneH, ↓overQ, osl_one, osl_notTup, osl_cells, oslJ_frz, oslA_frz, dropQ, h.t6, h.t8, h.t9, h1, decide_true, decide_false]; rfl) ?_
    rw [if_neg (by simp [h1])]
    refine ⟨rfl, ?_⟩
    refine h.keep' ?_ ?_ ?_ ?_ ?_ ?_ ?_ ?_ ?_ ?_
    all_goals simp only [upd_app, Nat.reduceEqDiff, ↓reduceIte]

theorem once_jobs (h : On l i q p k kind e w n gone es tm hp) (hpl : p.jobs.length ≤ most) (t17 : tm 17 = .int .i64 0) (hj : ∀ (j : Nat) x, p.jobs[j]? = some x → under es x.txn = some x.act) :
    vcE Try.prog hint T11 199 (IC.seq (IC.reg r4_31) (IC.block 6 (IC.loop b4_2))) tm hp fun e' tm' hp' => e' = .normal ∧ On l i q p k kind e w n gone es tm' hp' ∧ tm' 17 = .int .i64 (flyers p.jobs) := by
  simp only [most] at hpl
  have hcl : True := trivial
  have hp0 : pickA none p.c 0 = some (encJ.S p.jobs) := rfl
  refine vcE.step (by simp (disch := first | assumption | omega | with_unfolding_all rfl) only [exC, exOps, exOp, evE, evsE, putE, wantedE, Nat.reduceEqDiff, ↓reduceIte, ROp.run, same, binA, intA, strA, eqA, indexSA, byteA, unA, bounds3, Option.map_some, Option.map_none, dec_true, dec_false, Int.toNat_natCast, Int.natCast_nonneg, beq_self_eq_true, List.append_nil, beq_iff_eq, reduceCtorEq, List.getD_cons_zero, List.getD_cons_succ, loadA, rowA, pickA, bslA, storeA_eq, decide_true, flatA, List.length_cons, List.length_nil, Nat.reduceAdd, List.flatMap_cons, List.flatMap_nil, BEq.rfl, List.cons_append, List.nil_append, if_pos, if_neg, ordered, List.getElem?_cons_zero, List.getElem?_cons_succ, frzL, nidL, frz_func, frz_agg, frz_tup, frz_iface, fresh_func, fresh_agg, fresh_tup, fresh_iface, frz_ptr, frz_sl, fresh_sl, Cls.isFree, Cls.makes, callCls, chain, cond_true, tz, ty, faddrA, allocA, over, List.take_succ_cons, List.take_zero, List.drop_succ_cons, List.drop_zero, List.drop_nil, List.set_cons_zero, List.set_cons_succ, Nat.reduceLeDiff, and_self, Que.c_len, Act.c_len, Job.c_len, boxA_eq, ↓pickQ, ↓pickA5, queL_frz, queL_nid, actL_frz, actL_nid, jobL_frz, jobL_nid, hcl, cloneV, cloneH, ↓overQ, osl_one, osl_notTup, osl_cells, oslJ_frz, oslA_frz, dropQ]; rfl) (vcE.block (vcE.count (by intro l tm hp h; simp at h)
    (fun j tm' hp' => On l i q p k kind e w n gone es tm' hp' ∧ tm' 18 = .int .i64 j ∧ tm' 17 = .int .i64 (flyers (p.jobs.take j))) p.jobs.length ⟨?_, rfl, ?_⟩ ?_ ?_))
  · exact h.keep' (tm' := upd tm 18 (.int .i64 0)) rfl rfl rfl rfl rfl rfl rfl rfl rfl rfl
  · simp only [upd_app, Nat.reduceEqDiff, ↓reduceIte, t17]
    rfl
  · rintro j tm hp hjl ⟨h, t18, t17⟩
    obtain ⟨x, hx⟩ : ∃ x, p.jobs[j]? = some x := ⟨_, List.getElem?_eq_getElem hjl⟩
    have hia : iaddrA 10 (encJ.S p.jobs) (.int .i64 j) = some (.fptr (encJ.cs p.jobs) (j * 10)) := encJ.S_iaddr hjl
    have p6 := encJ_fly hx
    have p0 := encJ_txn hx
    have p1 := encJ_act hx
    have hgk : ∀ ys : HP, (hp ++ ys)[k]? = some (some (.row 29 p.c)) := fun ys => app_get h.gk
    have hlk : ∀ z, lookA hp .int z true (.map 1) (.int .i64 x.txn) = some (.tup [.agg x.act.c, .bool true]) := fun z => by
      have := look_t h.m x.txn z
      rw [hj j x hx] at this
      exact this
    have hne : binA .neq (.st [.int, .str, .str, .str, .str]) (.agg x.act.c) (.agg x.act.c) = some (.bool (!decide (x.act = x.act))) := elA.ne x.act x.act
    rw [decide_eq_true rfl] at hne
    have hw : IntKind.wrap .i64 ((j : Int) + 1) = (j : Int) + 1 := wrap_i64 (by omega) (by omega)
    have hfl : flyers (p.jobs.take (j + 1)) = flyers (p.jobs.take j) + (if x.fly then 1 else 0) := by
      rw [List.take_add_one, hx]
      simp only [flyers, Option.toList_some, List.countP_append, List.countP_cons, List.countP_nil]
      cases x.fly <;> rfl
    have hfb : flyers (p.jobs.take j) ≤ 1073741824 := by
      refine Nat.le_trans List.countP_le_length ?_
      rw [List.length_take]
      omega
    have hw2 : IntKind.wrap .i64 ((flyers (p.jobs.take j) : Int) + 1) = (flyers (p.jobs.take j) : Int) + 1 := wrap_i64 (by omega) (by omega)
    have hcc : ∀ a : Act, cellsA (.agg a.c) = a.c := fun _ => rfl
    rw [hfl]
    cases hfx : x.fly <;> rw [hfx] at p6
    · refine vcE.ex (by simp (disch := first | assumption | omega | with_unfolding_all rfl) only [exC, exOps, exOp, evE, evsE, putE, wantedE, Nat.reduceEqDiff, ↓reduceIte, ROp.run, same, binA, intA, strA, eqA, indexSA, byteA, unA, bounds3, Option.map_some, Option.map_none, dec_true, dec_false, Int.toNat_natCast, Int.natCast_nonneg, beq_self_eq_true, List.append_nil, beq_iff_eq, reduceCtorEq, List.getD_cons_zero, List.getD_cons_succ, loadA, rowA, pickA, bslA, storeA_eq, decide_true, flatA, List.length_cons, List.length_nil, Nat.reduceAdd, List.flatMap_cons, List.flatMap_nil, BEq.rfl, List.cons_append, List.nil_append, if_pos, if_neg, ordered, List.getElem?_cons_zero, List.getElem?_cons_succ, frzL, nidL, frz_func, frz_agg, frz_tup, frz_iface, fresh_func, fresh_agg, fresh_tup, fresh_iface, frz_ptr, frz_sl, fresh_sl, Cls.isFree, Cls.makes, callCls, chain, cond_true, tz, ty, faddrA, allocA, over, List.take_succ_cons, List.take_zero, List.drop_succ_cons, List.drop_zero, List.drop_nil, List.set_cons_zero, List.set_cons_succ, Nat.reduceLeDiff, and_self, Que.c_len, Act.c_len, Job.c_len, boxA_eq, ↓pickQ, ↓pickA5, queL_frz, queL_nid, actL_frz, actL_nid, jobL_frz, jobL_nid, hcl, cloneV, cloneH, ↓overQ, osl_one, osl_notTup, osl_cells, oslJ_frz, oslA_frz, dropQ, getA, getA0, setA, setA0, List.append_assoc, List.length_append, allocA, ↓over_zq, ↓over_qq, ↓over_zj, ↓over_za, Que.c_cells, List.getElem?_cons_zero, List.getElem?_cons_succ, h.t4, h.t7, t17, t18, h.gk, hgk, ↓hp0, hia, ↓p6, ↓p0, ↓p1, ↓hlk, ↓hne, hw, Enc.S_len, Enc.S_fits, Bool.not_true, hcc]; rfl) ?_
      refine ⟨h.keep _ ?_ ?_ ?_ ?_ ?_ ?_ ?_ ?_ ?_ ?_, ?_, ?_⟩
      all_goals simp only [upd_app, Nat.reduceEqDiff, ↓reduceIte, t17]
      all_goals rfl
    · refine vcE.ex (by simp (disch := first | assumption | omega | with_unfolding_all rfl) only [exC, exOps, exOp, evE, evsE, putE, wantedE, Nat.reduceEqDiff, ↓reduceIte, ROp.run, same, binA, intA, strA, eqA, indexSA, byteA, unA, bounds3, Option.map_some, Option.map_none, dec_true, dec_false, Int.toNat_natCast, Int.natCast_nonneg, beq_self_eq_true, List.append_nil, beq_iff_eq, reduceCtorEq, List.getD_cons_zero, List.getD_cons_succ, loadA, rowA, pickA, bslA, storeA_eq, decide_true, flatA, List.length_cons, List.length_nil, Nat.reduceAdd, List.flatMap_cons, List.flatMap_nil, BEq.rfl, List.cons_append, List.nil_append, if_pos, if_neg, ordered, List.getElem?_cons_zero, List.getElem?_cons_succ, frzL, nidL, frz_func, frz_agg, frz_tup, frz_iface, fresh_func, fresh_agg, fresh_tup, fresh_iface, frz_ptr, frz_sl, fresh_sl, Cls.isFree, Cls.makes, callCls, chain, cond_true, tz, ty, faddrA, allocA, over, List.take_succ_cons, List.take_zero, List.drop_succ_cons, List.drop_zero, List.drop_nil, List.set_cons_zero, List.set_cons_succ, Nat.reduceLeDiff, and_self, Que.c_len, Act.c_len, Job.c_len, boxA_eq, ↓pickQ, ↓pickA5, queL_frz, queL_nid, actL_frz, actL_nid, jobL_frz, jobL_nid, hcl, cloneV, cloneH, ↓overQ, osl_one, osl_notTup, osl_cells, oslJ_frz, oslA_frz, dropQ, getA, getA0, setA, setA0, List.append_assoc, List.length_append, allocA, ↓over_zq, ↓over_qq, ↓over_zj, ↓over_za, Que.c_cells, List.getElem?_cons_zero, List.getElem?_cons_succ, h.t4, h.t7, t17, t18, h.gk, hgk, ↓hp0, hia, ↓p6, ↓p0, ↓p1, ↓hlk, ↓hne, hw, hw2, Enc.S_len, Enc.S_fits, Bool.not_true, hcc]; rfl) ?_
      refine ⟨h.keep _ ?_ ?_ ?_ ?_ ?_ ?_ ?_ ?_ ?_ ?_, ?_, ?_⟩
      all_goals simp only [upd_app, Nat.reduceEqDiff, ↓reduceIte, t17]
      all_goals rfl
  · rintro tm hp ⟨h, t18, t17⟩
    rw [List.take_length] at t17
    refine vcE.ex (by simp (disch := first | assumption | omega | with_unfolding_all rfl) only [exC, exOps, exOp, evE, evsE, putE, wantedE, Nat.reduceEqDiff, ↓reduceIte, ROp.run, same, binA, intA, strA, eqA, indexSA, byteA, unA, bounds3, Option.map_some, Option.map_none, dec_true, dec_false, Int.toNat_natCast, Int.natCast_nonneg, beq_self_eq_true, List.append_nil, beq_iff_eq, reduceCtorEq, List.getD_cons_zero, List.getD_cons_succ, loadA, rowA, pickA, bslA, storeA_eq, decide_true, flatA, List.length_cons, List.length_nil, Nat.reduceAdd, List.flatMap_cons, List.flatMap_nil, BEq.rfl, List.cons_append, List.nil_append, if_pos, if_neg, ordered, List.getElem?_cons_zero, List.getElem?_cons_succ, frzL, nidL, frz_func, frz_agg, frz_tup, frz_iface, fresh_func, fresh_agg, fresh_tup, fresh_iface, frz_ptr, frz_sl, fresh_sl, Cls.isFree, Cls.makes, callCls, chain, cond_true, tz, ty, faddrA, allocA, over, List.take_succ_cons, List.take_zero, List.drop_succ_cons, List.drop_zero, List.drop_nil, List.set_cons_zero, List.set_cons_succ, Nat.reduceLeDiff, and_self, Que.c_len, Act.c_len, Job.c_len, boxA_eq, ↓pickQ, ↓pickA5, queL_frz, queL_nid, actL_frz, actL_nid, jobL_frz, jobL_nid, hcl, cloneV, cloneH, ↓overQ, osl_one, osl_notTup, osl_cells, oslJ_frz, oslA_frz, dropQ, h.t7, h.gk, ↓hp0, t18, Enc.S_len, Enc.S_fits]; rfl) ?_
    refine ⟨rfl, h.keep' ?_ ?_ ?_ ?_ ?_ ?_ ?_ ?_ ?_ ?_, ?_⟩
    all_goals simp only [upd_app, Nat.reduceEqDiff, ↓reduceIte]
    exact t17
end
end

section
open Go Go.Proofs

theorem encC_act {l : List Call} {i : Nat} {x : Call} (h : l[i]? = some x) : pickA (some 5) (encC.cs l) (i * 10 + 1) = some (.agg x.a.c) := encC_a h
section
variable {hint : Nat → Nat} {l : List Call} {i : Nat} {c : Call} {q p : Que} {k : Nat} {kind e w n : Int} {gone : List Job} {es : List (Int × Act)} {tm : Env} {hp : HP}
/-- Other blocks, ahead of the new ones, are as they were. -/
theorem On.old {tm' : Env} {hp' : HP} (h : On l i q p k kind e w n gone es tm hp) (ho : ∀ j, j < hp.length → hp'[j]? = hp[j]?) (h0 : tm' 0 = tm 0) (h3 : tm' 3 = tm 3) (h4 : tm' 4 = tm 4) (h5 : tm' 5 = tm 5) (h6 : tm' 6 = tm 6) (h7 : tm' 7 = tm 7) (h8 : tm' 8 = tm 8) (h9 : tm' 9 = tm 9) (h10 : tm' 10 = tm 10) (h11 : tm' 11 = tm 11) : On l i q p k kind e w n gone es tm' hp' := by
  obtain ⟨bs, b, hm⟩ := h.m
  exact ⟨(ho 0 (get_lt h.g0)).trans h.g0, (ho k (get_lt h.gk)).trans h.gk, h.k2, ⟨bs, b, (ho 1 (get_lt hm)).trans hm⟩, h0.trans h.t0, h3.trans h.t3, h4.trans h.t4, h5.trans h.t5, h6.trans h.t6, h7.trans h.t7, h8.trans h.t8, h9.trans h.t9, h10.trans h.t10, h11.trans h.t11⟩

theorem once_old (hc : l[i]? = some c) (h : On l i q p k kind e w n gone es tm hp) {L : List Act} {id : Nat} {ex : Bool} (hL : L.length ≤ 4611686018427387904) (hrow : hp[id]? = some (some (.row 23 (encA.cs L)))) (t14 : tm 14 = .sl id 0 L.length 5 L.length ex) (ha : ∀ b ∈ L, b.alike c.a = false) :
    vcE Try.prog hint T11 199 (IC.seq (IC.reg r4_17) (IC.block 2 (IC.loop b4_0))) tm hp fun e' tm' hp' => e' = .normal ∧ On l i q p k kind e w n gone es tm' hp' := by
  have hcl : True := trivial
  have hi := (List.getElem?_eq_some_iff.1 hc).1
  have hia : iaddrA 10 (encC.S l) (.int .i64 i) = some (.fptr (encC.cs l) (i * 10)) := encC.S_iaddr hi
  have p1 := encC_act hc
  refine vcE.step (by simp (disch := first | assumption | omega | with_unfolding_all rfl) only [exC, exOps, exOp, evE, evsE, putE, wantedE, Nat.reduceEqDiff, ↓reduceIte, ROp.run, same, binA, intA, strA, eqA, indexSA, byteA, unA, bounds3, Option.map_some, Option.map_none, dec_true, dec_false, Int.toNat_natCast, Int.natCast_nonneg, beq_self_eq_true, List.append_nil, beq_iff_eq, reduceCtorEq, List.getD_cons_zero, List.getD_cons_succ, loadA, rowA, pickA, bslA, storeA_eq, decide_true, flatA, List.length_cons, List.length_nil, Nat.reduceAdd, List.flatMap_cons, List.flatMap_nil, BEq.rfl, List.cons_append, List.nil_append, if_pos, if_neg, ordered, List.getElem?_cons_zero, List.getElem?_cons_succ, frzL, nidL, frz_func, frz_agg, frz_tup, frz_iface, fresh_func, fresh_agg, fresh_tup, fresh_iface, frz_ptr, frz_sl, fresh_sl, Cls.isFree, Cls.makes, callCls, chain, cond_true, tz, ty, faddrA, allocA, over, List.take_succ_cons, List.take_zero, List.drop_succ_cons, List.drop_zero, List.drop_nil, List.set_cons_zero, List.set_cons_succ, Nat.reduceLeDiff, and_self, Que.c_len, Act.c_len, Job.c_len, boxA_eq, ↓pickQ, ↓pickA5, queL_frz, queL_nid, actL_frz, actL_nid, jobL_frz, jobL_nid, hcl, cloneV, cloneH, ↓overQ, osl_one, osl_notTup, osl_cells, oslJ_frz, oslA_frz, dropQ]; rfl) (vcE.block (vcE.count (by intro l tm hp h; simp at h)
    (fun j tm' hp' => On l i q p k kind e w n gone es tm' hp' ∧ tm' 15 = .int .i64 j ∧ tm' 14 = .sl id 0 L.length 5 L.length ex ∧ hp'[id]? = some (some (.row 23 (encA.cs L)))) L.length ⟨?_, rfl, ?_, hrow⟩ ?_ ?_))
  · exact h.keep' (tm' := upd tm 15 (.int .i64 0)) rfl rfl rfl rfl rfl rfl rfl rfl rfl rfl
  · simp only [upd_app, Nat.reduceEqDiff, ↓reduceIte, t14]
  · rintro j tm hp hj ⟨h, t15, t14, hrow⟩
    obtain ⟨b, hb⟩ : ∃ b, L[j]? = some b := ⟨_, List.getElem?_eq_getElem hj⟩
    have hib : iaddrA 5 (.sl id 0 L.length 5 L.length ex) (.int .i64 j) = some (.ptr id (j * 5)) := by
      have := iaddr_sl (id := id) (off := 0) (sz := 5) (lo := L.length) (ex := ex) (k := .i64) hj
      simpa using this
    have hpb : loadA hp (some 5) (.ptr id (j * 5)) = some (.agg b.c) := encA.sl_load hrow hb
    have hal := T11_alike b c.a
    rw [ha b (List.mem_of_getElem? hb)] at hal
    have hw : IntKind.wrap .i64 ((j : Int) + 1) = (j : Int) + 1 := wrap_i64 (by omega) (by omega)
    refine vcE.ex (by simp (disch := first | assumption | omega | with_unfolding_all rfl) only [exC, exOps, exOp, evE, evsE, putE, wantedE, Nat.reduceEqDiff, ↓reduceIte, ROp.run, same, binA, intA, strA, eqA, indexSA, byteA, unA, bounds3, Option.map_some, Option.map_none, dec_true, dec_false, Int.toNat_natCast, Int.natCast_nonneg, beq_self_eq_true, List.append_nil, beq_iff_eq, reduceCtorEq, List.getD_cons_zero, List.getD_cons_succ, loadA, rowA, pickA, bslA, storeA_eq, decide_true, flatA, List.length_cons, List.length_nil, Nat.reduceAdd, List.flatMap_cons, List.flatMap_nil, BEq.rfl, List.cons_append, List.nil_append, if_pos, if_neg, ordered, List.getElem?_cons_zero, List.getElem?_cons_succ, frzL, nidL, frz_func, frz_agg, frz_tup, frz_iface, fresh_func, fresh_agg, fresh_tup, fresh_iface, frz_ptr, frz_sl, fresh_sl, Cls.isFree, Cls.makes, callCls, chain, cond_true, tz, ty, faddrA, allocA, over, List.take_succ_cons, List.take_zero, List.drop_succ_cons, List.drop_zero, List.drop_nil, List.set_cons_zero, List.set_cons_succ, Nat.reduceLeDiff, and_self, Que.c_len, Act.c_len, Job.c_len, boxA_eq, ↓pickQ, ↓pickA5, queL_frz, queL_nid, actL_frz, actL_nid, jobL_frz, jobL_nid, hcl, cloneV, cloneH, ↓overQ, osl_one, osl_notTup, osl_cells, oslJ_frz, oslA_frz, dropQ, h.t0, h.t5, t14, t15, hia, hib, ↓hpb, ↓p1, hal, hw, Bool.true_or]; rfl) ?_
    refine ⟨h.keep' ?_ ?_ ?_ ?_ ?_ ?_ ?_ ?_ ?_ ?_, ?_, ?_, hrow⟩
    all_goals simp only [upd_app, Nat.reduceEqDiff, ↓reduceIte, t14]
    rfl
  · rintro tm hp ⟨h, t15, t14, hrow⟩
    refine vcE.ex (by simp (disch := first | assumption | omega | with_unfolding_all rfl) only [exC, exOps, exOp, evE, evsE, putE, wantedE, Nat.reduceEqDiff, ↓reduceIte, ROp.run, same, binA, intA, strA, eqA, indexSA, byteA, unA, bounds3, Option.map_some, Option.map_none, dec_true, dec_false, Int.toNat_natCast, Int.natCast_nonneg, beq_self_eq_true, List.append_nil, beq_iff_eq, reduceCtorEq, List.getD_cons_zero, List.getD_cons_succ, loadA, rowA, pickA, bslA, storeA_eq, decide_true, flatA, List.length_cons, List.length_nil, Nat.reduceAdd, List.flatMap_cons, List.flatMap_nil, BEq.rfl, List.cons_append, List.nil_append, if_pos, if_neg, ordered, List.getElem?_cons_zero, List.getElem?_cons_succ, frzL, nidL, frz_func, frz_agg, frz_tup, frz_iface, fresh_func, fresh_agg, fresh_tup, fresh_iface, frz_ptr, frz_sl, fresh_sl, Cls.isFree, Cls.makes, callCls, chain, cond_true, tz, ty, faddrA, allocA, over, List.take_succ_cons, List.take_zero, List.drop_succ_cons, List.drop_zero, List.drop_nil, List.set_cons_zero, List.set_cons_succ, Nat.reduceLeDiff, and_self, Que.c_len, Act.c_len, Job.c_len, boxA_eq, ↓pickQ, ↓pickA5, queL_frz, queL_nid, actL_frz, actL_nid, jobL_frz, jobL_nid, hcl, cloneV, cloneH, ↓overQ, osl_one, osl_notTup, osl_cells, oslJ_frz, oslA_frz, dropQ, t14, t15]; rfl) ?_
    refine ⟨rfl, h.keep' ?_ ?_ ?_ ?_ ?_ ?_ ?_ ?_ ?_ ?_⟩
    all_goals simp only [upd_app, Nat.reduceEqDiff, ↓reduceIte]

theorem once_put (hc : l[i]? = some c) (h : On l i q p k kind e w n gone es tm hp) (hq : Fits q) (hput : kind < 2 → e = 0 → under es n = none ∧ ∀ b ∈ q.failed ++ q.settled, b.alike c.a = false) :
    vcE Try.prog hint T11 199 (IC.seq (IC.reg r4_11) (IC.cond (.t 58) (IC.seq (IC.seq (IC.reg r4_12) (IC.seq (IC.reg r4_13) (IC.cond (.t 65) (IC.seq (IC.reg r4_14) IC.ret) IC.skip))) (IC.seq (IC.reg r4_15) (IC.seq (IC.regD .alloc r4_16 (.take 0 (.take 1 (.take 3 (.take 4 (.take 2 (.take 5 (.take 6 (.done))))))))) (IC.seq (IC.reg r4_17) (IC.block 2 (IC.loop b4_0)))))) IC.skip)) tm hp fun e' tm' hp' => e' = .normal ∧ On l i q p k kind e w n gone (if kind < 2 ∧ e = 0 then es ++ [(n, c.a)] else es) tm' hp' := by
  have hcl : True := trivial
  have hi := (List.getElem?_eq_some_iff.1 hc).1
  have hia : iaddrA 10 (encC.S l) (.int .i64 i) = some (.fptr (encC.cs l) (i * 10)) := encC.S_iaddr hi
  have p1 := encC_act hc
  by_cases h1 : kind < 2
  · by_cases h2 : e = 0
    · obtain ⟨k1, k2⟩ := hput h1 h2
      rw [if_pos ⟨h1, h2⟩]
      refine vcE.step (by simp (disch := first | assumption | omega | with_unfolding_all rfl) only [exC, exOps, exOp, evE, evsE, putE, wantedE, Nat.reduceEqDiff, ↓reduceIte, ROp.run, same, binA, intA, strA, eqA, indexSA, byteA, unA, bounds3, Option.map_some, Option.map_none, dec_true, dec_false, Int.toNat_natCast, Int.natCast_nonneg, beq_self_eq_true, List.append_nil, beq_iff_eq, reduceCtorEq, List.getD_cons_zero, List.getD_cons_succ, loadA, rowA, pickA, bslA, storeA_eq, decide_true, flatA, List.length_cons, List.length_nil, Nat.reduceAdd, List.flatMap_cons, List.flatMap_nil, BEq.rfl, List.cons_append, List.nil_append, if_pos, if_neg, ordered, List.getElem?_cons_zero, List.getElem?_cons_succ, frzL, nidL, frz_func, frz_agg, frz_tup, frz_iface, fresh_func, fresh_agg, fresh_tup, fresh_iface, frz_ptr, frz_sl, fresh_sl, Cls.isFree, Cls.makes, callCls, chain, cond_true, tz, ty, faddrA, allocA, over, List.take_succ_cons, List.take_zero, List.drop_succ_cons, List.drop_zero, List.drop_nil, List.set_cons_zero, List.set_cons_succ, Nat.reduceLeDiff, and_self, Que.c_len, Act.c_len, Job.c_len, boxA_eq, ↓pickQ, ↓pickA5, queL_frz, queL_nid, actL_frz, actL_nid, jobL_frz, jobL_nid, hcl, cloneV, cloneH, ↓overQ, osl_one, osl_notTup, osl_cells, oslJ_frz, oslA_frz, dropQ, h.t6, h.t8, h1, h2, decide_true, decide_false]; rfl) (vcE.condTrue (by simp only [evE, upd_app, Nat.reduceEqDiff, ↓reduceIte]) ?_)
      refine vcE.then (fun e' tm' hp' => e' = .normal ∧ On l i q p k kind e w n gone es tm' hp') ?_ ?_
      · have hlk : ∀ z, lookA hp .int z true (.map 1) (.int .i64 n) = some (.tup [z, .bool false]) := fun z => by
          have := look_t h.m n z
          rw [k1] at this
          exact this
        refine vcE.ex (by simp (disch := first | assumption | omega | with_unfolding_all rfl) only [exC, exOps, exOp, evE, evsE, putE, wantedE, Nat.reduceEqDiff, ↓reduceIte, ROp.run, same, binA, intA, strA, eqA, indexSA, byteA, unA, bounds3, Option.map_some, Option.map_none, dec_true, dec_false, Int.toNat_natCast, Int.natCast_nonneg, beq_self_eq_true, List.append_nil, beq_iff_eq, reduceCtorEq, List.getD_cons_zero, List.getD_cons_succ, loadA, rowA, pickA, bslA, storeA_eq, decide_true, flatA, List.length_cons, List.length_nil, Nat.reduceAdd, List.flatMap_cons, List.flatMap_nil, BEq.rfl, List.cons_append, List.nil_append, if_pos, if_neg, ordered, List.getElem?_cons_zero, List.getElem?_cons_succ, frzL, nidL, frz_func, frz_agg, frz_tup, frz_iface, fresh_func, fresh_agg, fresh_tup, fresh_iface, frz_ptr, frz_sl, fresh_sl, Cls.isFree, Cls.makes, callCls, chain, cond_true, tz, ty, faddrA, allocA, over, List.take_succ_cons, List.take_zero, List.drop_succ_cons, List.drop_zero, List.drop_nil, List.set_cons_zero, List.set_cons_succ, Nat.reduceLeDiff, and_self, Que.c_len, Act.c_len, Job.c_len, boxA_eq, ↓pickQ, ↓pickA5, queL_frz, queL_nid, actL_frz, actL_nid, jobL_frz, jobL_nid, hcl, cloneV, cloneH, ↓overQ, osl_one, osl_notTup, osl_cells, oslJ_frz, oslA_frz, dropQ, getA, getA0, setA, setA0, List.append_assoc, List.length_append, allocA, ↓over_zq, ↓over_qq, ↓over_zj, ↓over_za, Que.c_cells, List.getElem?_cons_zero, List.getElem?_cons_succ, h.t4, h.t10, ↓hlk]; rfl) ?_
        refine ⟨rfl, h.keep _ ?_ ?_ ?_ ?_ ?_ ?_ ?_ ?_ ?_ ?_⟩
        all_goals simp only [upd_app, Nat.reduceEqDiff, ↓reduceIte, h.t8, h2]
      clear h
      rintro e' tm hp ⟨rfl, h⟩
      refine vcE.then (fun e' tm' hp' => e' = .normal ∧ On l i q p k kind e w n gone (es ++ [(n, c.a)]) tm' hp') ?_ ?_
      · obtain ⟨b, hb1, hb2⟩ := mapup_new h.m k1 c.a
        refine vcE.ex (by simp (disch := first | assumption | omega | with_unfolding_all rfl) only [exC, exOps, exOp, evE, evsE, putE, wantedE, Nat.reduceEqDiff, ↓reduceIte, ROp.run, same, binA, intA, strA, eqA, indexSA, byteA, unA, bounds3, Option.map_some, Option.map_none, dec_true, dec_false, Int.toNat_natCast, Int.natCast_nonneg, beq_self_eq_true, List.append_nil, beq_iff_eq, reduceCtorEq, List.getD_cons_zero, List.getD_cons_succ, loadA, rowA, pickA, bslA, storeA_eq, decide_true, flatA, List.length_cons, List.length_nil, Nat.reduceAdd, List.flatMap_cons, List.flatMap_nil, BEq.rfl, List.cons_append, List.nil_append, if_pos, if_neg, ordered, List.getElem?_cons_zero, List.getElem?_cons_succ, frzL, nidL, frz_func, frz_agg, frz_tup, frz_iface, fresh_func, fresh_agg, fresh_tup, fresh_iface, frz_ptr, frz_sl, fresh_sl, Cls.isFree, Cls.makes, callCls, chain, cond_true, tz, ty, faddrA, allocA, over, List.take_succ_cons, List.take_zero, List.drop_succ_cons, List.drop_zero, List.drop_nil, List.set_cons_zero, List.set_cons_succ, Nat.reduceLeDiff, and_self, Que.c_len, Act.c_len, Job.c_len, boxA_eq, ↓pickQ, ↓pickA5, queL_frz, queL_nid, actL_frz, actL_nid, jobL_frz, jobL_nid, hcl, cloneV, cloneH, ↓overQ, osl_one, osl_notTup, osl_cells, oslJ_frz, oslA_frz, dropQ, h.t0, h.t4, h.t5, h.t10, hia, ↓p1, ↓hb1]; rfl) ?_
        refine ⟨rfl, (h.map hb2).keep' ?_ ?_ ?_ ?_ ?_ ?_ ?_ ?_ ?_ ?_⟩
        all_goals simp only [upd_app, Nat.reduceEqDiff, ↓reduceIte]
      clear h
      rintro e' tm hp ⟨rfl, h⟩
      have hfl := hq.f
      have hsl := hq.s
      simp only [most] at hfl hsl
      obtain ⟨v', hp', happ, hown, hold, _, id, ex, rfl, hid⟩ := ownV_app encA hp (e := 23) q.failed (m := q.settled) (bytes := 72) (x := encA.S q.settled) (encA.S_src _ _) (by omega) (by omega)
      have happ : appA 23 5 72 (hp ++ ownH 23 q.failed.length (encA.cs q.failed)) (ownV 5 q.failed.length hp.length) (encA.S q.settled) = some (.sl id 0 (q.failed ++ q.settled).length 5 (q.failed ++ q.settled).length ex, hp') := happ
      have howf := T11_own hq.f
      have h0b : (hp ++ ownH 23 q.failed.length (encA.cs q.failed))[0]? = some (some (.row 29 q.c)) := app_get h.g0
      obtain ⟨id', ex', he, hrow⟩ := hown
      injection he with he1
      subst he1
      have hLl : (q.failed ++ q.settled).length ≤ 4611686018427387904 := by rw [List.length_append]; omega
      generalize q.failed ++ q.settled = L at *
      have hq3 : pickA none q.c 3 = some (encA.S q.failed) := rfl
      have hq4 : pickA none q.c 4 = some (encA.S q.settled) := rfl
      refine vcE.step (by simp (disch := first | assumption | omega | with_unfolding_all rfl) only [exC, exOps, exOp, evE, evsE, putE, wantedE, Nat.reduceEqDiff, ↓reduceIte, ROp.run, same, binA, intA, strA, eqA, indexSA, byteA, unA, bounds3, Option.map_some, Option.map_none, dec_true, dec_false, Int.toNat_natCast, Int.natCast_nonneg, beq_self_eq_true, List.append_nil, beq_iff_eq, reduceCtorEq, List.getD_cons_zero, List.getD_cons_succ, loadA, rowA, pickA, bslA, storeA_eq, decide_true, flatA, List.length_cons, List.length_nil, Nat.reduceAdd, List.flatMap_cons, List.flatMap_nil, BEq.rfl, List.cons_append, List.nil_append, if_pos, if_neg, ordered, List.getElem?_cons_zero, List.getElem?_cons_succ, frzL, nidL, frz_func, frz_agg, frz_tup, frz_iface, fresh_func, fresh_agg, fresh_tup, fresh_iface, frz_ptr, frz_sl, fresh_sl, Cls.isFree, Cls.makes, callCls, chain, cond_true, tz, ty, faddrA, allocA, over, List.take_succ_cons, List.take_zero, List.drop_succ_cons, List.drop_zero, List.drop_nil, List.set_cons_zero, List.set_cons_succ, Nat.reduceLeDiff, and_self, Que.c_len, Act.c_len, Job.c_len, boxA_eq, ↓pickQ, ↓pickA5, queL_frz, queL_nid, actL_frz, actL_nid, jobL_frz, jobL_nid, hcl, cloneV, cloneH, ↓overQ, osl_one, osl_notTup, osl_cells, oslJ_frz, oslA_frz, dropQ, h.t3, h.g0, h0b, ↓hq3, ↓hq4, Enc.S_frz, Enc.S_nid, howf, ↓happ, Cls.makes]; rfl) ?_
      refine once_old (ex := ex) hc (h.old hold ?_ ?_ ?_ ?_ ?_ ?_ ?_ ?_ ?_ ?_) hLl hrow ?_ k2
      all_goals simp only [upd_app, Nat.reduceEqDiff, ↓reduceIte]
    · rw [if_neg (by simp [h2])]
      refine vcE.ex (by simp (disch := first | assumption | omega | with_unfolding_all rfl) only [exC, exOps, exOp, evE, evsE, putE, wantedE, Nat.reduceEqDiff, ↓reduceIte, ROp.run, same, binA, intA, strA, eqA, indexSA, byteA, unA, bounds3, Option.map_some, Option.map_none, dec_true, dec_false, Int.toNat_natCast, Int.natCast_nonneg, beq_self_eq_true, List.append_nil, beq_iff_eq, reduceCtorEq, List.getD_cons_zero, List.getD_cons_succ, loadA, rowA, pickA, bslA, storeA_eq, decide_true, flatA, List.length_cons, List.length_nil, Nat.reduceAdd, List.flatMap_cons, List.flatMap_nil, BEq.rfl, List.cons_append, List.nil_append, if_pos, if_neg, ordered, List.getElem?_cons_zero, List.getElem?_cons_succ, frzL, nidL, frz_func, frz_agg, frz_tup, frz_iface, fresh_func, fresh_agg, fresh_tup, fresh_iface, frz_ptr, frz_sl, fresh_sl, Cls.isFree, Cls.makes, callCls, chain, cond_true, tz, ty, faddrA, allocA, over, List.take_succ_cons, List.take_zero, List.drop_succ_cons, List.drop_zero, List.drop_nil, List.set_cons_zero, List.set_cons_succ, Nat.reduceLeDiff, and_self, Que.c_len, Act.c_len, Job.c_len, boxA_eq, ↓pickQ, ↓pickA5, queL_frz, queL_nid, actL_frz, actL_nid, jobL_frz, jobL_nid, hcl, cloneV, cloneH, ↓overQ, osl_one, osl_notTup, osl_cells, oslJ_frz, oslA_frz, dropQ, h.t6, h.t8, h1, h2, decide_true, decide_false]; rfl) ?_
      refine ⟨rfl, h.keep' ?_ ?_ ?_ ?_ ?_ ?_ ?_ ?_ ?_ ?_⟩
      all_goals simp only [upd_app, Nat.reduceEqDiff, ↓reduceIte]
  · rw [if_neg (by simp [h1])]
    refine vcE.ex (by simp (disch := first | assumption | omega | with_unfolding_all rfl) only [exC, exOps, exOp, evE, evsE, putE, wantedE, Nat.reduceEqDiff, ↓reduceIte, ROp.run, same, binA, intA, strA, eqA, indexSA, byteA, unA, bounds3, Option.map_some, Option.map_none, dec_true, dec_false, Int.toNat_natCast, Int.natCast_nonneg, beq_self_eq_true, List.append_nil, beq_iff_eq, reduceCtorEq, List.getD_cons_zero, List.getD_cons_succ, loadA, rowA, pickA, bslA, storeA_eq, decide_true, flatA, List.length_cons, List.length_nil, Nat.reduceAdd, List.flatMap_cons, List.flatMap_nil, BEq.rfl, List.cons_append, List.nil_append, if_pos, if_neg, ordered, List.getElem?_cons_zero, List.getElem?_cons_succ, frzL, nidL, frz_func, frz_agg, frz_tup, frz_iface, fresh_func, fresh_agg, fresh_tup, fresh_iface, frz_ptr, frz_sl, fresh_sl, Cls.isFree, Cls.makes, callCls, chain, cond_true, tz, ty, faddrA, allocA, over, List.take_succ_cons, List.take_zero, List.drop_succ_cons, List.drop_zero, List.drop_nil, List.set_cons_zero, List.set_cons_succ, Nat.reduceLeDiff, and_self, Que.c_len, Act.c_len, Job.c_len, boxA_eq, ↓pickQ, ↓pickA5, queL_frz, queL_nid, actL_frz, actL_nid, jobL_frz, jobL_nid, hcl, cloneV, cloneH, ↓overQ, osl_one, osl_notTup, osl_cells, oslJ_frz, oslA_frz, dropQ, h.t6, h.t8, h1, decide_true, decide_false]; rfl) ?_
    refine ⟨rfl, h.keep' ?_ ?_ ?_ ?_ ?_ ?_ ?_ ?_ ?_ ?_⟩
    all_goals simp only [upd_app, Nat.reduceEqDiff, ↓reduceIte]
end
end

section
open Go Go.Proofs

theorem ents_pw {q : Que} (v : Valid q) : (ents q.jobs).Pairwise fun a b => a.1 ≠ b.1 := by
  unfold ents
  rw [List.pairwise_map]
  exact v.up.imp fun h => by omega
theorem once_round {hint : Nat → Nat} {q : Que} (v : Valid q) {l : List Call} {i : Nat} {c : Call} (hc : l[i]? = some c) (hl : l.length ≤ 4611686018427387904) (hk : c.keep.length ≤ most) {tm : Env} {hp : HP} (g0 : hp[0]? = some (some (.row 29 q.c))) (gm : MapAt hp (ents q.jobs)) (t0 : tm 0 = encC.S l) (t3 : tm 3 = .ptr 0 0) (t4 : tm 4 = .map 1) (t5 : tm 5 = .int .i64 i) :
    vcE Try.prog hint T11 199 b4_3 tm hp fun e tm' hp' => e = .normal ∧ hp'[0]? = some (some (.row 29 (doQ q c).1.c)) ∧ MapAt hp' (ents (doQ q c).1.jobs) ∧ tm' 0 = encC.S l ∧ tm' 3 = .ptr 0 0 ∧ tm' 4 = .map 1 ∧ tm' 5 = .int .i64 ((i + 1 : Nat) : Int) := by
  have hi := (List.getElem?_eq_some_iff.1 hc).1
  have hcl : True := trivial
  have g0a : ∀ l, (hp ++ l)[0]? = some (some (.row 29 q.c)) := fun l => app_get g0
  have hia : iaddrA 10 (encC.S l) (.int .i64 i) = some (.fptr (encC.cs l) (i * 10)) := encC.S_iaddr hi
  have hpc : pickA (some 10) (encC.cs l) (i * 10) = some (.agg c.c) := encC.pick hc
  have hpk : pickA none (encC.cs l) (i * 10 + 0) = some (.int .i64 c.kind) := encC_kind hc
  have hw : IntKind.wrap .i64 ((i : Int) + 1) = (i : Int) + 1 := wrap_i64 (by omega) (by omega)
  have c1 : T11 23 [.agg q.c] = _ := (T11_ne rfl).trans (T10_own v.ok.fits)
  have c2 : T11 22 [.agg q.c, .agg c.c] = _ := (T11_ne rfl).trans (T10_do v.ok hk)
  have v2 := do_valid v c
  have c4 : T11 18 [.int .i64 c.kind, .int .i64 9] = _ := (T11_ne rfl).trans ((T10_ne rfl).trans ((T8_ne rfl).trans (T7_pick c.kind 9 (by omega))))
  obtain ⟨o1, o2, o3, o4⟩ := do_once v c
  have hpw := ents_pw v2
  have hgl : (doQ q c).2.2.2.2.length ≤ most := by
    have hle : (doQ q c).2.2.2.2.length ≤ q.jobs.length := by
      unfold doQ
      repeat' split
      all_goals first | exact List.length_filter_le _ _ | exact Nat.zero_le _
    exact Nat.le_trans hle v.ok.fits.j
  have hgn := fun (j : Nat) (x : Job) (hx : (doQ q c).2.2.2.2[j]? = some x) => under_gone v (fun y hy => (o3 y hy).2.2.1) o4 hx
  unfold doV at c2
  generalize doQ q c = r at *
  obtain ⟨p, e, w, n, gone⟩ := r
  simp only at *
  refine vcE.step (by simp (disch := first | assumption | omega | with_unfolding_all rfl) only [exC, exOps, exOp, evE, evsE, putE, wantedE, Nat.reduceEqDiff, ↓reduceIte, ROp.run, same, binA, intA, strA, eqA, indexSA, byteA, unA, bounds3, Option.map_some, Option.map_none, dec_true, dec_false, Int.toNat_natCast, Int.natCast_nonneg, beq_self_eq_true, List.append_nil, beq_iff_eq, reduceCtorEq, List.getD_cons_zero, List.getD_cons_succ, loadA, rowA, pickA, bslA, storeA_eq, decide_true, flatA, List.length_cons, List.length_nil, Nat.reduceAdd, List.flatMap_cons, List.flatMap_nil, BEq.rfl, List.cons_append, List.nil_append, if_pos, if_neg, ordered, List.getElem?_cons_zero, List.getElem?_cons_succ, frzL, nidL, frz_func, frz_agg, frz_tup, frz_iface, fresh_func, fresh_agg, fresh_tup, fresh_iface, frz_ptr, frz_sl, fresh_sl, Cls.isFree, Cls.makes, callCls, chain, cond_true, tz, ty, faddrA, allocA, over, List.take_succ_cons, List.take_zero, List.drop_succ_cons, List.drop_zero, List.drop_nil, List.set_cons_zero, List.set_cons_succ, Nat.reduceLeDiff, and_self, Que.c_len, Act.c_len, Job.c_len, boxA_eq, ↓pickQ, ↓pickA5, queL_frz, queL_nid, actL_frz, actL_nid, jobL_frz, jobL_nid, hcl, cloneV, cloneH, ↓overQ, osl_one, osl_notTup, osl_cells, oslJ_frz, oslA_frz, dropQ, t0, t5, Enc.S_len, Enc.S_fits]; rfl) ?_
  refine vcE.seq (vcE.block (vcE.step (by simp (disch := first | assumption | omega | with_unfolding_all rfl) only [exC, exOps, exOp, evE, evsE, putE, wantedE, Nat.reduceEqDiff, ↓reduceIte, ROp.run, same, binA, intA, strA, eqA, indexSA, byteA, unA, bounds3, Option.map_some, Option.map_none, dec_true, dec_false, Int.toNat_natCast, Int.natCast_nonneg, beq_self_eq_true, List.append_nil, beq_iff_eq, reduceCtorEq, List.getD_cons_zero, List.getD_cons_succ, loadA, rowA, pickA, bslA, storeA_eq, decide_true, flatA, List.length_cons, List.length_nil, Nat.reduceAdd, List.flatMap_cons, List.flatMap_nil, BEq.rfl, List.cons_append, List.nil_append, if_pos, if_neg, ordered, List.getElem?_cons_zero, List.getElem?_cons_succ, frzL, nidL, frz_func, frz_agg, frz_tup, frz_iface, fresh_func, fresh_agg, fresh_tup, fresh_iface, frz_ptr, frz_sl, fresh_sl, Cls.isFree, Cls.makes, callCls, chain, cond_true, tz, ty, faddrA, allocA, over, List.take_succ_cons, List.take_zero, List.drop_succ_cons, List.drop_zero, List.drop_nil, List.set_cons_zero, List.set_cons_succ, Nat.reduceLeDiff, and_self, Que.c_len, Act.c_len, Job.c_len, boxA_eq, ↓pickQ, ↓pickA5, queL_frz, queL_nid, actL_frz, actL_nid, jobL_frz, jobL_nid, hcl, cloneV, cloneH, ↓overQ, osl_one, osl_notTup, osl_cells, oslJ_frz, oslA_frz, dropQ, t0, t5, hia, ↓hpk, c4]; rfl) (vcE.seq (vcE.forks (fun tm' hp' => On l i q p hp.length (pick c.kind 9) e w n gone (ents q.jobs) tm' hp') ?_ ?_))))
  · repeat' (first | with_reducible exact exTs_nil | with_reducible refine exT_fork ?_ | (with_reducible show exT _ _ _ (Tr.take _ _) _ _ _; refine exT_take rfl (by simp (disch := first | assumption | omega | with_unfolding_all rfl) only [exC, exOps, exOp, evE, evsE, putE, wantedE, Nat.reduceEqDiff, ↓reduceIte, ROp.run, same, binA, intA, strA, eqA, indexSA, byteA, unA, bounds3, Option.map_some, Option.map_none, dec_true, dec_false, Int.toNat_natCast, Int.natCast_nonneg, beq_self_eq_true, List.append_nil, beq_iff_eq, reduceCtorEq, List.getD_cons_zero, List.getD_cons_succ, loadA, rowA, pickA, bslA, storeA_eq, decide_true, flatA, List.length_cons, List.length_nil, Nat.reduceAdd, List.flatMap_cons, List.flatMap_nil, BEq.rfl, List.cons_append, List.nil_append, if_pos, if_neg, ordered, List.getElem?_cons_zero, List.getElem?_cons_succ, frzL, nidL, frz_func, frz_agg, frz_tup, frz_iface, fresh_func, fresh_agg, fresh_tup, fresh_iface, frz_ptr, frz_sl, fresh_sl, Cls.isFree, Cls.makes, callCls, chain, cond_true, tz, ty, faddrA, allocA, over, List.take_succ_cons, List.take_zero, List.drop_succ_cons, List.drop_zero, List.drop_nil, List.set_cons_zero, List.set_cons_succ, Nat.reduceLeDiff, and_self, Que.c_len, Act.c_len, Job.c_len, boxA_eq, ↓pickQ, ↓pickA5, queL_frz, queL_nid, actL_frz, actL_nid, jobL_frz, jobL_nid, cloneV, cloneH, ↓overQ, osl_one, osl_notTup, osl_cells, oslJ_frz, oslA_frz, dropQ, t0, t3, t5, g0, g0a, getA, getA0, setA, setA0, List.append_assoc, List.length_append, allocA, ↓over_zq, Que.c_cells, hia, ↓hpc, c1, c2, callL_nid, callL_frz, Bool.true_or, Bool.or_true]; rfl) ?_) | (with_reducible show exTs _ _ _ (_ :: _) _ _ _; refine exTs_cons rfl (by simp (disch := first | assumption | omega | with_unfolding_all rfl) only [exC, exOps, exOp, evE, evsE, putE, wantedE, Nat.reduceEqDiff, ↓reduceIte, ROp.run, same, binA, intA, strA, eqA, indexSA, byteA, unA, bounds3, Option.map_some, Option.map_none, dec_true, dec_false, Int.toNat_natCast, Int.natCast_nonneg, beq_self_eq_true, List.append_nil, beq_iff_eq, reduceCtorEq, List.getD_cons_zero, List.getD_cons_succ, loadA, rowA, pickA, bslA, storeA_eq, decide_true, flatA, List.length_cons, List.length_nil, Nat.reduceAdd, List.flatMap_cons, List.flatMap_nil, BEq.rfl, List.cons_append, List.nil_append, if_pos, if_neg, ordered, List.getElem?_cons_zero, List.getElem?_cons_succ, frzL, nidL, frz_func, frz_agg, frz_tup, frz_iface, fresh_func, fresh_agg, fresh_tup, fresh_iface, frz_ptr, frz_sl, fresh_sl, Cls.isFree, Cls.makes, callCls, chain, cond_true, tz, ty, faddrA, allocA, over, List.take_succ_cons, List.take_zero, List.drop_succ_cons, List.drop_zero, List.drop_nil, List.set_cons_zero, List.set_cons_succ, Nat.reduceLeDiff, and_self, Que.c_len, Act.c_len, Job.c_len, boxA_eq, ↓pickQ, ↓pickA5, queL_frz, queL_nid, actL_frz, actL_nid, jobL_frz, jobL_nid, cloneV, cloneH, ↓overQ, osl_one, osl_notTup, osl_cells, oslJ_frz, oslA_frz, dropQ, t0, t3, t5, g0, g0a, getA, getA0, setA, setA0, List.append_assoc, List.length_append, allocA, ↓over_zq, Que.c_cells, hia, ↓hpc, c1, c2, callL_nid, callL_frz, Bool.true_or, Bool.or_true]; rfl) ?_ ?_))
    all_goals (with_reducible refine exT_done ?_)
    all_goals refine ⟨app_get g0, (by rw [getA0]; rfl), ?_, gm.app _, ?_, ?_, ?_, ?_, ?_, ?_, ?_, ?_, ?_, ?_⟩
    all_goals first | (simp only [upd_app, Nat.reduceEqDiff, ↓reduceIte, t0, t3, t4, t5]; done) | skip
    all_goals (obtain ⟨bs, b, hm⟩ := gm; exact get_lt hm)
  intro tm hp2 h
  generalize hp.length = k at h
  generalize hM : pick c.kind 9 = m at *
  have hu1 : (if m < 2 ∧ e = 0 then ents q.jobs ++ [(n, c.a)] else ents q.jobs).Pairwise fun a b => a.1 ≠ b.1 := by
    split
    · rename_i hme
      refine List.pairwise_append.2 ⟨ents_pw v, List.pairwise_singleton _ _, fun a ha b hb => ?_⟩
      obtain rfl := List.mem_singleton.1 hb
      exact (o2 hme.1 hme.2).1 a ha
    · exact ents_pw v
  refine vcE.then _ (once_put hc h v.ok.fits fun x y => ⟨under_none (o2 x y).1, (o2 x y).2⟩) ?_
  rintro e' tm' hp' ⟨rfl, h⟩
  refine vcE.then _ (once_gone hc hl h hgl hu1 ?_) ?_
  · intro j x hx
    have hx2 := o3 x (List.mem_of_getElem? hx)
    refine ⟨hx2.1, hx2.2.1, ?_⟩
    rw [if_neg (fun h => hx2.2.2.2 h.1)]
    exact hgn j x hx
  rintro e' tm' hp' ⟨rfl, h⟩
  refine vcE.then _ (once_ans hc h ?_) ?_
  · rw [cuts_eq]
    exact hu1.sublist List.filter_sublist
  rintro e' tm' hp' ⟨rfl, h⟩
  have hes : ents p.jobs = if m = 4 ∧ e = 0 ∧ w ≠ 2 then cut (cuts (if m < 2 ∧ e = 0 then ents q.jobs ++ [(n, c.a)] else ents q.jobs) (gone.map (·.txn))) c.txn else cuts (if m < 2 ∧ e = 0 then ents q.jobs ++ [(n, c.a)] else ents q.jobs) (gone.map (·.txn)) := by
    rw [o1]
    simp only [after, hM]
  rw [← hes] at h
  refine vcE.step (by simp (disch := first | assumption | omega | with_unfolding_all rfl) only [exC, exOps, exOp, evE, evsE, putE, wantedE, Nat.reduceEqDiff, ↓reduceIte, ROp.run, same, binA, intA, strA, eqA, indexSA, byteA, unA, bounds3, Option.map_some, Option.map_none, dec_true, dec_false, Int.toNat_natCast, Int.natCast_nonneg, beq_self_eq_true, List.append_nil, beq_iff_eq, reduceCtorEq, List.getD_cons_zero, List.getD_cons_succ, loadA, rowA, pickA, bslA, storeA_eq, decide_true, flatA, List.length_cons, List.length_nil, Nat.reduceAdd, List.flatMap_cons, List.flatMap_nil, BEq.rfl, List.cons_append, List.nil_append, if_pos, if_neg, ordered, List.getElem?_cons_zero, List.getElem?_cons_succ, frzL, nidL, frz_func, frz_agg, frz_tup, frz_iface, fresh_func, fresh_agg, fresh_tup, fresh_iface, frz_ptr, frz_sl, fresh_sl, Cls.isFree, Cls.makes, callCls, chain, cond_true, tz, ty, faddrA, allocA, over, List.take_succ_cons, List.take_zero, List.drop_succ_cons, List.drop_zero, List.drop_nil, List.set_cons_zero, List.set_cons_succ, Nat.reduceLeDiff, and_self, Que.c_len, Act.c_len, Job.c_len, boxA_eq, ↓pickQ, ↓pickA5, queL_frz, queL_nid, actL_frz, actL_nid, jobL_frz, jobL_nid, hcl, cloneV, cloneH, ↓overQ, osl_one, osl_notTup, osl_cells, oslJ_frz, oslA_frz, dropQ]; rfl) ?_
  refine vcE.then _ (once_jobs (h.keep' (tm' := upd tm' 17 (.int .i64 0)) rfl rfl rfl rfl rfl rfl rfl rfl rfl rfl) v2.ok.fits.j rfl ?_) ?_
  · intro j x hx
    exact under_mem (fun a ha b hb => ents_uniq v2.up a ha b hb) (List.mem_map.2 ⟨x, List.mem_of_getElem? hx, rfl⟩)
  rintro e' tm' hp' ⟨rfl, h, t17⟩
  have hp0 : pickA none p.c 0 = some (encJ.S p.jobs) := rfl
  have hml := h.m.len
  have hel : (ents p.jobs).length = p.jobs.length := List.length_map _
  rw [hel] at hml
  have hlf : lenFits .map (.map 1) = true := rfl
  have hf4 : ¬ ((flyers p.jobs : Int) > 4) := by have := v2.fl; omega
  refine vcE.ex (by simp (disch := first | assumption | omega | with_unfolding_all rfl) only [exC, exOps, exOp, evE, evsE, putE, wantedE, Nat.reduceEqDiff, ↓reduceIte, ROp.run, same, binA, intA, strA, eqA, indexSA, byteA, unA, bounds3, Option.map_some, Option.map_none, dec_true, dec_false, Int.toNat_natCast, Int.natCast_nonneg, beq_self_eq_true, List.append_nil, beq_iff_eq, reduceCtorEq, List.getD_cons_zero, List.getD_cons_succ, loadA, rowA, pickA, bslA, storeA_eq, decide_true, flatA, List.length_cons, List.length_nil, Nat.reduceAdd, List.flatMap_cons, List.flatMap_nil, BEq.rfl, List.cons_append, List.nil_append, if_pos, if_neg, ordered, List.getElem?_cons_zero, List.getElem?_cons_succ, frzL, nidL, frz_func, frz_agg, frz_tup, frz_iface, fresh_func, fresh_agg, fresh_tup, fresh_iface, frz_ptr, frz_sl, fresh_sl, Cls.isFree, Cls.makes, callCls, chain, cond_true, tz, ty, faddrA, allocA, over, List.take_succ_cons, List.take_zero, List.drop_succ_cons, List.drop_zero, List.drop_nil, List.set_cons_zero, List.set_cons_succ, Nat.reduceLeDiff, and_self, Que.c_len, Act.c_len, Job.c_len, boxA_eq, ↓pickQ, ↓pickA5, queL_frz, queL_nid, actL_frz, actL_nid, jobL_frz, jobL_nid, hcl, cloneV, cloneH, ↓overQ, osl_one, osl_notTup, osl_cells, oslJ_frz, oslA_frz, dropQ, getA, getA0, setA, setA0, List.append_assoc, List.length_append, allocA, ↓over_zq, ↓over_qq, ↓over_zj, ↓over_za, Que.c_cells, List.getElem?_cons_zero, List.getElem?_cons_succ, h.t3, h.t4, h.t7, t17, h.g0, h.gk, ↓hp0, ↓hml, hf4, hlf, Enc.S_len, Enc.S_fits, decide_true, decide_false, Bool.not_true]; rfl) ?_
  refine vcE.ex (by simp (disch := first | assumption | omega | with_unfolding_all rfl) only [exC, exOps, exOp, evE, evsE, putE, wantedE, Nat.reduceEqDiff, ↓reduceIte, ROp.run, same, binA, intA, strA, eqA, indexSA, byteA, unA, bounds3, Option.map_some, Option.map_none, dec_true, dec_false, Int.toNat_natCast, Int.natCast_nonneg, beq_self_eq_true, List.append_nil, beq_iff_eq, reduceCtorEq, List.getD_cons_zero, List.getD_cons_succ, loadA, rowA, pickA, bslA, storeA_eq, decide_true, flatA, List.length_cons, List.length_nil, Nat.reduceAdd, List.flatMap_cons, List.flatMap_nil, BEq.rfl, List.cons_append, List.nil_append, if_pos, if_neg, ordered, List.getElem?_cons_zero, List.getElem?_cons_succ, frzL, nidL, frz_func, frz_agg, frz_tup, frz_iface, fresh_func, fresh_agg, fresh_tup, fresh_iface, frz_ptr, frz_sl, fresh_sl, Cls.isFree, Cls.makes, callCls, chain, cond_true, tz, ty, faddrA, allocA, over, List.take_succ_cons, List.take_zero, List.drop_succ_cons, List.drop_zero, List.drop_nil, List.set_cons_zero, List.set_cons_succ, Nat.reduceLeDiff, and_self, Que.c_len, Act.c_len, Job.c_len, boxA_eq, ↓pickQ, ↓pickA5, queL_frz, queL_nid, actL_frz, actL_nid, jobL_frz, jobL_nid, hcl, cloneV, cloneH, ↓overQ, osl_one, osl_notTup, osl_cells, oslJ_frz, oslA_frz, dropQ, h.t5, hw]; rfl) ?_
  refine ⟨rfl, set_get h.g0, ?_, ?_, ?_, ?_, ?_⟩
  · obtain ⟨bs, b, hm⟩ := h.m
    exact ⟨bs, b, by rw [set_get_ne (by omega)]; exact hm⟩
  all_goals simp only [upd_app, Nat.reduceEqDiff, ↓reduceIte, h.t0, h.t3, h.t4]
  rfl

theorem lawOnce (l : List Call) (hl : l.length ≤ 4611686018427387904) : PC Try.prog 4 [encC.S l] (.bool true) := by
  refine pc_e hmG T11_ok comp4 (by decide) (by simp) (nidL_ok (by simp only [nidL, Enc.S_nid, Bool.and_self])) ?_
  have hcl : True := trivial
  have c0 : T11 10 [] = _ := (T11_ne rfl).trans T10_lives
  have c1 : T11 21 [encC.S l] = _ := (T11_ne rfl).trans (T10_light hl)
  have c2 : T11 13 [] = _ := (T11_ne rfl).trans ((T10_ne rfl).trans ((T8_ne rfl).trans T7_empty))
  refine vcE.step (by simp (disch := first | assumption | omega | with_unfolding_all rfl) only [exC, exOps, exOp, evE, evsE, putE, wantedE, Nat.reduceEqDiff, ↓reduceIte, ROp.run, same, binA, intA, strA, eqA, indexSA, byteA, unA, bounds3, Option.map_some, Option.map_none, dec_true, dec_false, Int.toNat_natCast, Int.natCast_nonneg, beq_self_eq_true, List.append_nil, beq_iff_eq, reduceCtorEq, List.getD_cons_zero, List.getD_cons_succ, loadA, rowA, pickA, bslA, storeA_eq, decide_true, flatA, List.length_cons, List.length_nil, Nat.reduceAdd, List.flatMap_cons, List.flatMap_nil, BEq.rfl, List.cons_append, List.nil_append, if_pos, if_neg, ordered, List.getElem?_cons_zero, List.getElem?_cons_succ, frzL, nidL, frz_func, frz_agg, frz_tup, frz_iface, fresh_func, fresh_agg, fresh_tup, fresh_iface, frz_ptr, frz_sl, fresh_sl, Cls.isFree, Cls.makes, callCls, chain, cond_true, tz, ty, faddrA, allocA, over, List.take_succ_cons, List.take_zero, List.drop_succ_cons, List.drop_zero, List.drop_nil, List.set_cons_zero, List.set_cons_succ, Nat.reduceLeDiff, and_self, Que.c_len, Act.c_len, Job.c_len, boxA_eq, ↓pickQ, ↓pickA5, queL_frz, queL_nid, actL_frz, actL_nid, jobL_frz, jobL_nid, hcl, cloneV, cloneH, ↓overQ, osl_one, osl_notTup, osl_cells, oslJ_frz, oslA_frz, dropQ]; rfl) (vcE.step (by simp (disch := first | assumption | omega | with_unfolding_all rfl) only [exC, exOps, exOp, evE, evsE, putE, wantedE, Nat.reduceEqDiff, ↓reduceIte, ROp.run, same, binA, intA, strA, eqA, indexSA, byteA, unA, bounds3, Option.map_some, Option.map_none, dec_true, dec_false, Int.toNat_natCast, Int.natCast_nonneg, beq_self_eq_true, List.append_nil, beq_iff_eq, reduceCtorEq, List.getD_cons_zero, List.getD_cons_succ, loadA, rowA, pickA, bslA, storeA_eq, decide_true, flatA, List.length_cons, List.length_nil, Nat.reduceAdd, List.flatMap_cons, List.flatMap_nil, BEq.rfl, List.cons_append, List.nil_append, if_pos, if_neg, ordered, List.getElem?_cons_zero, List.getElem?_cons_succ, frzL, nidL, frz_func, frz_agg, frz_tup, frz_iface, fresh_func, fresh_agg, fresh_tup, fresh_iface, frz_ptr, frz_sl, fresh_sl, Cls.isFree, Cls.makes, callCls, chain, cond_true, tz, ty, faddrA, allocA, over, List.take_succ_cons, List.take_zero, List.drop_succ_cons, List.drop_zero, List.drop_nil, List.set_cons_zero, List.set_cons_succ, Nat.reduceLeDiff, and_self, Que.c_len, Act.c_len, Job.c_len, boxA_eq, ↓pickQ, ↓pickA5, queL_frz, queL_nid, actL_frz, actL_nid, jobL_frz, jobL_nid, hcl, cloneV, cloneH, ↓overQ, osl_one, osl_notTup, osl_cells, oslJ_frz, oslA_frz, dropQ, c0, Bool.not_true]; rfl) ?_)
  cases h1 : lightC l <;> rw [h1] at c1
  · refine vcE.ex (by simp (disch := first | assumption | omega | with_unfolding_all rfl) only [exC, exOps, exOp, evE, evsE, putE, wantedE, Nat.reduceEqDiff, ↓reduceIte, ROp.run, same, binA, intA, strA, eqA, indexSA, byteA, unA, bounds3, Option.map_some, Option.map_none, dec_true, dec_false, Int.toNat_natCast, Int.natCast_nonneg, beq_self_eq_true, List.append_nil, beq_iff_eq, reduceCtorEq, List.getD_cons_zero, List.getD_cons_succ, loadA, rowA, pickA, bslA, storeA_eq, decide_true, flatA, List.length_cons, List.length_nil, Nat.reduceAdd, List.flatMap_cons, List.flatMap_nil, BEq.rfl, List.cons_append, List.nil_append, if_pos, if_neg, ordered, List.getElem?_cons_zero, List.getElem?_cons_succ, frzL, nidL, frz_func, frz_agg, frz_tup, frz_iface, fresh_func, fresh_agg, fresh_tup, fresh_iface, frz_ptr, frz_sl, fresh_sl, Cls.isFree, Cls.makes, callCls, chain, cond_true, tz, ty, faddrA, allocA, over, List.take_succ_cons, List.take_zero, List.drop_succ_cons, List.drop_zero, List.drop_nil, List.set_cons_zero, List.set_cons_succ, Nat.reduceLeDiff, and_self, Que.c_len, Act.c_len, Job.c_len, boxA_eq, ↓pickQ, ↓pickA5, queL_frz, queL_nid, actL_frz, actL_nid, jobL_frz, jobL_nid, hcl, cloneV, cloneH, ↓overQ, osl_one, osl_notTup, osl_cells, oslJ_frz, oslA_frz, dropQ, c1, Enc.S_frz, Enc.S_nid, Bool.not_false, Bool.or_true]; rfl) ?_
    exact ⟨_, rfl, rfl⟩
  obtain ⟨l60, lk⟩ := light_len h1
  refine vcE.step (by simp (disch := first | assumption | omega | with_unfolding_all rfl) only [exC, exOps, exOp, evE, evsE, putE, wantedE, Nat.reduceEqDiff, ↓reduceIte, ROp.run, same, binA, intA, strA, eqA, indexSA, byteA, unA, bounds3, Option.map_some, Option.map_none, dec_true, dec_false, Int.toNat_natCast, Int.natCast_nonneg, beq_self_eq_true, List.append_nil, beq_iff_eq, reduceCtorEq, List.getD_cons_zero, List.getD_cons_succ, loadA, rowA, pickA, bslA, storeA_eq, decide_true, flatA, List.length_cons, List.length_nil, Nat.reduceAdd, List.flatMap_cons, List.flatMap_nil, BEq.rfl, List.cons_append, List.nil_append, if_pos, if_neg, ordered, List.getElem?_cons_zero, List.getElem?_cons_succ, frzL, nidL, frz_func, frz_agg, frz_tup, frz_iface, fresh_func, fresh_agg, fresh_tup, fresh_iface, frz_ptr, frz_sl, fresh_sl, Cls.isFree, Cls.makes, callCls, chain, cond_true, tz, ty, faddrA, allocA, over, List.take_succ_cons, List.take_zero, List.drop_succ_cons, List.drop_zero, List.drop_nil, List.set_cons_zero, List.set_cons_succ, Nat.reduceLeDiff, and_self, Que.c_len, Act.c_len, Job.c_len, boxA_eq, ↓pickQ, ↓pickA5, queL_frz, queL_nid, actL_frz, actL_nid, jobL_frz, jobL_nid, hcl, cloneV, cloneH, ↓overQ, osl_one, osl_notTup, osl_cells, oslJ_frz, oslA_frz, dropQ, c1, Enc.S_frz, Enc.S_nid, Bool.not_true, Bool.or_true]; rfl) (vcE.step (by simp (disch := first | assumption | omega | with_unfolding_all rfl) only [exC, exOps, exOp, evE, evsE, putE, wantedE, Nat.reduceEqDiff, ↓reduceIte, ROp.run, same, binA, intA, strA, eqA, indexSA, byteA, unA, bounds3, Option.map_some, Option.map_none, dec_true, dec_false, Int.toNat_natCast, Int.natCast_nonneg, beq_self_eq_true, List.append_nil, beq_iff_eq, reduceCtorEq, List.getD_cons_zero, List.getD_cons_succ, loadA, rowA, pickA, bslA, storeA_eq, decide_true, flatA, List.length_cons, List.length_nil, Nat.reduceAdd, List.flatMap_cons, List.flatMap_nil, BEq.rfl, List.cons_append, List.nil_append, if_pos, if_neg, ordered, List.getElem?_cons_zero, List.getElem?_cons_succ, frzL, nidL, frz_func, frz_agg, frz_tup, frz_iface, fresh_func, fresh_agg, fresh_tup, fresh_iface, frz_ptr, frz_sl, fresh_sl, Cls.isFree, Cls.makes, callCls, chain, cond_true, tz, ty, faddrA, allocA, over, List.take_succ_cons, List.take_zero, List.drop_succ_cons, List.drop_zero, List.drop_nil, List.set_cons_zero, List.set_cons_succ, Nat.reduceLeDiff, and_self, Que.c_len, Act.c_len, Job.c_len, boxA_eq, ↓pickQ, ↓pickA5, queL_frz, queL_nid, actL_frz, actL_nid, jobL_frz, jobL_nid, hcl, cloneV, cloneH, ↓overQ, osl_one, osl_notTup, osl_cells, oslJ_frz, oslA_frz, dropQ, getA, getA0, setA, setA0, List.append_assoc, List.length_append, allocA, ↓over_zq, ↓over_qq, ↓over_zj, ↓over_za, Que.c_cells, List.getElem?_cons_zero, List.getElem?_cons_succ, c2, Bool.true_or]; rfl) (vcE.step (by simp (disch := first | assumption | omega | with_unfolding_all rfl) only [exC, exOps, exOp, evE, evsE, putE, wantedE, Nat.reduceEqDiff, ↓reduceIte, ROp.run, same, binA, intA, strA, eqA, indexSA, byteA, unA, bounds3, Option.map_some, Option.map_none, dec_true, dec_false, Int.toNat_natCast, Int.natCast_nonneg, beq_self_eq_true, List.append_nil, beq_iff_eq, reduceCtorEq, List.getD_cons_zero, List.getD_cons_succ, loadA, rowA, pickA, bslA, storeA_eq, decide_true, flatA, List.length_cons, List.length_nil, Nat.reduceAdd, List.flatMap_cons, List.flatMap_nil, BEq.rfl, List.cons_append, List.nil_append, if_pos, if_neg, ordered, List.getElem?_cons_zero, List.getElem?_cons_succ, frzL, nidL, frz_func, frz_agg, frz_tup, frz_iface, fresh_func, fresh_agg, fresh_tup, fresh_iface, frz_ptr, frz_sl, fresh_sl, Cls.isFree, Cls.makes, callCls, chain, cond_true, tz, ty, faddrA, allocA, over, List.take_succ_cons, List.take_zero, List.drop_succ_cons, List.drop_zero, List.drop_nil, List.set_cons_zero, List.set_cons_succ, Nat.reduceLeDiff, and_self, Que.c_len, Act.c_len, Job.c_len, boxA_eq, ↓pickQ, ↓pickA5, queL_frz, queL_nid, actL_frz, actL_nid, jobL_frz, jobL_nid, hcl, cloneV, cloneH, ↓overQ, osl_one, osl_notTup, osl_cells, oslJ_frz, oslA_frz, dropQ, mkmapA]; rfl) ?_))
  refine vcE.then (fun e tm hp => e = .normal) ?_ ?_
  · refine vcE.step (by simp (disch := first | assumption | omega | with_unfolding_all rfl) only [exC, exOps, exOp, evE, evsE, putE, wantedE, Nat.reduceEqDiff, ↓reduceIte, ROp.run, same, binA, intA, strA, eqA, indexSA, byteA, unA, bounds3, Option.map_some, Option.map_none, dec_true, dec_false, Int.toNat_natCast, Int.natCast_nonneg, beq_self_eq_true, List.append_nil, beq_iff_eq, reduceCtorEq, List.getD_cons_zero, List.getD_cons_succ, loadA, rowA, pickA, bslA, storeA_eq, decide_true, flatA, List.length_cons, List.length_nil, Nat.reduceAdd, List.flatMap_cons, List.flatMap_nil, BEq.rfl, List.cons_append, List.nil_append, if_pos, if_neg, ordered, List.getElem?_cons_zero, List.getElem?_cons_succ, frzL, nidL, frz_func, frz_agg, frz_tup, frz_iface, fresh_func, fresh_agg, fresh_tup, fresh_iface, frz_ptr, frz_sl, fresh_sl, Cls.isFree, Cls.makes, callCls, chain, cond_true, tz, ty, faddrA, allocA, over, List.take_succ_cons, List.take_zero, List.drop_succ_cons, List.drop_zero, List.drop_nil, List.set_cons_zero, List.set_cons_succ, Nat.reduceLeDiff, and_self, Que.c_len, Act.c_len, Job.c_len, boxA_eq, ↓pickQ, ↓pickA5, queL_frz, queL_nid, actL_frz, actL_nid, jobL_frz, jobL_nid, hcl, cloneV, cloneH, ↓overQ, osl_one, osl_notTup, osl_cells, oslJ_frz, oslA_frz, dropQ]; rfl) (vcE.block (vcE.count (by intro l tm hp h; simp at h)
      (fun i tm hp => hp[0]? = some (some (.row 29 (runQ Que.empty (l.take i)).c)) ∧ MapAt hp (ents (runQ Que.empty (l.take i)).jobs) ∧ tm 0 = encC.S l ∧ tm 3 = .ptr 0 0 ∧ tm 4 = .map 1 ∧ tm 5 = .int .i64 i) l.length ⟨rfl, ⟨[], 0, rfl⟩, ?_, ?_, ?_, rfl⟩ ?_ ?_))
    · simp only [upd_app, Nat.reduceEqDiff, ↓reduceIte]
      rfl
    · simp only [upd_app, Nat.reduceEqDiff, ↓reduceIte]
    · simp only [upd_app, Nat.reduceEqDiff, ↓reduceIte]
    · rintro i tm hp hi ⟨g0, gm, t0, t3, t4, t5⟩
      obtain ⟨c, hc⟩ : ∃ c, l[i]? = some c := ⟨_, List.getElem?_eq_getElem hi⟩
      refine (once_round (runQ_valid empty_valid _) hc hl (lk c (List.mem_of_getElem? hc)) g0 gm t0 t3 t4 t5).mono ?_
      rintro e tm' hp' ⟨rfl, k0, k1, k2, k3, k4, k5⟩
      rw [runQ_succ hc]
      exact ⟨k0, k1, k2, k3, k4, k5⟩
    · rintro tm hp ⟨g0, gm, t0, t3, t4, t5⟩
      exact vcE.ex (by simp (disch := first | assumption | omega | with_unfolding_all rfl) only [exC, exOps, exOp, evE, evsE, putE, wantedE, Nat.reduceEqDiff, ↓reduceIte, ROp.run, same, binA, intA, strA, eqA, indexSA, byteA, unA, bounds3, Option.map_some, Option.map_none, dec_true, dec_false, Int.toNat_natCast, Int.natCast_nonneg, beq_self_eq_true, List.append_nil, beq_iff_eq, reduceCtorEq, List.getD_cons_zero, List.getD_cons_succ, loadA, rowA, pickA, bslA, storeA_eq, decide_true, flatA, List.length_cons, List.length_nil, Nat.reduceAdd, List.flatMap_cons, List.flatMap_nil, BEq.rfl, List.cons_append, List.nil_append, if_pos, if_neg, ordered, List.getElem?_cons_zero, List.getElem?_cons_succ, frzL, nidL, frz_func, frz_agg, frz_tup, frz_iface, fresh_func, fresh_agg, fresh_tup, fresh_iface, frz_ptr, frz_sl, fresh_sl, Cls.isFree, Cls.makes, callCls, chain, cond_true, tz, ty, faddrA, allocA, over, List.take_succ_cons, List.take_zero, List.drop_succ_cons, List.drop_zero, List.drop_nil, List.set_cons_zero, List.set_cons_succ, Nat.reduceLeDiff, and_self, Que.c_len, Act.c_len, Job.c_len, boxA_eq, ↓pickQ, ↓pickA5, queL_frz, queL_nid, actL_frz, actL_nid, jobL_frz, jobL_nid, hcl, cloneV, cloneH, ↓overQ, osl_one, osl_notTup, osl_cells, oslJ_frz, oslA_frz, dropQ, t0, t5, Enc.S_len, Enc.S_fits]; rfl) rfl
  · rintro e tm hp rfl
    refine vcE.ex (by simp (disch := first | assumption | omega | with_unfolding_all rfl) only [exC, exOps, exOp, evE, evsE, putE, wantedE, Nat.reduceEqDiff, ↓reduceIte, ROp.run, same, binA, intA, strA, eqA, indexSA, byteA, unA, bounds3, Option.map_some, Option.map_none, dec_true, dec_false, Int.toNat_natCast, Int.natCast_nonneg, beq_self_eq_true, List.append_nil, beq_iff_eq, reduceCtorEq, List.getD_cons_zero, List.getD_cons_succ, loadA, rowA, pickA, bslA, storeA_eq, decide_true, flatA, List.length_cons, List.length_nil, Nat.reduceAdd, List.flatMap_cons, List.flatMap_nil, BEq.rfl, List.cons_append, List.nil_append, if_pos, if_neg, ordered, List.getElem?_cons_zero, List.getElem?_cons_succ, frzL, nidL, frz_func, frz_agg, frz_tup, frz_iface, fresh_func, fresh_agg, fresh_tup, fresh_iface, frz_ptr, frz_sl, fresh_sl, Cls.isFree, Cls.makes, callCls, chain, cond_true, tz, ty, faddrA, allocA, over, List.take_succ_cons, List.take_zero, List.drop_succ_cons, List.drop_zero, List.drop_nil, List.set_cons_zero, List.set_cons_succ, Nat.reduceLeDiff, and_self, Que.c_len, Act.c_len, Job.c_len, boxA_eq, ↓pickQ, ↓pickA5, queL_frz, queL_nid, actL_frz, actL_nid, jobL_frz, jobL_nid, hcl, cloneV, cloneH, ↓overQ, osl_one, osl_notTup, osl_cells, oslJ_frz, oslA_frz, dropQ]; rfl) ?_
    exact ⟨_, rfl, rfl⟩
end

end Go.Gi
