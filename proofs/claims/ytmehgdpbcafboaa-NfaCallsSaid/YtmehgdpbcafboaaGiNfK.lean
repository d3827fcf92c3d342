/- States, steps, and the result of runs, are what the document says. -/
import Derived.Test.YtmehgdpbcafboaaGiNfJ
import Derived.Test.YtmehgdpbcafboaaGiRS
set_option linter.unusedVariables false
set_option linter.unusedSimpArgs false
namespace Go.Gi
open Go Go.Proofs

def J3 : Tab := (Tab.none.addR 111 (.cons .str .nil) fun p => .rd true (.int .i64 (checkG p.1))).addO 112 (.cons .str .nil) fun p => if p.1.length ≤ 300 then some (.rd true (.str (normB p.1))) else none
theorem J3_ok : TabOk Try.prog J3 := by
  refine TabOk.addO (TabOk.addR (TabOk.none _) ?_) ?_
  · exact fun p => rCheck p.1
  · intro p r h
    split at h
    · rename_i hv
      cases h
      exact rNorm p.1 hv
    · cases h
theorem J3_check (p : List UInt8) : J3 111 [.str p] = some (.rd true (.int .i64 (checkG p))) := by
  rw [J3, Tab.addO_ne _ _ _ _ rfl]
  exact Tab.addR_self _ _ (.cons .str .nil) _ (p, ())
theorem J3_norm (p : List UInt8) (h : p.length ≤ 300) : J3 112 [.str p] = some (.rd true (.str (normB p))) := by
  refine (Tab.addO_self _ _ (.cons .str .nil) _ (p, ())).trans ?_
  rw [if_pos h]
theorem rNew (p : List UInt8) (f : Bool) (hl : p.length ≤ 300) : PCF Try.prog 61 [.str p, .bool f] (.tup [nV (newV p f), .int .i64 (checkG p)]) := by
  refine pcf_e hmG J3_ok comp61 (by decide) (by simp) (nidL_ok rfl) ?_
  have h1 := J3_norm p hl
  have h2 := J3_check p
  unfold newV
  by_cases hc : checkG p = 0
  · refine vcE.ex (by simp (disch := first | assumption | omega) only [exC, exOps, exOp, evE, evsE, putE, wantedE, Nat.reduceEqDiff, ↓reduceIte, ROp.run, same, binA, intA, strA, eqA, indexSA, byteA, unA, bounds3, Option.map_some, Option.map_none, dec_true, dec_false, Int.toNat_natCast, Int.natCast_nonneg, beq_self_eq_true, List.append_nil, beq_iff_eq, reduceCtorEq, List.getD_cons_zero, List.getD_cons_succ, loadA, rowA, pickA, bslA, storeA_eq, decide_true, flatA, List.length_cons, List.length_nil, Nat.reduceAdd, List.flatMap_cons, List.flatMap_nil, BEq.rfl, List.cons_append, List.nil_append, if_pos, if_neg, ordered, List.getElem?_cons_zero, List.getElem?_cons_succ, frzL, nidL, frz_func, frz_agg, frz_tup, frz_iface, fresh_func, fresh_agg, fresh_tup, fresh_iface, frz_ptr, frz_sl, fresh_sl, Cls.isFree, Cls.makes, callCls, chain, cond_true, tz, ty, faddrA, allocA, over, List.take_succ_cons, List.take_zero, List.drop_succ_cons, List.drop_zero, List.drop_nil, List.set_cons_zero, List.set_cons_succ, Nat.reduceLeDiff, and_self, h1, h2, fillA]; rfl) ?_
    refine ⟨_, rfl, ?_⟩
    rw [if_pos hc, hc]
    rfl
  · refine vcE.ex (by simp (disch := first | assumption | omega) only [exC, exOps, exOp, evE, evsE, putE, wantedE, Nat.reduceEqDiff, ↓reduceIte, ROp.run, same, binA, intA, strA, eqA, indexSA, byteA, unA, bounds3, Option.map_some, Option.map_none, dec_true, dec_false, Int.toNat_natCast, Int.natCast_nonneg, beq_self_eq_true, List.append_nil, beq_iff_eq, reduceCtorEq, List.getD_cons_zero, List.getD_cons_succ, loadA, rowA, pickA, bslA, storeA_eq, decide_true, flatA, List.length_cons, List.length_nil, Nat.reduceAdd, List.flatMap_cons, List.flatMap_nil, BEq.rfl, List.cons_append, List.nil_append, if_pos, if_neg, ordered, List.getElem?_cons_zero, List.getElem?_cons_succ, frzL, nidL, frz_func, frz_agg, frz_tup, frz_iface, fresh_func, fresh_agg, fresh_tup, fresh_iface, frz_ptr, frz_sl, fresh_sl, Cls.isFree, Cls.makes, callCls, chain, cond_true, tz, ty, faddrA, allocA, over, List.take_succ_cons, List.take_zero, List.drop_succ_cons, List.drop_zero, List.drop_nil, List.set_cons_zero, List.set_cons_succ, Nat.reduceLeDiff, and_self, h1, h2]; rfl) ?_
    refine ⟨_, rfl, ?_⟩
    rw [if_neg hc]
    rfl

theorem take_eq_of {l m : List Int} {i : Nat} (h : l.take i = m.take i) {a : Int} (h1 : l[i]? = some a) (h2 : m[i]? = some a) : l.take (i + 1) = m.take (i + 1) := by
  rw [List.take_add_one, List.take_add_one, h, h1, h2]
theorem pSameI (l m : List Int) (hl : l.length ≤ 4611686018427387904) : PCF Try.prog 57 [encI.S l, encI.S m] (.bool (decide (l = m))) := by
  refine pcf_e hmG (TabOk.none _) comp57 (by decide) (by simp) (nidL_ok (by simp only [nidL, Enc.S_nid, Bool.and_self])) ?_
  by_cases hlm : l.length = m.length
  · refine vcE.step (by simp only [exC, exOps, exOp, evE, evsE, putE, wantedE, Nat.reduceEqDiff, ↓reduceIte, ROp.run, same, binA, intA, strA, eqA, indexSA, byteA, unA, bounds3, Option.map_some, Option.map_none, dec_true, dec_false, Int.toNat_natCast, Int.natCast_nonneg, beq_self_eq_true, List.append_nil, beq_iff_eq, reduceCtorEq, List.getD_cons_zero, List.getD_cons_succ, loadA, rowA, pickA, bslA, storeA_eq, decide_true, flatA, List.length_cons, List.length_nil, Nat.reduceAdd, List.flatMap_cons, List.flatMap_nil, BEq.rfl, List.cons_append, List.nil_append, if_pos, if_neg, ordered, List.getElem?_cons_zero, List.getElem?_cons_succ, frzL, nidL, frz_func, frz_agg, frz_tup, frz_iface, fresh_func, fresh_agg, fresh_tup, fresh_iface, frz_ptr, frz_sl, fresh_sl, Cls.isFree, Cls.makes, callCls, chain, cond_true, tz, ty]; rfl) (vcE.step (by simp (disch := first | assumption | omega) only [exC, exOps, exOp, evE, evsE, putE, wantedE, Nat.reduceEqDiff, ↓reduceIte, ROp.run, same, binA, intA, strA, eqA, indexSA, byteA, unA, bounds3, Option.map_some, Option.map_none, dec_true, dec_false, Int.toNat_natCast, Int.natCast_nonneg, beq_self_eq_true, List.append_nil, beq_iff_eq, reduceCtorEq, List.getD_cons_zero, List.getD_cons_succ, loadA, rowA, pickA, bslA, storeA_eq, decide_true, flatA, List.length_cons, List.length_nil, Nat.reduceAdd, List.flatMap_cons, List.flatMap_nil, BEq.rfl, List.cons_append, List.nil_append, if_pos, if_neg, ordered, List.getElem?_cons_zero, List.getElem?_cons_succ, frzL, nidL, frz_func, frz_agg, frz_tup, frz_iface, fresh_func, fresh_agg, fresh_tup, fresh_iface, frz_ptr, frz_sl, fresh_sl, Cls.isFree, Cls.makes, callCls, chain, cond_true, tz, ty, Enc.S_len]; rfl) (vcE.then (fun e tm hp => (e = .normal ∧ l = m) ∨ (e = .ret ∧ tm 4 = .bool false ∧ l ≠ m)) ?_ ?_))
    · refine vcE.step (by simp only [exC, exOps, exOp, evE, evsE, putE, wantedE, Nat.reduceEqDiff, ↓reduceIte, ROp.run, same, binA, intA, strA, eqA, indexSA, byteA, unA, bounds3, Option.map_some, Option.map_none, dec_true, dec_false, Int.toNat_natCast, Int.natCast_nonneg, beq_self_eq_true, List.append_nil, beq_iff_eq, reduceCtorEq, List.getD_cons_zero, List.getD_cons_succ, loadA, rowA, pickA, bslA, storeA_eq, decide_true, flatA, List.length_cons, List.length_nil, Nat.reduceAdd, List.flatMap_cons, List.flatMap_nil, BEq.rfl, List.cons_append, List.nil_append, if_pos, if_neg, ordered, List.getElem?_cons_zero, List.getElem?_cons_succ, frzL, nidL, frz_func, frz_agg, frz_tup, frz_iface, fresh_func, fresh_agg, fresh_tup, fresh_iface, frz_ptr, frz_sl, fresh_sl, Cls.isFree, Cls.makes, callCls, chain, cond_true, tz, ty]; rfl) (vcE.block (vcE.count (by intro l tm hp h; simp at h)
        (fun i tm hp => tm 0 = encI.S l ∧ tm 1 = encI.S m ∧ tm 5 = .int .i64 i ∧ l.take i = m.take i) l.length ⟨?_, ?_, ?_, ?_⟩ ?_ ?_))
      · rfl
      · rfl
      · rfl
      · simp
      · rintro i tm hp hi ⟨e0, e1, e5, hE⟩
        obtain ⟨a, ha⟩ : ∃ a, l[i]? = some a := ⟨_, List.getElem?_eq_getElem hi⟩
        obtain ⟨b, hb⟩ : ∃ b, m[i]? = some b := ⟨_, List.getElem?_eq_getElem (by omega)⟩
        have hia := encI_iaddr hi (k := .i64)
        have hib := encI_iaddr (R := m) (i := i) (by omega) (k := .i64)
        have hp1 := encI.pick1 (l := l) rfl ha (v := .int .i64 a) rfl rfl
        have hp2 := encI.pick1 (l := m) rfl hb (v := .int .i64 b) rfl rfl
        by_cases hab : a = b
        · refine vcE.ex (by simp (disch := first | assumption | omega) only [exC, exOps, exOp, evE, evsE, putE, wantedE, Nat.reduceEqDiff, ↓reduceIte, ROp.run, same, binA, intA, strA, eqA, indexSA, byteA, unA, bounds3, Option.map_some, Option.map_none, dec_true, dec_false, Int.toNat_natCast, Int.natCast_nonneg, beq_self_eq_true, List.append_nil, beq_iff_eq, reduceCtorEq, List.getD_cons_zero, List.getD_cons_succ, loadA, rowA, pickA, bslA, storeA_eq, decide_true, flatA, List.length_cons, List.length_nil, Nat.reduceAdd, List.flatMap_cons, List.flatMap_nil, BEq.rfl, List.cons_append, List.nil_append, if_pos, if_neg, ordered, List.getElem?_cons_zero, List.getElem?_cons_succ, frzL, nidL, frz_func, frz_agg, frz_tup, frz_iface, fresh_func, fresh_agg, fresh_tup, fresh_iface, frz_ptr, frz_sl, fresh_sl, Cls.isFree, Cls.makes, callCls, chain, cond_true, tz, ty, faddrA, allocA, over, List.take_succ_cons, List.take_zero, List.drop_succ_cons, List.drop_zero, List.drop_nil, List.set_cons_zero, List.set_cons_succ, Nat.reduceLeDiff, and_self, e0, e1, e5, hia, hib, ↓hp1, ↓hp2, Enc.S_len]; rfl) ?_
          refine ⟨?_, ?_, ?_, take_eq_of hE ha (by rw [hab]; exact hb)⟩
          · simp only [upd_app, Nat.reduceEqDiff, ↓reduceIte, e0]
          · simp only [upd_app, Nat.reduceEqDiff, ↓reduceIte, e1]
          · simp only [upd_app, Nat.reduceEqDiff, ↓reduceIte]; rfl
        · refine vcE.ex (by simp (disch := first | assumption | omega) only [exC, exOps, exOp, evE, evsE, putE, wantedE, Nat.reduceEqDiff, ↓reduceIte, ROp.run, same, binA, intA, strA, eqA, indexSA, byteA, unA, bounds3, Option.map_some, Option.map_none, dec_true, dec_false, Int.toNat_natCast, Int.natCast_nonneg, beq_self_eq_true, List.append_nil, beq_iff_eq, reduceCtorEq, List.getD_cons_zero, List.getD_cons_succ, loadA, rowA, pickA, bslA, storeA_eq, decide_true, flatA, List.length_cons, List.length_nil, Nat.reduceAdd, List.flatMap_cons, List.flatMap_nil, BEq.rfl, List.cons_append, List.nil_append, if_pos, if_neg, ordered, List.getElem?_cons_zero, List.getElem?_cons_succ, frzL, nidL, frz_func, frz_agg, frz_tup, frz_iface, fresh_func, fresh_agg, fresh_tup, fresh_iface, frz_ptr, frz_sl, fresh_sl, Cls.isFree, Cls.makes, callCls, chain, cond_true, tz, ty, faddrA, allocA, over, List.take_succ_cons, List.take_zero, List.drop_succ_cons, List.drop_zero, List.drop_nil, List.set_cons_zero, List.set_cons_succ, Nat.reduceLeDiff, and_self, e0, e1, e5, hia, hib, ↓hp1, ↓hp2, Enc.S_len]; rfl) ?_
          refine .inr ⟨rfl, ?_, ?_⟩
          · simp only [upd_app, Nat.reduceEqDiff, ↓reduceIte]
          · rintro rfl
            rw [ha] at hb
            cases hb
            exact hab rfl
      · rintro tm hp ⟨e0, e1, e5, hE⟩
        refine vcE.ex (by simp (disch := omega) only [exC, exOps, exOp, evE, evsE, putE, wantedE, Nat.reduceEqDiff, ↓reduceIte, ROp.run, same, binA, intA, strA, eqA, indexSA, byteA, unA, bounds3, Option.map_some, Option.map_none, dec_true, dec_false, Int.toNat_natCast, Int.natCast_nonneg, beq_self_eq_true, List.append_nil, beq_iff_eq, reduceCtorEq, List.getD_cons_zero, List.getD_cons_succ, loadA, rowA, pickA, bslA, storeA_eq, decide_true, flatA, List.length_cons, List.length_nil, Nat.reduceAdd, List.flatMap_cons, List.flatMap_nil, BEq.rfl, List.cons_append, List.nil_append, if_pos, if_neg, ordered, List.getElem?_cons_zero, List.getElem?_cons_succ, frzL, nidL, frz_func, frz_agg, frz_tup, frz_iface, fresh_func, fresh_agg, fresh_tup, fresh_iface, frz_ptr, frz_sl, fresh_sl, Cls.isFree, Cls.makes, callCls, chain, cond_true, tz, ty, e0, e5, Enc.S_len]; rfl) ?_
        refine .inl ⟨rfl, ?_⟩
        rw [List.take_length, hlm, List.take_length] at hE
        exact hE
    · rintro e tm hp (⟨rfl, h⟩ | ⟨rfl, h4, h⟩)
      · refine vcE.ex (by simp only [exC, exOps, exOp, evE, evsE, putE, wantedE, Nat.reduceEqDiff, ↓reduceIte, ROp.run, same, binA, intA, strA, eqA, indexSA, byteA, unA, bounds3, Option.map_some, Option.map_none, dec_true, dec_false, Int.toNat_natCast, Int.natCast_nonneg, beq_self_eq_true, List.append_nil, beq_iff_eq, reduceCtorEq, List.getD_cons_zero, List.getD_cons_succ, loadA, rowA, pickA, bslA, storeA_eq, decide_true, flatA, List.length_cons, List.length_nil, Nat.reduceAdd, List.flatMap_cons, List.flatMap_nil, BEq.rfl, List.cons_append, List.nil_append, if_pos, if_neg, ordered, List.getElem?_cons_zero, List.getElem?_cons_succ, frzL, nidL, frz_func, frz_agg, frz_tup, frz_iface, fresh_func, fresh_agg, fresh_tup, fresh_iface, frz_ptr, frz_sl, fresh_sl, Cls.isFree, Cls.makes, callCls, chain, cond_true, tz, ty]; rfl) ?_
        refine ⟨_, rfl, ?_⟩
        rw [decide_eq_true h]
        rfl
      · refine ⟨_, rfl, ?_⟩
        rw [h4, decide_eq_false h]
        rfl
  · have hlm' : ¬ ((l.length : Int) = m.length) := by omega
    refine vcE.ex (by simp (disch := first | assumption | omega) only [exC, exOps, exOp, evE, evsE, putE, wantedE, Nat.reduceEqDiff, ↓reduceIte, ROp.run, same, binA, intA, strA, eqA, indexSA, byteA, unA, bounds3, Option.map_some, Option.map_none, dec_true, dec_false, Int.toNat_natCast, Int.natCast_nonneg, beq_self_eq_true, List.append_nil, beq_iff_eq, reduceCtorEq, List.getD_cons_zero, List.getD_cons_succ, loadA, rowA, pickA, bslA, storeA_eq, decide_true, flatA, List.length_cons, List.length_nil, Nat.reduceAdd, List.flatMap_cons, List.flatMap_nil, BEq.rfl, List.cons_append, List.nil_append, if_pos, if_neg, ordered, List.getElem?_cons_zero, List.getElem?_cons_succ, frzL, nidL, frz_func, frz_agg, frz_tup, frz_iface, fresh_func, fresh_agg, fresh_tup, fresh_iface, frz_ptr, frz_sl, fresh_sl, Cls.isFree, Cls.makes, callCls, chain, cond_true, tz, ty, Enc.S_len]; rfl) ?_
    refine ⟨_, rfl, ?_⟩
    rw [decide_eq_false (fun e => hlm (by rw [e]))]
    rfl

/-- The table for the law. -/
def J4 : Tab := ((((((H6.addO 61 (.cons .str (.cons .bool .nil)) fun p => if p.1.length ≤ 300 then some (.rd true (.tup [nV (newV p.1 p.2.1), .int .i64 (checkG p.1)])) else none).addO 57 (.cons (.S encI) (.cons (.S encI) .nil)) fun p => if p.1.length ≤ 4611686018427387904 then some (.rd true (.bool (decide (p.1 = p.2.1)))) else none).addO 62 (.cons .nfa .nil) fun p => match p.1 with
  | some (q, f) => if q.length ≤ 100000 then some (.rd true (encI.S (lst (q.length + 1) (startS q)))) else none
  | none => none).addO 63 (.cons .nfa (.cons (.S encI) (.cons .u8 .nil))) fun p => match p.1 with
  | some (q, f) => if q.length ≤ 100000 ∧ p.2.1.length ≤ 1000000 then some (.rd true (encI.S (lst (q.length + 1) (stepS (sameB f) q (ofS p.2.1) p.2.2.1)))) else none
  | none => none).addO 64 (.cons .nfa (.cons (.S encI) .nil)) fun p => match p.1 with
  | some (q, f) => if q.length ≤ 100000 ∧ p.2.1.length ≤ 1000000 then some (.rd true (.bool (ofS p.2.1 q.length))) else none
  | none => none).addO 65 (.cons .nfa (.cons .str .nil)) fun p => match p.1 with
  | some (q, f) => if q.length ≤ 100000 ∧ p.2.1.length ≤ 1000000 then some (.rd true (.bool (runS (sameB f) q p.2.1 (startS q) q.length))) else none
  | none => none)
theorem J4_ok : TabOk Try.prog J4 := by
  refine TabOk.addO (TabOk.addO (TabOk.addO (TabOk.addO (TabOk.addO (TabOk.addO H6_ok ?_) ?_) ?_) ?_) ?_) ?_
  · intro p r h
    split at h
    · rename_i hv
      cases h
      exact rNew p.1 p.2.1 hv
    · cases h
  · intro p r h
    split at h
    · rename_i hv
      cases h
      exact pSameI p.1 p.2.1 hv
    · cases h
  · intro p r h
    split at h
    · rename_i q f hq
      split at h
      · rename_i hv
        cases h
        show PCF _ _ [nV p.1] _
        rw [hq]
        exact rStart q f hv
      · cases h
    · cases h
  · intro p r h
    split at h
    · rename_i q f hq
      split at h
      · rename_i hv
        cases h
        show PCF _ _ [nV p.1, _, _] _
        rw [hq]
        exact rStep q f hv.1 _ hv.2 _
      · cases h
    · cases h
  · intro p r h
    split at h
    · rename_i q f hq
      split at h
      · rename_i hv
        cases h
        show PCF _ _ [nV p.1, _] _
        rw [hq]
        exact rAccepts q f (by omega) _ hv.2
      · cases h
    · cases h
  · intro p r h
    split at h
    · rename_i q f hq
      split at h
      · rename_i hv
        cases h
        show PCF _ _ [nV p.1, _] _
        rw [hq]
        exact rRun q f hv.1 _ hv.2
      · cases h
    · cases h
theorem J4_run (q : List UInt8) (f : Bool) (t : List UInt8) (h : q.length ≤ 100000) (hl : t.length ≤ 1000000) : J4 65 [nP q f, .str t] = some (.rd true (.bool (runS (sameB f) q t (startS q) q.length))) := by
  refine (Tab.addO_self _ _ (.cons .nfa (.cons .str .nil)) _ (some (q, f), t, ())).trans ?_
  exact if_pos ⟨h, hl⟩
theorem J4_acc (q : List UInt8) (f : Bool) (l : List Int) (h : q.length ≤ 100000) (hl : l.length ≤ 1000000) : J4 64 [nP q f, encI.S l] = some (.rd true (.bool (ofS l q.length))) := by
  rw [J4, Tab.addO_ne _ _ _ _ rfl]
  refine (Tab.addO_self _ _ (.cons .nfa (.cons (.S encI) .nil)) _ (some (q, f), l, ())).trans ?_
  exact if_pos ⟨h, hl⟩
theorem J4_step (q : List UInt8) (f : Bool) (l : List Int) (c : UInt8) (h : q.length ≤ 100000) (hl : l.length ≤ 1000000) : J4 63 [nP q f, encI.S l, .int .u8 c.toNat] = some (.rd true (encI.S (lst (q.length + 1) (stepS (sameB f) q (ofS l) c)))) := by
  rw [J4, Tab.addO_ne _ _ _ _ rfl, Tab.addO_ne _ _ _ _ rfl]
  refine (Tab.addO_self _ _ (.cons .nfa (.cons (.S encI) (.cons .u8 .nil))) _ (some (q, f), l, c, ())).trans ?_
  exact if_pos ⟨h, hl⟩
theorem J4_start (q : List UInt8) (f : Bool) (h : q.length ≤ 100000) : J4 62 [nP q f] = some (.rd true (encI.S (lst (q.length + 1) (startS q)))) := by
  rw [J4, Tab.addO_ne _ _ _ _ rfl, Tab.addO_ne _ _ _ _ rfl, Tab.addO_ne _ _ _ _ rfl]
  refine (Tab.addO_self _ _ (.cons .nfa .nil) _ (some (q, f), ())).trans ?_
  exact if_pos h
theorem J4_same (l m : List Int) (h : l.length ≤ 4611686018427387904) : J4 57 [encI.S l, encI.S m] = some (.rd true (.bool (decide (l = m)))) := by
  rw [J4, Tab.addO_ne _ _ _ _ rfl, Tab.addO_ne _ _ _ _ rfl, Tab.addO_ne _ _ _ _ rfl, Tab.addO_ne _ _ _ _ rfl]
  refine (Tab.addO_self _ _ (.cons (.S encI) (.cons (.S encI) .nil)) _ (l, m, ())).trans ?_
  exact if_pos h
theorem J4_new (p : List UInt8) (f : Bool) (h : p.length ≤ 300) : J4 61 [.str p, .bool f] = some (.rd true (.tup [nV (newV p f), .int .i64 (checkG p)])) := by
  rw [J4, Tab.addO_ne _ _ _ _ rfl, Tab.addO_ne _ _ _ _ rfl, Tab.addO_ne _ _ _ _ rfl, Tab.addO_ne _ _ _ _ rfl, Tab.addO_ne _ _ _ _ rfl]
  refine (Tab.addO_self _ _ (.cons .str (.cons .bool .nil)) _ (p, f, ())).trans ?_
  exact if_pos h
theorem J4_H6 {g : FuncId} {xs : List AV} (h : (Nat.beq g 61 || Nat.beq g 57 || Nat.beq g 62 || Nat.beq g 63 || Nat.beq g 64 || Nat.beq g 65) = false) : J4 g xs = H6 g xs := by
  simp only [Bool.or_eq_false_iff] at h
  obtain ⟨⟨⟨⟨⟨h1, h2⟩, h3⟩, h4⟩, h5⟩, h6⟩ := h
  rw [J4, Tab.addO_ne _ _ _ _ h6, Tab.addO_ne _ _ _ _ h5, Tab.addO_ne _ _ _ _ h4, Tab.addO_ne _ _ _ _ h3, Tab.addO_ne _ _ _ _ h2, Tab.addO_ne _ _ _ _ h1]

abbrev planCalls : Tr := (.take 0 (.take 2 (.take 3 (.take 4 (.take 5 (.take 6 (.take 1 (.take 7 (.take 8 (.take 9 (.take 10 (.take 11 (.take 12 (.take 13 (.take 14 (.take 15 (.take 16 (.take 17 (.take 18 (.take 19 (.take 20 (.take 21 (.take 22 (.take 23 (.take 24 (.take 25 (.take 26 (.take 27 (.take 28 (.take 29 (.take 30 (.take 31 (.take 32 (.take 33 (.take 34 (.take 35 (.take 36 (.take 37 (.take 38 (.take 39 (.take 40 (.take 41 (.take 42 (.take 43 (.take 44 (.take 45 (.take 46 (.take 47 (.take 48 (.take 49 (.take 50 (.take 51 (.take 52 (.take 53 (.take 54 (.take 55 (.take 56 (.take 57 (.take 58 (.take 59 (.take 60 (.take 61 (.take 62 (.take 63 (.done)))))))))))))))))))))))))))))))))))))))))))))))))))))))))))))))))
theorem lawCalls (p : List UInt8) (f : Bool) (l : List Int) (c : UInt8) (t : List UInt8) (hp0 : p.length ≤ reachBytes) (ht0 : t.length ≤ reachBytes) : PC Try.prog 12 [.str p, .bool f, encI.S l, .int .u8 c.toNat, .str t] (.bool true) := by
  refine pc_e hmG J4_ok comp12 (by decide) (by simp) (nidL_ok (by simp only [nidL, Enc.S_nid, nid_int, nid_str, nid_bool, Bool.and_self])) ?_
  have hlives : J4 50 [] = some (.rd true (.bool true)) := (J4_H6 rfl).trans ((H6_ne rfl).trans H5_lives)
  have hlt : J4 60 [.str p, .str t] = some (.rd true (.bool (lightN p t))) := (J4_H6 rfl).trans ((H6_ne rfl).trans (H5_light p t))
  refine vcE.step (by simp only [exC, exOps, exOp, evE, evsE, putE, wantedE, Nat.reduceEqDiff, ↓reduceIte, ROp.run, same, binA, intA, strA, eqA, indexSA, byteA, unA, bounds3, Option.map_some, Option.map_none, dec_true, dec_false, Int.toNat_natCast, Int.natCast_nonneg, beq_self_eq_true, List.append_nil, beq_iff_eq, reduceCtorEq, List.getD_cons_zero, List.getD_cons_succ, loadA, rowA, pickA, bslA, storeA_eq, decide_true, flatA, List.length_cons, List.length_nil, Nat.reduceAdd, List.flatMap_cons, List.flatMap_nil, BEq.rfl, List.cons_append, List.nil_append, if_pos, if_neg, ordered, List.getElem?_cons_zero, List.getElem?_cons_succ, frzL, nidL, frz_func, frz_agg, frz_tup, frz_iface, fresh_func, fresh_agg, fresh_tup, fresh_iface, frz_ptr, frz_sl, fresh_sl, Cls.isFree, Cls.makes, callCls, chain, cond_true, tz, ty]; rfl) (vcE.step (by simp only [exC, exOps, exOp, evE, evsE, putE, wantedE, Nat.reduceEqDiff, ↓reduceIte, ROp.run, same, binA, intA, strA, eqA, indexSA, byteA, unA, bounds3, Option.map_some, Option.map_none, dec_true, dec_false, Int.toNat_natCast, Int.natCast_nonneg, beq_self_eq_true, List.append_nil, beq_iff_eq, reduceCtorEq, List.getD_cons_zero, List.getD_cons_succ, loadA, rowA, pickA, bslA, storeA_eq, decide_true, flatA, List.length_cons, List.length_nil, Nat.reduceAdd, List.flatMap_cons, List.flatMap_nil, BEq.rfl, List.cons_append, List.nil_append, if_pos, if_neg, ordered, List.getElem?_cons_zero, List.getElem?_cons_succ, frzL, nidL, frz_func, frz_agg, frz_tup, frz_iface, fresh_func, fresh_agg, fresh_tup, fresh_iface, frz_ptr, frz_sl, fresh_sl, Cls.isFree, Cls.makes, callCls, chain, cond_true, tz, ty, hlives]; rfl) ?_)
  by_cases hl : lightN p t = true
  · rw [hl] at hlt
    simp only [lightN, Bool.and_eq_true, decide_eq_true_eq] at hl
    obtain ⟨hl1, hl2⟩ := hl
    by_cases hll : l.length ≤ 400
    · have hn1 : J4 51 [.str p, .bool f] = some (.rd true (.tup [nV (newV p f), .int .i64 (checkG p)])) := (J4_H6 rfl).trans ((H6_ne rfl).trans (H5_new p f hl1))
      have hn2 := J4_new p f hl1
      have hW := newV_ok (f := f) hl1
      refine vcE.step (by simp (disch := omega) only [exC, exOps, exOp, evE, evsE, putE, wantedE, Nat.reduceEqDiff, ↓reduceIte, ROp.run, same, binA, intA, strA, eqA, indexSA, byteA, unA, bounds3, Option.map_some, Option.map_none, dec_true, dec_false, Int.toNat_natCast, Int.natCast_nonneg, beq_self_eq_true, List.append_nil, beq_iff_eq, reduceCtorEq, List.getD_cons_zero, List.getD_cons_succ, loadA, rowA, pickA, bslA, storeA_eq, decide_true, flatA, List.length_cons, List.length_nil, Nat.reduceAdd, List.flatMap_cons, List.flatMap_nil, BEq.rfl, List.cons_append, List.nil_append, if_pos, if_neg, ordered, List.getElem?_cons_zero, List.getElem?_cons_succ, frzL, nidL, frz_func, frz_agg, frz_tup, frz_iface, fresh_func, fresh_agg, fresh_tup, fresh_iface, frz_ptr, frz_sl, fresh_sl, Cls.isFree, Cls.makes, callCls, chain, cond_true, tz, ty, hlt, Enc.S_len]; rfl) (vcE.step (by simp (disch := omega) only [exC, exOps, exOp, evE, evsE, putE, wantedE, Nat.reduceEqDiff, ↓reduceIte, ROp.run, same, binA, intA, strA, eqA, indexSA, byteA, unA, bounds3, Option.map_some, Option.map_none, dec_true, dec_false, Int.toNat_natCast, Int.natCast_nonneg, beq_self_eq_true, List.append_nil, beq_iff_eq, reduceCtorEq, List.getD_cons_zero, List.getD_cons_succ, loadA, rowA, pickA, bslA, storeA_eq, decide_true, flatA, List.length_cons, List.length_nil, Nat.reduceAdd, List.flatMap_cons, List.flatMap_nil, BEq.rfl, List.cons_append, List.nil_append, if_pos, if_neg, ordered, List.getElem?_cons_zero, List.getElem?_cons_succ, frzL, nidL, frz_func, frz_agg, frz_tup, frz_iface, fresh_func, fresh_agg, fresh_tup, fresh_iface, frz_ptr, frz_sl, fresh_sl, Cls.isFree, Cls.makes, callCls, chain, cond_true, tz, ty, hn1]; rfl) (vcE.step (by simp (disch := omega) only [exC, exOps, exOp, evE, evsE, putE, wantedE, Nat.reduceEqDiff, ↓reduceIte, ROp.run, same, binA, intA, strA, eqA, indexSA, byteA, unA, bounds3, Option.map_some, Option.map_none, dec_true, dec_false, Int.toNat_natCast, Int.natCast_nonneg, beq_self_eq_true, List.append_nil, beq_iff_eq, reduceCtorEq, List.getD_cons_zero, List.getD_cons_succ, loadA, rowA, pickA, bslA, storeA_eq, decide_true, flatA, List.length_cons, List.length_nil, Nat.reduceAdd, List.flatMap_cons, List.flatMap_nil, BEq.rfl, List.cons_append, List.nil_append, if_pos, if_neg, ordered, List.getElem?_cons_zero, List.getElem?_cons_succ, frzL, nidL, frz_func, frz_agg, frz_tup, frz_iface, fresh_func, fresh_agg, fresh_tup, fresh_iface, frz_ptr, frz_sl, fresh_sl, Cls.isFree, Cls.makes, callCls, chain, cond_true, tz, ty, hn2]; rfl) ?_))
      by_cases hc : checkG p = 0
      · have hx : newV p f = some (normB p, f) := by unfold newV; rw [if_pos hc]
        have hb := normB_len p
        have hq : normB p ≠ [] := by rw [hx] at hW; exact hW.1.1
        rw [hx] at hW ⊢
        have hNN : nN (some (normB p, f)) = (normB p).length + 1 := nN_some hq
        generalize normB p = q at *
        have k1 : J4 56 [nV (some (q, f))] = some (.rd true (.tup [.str q, .bool f])) := (J4_H6 rfl).trans ((H6_ne rfl).trans (H5_pattern (some (q, f))))
        have k2 : J4 54 [nV (some (q, f))] = some (.rd true (.int .i64 ((q.length : Int) + 1))) := by
          have := (J4_H6 rfl).trans ((H6_ne rfl).trans (H5_states (some (q, f)) hW.1.small))
          rw [hNN] at this
          exact this
        have k3 : J4 58 [nV (some (q, f))] = some (.rd true (encI.S (lst (q.length + 1) (startS q)))) := by
          have := (J4_H6 rfl).trans ((H6_ne rfl).trans (H5_start (some (q, f)) hW))
          rw [hNN] at this
          exact this
        have k4 : J4 52 [nV (some (q, f)), encI.S l, .int .u8 c.toNat] = some (.rd true (encI.S (lst (q.length + 1) (stepS (sameB f) q (ofS l) c)))) := by
          have := (J4_H6 rfl).trans ((H6_ne rfl).trans (H5_step (some (q, f)) l c (by omega) hW))
          rw [hNN] at this
          exact this
        have k5 : J4 55 [nV (some (q, f)), encI.S l] = some (.rd true (.bool (ofS l q.length))) := (J4_H6 rfl).trans ((H6_ne rfl).trans (H5_acc (some (q, f)) l (by omega) hW))
        have k6 : J4 59 [nV (some (q, f)), .str t] = some (.rd true (.bool (runS (sameB f) q t (startS q) q.length))) := by
          have := (J4_H6 rfl).trans ((H6_ne rfl).trans (H5_run (some (q, f)) t (by omega) hW))
          simp only [accV, runV_some, startV] at this
          exact this
        have j1 := J4_start q f (by omega)
        have j2 := J4_step q f l c (by omega) (by omega)
        have j3 := J4_acc q f l (by omega) (by omega)
        have j4 := J4_run q f t (by omega) (by omega)
        have ls1 := lst_len (q.length + 1) (startS q)
        have ls2 := lst_len (q.length + 1) (stepS (sameB f) q (ofS l) c)
        have s1 := J4_same (lst (q.length + 1) (startS q)) (lst (q.length + 1) (startS q)) (by omega)
        have s2 := J4_same (lst (q.length + 1) (stepS (sameB f) q (ofS l) c)) (lst (q.length + 1) (stepS (sameB f) q (ofS l) c)) (by omega)
        rw [decide_eq_true rfl] at s1 s2
        have ho : J4 53 [encI.S l] = some (.mk fun n => (ownV 1 l.length n, ownH 3 l.length (encI.cs l))) := (J4_H6 rfl).trans (H6_own l (by omega))
        have hfz : ∀ hp, frz hp (nP q f) = some (nP q f) := fun _ => rfl
        have hof : ∀ hp, frz (hp ++ ownH 3 l.length (encI.cs l)) (ownV 1 l.length hp.length) = some (encI.S l) := fun hp => (ownV_at encI hp 3 l).frz
        have hof0 : frz (ownH 3 l.length (encI.cs l)) (ownV 1 l.length 0) = some (encI.S l) := hof []
        simp only [nV] at k1 k2 k3 k4 k5 k6 ⊢
        have hnil : nilchkA (nP q f) = some (nP q f) := rfl
        have hfa0 : faddrA 0 (nP q f) = some (.fptr [.str q, .bool f] 0) := rfl
        have hfa1 : faddrA 1 (nP q f) = some (.fptr [.str q, .bool f] 1) := rfl
        have key : ∀ (hint : Nat → Nat) (tm : Env), tm 2 = encI.S l → tm 3 = .int .u8 c.toNat → tm 4 = .str t → tm 11 = nP q f → tm 13 = nP q f → tm 15 = .str q → tm 16 = .bool f → vcE Try.prog hint J4 120 (IC.seq (IC.regD .alloc r12_12 planCalls) IC.ret) tm [] (RetE [.t 10] fun r' hp' => frz hp' r' = some (.bool true)) := by
          intro hint tm t2 t3 t4 t11 t13 t15 t16
          generalize hl1' : lst (q.length + 1) (startS q) = L1 at *
          generalize hl2' : lst (q.length + 1) (stepS (sameB f) q (ofS l) c) = L2 at *
          obtain ⟨tm1, h1, u85, u2, u3, u4, u11, u13, u15, u16⟩ : ∃ tm1 : Env, exOps .alloc J4 ((ordered r12_12 planCalls).take 29) tm [] = some (tm1, ownH 3 l.length (encI.cs l)) ∧ tm1 85 = .bool true ∧ tm1 2 = encI.S l ∧ tm1 3 = .int .u8 c.toNat ∧ tm1 4 = .str t ∧ tm1 11 = nP q f ∧ tm1 13 = nP q f ∧ tm1 15 = .str q ∧ tm1 16 = .bool f := by
            refine ⟨_, by simp (disch := omega) only [exC, exOps, exOp, evE, evsE, putE, wantedE, Nat.reduceEqDiff, ↓reduceIte, ROp.run, same, binA, intA, strA, eqA, indexSA, byteA, unA, bounds3, Option.map_some, Option.map_none, dec_true, dec_false, Int.toNat_natCast, Int.natCast_nonneg, beq_self_eq_true, List.append_nil, beq_iff_eq, reduceCtorEq, List.getD_cons_zero, List.getD_cons_succ, loadA, rowA, pickA, bslA, storeA_eq, decide_true, flatA, List.length_cons, List.length_nil, Nat.reduceAdd, List.flatMap_cons, List.flatMap_nil, BEq.rfl, List.cons_append, List.nil_append, if_pos, if_neg, ordered, List.getElem?_cons_zero, List.getElem?_cons_succ, frzL, nidL, frz_func, frz_agg, frz_tup, frz_iface, fresh_func, fresh_agg, fresh_tup, fresh_iface, frz_ptr, frz_sl, fresh_sl, Cls.isFree, Cls.makes, callCls, chain, cond_true, tz, ty, List.take_succ_cons, List.take_zero, planCalls, t2, t3, t11, t13, hfz, nP_nid, k2, k3, k4, j1, j2, s1, s2, ho, ↓hof, ↓hof0, Enc.S_nid, hnil, hfa0, hfa1]; rfl, ?_, ?_, ?_, ?_, ?_, ?_, ?_, ?_⟩
            all_goals simp only [upd_app, Nat.reduceEqDiff, ↓reduceIte, t2, t3, t4, t11, t13, t15, t16]
          obtain ⟨tm2, hp2, h2, w104, w13, w15, w16⟩ : ∃ (tm2 : Env) (hp2 : HP), exOps .alloc J4 (((ordered r12_12 planCalls).drop 29).take 19) tm1 (ownH 3 l.length (encI.cs l)) = some (tm2, hp2) ∧ tm2 104 = .bool true ∧ tm2 13 = nP q f ∧ tm2 15 = .str q ∧ tm2 16 = .bool f := by
            refine ⟨_, _, by simp (disch := omega) only [exC, exOps, exOp, evE, evsE, putE, wantedE, Nat.reduceEqDiff, ↓reduceIte, ROp.run, same, binA, intA, strA, eqA, indexSA, byteA, unA, bounds3, Option.map_some, Option.map_none, dec_true, dec_false, Int.toNat_natCast, Int.natCast_nonneg, beq_self_eq_true, List.append_nil, beq_iff_eq, reduceCtorEq, List.getD_cons_zero, List.getD_cons_succ, loadA, rowA, pickA, bslA, storeA_eq, decide_true, flatA, List.length_cons, List.length_nil, Nat.reduceAdd, List.flatMap_cons, List.flatMap_nil, BEq.rfl, List.cons_append, List.nil_append, if_pos, if_neg, ordered, List.getElem?_cons_zero, List.getElem?_cons_succ, frzL, nidL, frz_func, frz_agg, frz_tup, frz_iface, fresh_func, fresh_agg, fresh_tup, fresh_iface, frz_ptr, frz_sl, fresh_sl, Cls.isFree, Cls.makes, callCls, chain, cond_true, tz, ty, List.take_succ_cons, List.take_zero, List.drop_succ_cons, List.drop_zero, planCalls, u2, u4, u11, u13, u85, hfz, nP_nid, k5, k6, j3, j4, ho, ↓hof, ↓hof0, Enc.S_nid, hnil, hfa0, hfa1]; rfl, ?_, ?_, ?_, ?_⟩
            all_goals simp only [upd_app, Nat.reduceEqDiff, ↓reduceIte, u13, u15, u16]
          have h12 := exOps_two h1 (exOps_two h2 (b := (ordered r12_12 planCalls).drop 48) rfl)
          refine vcE.seq (vcE.regS rfl (a := (ordered r12_12 planCalls).take 29 ++ ((ordered r12_12 planCalls).drop 29).take 19) (b := (ordered r12_12 planCalls).drop 48) rfl (exOps_two h1 h2) (by simp (disch := omega) only [exC, exOps, exOp, evE, evsE, putE, wantedE, Nat.reduceEqDiff, ↓reduceIte, ROp.run, same, binA, intA, strA, eqA, indexSA, byteA, unA, bounds3, Option.map_some, Option.map_none, dec_true, dec_false, Int.toNat_natCast, Int.natCast_nonneg, beq_self_eq_true, List.append_nil, beq_iff_eq, reduceCtorEq, List.getD_cons_zero, List.getD_cons_succ, loadA, rowA, pickA, bslA, storeA_eq, decide_true, flatA, List.length_cons, List.length_nil, Nat.reduceAdd, List.flatMap_cons, List.flatMap_nil, BEq.rfl, List.cons_append, List.nil_append, if_pos, if_neg, ordered, List.getElem?_cons_zero, List.getElem?_cons_succ, frzL, nidL, frz_func, frz_agg, frz_tup, frz_iface, fresh_func, fresh_agg, fresh_tup, fresh_iface, frz_ptr, frz_sl, fresh_sl, Cls.isFree, Cls.makes, callCls, chain, cond_true, tz, ty, List.drop_succ_cons, List.drop_zero, planCalls, w13, w15, w16, w104, hnil, hfa0, hfa1]; rfl) ?_)
          refine vcE.ex (by simp only [exC, exOps, exOp, evE, evsE, putE, wantedE, Nat.reduceEqDiff, ↓reduceIte, ROp.run, same, binA, intA, strA, eqA, indexSA, byteA, unA, bounds3, Option.map_some, Option.map_none, dec_true, dec_false, Int.toNat_natCast, Int.natCast_nonneg, beq_self_eq_true, List.append_nil, beq_iff_eq, reduceCtorEq, List.getD_cons_zero, List.getD_cons_succ, loadA, rowA, pickA, bslA, storeA_eq, decide_true, flatA, List.length_cons, List.length_nil, Nat.reduceAdd, List.flatMap_cons, List.flatMap_nil, BEq.rfl, List.cons_append, List.nil_append, if_pos, if_neg, ordered, List.getElem?_cons_zero, List.getElem?_cons_succ, frzL, nidL, frz_func, frz_agg, frz_tup, frz_iface, fresh_func, fresh_agg, fresh_tup, fresh_iface, frz_ptr, frz_sl, fresh_sl, Cls.isFree, Cls.makes, callCls, chain, cond_true, tz, ty]; rfl) ?_
          exact ⟨_, rfl, rfl⟩
        refine vcE.step (by simp (disch := first | assumption | omega) only [exC, exOps, exOp, evE, evsE, putE, wantedE, Nat.reduceEqDiff, ↓reduceIte, ROp.run, same, binA, intA, strA, eqA, indexSA, byteA, unA, bounds3, Option.map_some, Option.map_none, dec_true, dec_false, Int.toNat_natCast, Int.natCast_nonneg, beq_self_eq_true, List.append_nil, beq_iff_eq, reduceCtorEq, List.getD_cons_zero, List.getD_cons_succ, loadA, rowA, pickA, bslA, storeA_eq, decide_true, flatA, List.length_cons, List.length_nil, Nat.reduceAdd, List.flatMap_cons, List.flatMap_nil, BEq.rfl, List.cons_append, List.nil_append, if_pos, if_neg, ordered, List.getElem?_cons_zero, List.getElem?_cons_succ, frzL, nidL, frz_func, frz_agg, frz_tup, frz_iface, fresh_func, fresh_agg, fresh_tup, fresh_iface, frz_ptr, frz_sl, fresh_sl, Cls.isFree, Cls.makes, callCls, chain, cond_true, tz, ty, faddrA, allocA, over, List.take_succ_cons, List.take_zero, List.drop_succ_cons, List.drop_zero, List.drop_nil, List.set_cons_zero, List.set_cons_succ, Nat.reduceLeDiff, and_self, nP, isNilA]; rfl) (vcE.step (by simp (disch := first | assumption | omega) only [exC, exOps, exOp, evE, evsE, putE, wantedE, Nat.reduceEqDiff, ↓reduceIte, ROp.run, same, binA, intA, strA, eqA, indexSA, byteA, unA, bounds3, Option.map_some, Option.map_none, dec_true, dec_false, Int.toNat_natCast, Int.natCast_nonneg, beq_self_eq_true, List.append_nil, beq_iff_eq, reduceCtorEq, List.getD_cons_zero, List.getD_cons_succ, loadA, rowA, pickA, bslA, storeA_eq, decide_true, flatA, List.length_cons, List.length_nil, Nat.reduceAdd, List.flatMap_cons, List.flatMap_nil, BEq.rfl, List.cons_append, List.nil_append, if_pos, if_neg, ordered, List.getElem?_cons_zero, List.getElem?_cons_succ, frzL, nidL, frz_func, frz_agg, frz_tup, frz_iface, fresh_func, fresh_agg, fresh_tup, fresh_iface, frz_ptr, frz_sl, fresh_sl, Cls.isFree, Cls.makes, callCls, chain, cond_true, tz, ty]; rfl) (vcE.step (by simp (disch := omega) only [exC, exOps, exOp, evE, evsE, putE, wantedE, Nat.reduceEqDiff, ↓reduceIte, ROp.run, same, binA, intA, strA, eqA, indexSA, byteA, unA, bounds3, Option.map_some, Option.map_none, dec_true, dec_false, Int.toNat_natCast, Int.natCast_nonneg, beq_self_eq_true, List.append_nil, beq_iff_eq, reduceCtorEq, List.getD_cons_zero, List.getD_cons_succ, loadA, rowA, pickA, bslA, storeA_eq, decide_true, flatA, List.length_cons, List.length_nil, Nat.reduceAdd, List.flatMap_cons, List.flatMap_nil, BEq.rfl, List.cons_append, List.nil_append, if_pos, if_neg, ordered, List.getElem?_cons_zero, List.getElem?_cons_succ, frzL, nidL, frz_func, frz_agg, frz_tup, frz_iface, fresh_func, fresh_agg, fresh_tup, fresh_iface, frz_ptr, frz_sl, fresh_sl, Cls.isFree, Cls.makes, callCls, chain, cond_true, tz, ty, hfz, nP_nid, k1]; rfl) (key _ _ ?_ ?_ ?_ ?_ ?_ ?_ ?_)))
        all_goals simp only [upd_app, Nat.reduceEqDiff, ↓reduceIte, start_app, List.getD_cons_zero, List.getD_cons_succ]
        all_goals rfl
      · have hx : newV p f = none := by unfold newV; rw [if_neg hc]
        rw [hx]
        refine vcE.ex (by simp (disch := first | assumption | omega) only [exC, exOps, exOp, evE, evsE, putE, wantedE, Nat.reduceEqDiff, ↓reduceIte, ROp.run, same, binA, intA, strA, eqA, indexSA, byteA, unA, bounds3, Option.map_some, Option.map_none, dec_true, dec_false, Int.toNat_natCast, Int.natCast_nonneg, beq_self_eq_true, List.append_nil, beq_iff_eq, reduceCtorEq, List.getD_cons_zero, List.getD_cons_succ, loadA, rowA, pickA, bslA, storeA_eq, decide_true, flatA, List.length_cons, List.length_nil, Nat.reduceAdd, List.flatMap_cons, List.flatMap_nil, BEq.rfl, List.cons_append, List.nil_append, if_pos, if_neg, ordered, List.getElem?_cons_zero, List.getElem?_cons_succ, frzL, nidL, frz_func, frz_agg, frz_tup, frz_iface, fresh_func, fresh_agg, fresh_tup, fresh_iface, frz_ptr, frz_sl, fresh_sl, Cls.isFree, Cls.makes, callCls, chain, cond_true, tz, ty, faddrA, allocA, over, List.take_succ_cons, List.take_zero, List.drop_succ_cons, List.drop_zero, List.drop_nil, List.set_cons_zero, List.set_cons_succ, Nat.reduceLeDiff, and_self, nV, isNilA]; rfl) ?_
        exact ⟨_, rfl, rfl⟩
    · refine vcE.ex (by simp (disch := omega) only [exC, exOps, exOp, evE, evsE, putE, wantedE, Nat.reduceEqDiff, ↓reduceIte, ROp.run, same, binA, intA, strA, eqA, indexSA, byteA, unA, bounds3, Option.map_some, Option.map_none, dec_true, dec_false, Int.toNat_natCast, Int.natCast_nonneg, beq_self_eq_true, List.append_nil, beq_iff_eq, reduceCtorEq, List.getD_cons_zero, List.getD_cons_succ, loadA, rowA, pickA, bslA, storeA_eq, decide_true, flatA, List.length_cons, List.length_nil, Nat.reduceAdd, List.flatMap_cons, List.flatMap_nil, BEq.rfl, List.cons_append, List.nil_append, if_pos, if_neg, ordered, List.getElem?_cons_zero, List.getElem?_cons_succ, frzL, nidL, frz_func, frz_agg, frz_tup, frz_iface, fresh_func, fresh_agg, fresh_tup, fresh_iface, frz_ptr, frz_sl, fresh_sl, Cls.isFree, Cls.makes, callCls, chain, cond_true, tz, ty, hlt, Enc.S_len]; rfl) ?_
      exact ⟨_, rfl, rfl⟩
  · rw [Bool.eq_false_iff.2 hl] at hlt
    refine vcE.ex (by simp only [exC, exOps, exOp, evE, evsE, putE, wantedE, Nat.reduceEqDiff, ↓reduceIte, ROp.run, same, binA, intA, strA, eqA, indexSA, byteA, unA, bounds3, Option.map_some, Option.map_none, dec_true, dec_false, Int.toNat_natCast, Int.natCast_nonneg, beq_self_eq_true, List.append_nil, beq_iff_eq, reduceCtorEq, List.getD_cons_zero, List.getD_cons_succ, loadA, rowA, pickA, bslA, storeA_eq, decide_true, flatA, List.length_cons, List.length_nil, Nat.reduceAdd, List.flatMap_cons, List.flatMap_nil, BEq.rfl, List.cons_append, List.nil_append, if_pos, if_neg, ordered, List.getElem?_cons_zero, List.getElem?_cons_succ, frzL, nidL, frz_func, frz_agg, frz_tup, frz_iface, fresh_func, fresh_agg, fresh_tup, fresh_iface, frz_ptr, frz_sl, fresh_sl, Cls.isFree, Cls.makes, callCls, chain, cond_true, tz, ty, hlt]; rfl) ?_
    exact ⟨_, rfl, rfl⟩

end Go.Gi
