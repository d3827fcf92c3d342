/- Tables in memory: dfa.through, Run, lightDfa: what they give. -/
import Derived.Test.YtakdhioafodhcaaGiDfB
set_option linter.unusedVariables false
set_option linter.unusedSimpArgs false
namespace Go.Gi
open Go Go.Proofs

theorem getD_some {α : Type} {l : List α} {i : Nat} {z : α} (h : i < l.length) : l[i]? = some (l.getD i z) := by
  rw [List.getD_eq_getElem?_getD, List.getElem?_eq_getElem h]
  rfl
/-- What a step loads. -/
theorem Dfa.Ok.step {d : Dfa} (h : d.Ok) {s : Nat} (hs : s < d.nxt.length) (c : UInt8) : ∃ r j, d.nxt[s]? = some r ∧ d.cls[c.toNat]? = some ((j : Nat) : Int) ∧ j < r.length ∧ r[j]? = some ((d.go s c : Nat) : Int) := by
  have h1 := h.cls_lt c
  have h2 := h.go_at hs c
  have h3 := h.row (d.nxt.getD s []) (getD_mem hs)
  have hj : (d.cls.getD c.toNat 0).toNat < (d.nxt.getD s []).length := by omega
  refine ⟨d.nxt.getD s [], (d.cls.getD c.toNat 0).toNat, getD_some hs, ?_, hj, ?_⟩
  · rw [Int.toNat_of_nonneg h1.1]
    exact getD_some (by rw [h.c]; exact c.toNat_lt)
  · rw [Dfa.go, Int.toNat_of_nonneg h2.1]
    exact getD_some hj
theorem Dfa.fin_take (d : Dfa) {t : List UInt8} {i : Nat} {c : UInt8} (h : t[i]? = some c) : d.fin (t.take (i + 1)) = d.go (d.fin (t.take i)) c := by
  rw [Dfa.fin, List.take_add_one, h, List.foldl_append]
  rfl

theorem pThrough (d : Dfa) (h : d.Ok) (t : List UInt8) (ht : t.length ≤ roomy) : PCF Try.prog 89 [.agg d.c, .str t] (.bool (d.takes t)) := by
  refine pcf_e hmM (TabOk.none _) comp89 (by decide) (by simp) (nidL_ok (by simp only [nidL, nid, d.c_nid, Bool.and_self])) ?_
  have q0 : pickA none d.c 0 = some (encI.S d.cls) := rfl
  have q1 : pickA none d.c (0 + 1) = some (encR.S d.nxt) := rfl
  have q2 : pickA none d.c (0 + 2) = some (encT.S d.acc) := rfl
  have qc : cellsA (.agg d.c) = d.c := rfl
  simp only [roomy] at ht
  refine vcE.step (by simp (disch := first | assumption | omega) only [exC, exOps, exOp, evE, evsE, putE, wantedE, Nat.reduceEqDiff, ↓reduceIte, ROp.run, same, binA, intA, strA, eqA, indexSA, byteA, unA, bounds3, Option.map_some, Option.map_none, dec_true, dec_false, Int.toNat_natCast, Int.natCast_nonneg, beq_self_eq_true, List.append_nil, beq_iff_eq, reduceCtorEq, List.getD_cons_zero, List.getD_cons_succ, loadA, rowA, pickA, bslA, litV, storeA_eq, decide_true, flatA, List.length_cons, List.length_nil, Nat.reduceAdd, List.flatMap_cons, List.flatMap_nil, BEq.rfl, List.cons_append, List.nil_append, if_pos, if_neg, ordered, List.getElem?_cons_zero, List.getElem?_cons_succ, frzL, nidL, frz_func, frz_agg, frz_tup, frz_iface, fresh_func, fresh_agg, fresh_tup, fresh_iface, frz_ptr, frz_sl, fresh_sl, Cls.isFree, Cls.makes, callCls, chain, cond_true, tz, ty, faddrA, allocA, over, List.take_succ_cons, List.take_zero, List.drop_succ_cons, List.drop_zero, List.drop_nil, List.set_cons_zero, List.set_cons_succ, Nat.reduceLeDiff, and_self, boxA_eq, qc]; rfl) (vcE.step (by simp (disch := first | assumption | omega) only [exC, exOps, exOp, evE, evsE, putE, wantedE, Nat.reduceEqDiff, ↓reduceIte, ROp.run, same, binA, intA, strA, eqA, indexSA, byteA, unA, bounds3, Option.map_some, Option.map_none, dec_true, dec_false, Int.toNat_natCast, Int.natCast_nonneg, beq_self_eq_true, List.append_nil, beq_iff_eq, reduceCtorEq, List.getD_cons_zero, List.getD_cons_succ, loadA, rowA, pickA, bslA, litV, storeA_eq, decide_true, flatA, List.length_cons, List.length_nil, Nat.reduceAdd, List.flatMap_cons, List.flatMap_nil, BEq.rfl, List.cons_append, List.nil_append, if_pos, if_neg, ordered, List.getElem?_cons_zero, List.getElem?_cons_succ, frzL, nidL, frz_func, frz_agg, frz_tup, frz_iface, fresh_func, fresh_agg, fresh_tup, fresh_iface, frz_ptr, frz_sl, fresh_sl, Cls.isFree, Cls.makes, callCls, chain, cond_true, tz, ty, faddrA, allocA, over, List.take_succ_cons, List.take_zero, List.drop_succ_cons, List.drop_zero, List.drop_nil, List.set_cons_zero, List.set_cons_succ, Nat.reduceLeDiff, and_self]; rfl) (vcE.then (fun e tm hp => e = .normal ∧ hp = [some (.row 69 d.c)] ∧ tm 2 = .ptr 0 0 ∧ tm 5 = .int .i64 (d.fin t)) ?_ ?_))
  · refine vcE.step (by simp (disch := first | assumption | omega) only [exC, exOps, exOp, evE, evsE, putE, wantedE, Nat.reduceEqDiff, ↓reduceIte, ROp.run, same, binA, intA, strA, eqA, indexSA, byteA, unA, bounds3, Option.map_some, Option.map_none, dec_true, dec_false, Int.toNat_natCast, Int.natCast_nonneg, beq_self_eq_true, List.append_nil, beq_iff_eq, reduceCtorEq, List.getD_cons_zero, List.getD_cons_succ, loadA, rowA, pickA, bslA, litV, storeA_eq, decide_true, flatA, List.length_cons, List.length_nil, Nat.reduceAdd, List.flatMap_cons, List.flatMap_nil, BEq.rfl, List.cons_append, List.nil_append, if_pos, if_neg, ordered, List.getElem?_cons_zero, List.getElem?_cons_succ, frzL, nidL, frz_func, frz_agg, frz_tup, frz_iface, fresh_func, fresh_agg, fresh_tup, fresh_iface, frz_ptr, frz_sl, fresh_sl, Cls.isFree, Cls.makes, callCls, chain, cond_true, tz, ty, faddrA, allocA, over, List.take_succ_cons, List.take_zero, List.drop_succ_cons, List.drop_zero, List.drop_nil, List.set_cons_zero, List.set_cons_succ, Nat.reduceLeDiff, and_self]; rfl) (vcE.block (vcE.count (by intro l tm hp h; simp at h)
      (fun i tm hp => hp = [some (.row 69 d.c)] ∧ tm 1 = .str t ∧ tm 2 = .ptr 0 0 ∧ tm 5 = .int .i64 (d.fin (t.take i)) ∧ tm 8 = .int .i64 t.length ∧ tm 9 = .int .i64 i) t.length ⟨rfl, rfl, rfl, rfl, rfl, rfl⟩ ?_ ?_))
    · rintro i tm hp hi ⟨rfl, t1, t2, t5, t8, t9⟩
      obtain ⟨c, hc⟩ : ∃ c, t[i]? = some c := ⟨_, List.getElem?_eq_getElem hi⟩
      have hs := h.fin_lt (t.take i)
      rw [d.fin_take hc]
      generalize d.fin (t.take i) = s at *
      obtain ⟨r, j, g1, g2, g3, g4⟩ := h.step hs c
      have i1 : iaddrA 1 (encR.S d.nxt) (.int .i64 s) = some (.fptr (encR.cs d.nxt) (s * 1)) := encR.S_iaddr hs
      have i2 : iaddrA 1 (encI.S d.cls) (.int .u8 c.toNat) = some (.fptr (encI.cs d.cls) (c.toNat * 1)) := encI.S_iaddr (by rw [h.c]; exact c.toNat_lt)
      have i3 : iaddrA 1 (encI.S r) (.int .i64 j) = some (.fptr (encI.cs r) (j * 1)) := encI.S_iaddr g3
      rw [Nat.mul_one] at i1 i2 i3
      have p1 := encR_at g1
      have p2 := encI_at g2
      have p3 := encI_at g4
      have hwr : IntKind.wrap .i64 ((i : Int) + 1) = (i : Int) + 1 := wrap_i64 (by omega) (by omega)
      refine vcE.ex (by simp (disch := first | assumption | omega) only [exC, exOps, exOp, evE, evsE, putE, wantedE, Nat.reduceEqDiff, ↓reduceIte, ROp.run, same, binA, intA, strA, eqA, indexSA, byteA, unA, bounds3, Option.map_some, Option.map_none, dec_true, dec_false, Int.toNat_natCast, Int.natCast_nonneg, beq_self_eq_true, List.append_nil, beq_iff_eq, reduceCtorEq, List.getD_cons_zero, List.getD_cons_succ, loadA, rowA, pickA, bslA, litV, storeA_eq, decide_true, flatA, List.length_cons, List.length_nil, Nat.reduceAdd, List.flatMap_cons, List.flatMap_nil, BEq.rfl, List.cons_append, List.nil_append, if_pos, if_neg, ordered, List.getElem?_cons_zero, List.getElem?_cons_succ, frzL, nidL, frz_func, frz_agg, frz_tup, frz_iface, fresh_func, fresh_agg, fresh_tup, fresh_iface, frz_ptr, frz_sl, fresh_sl, Cls.isFree, Cls.makes, callCls, chain, cond_true, tz, ty, faddrA, allocA, over, List.take_succ_cons, List.take_zero, List.drop_succ_cons, List.drop_zero, List.drop_nil, List.set_cons_zero, List.set_cons_succ, Nat.reduceLeDiff, and_self, t1, t2, t5, t8, t9, hc, ↓q0, ↓q1, i1, i2, i3, ↓p1, ↓p2, ↓p3, hwr]; rfl) ?_
      refine ⟨rfl, ?_, ?_, ?_, ?_, ?_⟩
      all_goals simp only [upd_app, Nat.reduceEqDiff, ↓reduceIte, t1, t2, t8]
      all_goals rfl
    · rintro tm hp ⟨rfl, t1, t2, t5, t8, t9⟩
      rw [List.take_length] at t5
      refine vcE.ex (by simp (disch := first | assumption | omega) only [exC, exOps, exOp, evE, evsE, putE, wantedE, Nat.reduceEqDiff, ↓reduceIte, ROp.run, same, binA, intA, strA, eqA, indexSA, byteA, unA, bounds3, Option.map_some, Option.map_none, dec_true, dec_false, Int.toNat_natCast, Int.natCast_nonneg, beq_self_eq_true, List.append_nil, beq_iff_eq, reduceCtorEq, List.getD_cons_zero, List.getD_cons_succ, loadA, rowA, pickA, bslA, litV, storeA_eq, decide_true, flatA, List.length_cons, List.length_nil, Nat.reduceAdd, List.flatMap_cons, List.flatMap_nil, BEq.rfl, List.cons_append, List.nil_append, if_pos, if_neg, ordered, List.getElem?_cons_zero, List.getElem?_cons_succ, frzL, nidL, frz_func, frz_agg, frz_tup, frz_iface, fresh_func, fresh_agg, fresh_tup, fresh_iface, frz_ptr, frz_sl, fresh_sl, Cls.isFree, Cls.makes, callCls, chain, cond_true, tz, ty, faddrA, allocA, over, List.take_succ_cons, List.take_zero, List.drop_succ_cons, List.drop_zero, List.drop_nil, List.set_cons_zero, List.set_cons_succ, Nat.reduceLeDiff, and_self, t8, t9]; rfl) ?_
      refine ⟨rfl, rfl, ?_, ?_⟩
      all_goals simp only [upd_app, Nat.reduceEqDiff, ↓reduceIte, t2, t5]
  · rintro e tm hp ⟨rfl, rfl, t2, t5⟩
    have hs := h.fin_lt t
    have ha : d.fin t < d.acc.length := by rw [h.a]; exact hs
    have i1 : iaddrA 1 (encT.S d.acc) (.int .i64 (d.fin t)) = some (.fptr (encT.cs d.acc) (d.fin t * 1)) := encT.S_iaddr ha
    rw [Nat.mul_one] at i1
    have p1 := encT_at (getD_some (z := false) ha)
    refine vcE.ex (by simp (disch := first | assumption | omega) only [exC, exOps, exOp, evE, evsE, putE, wantedE, Nat.reduceEqDiff, ↓reduceIte, ROp.run, same, binA, intA, strA, eqA, indexSA, byteA, unA, bounds3, Option.map_some, Option.map_none, dec_true, dec_false, Int.toNat_natCast, Int.natCast_nonneg, beq_self_eq_true, List.append_nil, beq_iff_eq, reduceCtorEq, List.getD_cons_zero, List.getD_cons_succ, loadA, rowA, pickA, bslA, litV, storeA_eq, decide_true, flatA, List.length_cons, List.length_nil, Nat.reduceAdd, List.flatMap_cons, List.flatMap_nil, BEq.rfl, List.cons_append, List.nil_append, if_pos, if_neg, ordered, List.getElem?_cons_zero, List.getElem?_cons_succ, frzL, nidL, frz_func, frz_agg, frz_tup, frz_iface, fresh_func, fresh_agg, fresh_tup, fresh_iface, frz_ptr, frz_sl, fresh_sl, Cls.isFree, Cls.makes, callCls, chain, cond_true, tz, ty, faddrA, allocA, over, List.take_succ_cons, List.take_zero, List.drop_succ_cons, List.drop_zero, List.drop_nil, List.set_cons_zero, List.set_cons_succ, Nat.reduceLeDiff, and_self, t2, t5, ↓q2, i1, ↓p1]; rfl) ?_
    exact ⟨_, rfl, rfl⟩

def D3 : Tab := (Tab.none.addO 42 (.cons .dfa .nil) fun p => if p.1.fits then some (.rd true (.int .i64 (if p.1.ok then 0 else 2))) else none).addO 89 (.cons .dfa (.cons .str .nil)) fun p => if p.1.ok = true ∧ p.2.1.length ≤ roomy then some (.rd true (.bool (p.1.takes p.2.1))) else none
theorem D3_ok : TabOk Try.prog D3 := by
  refine TabOk.addO (TabOk.addO (TabOk.none _) ?_) ?_
  · intro p r h
    split at h
    · rename_i hv; cases h; exact pDCheck p.1 hv
    · cases h
  · intro p r h
    split at h
    · rename_i hv; cases h; exact pThrough p.1 (p.1.ok_iff.1 hv.1) p.2.1 hv.2
    · cases h
theorem D3_check {d : Dfa} (h : d.fits = true) : D3 42 [.agg d.c] = some (.rd true (.int .i64 (if d.ok then 0 else 2))) :=
  (Tab.addO_ne _ _ _ _ rfl _).trans ((Tab.addO_self _ _ (.cons .dfa .nil) _ (d, ())).trans (if_pos h))
theorem D3_through {d : Dfa} (h : d.ok = true) {t : List UInt8} (ht : t.length ≤ roomy) : D3 89 [.agg d.c, .str t] = some (.rd true (.bool (d.takes t))) :=
  (Tab.addO_self _ _ (.cons .dfa (.cons .str .nil)) _ (d, t, ())).trans (if_pos ⟨h, ht⟩)
theorem pDRun (d : Dfa) (hf : d.fits = true) (t : List UInt8) (ht : t.length ≤ roomy) : PCF Try.prog 43 [.agg d.c, .str t] (.bool (d.run t)) := by
  refine pcf_e hmM D3_ok comp43 (by decide) (by simp) (nidL_ok (by simp only [nidL, nid, d.c_nid, Bool.and_self])) ?_
  have q0 : pickA (some 3) d.c 0 = some (.agg d.c) := rfl
  have qc : cellsA (.agg d.c) = d.c := rfl
  have k1 := D3_check hf
  unfold Dfa.run
  cases h : d.ok <;> rw [h] at k1
  · refine vcE.ex (by simp (disch := first | assumption | omega) only [exC, exOps, exOp, evE, evsE, putE, wantedE, Nat.reduceEqDiff, ↓reduceIte, ROp.run, same, binA, intA, strA, eqA, indexSA, byteA, unA, bounds3, Option.map_some, Option.map_none, dec_true, dec_false, Int.toNat_natCast, Int.natCast_nonneg, beq_self_eq_true, List.append_nil, beq_iff_eq, reduceCtorEq, List.getD_cons_zero, List.getD_cons_succ, loadA, rowA, pickA, bslA, litV, storeA_eq, decide_true, flatA, List.length_cons, List.length_nil, Nat.reduceAdd, List.flatMap_cons, List.flatMap_nil, BEq.rfl, List.cons_append, List.nil_append, if_pos, if_neg, ordered, List.getElem?_cons_zero, List.getElem?_cons_succ, frzL, nidL, frz_func, frz_agg, frz_tup, frz_iface, fresh_func, fresh_agg, fresh_tup, fresh_iface, frz_ptr, frz_sl, fresh_sl, Cls.isFree, Cls.makes, callCls, chain, cond_true, tz, ty, faddrA, allocA, over, List.take_succ_cons, List.take_zero, List.drop_succ_cons, List.drop_zero, List.drop_nil, List.set_cons_zero, List.set_cons_succ, Nat.reduceLeDiff, and_self, boxA_eq, qc, ↓q0, k1, Dfa.c_nid, Dfa.c_frz, Bool.true_or, Bool.false_eq_true]; rfl) ?_
    exact ⟨_, rfl, rfl⟩
  · have k2 := D3_through h ht
    refine vcE.ex (by simp (disch := first | assumption | omega) only [exC, exOps, exOp, evE, evsE, putE, wantedE, Nat.reduceEqDiff, ↓reduceIte, ROp.run, same, binA, intA, strA, eqA, indexSA, byteA, unA, bounds3, Option.map_some, Option.map_none, dec_true, dec_false, Int.toNat_natCast, Int.natCast_nonneg, beq_self_eq_true, List.append_nil, beq_iff_eq, reduceCtorEq, List.getD_cons_zero, List.getD_cons_succ, loadA, rowA, pickA, bslA, litV, storeA_eq, decide_true, flatA, List.length_cons, List.length_nil, Nat.reduceAdd, List.flatMap_cons, List.flatMap_nil, BEq.rfl, List.cons_append, List.nil_append, if_pos, if_neg, ordered, List.getElem?_cons_zero, List.getElem?_cons_succ, frzL, nidL, frz_func, frz_agg, frz_tup, frz_iface, fresh_func, fresh_agg, fresh_tup, fresh_iface, frz_ptr, frz_sl, fresh_sl, Cls.isFree, Cls.makes, callCls, chain, cond_true, tz, ty, faddrA, allocA, over, List.take_succ_cons, List.take_zero, List.drop_succ_cons, List.drop_zero, List.drop_nil, List.set_cons_zero, List.set_cons_succ, Nat.reduceLeDiff, and_self, boxA_eq, qc, ↓q0, k1, k2, Dfa.c_nid, Dfa.c_frz, Bool.true_or, Bool.false_eq_true]; rfl) ?_
    exact ⟨_, rfl, rfl⟩

/-- Is a table gone through? -/
def Dfa.light (d : Dfa) : Bool := d.nxt.all (fun r => decide (r.length ≤ 300)) && (decide (d.cls.length ≤ 300) && (decide (d.nxt.length ≤ 300) && decide (d.acc.length ≤ 300)))
theorem Dfa.light_fits {d : Dfa} (h : d.light = true) : d.fits = true := by
  simp only [Dfa.light, Bool.and_eq_true, List.all_eq_true, decide_eq_true_eq] at h
  simp only [Dfa.fits, List.all_eq_true, decide_eq_true_eq, roomy]
  intro r hr
  have := h.1 r hr
  omega
theorem pLightDfa (d : Dfa) (hn : d.nxt.length ≤ roomy) : PCF Try.prog 41 [.agg d.c] (.bool d.light) := by
  refine pcf_e hmM (TabOk.none _) comp41 (by decide) (by simp) (nidL_ok d.a_nid) ?_
  have q0 : pickA none d.c 0 = some (encI.S d.cls) := rfl
  have q1 : pickA none d.c (0 + 1) = some (encR.S d.nxt) := rfl
  have q2 : pickA none d.c (0 + 2) = some (encT.S d.acc) := rfl
  have qc : cellsA (.agg d.c) = d.c := rfl
  simp only [roomy] at hn
  refine vcE.step (by simp (disch := first | assumption | omega) only [exC, exOps, exOp, evE, evsE, putE, wantedE, Nat.reduceEqDiff, ↓reduceIte, ROp.run, same, binA, intA, strA, eqA, indexSA, byteA, unA, bounds3, Option.map_some, Option.map_none, dec_true, dec_false, Int.toNat_natCast, Int.natCast_nonneg, beq_self_eq_true, List.append_nil, beq_iff_eq, reduceCtorEq, List.getD_cons_zero, List.getD_cons_succ, loadA, rowA, pickA, bslA, litV, storeA_eq, decide_true, flatA, List.length_cons, List.length_nil, Nat.reduceAdd, List.flatMap_cons, List.flatMap_nil, BEq.rfl, List.cons_append, List.nil_append, if_pos, if_neg, ordered, List.getElem?_cons_zero, List.getElem?_cons_succ, frzL, nidL, frz_func, frz_agg, frz_tup, frz_iface, fresh_func, fresh_agg, fresh_tup, fresh_iface, frz_ptr, frz_sl, fresh_sl, Cls.isFree, Cls.makes, callCls, chain, cond_true, tz, ty, faddrA, allocA, over, List.take_succ_cons, List.take_zero, List.drop_succ_cons, List.drop_zero, List.drop_nil, List.set_cons_zero, List.set_cons_succ, Nat.reduceLeDiff, and_self, boxA_eq, qc]; rfl) ?_
  refine vcE.then (fun e tm hp => (e = .ret ∧ d.light = false ∧ tm 2 = .bool false) ∨ (e = .normal ∧ hp = [some (.row 69 d.c)] ∧ tm 1 = .ptr 0 0 ∧ d.nxt.all (fun r => decide (r.length ≤ 300)) = true)) ?_ ?_
  · refine vcE.step (by simp (disch := first | assumption | omega) only [exC, exOps, exOp, evE, evsE, putE, wantedE, Nat.reduceEqDiff, ↓reduceIte, ROp.run, same, binA, intA, strA, eqA, indexSA, byteA, unA, bounds3, Option.map_some, Option.map_none, dec_true, dec_false, Int.toNat_natCast, Int.natCast_nonneg, beq_self_eq_true, List.append_nil, beq_iff_eq, reduceCtorEq, List.getD_cons_zero, List.getD_cons_succ, loadA, rowA, pickA, bslA, litV, storeA_eq, decide_true, flatA, List.length_cons, List.length_nil, Nat.reduceAdd, List.flatMap_cons, List.flatMap_nil, BEq.rfl, List.cons_append, List.nil_append, if_pos, if_neg, ordered, List.getElem?_cons_zero, List.getElem?_cons_succ, frzL, nidL, frz_func, frz_agg, frz_tup, frz_iface, fresh_func, fresh_agg, fresh_tup, fresh_iface, frz_ptr, frz_sl, fresh_sl, Cls.isFree, Cls.makes, callCls, chain, cond_true, tz, ty, faddrA, allocA, over, List.take_succ_cons, List.take_zero, List.drop_succ_cons, List.drop_zero, List.drop_nil, List.set_cons_zero, List.set_cons_succ, Nat.reduceLeDiff, and_self]; rfl) (vcE.block (vcE.count (by intro l tm hp h; simp at h)
      (fun i tm hp => hp = [some (.row 69 d.c)] ∧ tm 1 = .ptr 0 0 ∧ tm 3 = .int .i64 i ∧ (d.nxt.take i).all (fun r => decide (r.length ≤ 300)) = true) d.nxt.length ⟨rfl, rfl, rfl, rfl⟩ ?_ ?_))
    · rintro i tm hp hi ⟨rfl, t1, t3, hall⟩
      obtain ⟨r, hr⟩ : ∃ r, d.nxt[i]? = some r := ⟨_, List.getElem?_eq_getElem hi⟩
      have i1 : iaddrA 1 (encR.S d.nxt) (.int .i64 i) = some (.fptr (encR.cs d.nxt) (i * 1)) := encR.S_iaddr hi
      rw [Nat.mul_one] at i1
      have p1 := encR_at hr
      have hwr : IntKind.wrap .i64 ((i : Int) + 1) = (i : Int) + 1 := wrap_i64 (by omega) (by omega)
      by_cases h7 : r.length ≤ 300
      · refine vcE.ex (by simp (disch := first | assumption | omega) only [exC, exOps, exOp, evE, evsE, putE, wantedE, Nat.reduceEqDiff, ↓reduceIte, ROp.run, same, binA, intA, strA, eqA, indexSA, byteA, unA, bounds3, Option.map_some, Option.map_none, dec_true, dec_false, Int.toNat_natCast, Int.natCast_nonneg, beq_self_eq_true, List.append_nil, beq_iff_eq, reduceCtorEq, List.getD_cons_zero, List.getD_cons_succ, loadA, rowA, pickA, bslA, litV, storeA_eq, decide_true, flatA, List.length_cons, List.length_nil, Nat.reduceAdd, List.flatMap_cons, List.flatMap_nil, BEq.rfl, List.cons_append, List.nil_append, if_pos, if_neg, ordered, List.getElem?_cons_zero, List.getElem?_cons_succ, frzL, nidL, frz_func, frz_agg, frz_tup, frz_iface, fresh_func, fresh_agg, fresh_tup, fresh_iface, frz_ptr, frz_sl, fresh_sl, Cls.isFree, Cls.makes, callCls, chain, cond_true, tz, ty, faddrA, allocA, over, List.take_succ_cons, List.take_zero, List.drop_succ_cons, List.drop_zero, List.drop_nil, List.set_cons_zero, List.set_cons_succ, Nat.reduceLeDiff, and_self, t1, t3, ↓q1, i1, ↓p1, hwr, Enc.S_len, Enc.S_fits]; rfl) ?_
        refine ⟨rfl, ?_, ?_, ?_⟩
        rotate_right
        · rw [all_takeD hr, hall, decide_eq_true h7]
          rfl
        all_goals simp only [upd_app, Nat.reduceEqDiff, ↓reduceIte, t1]
        rfl
      · refine vcE.ex (by simp (disch := first | assumption | omega) only [exC, exOps, exOp, evE, evsE, putE, wantedE, Nat.reduceEqDiff, ↓reduceIte, ROp.run, same, binA, intA, strA, eqA, indexSA, byteA, unA, bounds3, Option.map_some, Option.map_none, dec_true, dec_false, Int.toNat_natCast, Int.natCast_nonneg, beq_self_eq_true, List.append_nil, beq_iff_eq, reduceCtorEq, List.getD_cons_zero, List.getD_cons_succ, loadA, rowA, pickA, bslA, litV, storeA_eq, decide_true, flatA, List.length_cons, List.length_nil, Nat.reduceAdd, List.flatMap_cons, List.flatMap_nil, BEq.rfl, List.cons_append, List.nil_append, if_pos, if_neg, ordered, List.getElem?_cons_zero, List.getElem?_cons_succ, frzL, nidL, frz_func, frz_agg, frz_tup, frz_iface, fresh_func, fresh_agg, fresh_tup, fresh_iface, frz_ptr, frz_sl, fresh_sl, Cls.isFree, Cls.makes, callCls, chain, cond_true, tz, ty, faddrA, allocA, over, List.take_succ_cons, List.take_zero, List.drop_succ_cons, List.drop_zero, List.drop_nil, List.set_cons_zero, List.set_cons_succ, Nat.reduceLeDiff, and_self, t1, t3, ↓q1, i1, ↓p1, Enc.S_len, Enc.S_fits]; rfl) ?_
        refine .inl ⟨rfl, ?_, ?_⟩
        · rw [Dfa.light, all_falseD hr (by rw [decide_eq_false h7]), Bool.false_and]
        · simp only [upd_app, Nat.reduceEqDiff, ↓reduceIte]
    · rintro tm hp ⟨rfl, t1, t3, hall⟩
      rw [List.take_length] at hall
      refine vcE.ex (by simp (disch := first | assumption | omega) only [exC, exOps, exOp, evE, evsE, putE, wantedE, Nat.reduceEqDiff, ↓reduceIte, ROp.run, same, binA, intA, strA, eqA, indexSA, byteA, unA, bounds3, Option.map_some, Option.map_none, dec_true, dec_false, Int.toNat_natCast, Int.natCast_nonneg, beq_self_eq_true, List.append_nil, beq_iff_eq, reduceCtorEq, List.getD_cons_zero, List.getD_cons_succ, loadA, rowA, pickA, bslA, litV, storeA_eq, decide_true, flatA, List.length_cons, List.length_nil, Nat.reduceAdd, List.flatMap_cons, List.flatMap_nil, BEq.rfl, List.cons_append, List.nil_append, if_pos, if_neg, ordered, List.getElem?_cons_zero, List.getElem?_cons_succ, frzL, nidL, frz_func, frz_agg, frz_tup, frz_iface, fresh_func, fresh_agg, fresh_tup, fresh_iface, frz_ptr, frz_sl, fresh_sl, Cls.isFree, Cls.makes, callCls, chain, cond_true, tz, ty, faddrA, allocA, over, List.take_succ_cons, List.take_zero, List.drop_succ_cons, List.drop_zero, List.drop_nil, List.set_cons_zero, List.set_cons_succ, Nat.reduceLeDiff, and_self, t1, t3, ↓q1, Enc.S_len, Enc.S_fits]; rfl) ?_
      refine .inr ⟨rfl, rfl, ?_, hall⟩
      simp only [upd_app, Nat.reduceEqDiff, ↓reduceIte, t1]
  · rintro e tm hp (⟨rfl, h, h2⟩ | ⟨rfl, rfl, t1, hall⟩)
    · exact ⟨_, by simp only [resE, resEL, resE1, h2]; rfl, by rw [h]; rfl⟩
    · unfold Dfa.light
      rw [hall, Bool.true_and]
      by_cases h1 : d.cls.length ≤ 300
      · by_cases h2 : d.nxt.length ≤ 300
        · by_cases h3 : d.acc.length ≤ 300
          all_goals refine vcE.ex (by simp (disch := first | assumption | omega) only [exC, exOps, exOp, evE, evsE, putE, wantedE, Nat.reduceEqDiff, ↓reduceIte, ROp.run, same, binA, intA, strA, eqA, indexSA, byteA, unA, bounds3, Option.map_some, Option.map_none, dec_true, dec_false, Int.toNat_natCast, Int.natCast_nonneg, beq_self_eq_true, List.append_nil, beq_iff_eq, reduceCtorEq, List.getD_cons_zero, List.getD_cons_succ, loadA, rowA, pickA, bslA, litV, storeA_eq, decide_true, flatA, List.length_cons, List.length_nil, Nat.reduceAdd, List.flatMap_cons, List.flatMap_nil, BEq.rfl, List.cons_append, List.nil_append, if_pos, if_neg, ordered, List.getElem?_cons_zero, List.getElem?_cons_succ, frzL, nidL, frz_func, frz_agg, frz_tup, frz_iface, fresh_func, fresh_agg, fresh_tup, fresh_iface, frz_ptr, frz_sl, fresh_sl, Cls.isFree, Cls.makes, callCls, chain, cond_true, tz, ty, faddrA, allocA, over, List.take_succ_cons, List.take_zero, List.drop_succ_cons, List.drop_zero, List.drop_nil, List.set_cons_zero, List.set_cons_succ, Nat.reduceLeDiff, and_self, t1, ↓q0, ↓q1, ↓q2, Enc.S_len, Enc.S_fits]; rfl) ?_
          all_goals refine ⟨_, rfl, ?_⟩
          all_goals simp (disch := omega) only [upd_app, Nat.reduceEqDiff, ↓reduceIte, fresh_bool, h1, h2, h3, decide_true, decide_false, dec_true, dec_false, Bool.and_self, Bool.and_false, Bool.false_and]
        · refine vcE.ex (by simp (disch := first | assumption | omega) only [exC, exOps, exOp, evE, evsE, putE, wantedE, Nat.reduceEqDiff, ↓reduceIte, ROp.run, same, binA, intA, strA, eqA, indexSA, byteA, unA, bounds3, Option.map_some, Option.map_none, dec_true, dec_false, Int.toNat_natCast, Int.natCast_nonneg, beq_self_eq_true, List.append_nil, beq_iff_eq, reduceCtorEq, List.getD_cons_zero, List.getD_cons_succ, loadA, rowA, pickA, bslA, litV, storeA_eq, decide_true, flatA, List.length_cons, List.length_nil, Nat.reduceAdd, List.flatMap_cons, List.flatMap_nil, BEq.rfl, List.cons_append, List.nil_append, if_pos, if_neg, ordered, List.getElem?_cons_zero, List.getElem?_cons_succ, frzL, nidL, frz_func, frz_agg, frz_tup, frz_iface, fresh_func, fresh_agg, fresh_tup, fresh_iface, frz_ptr, frz_sl, fresh_sl, Cls.isFree, Cls.makes, callCls, chain, cond_true, tz, ty, faddrA, allocA, over, List.take_succ_cons, List.take_zero, List.drop_succ_cons, List.drop_zero, List.drop_nil, List.set_cons_zero, List.set_cons_succ, Nat.reduceLeDiff, and_self, t1, ↓q0, ↓q1, ↓q2, Enc.S_len, Enc.S_fits]; rfl) ?_
          refine ⟨_, rfl, ?_⟩
          simp (disch := omega) only [upd_app, Nat.reduceEqDiff, ↓reduceIte, fresh_bool, h1, h2, decide_true, decide_false, dec_true, dec_false, Bool.and_self, Bool.and_false, Bool.false_and]
      · refine vcE.ex (by simp (disch := first | assumption | omega) only [exC, exOps, exOp, evE, evsE, putE, wantedE, Nat.reduceEqDiff, ↓reduceIte, ROp.run, same, binA, intA, strA, eqA, indexSA, byteA, unA, bounds3, Option.map_some, Option.map_none, dec_true, dec_false, Int.toNat_natCast, Int.natCast_nonneg, beq_self_eq_true, List.append_nil, beq_iff_eq, reduceCtorEq, List.getD_cons_zero, List.getD_cons_succ, loadA, rowA, pickA, bslA, litV, storeA_eq, decide_true, flatA, List.length_cons, List.length_nil, Nat.reduceAdd, List.flatMap_cons, List.flatMap_nil, BEq.rfl, List.cons_append, List.nil_append, if_pos, if_neg, ordered, List.getElem?_cons_zero, List.getElem?_cons_succ, frzL, nidL, frz_func, frz_agg, frz_tup, frz_iface, fresh_func, fresh_agg, fresh_tup, fresh_iface, frz_ptr, frz_sl, fresh_sl, Cls.isFree, Cls.makes, callCls, chain, cond_true, tz, ty, faddrA, allocA, over, List.take_succ_cons, List.take_zero, List.drop_succ_cons, List.drop_zero, List.drop_nil, List.set_cons_zero, List.set_cons_succ, Nat.reduceLeDiff, and_self, t1, ↓q0, ↓q1, ↓q2, Enc.S_len, Enc.S_fits]; rfl) ?_
        refine ⟨_, rfl, ?_⟩
        simp (disch := omega) only [upd_app, Nat.reduceEqDiff, ↓reduceIte, fresh_bool, h1, decide_true, decide_false, dec_true, dec_false, Bool.and_self, Bool.and_false, Bool.false_and]

end Go.Gi
