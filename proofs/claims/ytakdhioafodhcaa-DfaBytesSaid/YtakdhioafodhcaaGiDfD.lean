/- DfaBytes's function returns true, whatever the table and the texts are. No condition. -/
import Derived.Test.YtakdhioafodhcaaGiDfC
import Derived.Test.YtakdhioafodhcaaGiGlB
import Derived.Test.YtakdhioafodhcaaGiDfR
set_option linter.unusedVariables false
set_option linter.unusedSimpArgs false
namespace Go.Gi
open Go Go.Proofs

theorem pLives : PCF Try.prog 40 [] (.bool true) := pcf_of NoIdL.nil (names_true.mono fun r hp' h => by subst h; exact fresh_ok (a := .bool true) (a' := .bool true) rfl)
def D4 : Tab := (((Tab.none.addR 40 .nil fun _ => .rd true (.bool true)).addO 41 (.cons .dfa .nil) fun p => if p.1.nxt.length ≤ roomy then some (.rd true (.bool p.1.light)) else none).addO
  42 (.cons .dfa .nil) fun p => if p.1.fits then some (.rd true (.int .i64 (if p.1.ok then 0 else 2))) else none).addO 43 (.cons .dfa (.cons .str .nil)) fun p => if p.1.fits = true ∧ p.2.1.length ≤ roomy then some (.rd true (.bool (p.1.run p.2.1))) else none
theorem D4_ok : TabOk Try.prog D4 := by
  refine TabOk.addO (TabOk.addO (TabOk.addO (TabOk.addR (TabOk.none _) ?_) ?_) ?_) ?_
  · exact fun _ => pLives
  · intro p r h
    split at h
    · rename_i hv; cases h; exact pLightDfa p.1 hv
    · cases h
  · intro p r h
    split at h
    · rename_i hv; cases h; exact pDCheck p.1 hv
    · cases h
  · intro p r h
    split at h
    · rename_i hv; cases h; exact pDRun p.1 hv.1 p.2.1 hv.2
    · cases h
theorem D4_lives : D4 40 [] = some (.rd true (.bool true)) := rfl
theorem D4_light {d : Dfa} (h : d.nxt.length ≤ roomy) : D4 41 [.agg d.c] = some (.rd true (.bool d.light)) := by
  rw [D4, Tab.addO_ne _ _ _ _ rfl, Tab.addO_ne _ _ _ _ rfl]
  exact (Tab.addO_self _ _ (.cons .dfa .nil) _ (d, ())).trans (if_pos h)
theorem D4_check {d : Dfa} (h : d.fits = true) : D4 42 [.agg d.c] = some (.rd true (.int .i64 (if d.ok then 0 else 2))) := by
  rw [D4, Tab.addO_ne _ _ _ _ rfl]
  exact (Tab.addO_self _ _ (.cons .dfa .nil) _ (d, ())).trans (if_pos h)
theorem D4_run {d : Dfa} (h : d.fits = true) {t : List UInt8} (ht : t.length ≤ roomy) : D4 43 [.agg d.c, .str t] = some (.rd true (.bool (d.run t))) :=
  (Tab.addO_self _ _ (.cons .dfa (.cons .str .nil)) _ (d, t, ())).trans (if_pos ⟨h, ht⟩)

theorem lawBytes (d : Dfa) (a b : List UInt8) (hn : d.nxt.length ≤ roomy) : PC Try.prog 7 [.agg d.c, .str a, .str b] (.bool true) := by
  refine pc_e hmM D4_ok comp7 (by decide) (by simp) (nidL_ok (by simp only [nidL, nid, d.c_nid, Bool.and_self])) ?_
  have q0 : pickA none d.c 0 = some (encI.S d.cls) := rfl
  have qd : pickA (some 3) d.c 0 = some (.agg d.c) := rfl
  have qc : cellsA (.agg d.c) = d.c := rfl
  have k0 := D4_lives
  have k1 := D4_light hn
  refine vcE.step (by simp (disch := first | assumption | omega) only [exC, exOps, exOp, evE, evsE, putE, wantedE, Nat.reduceEqDiff, ↓reduceIte, ROp.run, same, binA, intA, strA, eqA, indexSA, byteA, unA, bounds3, Option.map_some, Option.map_none, dec_true, dec_false, Int.toNat_natCast, Int.natCast_nonneg, beq_self_eq_true, List.append_nil, beq_iff_eq, reduceCtorEq, List.getD_cons_zero, List.getD_cons_succ, loadA, rowA, pickA, bslA, litV, storeA_eq, decide_true, flatA, List.length_cons, List.length_nil, Nat.reduceAdd, List.flatMap_cons, List.flatMap_nil, BEq.rfl, List.cons_append, List.nil_append, if_pos, if_neg, ordered, List.getElem?_cons_zero, List.getElem?_cons_succ, frzL, nidL, frz_func, frz_agg, frz_tup, frz_iface, fresh_func, fresh_agg, fresh_tup, fresh_iface, frz_ptr, frz_sl, fresh_sl, Cls.isFree, Cls.makes, callCls, chain, cond_true, tz, ty, faddrA, allocA, over, List.take_succ_cons, List.take_zero, List.drop_succ_cons, List.drop_zero, List.drop_nil, List.set_cons_zero, List.set_cons_succ, Nat.reduceLeDiff, and_self, boxA_eq, qc]; rfl) (vcE.step (by simp (disch := first | assumption | omega) only [exC, exOps, exOp, evE, evsE, putE, wantedE, Nat.reduceEqDiff, ↓reduceIte, ROp.run, same, binA, intA, strA, eqA, indexSA, byteA, unA, bounds3, Option.map_some, Option.map_none, dec_true, dec_false, Int.toNat_natCast, Int.natCast_nonneg, beq_self_eq_true, List.append_nil, beq_iff_eq, reduceCtorEq, List.getD_cons_zero, List.getD_cons_succ, loadA, rowA, pickA, bslA, litV, storeA_eq, decide_true, flatA, List.length_cons, List.length_nil, Nat.reduceAdd, List.flatMap_cons, List.flatMap_nil, BEq.rfl, List.cons_append, List.nil_append, if_pos, if_neg, ordered, List.getElem?_cons_zero, List.getElem?_cons_succ, frzL, nidL, frz_func, frz_agg, frz_tup, frz_iface, fresh_func, fresh_agg, fresh_tup, fresh_iface, frz_ptr, frz_sl, fresh_sl, Cls.isFree, Cls.makes, callCls, chain, cond_true, tz, ty, faddrA, allocA, over, List.take_succ_cons, List.take_zero, List.drop_succ_cons, List.drop_zero, List.drop_nil, List.set_cons_zero, List.set_cons_succ, Nat.reduceLeDiff, and_self, k0, Bool.not_true]; rfl) ?_)
  cases h1 : d.light <;> rw [h1] at k1
  · refine vcE.ex (by simp (disch := first | assumption | omega) only [exC, exOps, exOp, evE, evsE, putE, wantedE, Nat.reduceEqDiff, ↓reduceIte, ROp.run, same, binA, intA, strA, eqA, indexSA, byteA, unA, bounds3, Option.map_some, Option.map_none, dec_true, dec_false, Int.toNat_natCast, Int.natCast_nonneg, beq_self_eq_true, List.append_nil, beq_iff_eq, reduceCtorEq, List.getD_cons_zero, List.getD_cons_succ, loadA, rowA, pickA, bslA, litV, storeA_eq, decide_true, flatA, List.length_cons, List.length_nil, Nat.reduceAdd, List.flatMap_cons, List.flatMap_nil, BEq.rfl, List.cons_append, List.nil_append, if_pos, if_neg, ordered, List.getElem?_cons_zero, List.getElem?_cons_succ, frzL, nidL, frz_func, frz_agg, frz_tup, frz_iface, fresh_func, fresh_agg, fresh_tup, fresh_iface, frz_ptr, frz_sl, fresh_sl, Cls.isFree, Cls.makes, callCls, chain, cond_true, tz, ty, faddrA, allocA, over, List.take_succ_cons, List.take_zero, List.drop_succ_cons, List.drop_zero, List.drop_nil, List.set_cons_zero, List.set_cons_succ, Nat.reduceLeDiff, and_self, ↓qd, k1, Dfa.c_nid, Dfa.c_frz, Bool.true_or, Bool.not_false]; rfl) ?_
    exact ⟨_, rfl, rfl⟩
  have hf := d.light_fits h1
  have k2 := D4_check hf
  by_cases ha : a.length ≤ 200
  rotate_left
  · refine vcE.ex (by simp (disch := first | assumption | omega) only [exC, exOps, exOp, evE, evsE, putE, wantedE, Nat.reduceEqDiff, ↓reduceIte, ROp.run, same, binA, intA, strA, eqA, indexSA, byteA, unA, bounds3, Option.map_some, Option.map_none, dec_true, dec_false, Int.toNat_natCast, Int.natCast_nonneg, beq_self_eq_true, List.append_nil, beq_iff_eq, reduceCtorEq, List.getD_cons_zero, List.getD_cons_succ, loadA, rowA, pickA, bslA, litV, storeA_eq, decide_true, flatA, List.length_cons, List.length_nil, Nat.reduceAdd, List.flatMap_cons, List.flatMap_nil, BEq.rfl, List.cons_append, List.nil_append, if_pos, if_neg, ordered, List.getElem?_cons_zero, List.getElem?_cons_succ, frzL, nidL, frz_func, frz_agg, frz_tup, frz_iface, fresh_func, fresh_agg, fresh_tup, fresh_iface, frz_ptr, frz_sl, fresh_sl, Cls.isFree, Cls.makes, callCls, chain, cond_true, tz, ty, faddrA, allocA, over, List.take_succ_cons, List.take_zero, List.drop_succ_cons, List.drop_zero, List.drop_nil, List.set_cons_zero, List.set_cons_succ, Nat.reduceLeDiff, and_self, ↓qd, k1, Dfa.c_nid, Dfa.c_frz, Bool.true_or, Bool.not_true]; rfl) ?_
    exact ⟨_, rfl, rfl⟩
  by_cases hb : b.length ≤ 200
  rotate_left
  · refine vcE.ex (by simp (disch := first | assumption | omega) only [exC, exOps, exOp, evE, evsE, putE, wantedE, Nat.reduceEqDiff, ↓reduceIte, ROp.run, same, binA, intA, strA, eqA, indexSA, byteA, unA, bounds3, Option.map_some, Option.map_none, dec_true, dec_false, Int.toNat_natCast, Int.natCast_nonneg, beq_self_eq_true, List.append_nil, beq_iff_eq, reduceCtorEq, List.getD_cons_zero, List.getD_cons_succ, loadA, rowA, pickA, bslA, litV, storeA_eq, decide_true, flatA, List.length_cons, List.length_nil, Nat.reduceAdd, List.flatMap_cons, List.flatMap_nil, BEq.rfl, List.cons_append, List.nil_append, if_pos, if_neg, ordered, List.getElem?_cons_zero, List.getElem?_cons_succ, frzL, nidL, frz_func, frz_agg, frz_tup, frz_iface, fresh_func, fresh_agg, fresh_tup, fresh_iface, frz_ptr, frz_sl, fresh_sl, Cls.isFree, Cls.makes, callCls, chain, cond_true, tz, ty, faddrA, allocA, over, List.take_succ_cons, List.take_zero, List.drop_succ_cons, List.drop_zero, List.drop_nil, List.set_cons_zero, List.set_cons_succ, Nat.reduceLeDiff, and_self, ↓qd, k1, Dfa.c_nid, Dfa.c_frz, Bool.true_or, Bool.not_true]; rfl) ?_
    exact ⟨_, rfl, rfl⟩
  cases hok : d.ok <;> rw [hok] at k2
  · refine vcE.ex (by simp (disch := first | assumption | omega) only [exC, exOps, exOp, evE, evsE, putE, wantedE, Nat.reduceEqDiff, ↓reduceIte, ROp.run, same, binA, intA, strA, eqA, indexSA, byteA, unA, bounds3, Option.map_some, Option.map_none, dec_true, dec_false, Int.toNat_natCast, Int.natCast_nonneg, beq_self_eq_true, List.append_nil, beq_iff_eq, reduceCtorEq, List.getD_cons_zero, List.getD_cons_succ, loadA, rowA, pickA, bslA, litV, storeA_eq, decide_true, flatA, List.length_cons, List.length_nil, Nat.reduceAdd, List.flatMap_cons, List.flatMap_nil, BEq.rfl, List.cons_append, List.nil_append, if_pos, if_neg, ordered, List.getElem?_cons_zero, List.getElem?_cons_succ, frzL, nidL, frz_func, frz_agg, frz_tup, frz_iface, fresh_func, fresh_agg, fresh_tup, fresh_iface, frz_ptr, frz_sl, fresh_sl, Cls.isFree, Cls.makes, callCls, chain, cond_true, tz, ty, faddrA, allocA, over, List.take_succ_cons, List.take_zero, List.drop_succ_cons, List.drop_zero, List.drop_nil, List.set_cons_zero, List.set_cons_succ, Nat.reduceLeDiff, and_self, ↓qd, k1, k2, Dfa.c_nid, Dfa.c_frz, Bool.true_or, Bool.not_true, Bool.false_eq_true]; rfl) ?_
    exact ⟨_, rfl, rfl⟩
  have h := d.ok_iff.1 hok
  refine vcE.step (by simp (disch := first | assumption | omega) only [exC, exOps, exOp, evE, evsE, putE, wantedE, Nat.reduceEqDiff, ↓reduceIte, ROp.run, same, binA, intA, strA, eqA, indexSA, byteA, unA, bounds3, Option.map_some, Option.map_none, dec_true, dec_false, Int.toNat_natCast, Int.natCast_nonneg, beq_self_eq_true, List.append_nil, beq_iff_eq, reduceCtorEq, List.getD_cons_zero, List.getD_cons_succ, loadA, rowA, pickA, bslA, litV, storeA_eq, decide_true, flatA, List.length_cons, List.length_nil, Nat.reduceAdd, List.flatMap_cons, List.flatMap_nil, BEq.rfl, List.cons_append, List.nil_append, if_pos, if_neg, ordered, List.getElem?_cons_zero, List.getElem?_cons_succ, frzL, nidL, frz_func, frz_agg, frz_tup, frz_iface, fresh_func, fresh_agg, fresh_tup, fresh_iface, frz_ptr, frz_sl, fresh_sl, Cls.isFree, Cls.makes, callCls, chain, cond_true, tz, ty, faddrA, allocA, over, List.take_succ_cons, List.take_zero, List.drop_succ_cons, List.drop_zero, List.drop_nil, List.set_cons_zero, List.set_cons_succ, Nat.reduceLeDiff, and_self, ↓qd, k1, k2, Dfa.c_nid, Dfa.c_frz, Bool.true_or, Bool.not_true]; rfl) (vcE.step (by simp (disch := first | assumption | omega) only [exC, exOps, exOp, evE, evsE, putE, wantedE, Nat.reduceEqDiff, ↓reduceIte, ROp.run, same, binA, intA, strA, eqA, indexSA, byteA, unA, bounds3, Option.map_some, Option.map_none, dec_true, dec_false, Int.toNat_natCast, Int.natCast_nonneg, beq_self_eq_true, List.append_nil, beq_iff_eq, reduceCtorEq, List.getD_cons_zero, List.getD_cons_succ, loadA, rowA, pickA, bslA, litV, storeA_eq, decide_true, flatA, List.length_cons, List.length_nil, Nat.reduceAdd, List.flatMap_cons, List.flatMap_nil, BEq.rfl, List.cons_append, List.nil_append, if_pos, if_neg, ordered, List.getElem?_cons_zero, List.getElem?_cons_succ, frzL, nidL, frz_func, frz_agg, frz_tup, frz_iface, fresh_func, fresh_agg, fresh_tup, fresh_iface, frz_ptr, frz_sl, fresh_sl, Cls.isFree, Cls.makes, callCls, chain, cond_true, tz, ty, faddrA, allocA, over, List.take_succ_cons, List.take_zero, List.drop_succ_cons, List.drop_zero, List.drop_nil, List.set_cons_zero, List.set_cons_succ, Nat.reduceLeDiff, and_self, s2b_encB]; rfl) ?_)
  refine vcE.then (fun e tm hp => e = .normal ∧ hp = [some (.row 69 d.c), some (.row 5 (encB.cs (d.mix a b)))] ∧ tm 1 = .str a ∧ tm 3 = .ptr 0 0 ∧ tm 7 = .sl 1 0 a.length 1 a.length false) ?_ ?_
  · refine vcE.step (by simp (disch := first | assumption | omega) only [exC, exOps, exOp, evE, evsE, putE, wantedE, Nat.reduceEqDiff, ↓reduceIte, ROp.run, same, binA, intA, strA, eqA, indexSA, byteA, unA, bounds3, Option.map_some, Option.map_none, dec_true, dec_false, Int.toNat_natCast, Int.natCast_nonneg, beq_self_eq_true, List.append_nil, beq_iff_eq, reduceCtorEq, List.getD_cons_zero, List.getD_cons_succ, loadA, rowA, pickA, bslA, litV, storeA_eq, decide_true, flatA, List.length_cons, List.length_nil, Nat.reduceAdd, List.flatMap_cons, List.flatMap_nil, BEq.rfl, List.cons_append, List.nil_append, if_pos, if_neg, ordered, List.getElem?_cons_zero, List.getElem?_cons_succ, frzL, nidL, frz_func, frz_agg, frz_tup, frz_iface, fresh_func, fresh_agg, fresh_tup, fresh_iface, frz_ptr, frz_sl, fresh_sl, Cls.isFree, Cls.makes, callCls, chain, cond_true, tz, ty, faddrA, allocA, over, List.take_succ_cons, List.take_zero, List.drop_succ_cons, List.drop_zero, List.drop_nil, List.set_cons_zero, List.set_cons_succ, Nat.reduceLeDiff, and_self]; rfl) (vcE.block (vcE.count (by intro l tm hp h; simp at h)
      (fun i tm hp => hp = [some (.row 69 d.c), some (.row 5 (encB.cs (d.mix (a.take i) (b.take i) ++ a.drop i)))] ∧ tm 1 = .str a ∧ tm 2 = .str b ∧ tm 3 = .ptr 0 0 ∧ tm 7 = .sl 1 0 a.length 1 a.length false ∧ tm 8 = .int .i64 i) (min a.length b.length) ⟨rfl, rfl, rfl, rfl, rfl, rfl⟩ ?_ ?_))
    · rintro i tm hp hi ⟨rfl, t1, t2, t3, t7, t8⟩
      have hia : i < a.length := by omega
      have hib : i < b.length := by omega
      obtain ⟨x, hx⟩ : ∃ x, a[i]? = some x := ⟨_, List.getElem?_eq_getElem hia⟩
      obtain ⟨y, hy⟩ : ∃ y, b[i]? = some y := ⟨_, List.getElem?_eq_getElem hib⟩
      have hwx := d.mix_at (b := b) hx (by omega)
      have hst := d.mix_step hx hy
      have hwl : (d.mix (a.take i) (b.take i) ++ a.drop i).length = a.length := by
        rw [List.length_append, d.mix_len, List.length_take, List.length_drop]
        omega
      rw [hst]
      generalize d.mix (a.take i) (b.take i) ++ a.drop i = w at *
      have hcx : d.cls[x.toNat]? = some (d.cls.getD x.toNat 0) := getD_some (by rw [h.c]; exact x.toNat_lt)
      have hcy : d.cls[y.toNat]? = some (d.cls.getD y.toNat 0) := getD_some (by rw [h.c]; exact y.toNat_lt)
      generalize d.cls.getD x.toNat 0 = u at *
      generalize d.cls.getD y.toNat 0 = v at *
      have i0 : iaddrA 1 (.sl 1 0 a.length 1 a.length false) (.int .i64 i) = some (.ptr 1 i) := iaddr_sl1 hia
      have i1 : iaddrA 1 (encI.S d.cls) (.int .u8 x.toNat) = some (.fptr (encI.cs d.cls) (x.toNat * 1)) := encI.S_iaddr (by rw [h.c]; exact x.toNat_lt)
      have i2 : iaddrA 1 (encI.S d.cls) (.int .u8 y.toNat) = some (.fptr (encI.cs d.cls) (y.toNat * 1)) := encI.S_iaddr (by rw [h.c]; exact y.toNat_lt)
      rw [Nat.mul_one] at i1 i2
      have p0 : pickA none (encB.cs w) i = some (.int .u8 x.toNat) := encB.pick1 (l := w) rfl hwx (v := .int .u8 x.toNat) rfl rfl
      have p1 := encI_at hcx
      have p2 := encI_at hcy
      have s0 := encB.sl_store1 (hp := [some (.row 69 d.c), some (.row 5 (encB.cs w))]) (id := 1) (e := 5) (l := w) rfl rfl (i := i) (by omega) (b := y) (v := .int .u8 y.toNat) rfl (by simp)
      have hwr : IntKind.wrap .i64 ((i : Int) + 1) = (i : Int) + 1 := wrap_i64 (by omega) (by omega)
      by_cases hc : u = v
      · rw [if_pos hc]
        refine vcE.ex (by simp (disch := first | assumption | omega) only [exC, exOps, exOp, evE, evsE, putE, wantedE, Nat.reduceEqDiff, ↓reduceIte, ROp.run, same, binA, intA, strA, eqA, indexSA, byteA, unA, bounds3, Option.map_some, Option.map_none, dec_true, dec_false, Int.toNat_natCast, Int.natCast_nonneg, beq_self_eq_true, List.append_nil, beq_iff_eq, reduceCtorEq, List.getD_cons_zero, List.getD_cons_succ, loadA, rowA, pickA, bslA, litV, storeA_eq, decide_true, flatA, List.length_cons, List.length_nil, Nat.reduceAdd, List.flatMap_cons, List.flatMap_nil, BEq.rfl, List.cons_append, List.nil_append, if_pos, if_neg, ordered, List.getElem?_cons_zero, List.getElem?_cons_succ, frzL, nidL, frz_func, frz_agg, frz_tup, frz_iface, fresh_func, fresh_agg, fresh_tup, fresh_iface, frz_ptr, frz_sl, fresh_sl, Cls.isFree, Cls.makes, callCls, chain, cond_true, tz, ty, faddrA, allocA, over, List.take_succ_cons, List.take_zero, List.drop_succ_cons, List.drop_zero, List.drop_nil, List.set_cons_zero, List.set_cons_succ, Nat.reduceLeDiff, and_self, t1, t2, t3, t7, t8, hx, hy, ↓q0, i0, i1, i2, ↓p0, ↓p1, ↓p2, ↓s0, hwr, hc]; rfl) ?_
        refine ⟨rfl, ?_, ?_, ?_, ?_, ?_⟩
        all_goals simp only [upd_app, Nat.reduceEqDiff, ↓reduceIte, t1, t2, t3, t7]
        rfl
      · rw [if_neg hc]
        have hsame : w.set i x = w := by
          apply List.ext_getElem?
          intro j
          rw [List.getElem?_set]
          by_cases hij : i = j
          · subst hij
            rw [if_pos rfl, if_pos (by omega), hwx]
          · rw [if_neg hij]
        rw [hsame]
        refine vcE.ex (by simp (disch := first | assumption | omega) only [exC, exOps, exOp, evE, evsE, putE, wantedE, Nat.reduceEqDiff, ↓reduceIte, ROp.run, same, binA, intA, strA, eqA, indexSA, byteA, unA, bounds3, Option.map_some, Option.map_none, dec_true, dec_false, Int.toNat_natCast, Int.natCast_nonneg, beq_self_eq_true, List.append_nil, beq_iff_eq, reduceCtorEq, List.getD_cons_zero, List.getD_cons_succ, loadA, rowA, pickA, bslA, litV, storeA_eq, decide_true, flatA, List.length_cons, List.length_nil, Nat.reduceAdd, List.flatMap_cons, List.flatMap_nil, BEq.rfl, List.cons_append, List.nil_append, if_pos, if_neg, ordered, List.getElem?_cons_zero, List.getElem?_cons_succ, frzL, nidL, frz_func, frz_agg, frz_tup, frz_iface, fresh_func, fresh_agg, fresh_tup, fresh_iface, frz_ptr, frz_sl, fresh_sl, Cls.isFree, Cls.makes, callCls, chain, cond_true, tz, ty, faddrA, allocA, over, List.take_succ_cons, List.take_zero, List.drop_succ_cons, List.drop_zero, List.drop_nil, List.set_cons_zero, List.set_cons_succ, Nat.reduceLeDiff, and_self, t1, t2, t3, t7, t8, hx, hy, ↓q0, i0, i1, i2, ↓p0, ↓p1, ↓p2, hwr, hc, decide_false]; rfl) ?_
        refine ⟨rfl, ?_, ?_, ?_, ?_, ?_⟩
        all_goals simp only [upd_app, Nat.reduceEqDiff, ↓reduceIte, t1, t2, t3, t7]
        rfl
    · rintro tm hp ⟨rfl, t1, t2, t3, t7, t8⟩
      rw [d.mix_end (Nat.le_refl _)]
      by_cases hia : min a.length b.length < a.length
      all_goals refine vcE.ex (by simp (disch := first | assumption | omega) only [exC, exOps, exOp, evE, evsE, putE, wantedE, Nat.reduceEqDiff, ↓reduceIte, ROp.run, same, binA, intA, strA, eqA, indexSA, byteA, unA, bounds3, Option.map_some, Option.map_none, dec_true, dec_false, Int.toNat_natCast, Int.natCast_nonneg, beq_self_eq_true, List.append_nil, beq_iff_eq, reduceCtorEq, List.getD_cons_zero, List.getD_cons_succ, loadA, rowA, pickA, bslA, litV, storeA_eq, decide_true, flatA, List.length_cons, List.length_nil, Nat.reduceAdd, List.flatMap_cons, List.flatMap_nil, BEq.rfl, List.cons_append, List.nil_append, if_pos, if_neg, ordered, List.getElem?_cons_zero, List.getElem?_cons_succ, frzL, nidL, frz_func, frz_agg, frz_tup, frz_iface, fresh_func, fresh_agg, fresh_tup, fresh_iface, frz_ptr, frz_sl, fresh_sl, Cls.isFree, Cls.makes, callCls, chain, cond_true, tz, ty, faddrA, allocA, over, List.take_succ_cons, List.take_zero, List.drop_succ_cons, List.drop_zero, List.drop_nil, List.set_cons_zero, List.set_cons_succ, Nat.reduceLeDiff, and_self, t1, t2, t3, t7, t8]; rfl) ?_
      all_goals refine ⟨rfl, rfl, ?_, ?_, ?_⟩
      all_goals simp only [upd_app, Nat.reduceEqDiff, ↓reduceIte, t1, t3, t7]
  · rintro e tm hp ⟨rfl, rfl, t1, t3, t7⟩
    have hs := encB.sl_src (hp := [some (.row 69 d.c), some (.row 5 (encB.cs (d.mix a b)))]) (id := 1) (e := 5) (l := d.mix a b) (lo := a.length) (ex := false) rfl
    rw [d.mix_len] at hs
    have hb2 : b2sA [some (.row 69 d.c), some (.row 5 (encB.cs (d.mix a b)))] (.sl 1 0 a.length 1 a.length false) = some (.str (d.mix a b)) := by
      have hs2 : srcA [some (.row 69 d.c), some (.row 5 (encB.cs (d.mix a b)))] 1 (.sl 1 0 a.length 1 a.length false) = some (encB.cs (d.mix a b), a.length) := hs
      simp only [b2sA, hs2, unbyte_encB, Option.map_some]
    have k3 := D4_run hf (t := a) (by simp only [roomy]; omega)
    have k4 := D4_run hf (t := d.mix a b) (by rw [d.mix_len]; simp only [roomy]; omega)
    rw [d.mix_run] at k4
    refine vcE.ex (by simp (disch := first | assumption | omega) only [exC, exOps, exOp, evE, evsE, putE, wantedE, Nat.reduceEqDiff, ↓reduceIte, ROp.run, same, binA, intA, strA, eqA, indexSA, byteA, unA, bounds3, Option.map_some, Option.map_none, dec_true, dec_false, Int.toNat_natCast, Int.natCast_nonneg, beq_self_eq_true, List.append_nil, beq_iff_eq, reduceCtorEq, List.getD_cons_zero, List.getD_cons_succ, loadA, rowA, pickA, bslA, litV, storeA_eq, decide_true, flatA, List.length_cons, List.length_nil, Nat.reduceAdd, List.flatMap_cons, List.flatMap_nil, BEq.rfl, List.cons_append, List.nil_append, if_pos, if_neg, ordered, List.getElem?_cons_zero, List.getElem?_cons_succ, frzL, nidL, frz_func, frz_agg, frz_tup, frz_iface, fresh_func, fresh_agg, fresh_tup, fresh_iface, frz_ptr, frz_sl, fresh_sl, Cls.isFree, Cls.makes, callCls, chain, cond_true, tz, ty, faddrA, allocA, over, List.take_succ_cons, List.take_zero, List.drop_succ_cons, List.drop_zero, List.drop_nil, List.set_cons_zero, List.set_cons_succ, Nat.reduceLeDiff, and_self, t1, t3, t7, ↓qd, hb2, k3, k4, Dfa.c_nid, Dfa.c_frz, Bool.true_or, Bool.not_false, Bool.not_true, Bool.or_true]; rfl) ?_
    exact ⟨_, rfl, rfl⟩

end Go.Gi
