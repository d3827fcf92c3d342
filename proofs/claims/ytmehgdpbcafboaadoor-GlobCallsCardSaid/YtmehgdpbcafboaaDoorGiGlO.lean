/- The document's answers for globs: what they give. -/
import Derived.Test.YtmehgdpbcafboaaDoorGiGlP
set_option linter.unusedVariables false
set_option linter.unusedSimpArgs false
namespace Go.Gi
set_option linter.unusedSectionVars false
variable [Mx]
open Go Go.Proofs

theorem rCheck (p : List UInt8) : PCF Tryd.prog 15 [.str p] (.int .i64 (checkG p)) := by
  refine pcf_e hmG (TabOk.none _) comp15 (by decide) (by simp) (nidL_ok rfl) ?_
  unfold checkG
  repeat' (first | refine vcE.seq ?_ | refine vcE.block ?_ | (refine vcE.condTrue ?_ ?_; first | rfl | (simp (disch := first | assumption | omega) only [exC, exOps, exOp, evE, evsE, putE, wantedE, Nat.reduceEqDiff, ↓reduceIte, ROp.run, same, binA, intA, strA, eqA, indexSA, byteA, unA, bounds3, Option.map_some, Option.map_none, dec_true, dec_false, Int.toNat_natCast, Int.natCast_nonneg, beq_self_eq_true, List.append_nil, beq_iff_eq, reduceCtorEq, List.getD_cons_zero, List.getD_cons_succ, loadA, rowA, pickA, bslA, storeA_eq, decide_true, flatA, List.length_cons, List.length_nil, Nat.reduceAdd, List.flatMap_cons, List.flatMap_nil, BEq.rfl, List.cons_append, List.nil_append, if_pos, if_neg, ordered, List.getElem?_cons_zero, List.getElem?_cons_succ, frzL, nidL, frz_func, frz_agg, frz_tup, frz_iface, fresh_func, fresh_agg, fresh_tup, fresh_iface, frz_ptr, frz_sl, fresh_sl, Cls.isFree, Cls.makes, callCls, chain, cond_true, tz, ty, faddrA, allocA, over, List.take_succ_cons, List.take_zero, List.drop_succ_cons, List.drop_zero, List.drop_nil, List.set_cons_zero, List.set_cons_succ, Nat.reduceLeDiff, and_self] <;> rfl)) | (refine vcE.condFalse ?_ ?_; first | rfl | (simp (disch := first | assumption | omega) only [exC, exOps, exOp, evE, evsE, putE, wantedE, Nat.reduceEqDiff, ↓reduceIte, ROp.run, same, binA, intA, strA, eqA, indexSA, byteA, unA, bounds3, Option.map_some, Option.map_none, dec_true, dec_false, Int.toNat_natCast, Int.natCast_nonneg, beq_self_eq_true, List.append_nil, beq_iff_eq, reduceCtorEq, List.getD_cons_zero, List.getD_cons_succ, loadA, rowA, pickA, bslA, storeA_eq, decide_true, flatA, List.length_cons, List.length_nil, Nat.reduceAdd, List.flatMap_cons, List.flatMap_nil, BEq.rfl, List.cons_append, List.nil_append, if_pos, if_neg, ordered, List.getElem?_cons_zero, List.getElem?_cons_succ, frzL, nidL, frz_func, frz_agg, frz_tup, frz_iface, fresh_func, fresh_agg, fresh_tup, fresh_iface, frz_ptr, frz_sl, fresh_sl, Cls.isFree, Cls.makes, callCls, chain, cond_true, tz, ty, faddrA, allocA, over, List.take_succ_cons, List.take_zero, List.drop_succ_cons, List.drop_zero, List.drop_nil, List.set_cons_zero, List.set_cons_succ, Nat.reduceLeDiff, and_self] <;> rfl)) | (refine vcE.condND _ rfl (fun hc => ?_) (fun hc => ?_) <;> try (exfalso; first | omega | contradiction)) | (refine vcE.condD _ rfl (fun hc => ?_) (fun hc => ?_) <;> try (exfalso; first | omega | contradiction)) | (refine vcE.condNB _ rfl (fun hc => ?_) (fun hc => ?_) <;> try (exfalso; first | omega | contradiction)) | (refine vcE.condB _ rfl (fun hc => ?_) (fun hc => ?_) <;> try (exfalso; first | omega | contradiction)) | (apply vcE.ex; (simp (disch := first | assumption | omega) only [exC, exOps, exOp, evE, evsE, putE, wantedE, Nat.reduceEqDiff, ↓reduceIte, ROp.run, same, binA, intA, strA, eqA, indexSA, byteA, unA, bounds3, Option.map_some, Option.map_none, dec_true, dec_false, Int.toNat_natCast, Int.natCast_nonneg, beq_self_eq_true, List.append_nil, beq_iff_eq, reduceCtorEq, List.getD_cons_zero, List.getD_cons_succ, loadA, rowA, pickA, bslA, storeA_eq, decide_true, flatA, List.length_cons, List.length_nil, Nat.reduceAdd, List.flatMap_cons, List.flatMap_nil, BEq.rfl, List.cons_append, List.nil_append, if_pos, if_neg, ordered, List.getElem?_cons_zero, List.getElem?_cons_succ, frzL, nidL, frz_func, frz_agg, frz_tup, frz_iface, fresh_func, fresh_agg, fresh_tup, fresh_iface, frz_ptr, frz_sl, fresh_sl, Cls.isFree, Cls.makes, callCls, chain, cond_true, tz, ty, faddrA, allocA, over, List.take_succ_cons, List.take_zero, List.drop_succ_cons, List.drop_zero, List.drop_nil, List.set_cons_zero, List.set_cons_succ, Nat.reduceLeDiff, and_self] <;> rfl)) | fail)
  all_goals refine ⟨_, rfl, ?_⟩
  all_goals simp (disch := omega) only [if_pos, if_neg, *]
  all_goals rfl

theorem rFold (s : List UInt8) (hl : s.length ≤ 4611686018427387904) : PCF Tryd.prog 19 [.str s] (.str (s.map foldB)) := by
  refine pcf_e hmG (TabOk.none _) comp19 (by decide) (by simp) (nidL_ok rfl) ?_
  refine vcE.step (by simp only [exC, exOps, exOp, evE, evsE, putE, wantedE, Nat.reduceEqDiff, ↓reduceIte, ROp.run, same, binA, intA, strA, eqA, indexSA, byteA, unA, bounds3, Option.map_some, Option.map_none, dec_true, dec_false, Int.toNat_natCast, Int.natCast_nonneg, beq_self_eq_true, List.append_nil, beq_iff_eq, reduceCtorEq, List.getD_cons_zero, List.getD_cons_succ, loadA, rowA, pickA, bslA, storeA_eq, decide_true, flatA, List.length_cons, List.length_nil, Nat.reduceAdd, List.flatMap_cons, List.flatMap_nil, BEq.rfl, List.cons_append, List.nil_append, if_pos, if_neg, ordered, List.getElem?_cons_zero, List.getElem?_cons_succ, frzL, nidL, frz_func, frz_agg, frz_tup, frz_iface, fresh_func, fresh_agg, fresh_tup, fresh_iface, frz_ptr, frz_sl, fresh_sl, Cls.isFree, Cls.makes, callCls, chain, cond_true, tz, ty]; rfl) (vcE.step (by simp only [exC, exOps, exOp, evE, evsE, putE, wantedE, Nat.reduceEqDiff, ↓reduceIte, ROp.run, same, binA, intA, strA, eqA, indexSA, byteA, unA, bounds3, Option.map_some, Option.map_none, dec_true, dec_false, Int.toNat_natCast, Int.natCast_nonneg, beq_self_eq_true, List.append_nil, beq_iff_eq, reduceCtorEq, List.getD_cons_zero, List.getD_cons_succ, loadA, rowA, pickA, bslA, storeA_eq, decide_true, flatA, List.length_cons, List.length_nil, Nat.reduceAdd, List.flatMap_cons, List.flatMap_nil, BEq.rfl, List.cons_append, List.nil_append, if_pos, if_neg, ordered, List.getElem?_cons_zero, List.getElem?_cons_succ, frzL, nidL, frz_func, frz_agg, frz_tup, frz_iface, fresh_func, fresh_agg, fresh_tup, fresh_iface, frz_ptr, frz_sl, fresh_sl, Cls.isFree, Cls.makes, callCls, chain, cond_true, tz, ty, s2b_encB]; rfl) (vcE.then (fun e tm hp => e = .normal ∧ tm 3 = .sl 0 0 s.length 1 s.length false ∧ hp = [some (.row 5 (encB.cs (s.map foldB)))]) ?_ ?_))
  · refine vcE.step (by simp only [exC, exOps, exOp, evE, evsE, putE, wantedE, Nat.reduceEqDiff, ↓reduceIte, ROp.run, same, binA, intA, strA, eqA, indexSA, byteA, unA, bounds3, Option.map_some, Option.map_none, dec_true, dec_false, Int.toNat_natCast, Int.natCast_nonneg, beq_self_eq_true, List.append_nil, beq_iff_eq, reduceCtorEq, List.getD_cons_zero, List.getD_cons_succ, loadA, rowA, pickA, bslA, storeA_eq, decide_true, flatA, List.length_cons, List.length_nil, Nat.reduceAdd, List.flatMap_cons, List.flatMap_nil, BEq.rfl, List.cons_append, List.nil_append, if_pos, if_neg, ordered, List.getElem?_cons_zero, List.getElem?_cons_succ, frzL, nidL, frz_func, frz_agg, frz_tup, frz_iface, fresh_func, fresh_agg, fresh_tup, fresh_iface, frz_ptr, frz_sl, fresh_sl, Cls.isFree, Cls.makes, callCls, chain, cond_true, tz, ty]; rfl) (vcE.block (vcE.count (by intro l tm hp h; simp at h)
      (fun i tm hp => tm 3 = .sl 0 0 s.length 1 s.length false ∧ tm 4 = .int .i64 i ∧ hp = [some (.row 5 (encB.cs (doneTo foldB s i)))]) s.length ⟨?_, ?_, ?_⟩ ?_ ?_))
    · rfl
    · rfl
    · rw [doneTo_zero]
    · rintro i tm hp hi ⟨e3, e4, rfl⟩
      obtain ⟨c, hc⟩ : ∃ c, s[i]? = some c := ⟨_, List.getElem?_eq_getElem hi⟩
      have hlen := doneTo_len foldB s i
      have hcl := c.toNat_lt
      have hld := encB.sl_load1 (hp := [some (.row 5 (encB.cs (doneTo foldB s i)))]) (id := 0) (e := 5) rfl rfl (doneTo_get (f := foldB) hc) (v := .int .u8 c.toNat) rfl rfl
      have hst := encB.sl_store1 (hp := [some (.row 5 (encB.cs (doneTo foldB s i)))]) (id := 0) (e := 5) (l := doneTo foldB s i) rfl rfl (i := i) (by omega) (b := foldB c) (v := .int .u8 (foldB c).toNat) rfl (by simp)
      rw [doneTo_set hc] at hst
      simp only [loadA, rowA, List.getElem?_cons_zero] at hld
      have hsame : foldB c = c → [some (Blk.row 5 (encB.cs (doneTo foldB s i)))] = [some (.row 5 (encB.cs (doneTo foldB s (i + 1))))] := fun h => by
        have := doneTo_set (f := foldB) hc
        rw [h] at this
        rw [← this]
        congr 4
        apply List.ext_getElem?
        intro j
        rw [List.getElem?_set]
        split
        · rename_i hj; subst hj; rw [if_pos (by omega), doneTo_get hc]
        · rfl
      by_cases h1 : 65 ≤ c.toNat
      · by_cases h2 : c.toNat ≤ 90
        · have hw : ((c.toNat : Int) + 32) = ((foldB c).toNat : Int) := by rw [foldB_up h1 h2]; rfl
          refine vcE.ex (by simp (disch := omega) only [exC, exOps, exOp, evE, evsE, putE, wantedE, Nat.reduceEqDiff, ↓reduceIte, ROp.run, same, binA, intA, strA, eqA, indexSA, byteA, unA, bounds3, Option.map_some, Option.map_none, dec_true, dec_false, Int.toNat_natCast, Int.natCast_nonneg, beq_self_eq_true, List.append_nil, beq_iff_eq, reduceCtorEq, List.getD_cons_zero, List.getD_cons_succ, loadA, rowA, pickA, bslA, storeA_eq, decide_true, flatA, List.length_cons, List.length_nil, Nat.reduceAdd, List.flatMap_cons, List.flatMap_nil, BEq.rfl, List.cons_append, List.nil_append, if_pos, if_neg, ordered, List.getElem?_cons_zero, List.getElem?_cons_succ, frzL, nidL, frz_func, frz_agg, frz_tup, frz_iface, fresh_func, fresh_agg, fresh_tup, fresh_iface, frz_ptr, frz_sl, fresh_sl, Cls.isFree, Cls.makes, callCls, chain, cond_true, tz, ty, faddrA, allocA, over, List.take_succ_cons, List.take_zero, List.drop_succ_cons, List.drop_zero, List.drop_nil, List.set_cons_zero, List.set_cons_succ, Nat.reduceLeDiff, and_self, iaddr_sl1, e3, e4, ↓hld, wrap_u8, hw, ↓hst]; rfl) ?_
          refine ⟨?_, ?_, rfl⟩
          · simp only [upd_app, Nat.reduceEqDiff, ↓reduceIte, e3]
          · simp only [upd_app, Nat.reduceEqDiff, ↓reduceIte]; rfl
        · refine vcE.ex (by simp (disch := omega) only [exC, exOps, exOp, evE, evsE, putE, wantedE, Nat.reduceEqDiff, ↓reduceIte, ROp.run, same, binA, intA, strA, eqA, indexSA, byteA, unA, bounds3, Option.map_some, Option.map_none, dec_true, dec_false, Int.toNat_natCast, Int.natCast_nonneg, beq_self_eq_true, List.append_nil, beq_iff_eq, reduceCtorEq, List.getD_cons_zero, List.getD_cons_succ, loadA, rowA, pickA, bslA, storeA_eq, decide_true, flatA, List.length_cons, List.length_nil, Nat.reduceAdd, List.flatMap_cons, List.flatMap_nil, BEq.rfl, List.cons_append, List.nil_append, if_pos, if_neg, ordered, List.getElem?_cons_zero, List.getElem?_cons_succ, frzL, nidL, frz_func, frz_agg, frz_tup, frz_iface, fresh_func, fresh_agg, fresh_tup, fresh_iface, frz_ptr, frz_sl, fresh_sl, Cls.isFree, Cls.makes, callCls, chain, cond_true, tz, ty, faddrA, allocA, over, List.take_succ_cons, List.take_zero, List.drop_succ_cons, List.drop_zero, List.drop_nil, List.set_cons_zero, List.set_cons_succ, Nat.reduceLeDiff, and_self, iaddr_sl1, e3, e4, ↓hld]; rfl) ?_
          refine ⟨?_, ?_, hsame (foldB_lo (by omega))⟩
          · simp only [upd_app, Nat.reduceEqDiff, ↓reduceIte, e3]
          · simp only [upd_app, Nat.reduceEqDiff, ↓reduceIte]; rfl
      · refine vcE.ex (by simp (disch := omega) only [exC, exOps, exOp, evE, evsE, putE, wantedE, Nat.reduceEqDiff, ↓reduceIte, ROp.run, same, binA, intA, strA, eqA, indexSA, byteA, unA, bounds3, Option.map_some, Option.map_none, dec_true, dec_false, Int.toNat_natCast, Int.natCast_nonneg, beq_self_eq_true, List.append_nil, beq_iff_eq, reduceCtorEq, List.getD_cons_zero, List.getD_cons_succ, loadA, rowA, pickA, bslA, storeA_eq, decide_true, flatA, List.length_cons, List.length_nil, Nat.reduceAdd, List.flatMap_cons, List.flatMap_nil, BEq.rfl, List.cons_append, List.nil_append, if_pos, if_neg, ordered, List.getElem?_cons_zero, List.getElem?_cons_succ, frzL, nidL, frz_func, frz_agg, frz_tup, frz_iface, fresh_func, fresh_agg, fresh_tup, fresh_iface, frz_ptr, frz_sl, fresh_sl, Cls.isFree, Cls.makes, callCls, chain, cond_true, tz, ty, faddrA, allocA, over, List.take_succ_cons, List.take_zero, List.drop_succ_cons, List.drop_zero, List.drop_nil, List.set_cons_zero, List.set_cons_succ, Nat.reduceLeDiff, and_self, iaddr_sl1, e3, e4, ↓hld]; rfl) ?_
        refine ⟨?_, ?_, hsame (foldB_lo (by omega))⟩
        · simp only [upd_app, Nat.reduceEqDiff, ↓reduceIte, e3]
        · simp only [upd_app, Nat.reduceEqDiff, ↓reduceIte]; rfl
    · rintro tm hp ⟨e3, e4, rfl⟩
      refine vcE.ex (by simp (disch := omega) only [exC, exOps, exOp, evE, evsE, putE, wantedE, Nat.reduceEqDiff, ↓reduceIte, ROp.run, same, binA, intA, strA, eqA, indexSA, byteA, unA, bounds3, Option.map_some, Option.map_none, dec_true, dec_false, Int.toNat_natCast, Int.natCast_nonneg, beq_self_eq_true, List.append_nil, beq_iff_eq, reduceCtorEq, List.getD_cons_zero, List.getD_cons_succ, loadA, rowA, pickA, bslA, storeA_eq, decide_true, flatA, List.length_cons, List.length_nil, Nat.reduceAdd, List.flatMap_cons, List.flatMap_nil, BEq.rfl, List.cons_append, List.nil_append, if_pos, if_neg, ordered, List.getElem?_cons_zero, List.getElem?_cons_succ, frzL, nidL, frz_func, frz_agg, frz_tup, frz_iface, fresh_func, fresh_agg, fresh_tup, fresh_iface, frz_ptr, frz_sl, fresh_sl, Cls.isFree, Cls.makes, callCls, chain, cond_true, tz, ty, e3, e4]; rfl) ?_
      refine ⟨rfl, ?_, ?_⟩
      · simp only [upd_app, Nat.reduceEqDiff, ↓reduceIte, e3]
      · rw [doneTo_all]
  · rintro e tm hp ⟨rfl, h3, rfl⟩
    have hs := encB.sl_src (hp := [some (.row 5 (encB.cs (s.map foldB)))]) (id := 0) (e := 5) (l := s.map foldB) (lo := s.length) (ex := false) rfl
    rw [List.length_map] at hs
    have hb : b2sA [some (.row 5 (encB.cs (s.map foldB)))] (.sl 0 0 s.length 1 s.length false) = some (.str (s.map foldB)) := by
      unfold b2sA
      rw [show (1 : Nat) = encB.sz from rfl, hs]
      simp only [unbyte_encB, Option.map_some]
    refine vcE.ex (by simp only [exC, exOps, exOp, evE, evsE, putE, wantedE, Nat.reduceEqDiff, ↓reduceIte, ROp.run, same, binA, intA, strA, eqA, indexSA, byteA, unA, bounds3, Option.map_some, Option.map_none, dec_true, dec_false, Int.toNat_natCast, Int.natCast_nonneg, beq_self_eq_true, List.append_nil, beq_iff_eq, reduceCtorEq, List.getD_cons_zero, List.getD_cons_succ, loadA, rowA, pickA, bslA, storeA_eq, decide_true, flatA, List.length_cons, List.length_nil, Nat.reduceAdd, List.flatMap_cons, List.flatMap_nil, BEq.rfl, List.cons_append, List.nil_append, if_pos, if_neg, ordered, List.getElem?_cons_zero, List.getElem?_cons_succ, frzL, nidL, frz_func, frz_agg, frz_tup, frz_iface, fresh_func, fresh_agg, fresh_tup, fresh_iface, frz_ptr, frz_sl, fresh_sl, Cls.isFree, Cls.makes, callCls, chain, cond_true, tz, ty, h3, hb]; rfl) ?_
    exact ⟨_, rfl, rfl⟩

instance (c : UInt8) : Decidable (wildB c) := inferInstanceAs (Decidable (_ ∨ _))
theorem rWild (c : UInt8) : PCF Tryd.prog 27 [.int .u8 c.toNat] (.bool (decide (wildB c))) := by
  refine pcf_e hmG (TabOk.none _) comp27 (by decide) (by simp) (nidL_ok rfl) ?_
  have h : ∀ n : Nat, n < 256 → (c = UInt8.ofNat n ↔ (c.toNat : Int) = n) := fun n hn => u8_eq hn
  have e42 := h 42 (by omega)
  have e63 := h 63 (by omega)
  by_cases h42 : c.toNat = 42
  · have : c = 42 := UInt8.toNat_inj.1 h42
    refine vcE.ex (by simp (disch := omega) only [exC, exOps, exOp, evE, evsE, putE, wantedE, Nat.reduceEqDiff, ↓reduceIte, ROp.run, same, binA, intA, strA, eqA, indexSA, byteA, unA, bounds3, Option.map_some, Option.map_none, dec_true, dec_false, Int.toNat_natCast, Int.natCast_nonneg, beq_self_eq_true, List.append_nil, beq_iff_eq, reduceCtorEq, List.getD_cons_zero, List.getD_cons_succ, loadA, rowA, pickA, bslA, storeA_eq, decide_true, flatA, List.length_cons, List.length_nil, Nat.reduceAdd, List.flatMap_cons, List.flatMap_nil, BEq.rfl, List.cons_append, List.nil_append, if_pos, if_neg, ordered, List.getElem?_cons_zero, List.getElem?_cons_succ, frzL, nidL, frz_func, frz_agg, frz_tup, frz_iface, fresh_func, fresh_agg, fresh_tup, fresh_iface, frz_ptr, frz_sl, fresh_sl, Cls.isFree, Cls.makes, callCls, chain, cond_true, tz, ty, h42]; rfl) ?_
    refine ⟨_, rfl, ?_⟩
    simp [wildB, this]
    rfl
  · have h1 : c ≠ 42 := fun e => h42 (by rw [e]; rfl)
    by_cases h63 : c.toNat = 63
    · have : c = 63 := UInt8.toNat_inj.1 h63
      refine vcE.ex (by simp (disch := omega) only [exC, exOps, exOp, evE, evsE, putE, wantedE, Nat.reduceEqDiff, ↓reduceIte, ROp.run, same, binA, intA, strA, eqA, indexSA, byteA, unA, bounds3, Option.map_some, Option.map_none, dec_true, dec_false, Int.toNat_natCast, Int.natCast_nonneg, beq_self_eq_true, List.append_nil, beq_iff_eq, reduceCtorEq, List.getD_cons_zero, List.getD_cons_succ, loadA, rowA, pickA, bslA, storeA_eq, decide_true, flatA, List.length_cons, List.length_nil, Nat.reduceAdd, List.flatMap_cons, List.flatMap_nil, BEq.rfl, List.cons_append, List.nil_append, if_pos, if_neg, ordered, List.getElem?_cons_zero, List.getElem?_cons_succ, frzL, nidL, frz_func, frz_agg, frz_tup, frz_iface, fresh_func, fresh_agg, fresh_tup, fresh_iface, frz_ptr, frz_sl, fresh_sl, Cls.isFree, Cls.makes, callCls, chain, cond_true, tz, ty, h63]; rfl) ?_
      refine ⟨_, rfl, ?_⟩
      simp [wildB, this]
      rfl
    · have h2 : c ≠ 63 := fun e => h63 (by rw [e]; rfl)
      refine vcE.ex (by simp (disch := omega) only [exC, exOps, exOp, evE, evsE, putE, wantedE, Nat.reduceEqDiff, ↓reduceIte, ROp.run, same, binA, intA, strA, eqA, indexSA, byteA, unA, bounds3, Option.map_some, Option.map_none, dec_true, dec_false, Int.toNat_natCast, Int.natCast_nonneg, beq_self_eq_true, List.append_nil, beq_iff_eq, reduceCtorEq, List.getD_cons_zero, List.getD_cons_succ, loadA, rowA, pickA, bslA, storeA_eq, decide_true, flatA, List.length_cons, List.length_nil, Nat.reduceAdd, List.flatMap_cons, List.flatMap_nil, BEq.rfl, List.cons_append, List.nil_append, if_pos, if_neg, ordered, List.getElem?_cons_zero, List.getElem?_cons_succ, frzL, nidL, frz_func, frz_agg, frz_tup, frz_iface, fresh_func, fresh_agg, fresh_tup, fresh_iface, frz_ptr, frz_sl, fresh_sl, Cls.isFree, Cls.makes, callCls, chain, cond_true, tz, ty]; rfl) ?_
      refine ⟨_, rfl, ?_⟩
      simp [wildB, h1, h2]
      rfl

def J0 : Tab := (Tab.none.addR 27 (.cons .u8 .nil) fun p => .rd true (.bool (decide (wildB p.1)))).addO 19 (.cons .str .nil) fun p => if p.1.length ≤ 1000000 then some (.rd true (.str (p.1.map foldB))) else none
theorem J0_ok : TabOk Tryd.prog J0 := by
  refine TabOk.addO (TabOk.addR (TabOk.none _) ?_) ?_
  · exact fun p => rWild p.1
  · intro p r h
    split at h
    · rename_i hv
      cases h
      exact rFold p.1 (by omega)
    · cases h
theorem J0_wild (c : UInt8) : J0 27 [.int .u8 c.toNat] = some (.rd true (.bool (decide (wildB c)))) := by
  rw [J0, Tab.addO_ne _ _ _ _ rfl]
  exact Tab.addR_self _ _ (.cons .u8 .nil) _ (c, ())
theorem J0_fold (s : List UInt8) (h : s.length ≤ 1000000) : J0 19 [.str s] = some (.rd true (.str (s.map foldB))) := by
  refine (Tab.addO_self _ _ (.cons .str .nil) _ (s, ())).trans ?_
  rw [if_pos h]

/-- outlawref07.Norm at a place. -/
def RNI (p : List UInt8) (i : Nat) (tm : Env) (hp : HP) : Prop :=
  ∃ id O b, tm 0 = .str p ∧ tm 3 = bld id O.length 1 ∧ tm 4 = .bool b ∧ tm 5 = .int .i64 i ∧ BldAt encB hp id 5 O ∧ O ++ normS b (p.drop i) = normB p ∧ i ≤ p.length

theorem rNorm_star {hp : HP} {id : Nat} {O : List UInt8} (hb : BldAt encB hp id 5 O) (hO : O.length ≤ 1000000) : ∃ id' hp', appA 5 1 1 (hp ++ [some (.row 5 [.int .u8 42])]) (bld id O.length 1) (.sl hp.length 0 1 1 1 true) = some (bld id' (O ++ [42]).length 1, hp') ∧ BldAt encB hp' id' 5 (O ++ [42]) := by
  obtain ⟨id', hp', h1, h2⟩ := (hb.app [some (.row 5 [.int .u8 (42 : UInt8).toNat])]).any (bytes := 1) (m := [42]) (src_one (ex := true)) (by simp; omega) (by simp; omega)
  exact ⟨id', hp', h1, h2⟩

theorem rNorm (p : List UInt8) (hl : p.length ≤ 300) : PCF Tryd.prog 17 [.str p] (.str (normB p)) := by
  refine pcf_e hmG J0_ok comp17 (by decide) (by simp) (nidL_ok rfl) ?_
  refine vcE.step (by simp only [exC, exOps, exOp, evE, evsE, putE, wantedE, Nat.reduceEqDiff, ↓reduceIte, ROp.run, same, binA, intA, strA, eqA, indexSA, byteA, unA, bounds3, Option.map_some, Option.map_none, dec_true, dec_false, Int.toNat_natCast, Int.natCast_nonneg, beq_self_eq_true, List.append_nil, beq_iff_eq, reduceCtorEq, List.getD_cons_zero, List.getD_cons_succ, loadA, rowA, pickA, bslA, storeA_eq, decide_true, flatA, List.length_cons, List.length_nil, Nat.reduceAdd, List.flatMap_cons, List.flatMap_nil, BEq.rfl, List.cons_append, List.nil_append, if_pos, if_neg, ordered, List.getElem?_cons_zero, List.getElem?_cons_succ, frzL, nidL, frz_func, frz_agg, frz_tup, frz_iface, fresh_func, fresh_agg, fresh_tup, fresh_iface, frz_ptr, frz_sl, fresh_sl, Cls.isFree, Cls.makes, callCls, chain, cond_true, tz, ty]; rfl) (vcE.step (by simp only [exC, exOps, exOp, evE, evsE, putE, wantedE, Nat.reduceEqDiff, ↓reduceIte, ROp.run, same, binA, intA, strA, eqA, indexSA, byteA, unA, bounds3, Option.map_some, Option.map_none, dec_true, dec_false, Int.toNat_natCast, Int.natCast_nonneg, beq_self_eq_true, List.append_nil, beq_iff_eq, reduceCtorEq, List.getD_cons_zero, List.getD_cons_succ, loadA, rowA, pickA, bslA, storeA_eq, decide_true, flatA, List.length_cons, List.length_nil, Nat.reduceAdd, List.flatMap_cons, List.flatMap_nil, BEq.rfl, List.cons_append, List.nil_append, if_pos, if_neg, ordered, List.getElem?_cons_zero, List.getElem?_cons_succ, frzL, nidL, frz_func, frz_agg, frz_tup, frz_iface, fresh_func, fresh_agg, fresh_tup, fresh_iface, frz_ptr, frz_sl, fresh_sl, Cls.isFree, Cls.makes, callCls, chain, cond_true, tz, ty]; rfl) (vcE.step (by simp only [exC, exOps, exOp, evE, evsE, putE, wantedE, Nat.reduceEqDiff, ↓reduceIte, ROp.run, same, binA, intA, strA, eqA, indexSA, byteA, unA, bounds3, Option.map_some, Option.map_none, dec_true, dec_false, Int.toNat_natCast, Int.natCast_nonneg, beq_self_eq_true, List.append_nil, beq_iff_eq, reduceCtorEq, List.getD_cons_zero, List.getD_cons_succ, loadA, rowA, pickA, bslA, storeA_eq, decide_true, flatA, List.length_cons, List.length_nil, Nat.reduceAdd, List.flatMap_cons, List.flatMap_nil, BEq.rfl, List.cons_append, List.nil_append, if_pos, if_neg, ordered, List.getElem?_cons_zero, List.getElem?_cons_succ, frzL, nidL, frz_func, frz_agg, frz_tup, frz_iface, fresh_func, fresh_agg, fresh_tup, fresh_iface, frz_ptr, frz_sl, fresh_sl, Cls.isFree, Cls.makes, callCls, chain, cond_true, tz, ty]; rfl) (vcE.then (fun e tm hp => e = .normal ∧ ∃ id, tm 3 = bld id (normB p).length 1 ∧ BldAt encB hp id 5 (normB p)) ?_ ?_)))
  · refine vcE.step (by simp only [exC, exOps, exOp, evE, evsE, putE, wantedE, Nat.reduceEqDiff, ↓reduceIte, ROp.run, same, binA, intA, strA, eqA, indexSA, byteA, unA, bounds3, Option.map_some, Option.map_none, dec_true, dec_false, Int.toNat_natCast, Int.natCast_nonneg, beq_self_eq_true, List.append_nil, beq_iff_eq, reduceCtorEq, List.getD_cons_zero, List.getD_cons_succ, loadA, rowA, pickA, bslA, storeA_eq, decide_true, flatA, List.length_cons, List.length_nil, Nat.reduceAdd, List.flatMap_cons, List.flatMap_nil, BEq.rfl, List.cons_append, List.nil_append, if_pos, if_neg, ordered, List.getElem?_cons_zero, List.getElem?_cons_succ, frzL, nidL, frz_func, frz_agg, frz_tup, frz_iface, fresh_func, fresh_agg, fresh_tup, fresh_iface, frz_ptr, frz_sl, fresh_sl, Cls.isFree, Cls.makes, callCls, chain, cond_true, tz, ty]; rfl) (vcE.block (vcE.loop (by intro l tm hp h; simp at h) (fun m tm hp => ∃ i b id O, m = p.length + 1 - i ∧ tm 0 = .str p ∧ tm 3 = bld id O.length 1 ∧ tm 4 = .bool b ∧ tm 5 = .int .i64 i ∧ BldAt encB hp id 5 O ∧ i ≤ p.length + 1 ∧ (i ≤ p.length → O ++ normS b (p.drop i) = normB p) ∧ (i = p.length + 1 → O = normB p)) (p.length + 1) ⟨0, false, 0, [], rfl, rfl, rfl, rfl, rfl, BldAt.nil _ _ _ _, by omega, fun _ => rfl, fun h => by omega⟩ ?_))
    rintro m tm hp ⟨i, b, id, O, rfl, e0, e3, e4, e5, hb, hip, hO0, hE⟩
    by_cases hi : i ≤ p.length
    · have hO := hO0 hi
      clear hO0
      have hOl : O.length ≤ 300 := by
        have := congrArg List.length hO
        have := normB_len p
        simp only [List.length_append] at *
        omega
      refine vcE.step (by simp (disch := omega) only [exC, exOps, exOp, evE, evsE, putE, wantedE, Nat.reduceEqDiff, ↓reduceIte, ROp.run, same, binA, intA, strA, eqA, indexSA, byteA, unA, bounds3, Option.map_some, Option.map_none, dec_true, dec_false, Int.toNat_natCast, Int.natCast_nonneg, beq_self_eq_true, List.append_nil, beq_iff_eq, reduceCtorEq, List.getD_cons_zero, List.getD_cons_succ, loadA, rowA, pickA, bslA, storeA_eq, decide_true, flatA, List.length_cons, List.length_nil, Nat.reduceAdd, List.flatMap_cons, List.flatMap_nil, BEq.rfl, List.cons_append, List.nil_append, if_pos, if_neg, ordered, List.getElem?_cons_zero, List.getElem?_cons_succ, frzL, nidL, frz_func, frz_agg, frz_tup, frz_iface, fresh_func, fresh_agg, fresh_tup, fresh_iface, frz_ptr, frz_sl, fresh_sl, Cls.isFree, Cls.makes, callCls, chain, cond_true, tz, ty, e0, e5]; rfl) (vcE.seq ?_)
      -- whether a star is due, then the byte
      by_cases hlt : i < p.length
      · obtain ⟨c, hc⟩ : ∃ c, p[i]? = some c := ⟨_, List.getElem?_eq_getElem hlt⟩
        rw [drop_at hc] at hO
        have hw := J0_wild c
        by_cases h42 : c = 42
        · subst h42
          have hw' : J0 27 [.int .u8 ((42 : UInt8).toNat : Int)] = some (.rd true (.bool true)) := hw
          simp only [normS, if_true] at hO
          have hn42 : ((42 : UInt8).toNat : Int) = 42 := rfl
          rw [hn42] at hw'
          cases b
          · refine vcE.block (vcE.ex (by simp (disch := omega) only [exC, exOps, exOp, evE, evsE, putE, wantedE, Nat.reduceEqDiff, ↓reduceIte, ROp.run, same, binA, intA, strA, eqA, indexSA, byteA, unA, bounds3, Option.map_some, Option.map_none, dec_true, dec_false, Int.toNat_natCast, Int.natCast_nonneg, beq_self_eq_true, List.append_nil, beq_iff_eq, reduceCtorEq, List.getD_cons_zero, List.getD_cons_succ, loadA, rowA, pickA, bslA, storeA_eq, decide_true, flatA, List.length_cons, List.length_nil, Nat.reduceAdd, List.flatMap_cons, List.flatMap_nil, BEq.rfl, List.cons_append, List.nil_append, if_pos, if_neg, ordered, List.getElem?_cons_zero, List.getElem?_cons_succ, frzL, nidL, frz_func, frz_agg, frz_tup, frz_iface, fresh_func, fresh_agg, fresh_tup, fresh_iface, frz_ptr, frz_sl, fresh_sl, Cls.isFree, Cls.makes, callCls, chain, cond_true, tz, ty, e0, e3, e4, e5, hc, hn42]; rfl) ?_)
            refine vcE.ex (by simp (disch := omega) only [exC, exOps, exOp, evE, evsE, putE, wantedE, Nat.reduceEqDiff, ↓reduceIte, ROp.run, same, binA, intA, strA, eqA, indexSA, byteA, unA, bounds3, Option.map_some, Option.map_none, dec_true, dec_false, Int.toNat_natCast, Int.natCast_nonneg, beq_self_eq_true, List.append_nil, beq_iff_eq, reduceCtorEq, List.getD_cons_zero, List.getD_cons_succ, loadA, rowA, pickA, bslA, storeA_eq, decide_true, flatA, List.length_cons, List.length_nil, Nat.reduceAdd, List.flatMap_cons, List.flatMap_nil, BEq.rfl, List.cons_append, List.nil_append, if_pos, if_neg, ordered, List.getElem?_cons_zero, List.getElem?_cons_succ, frzL, nidL, frz_func, frz_agg, frz_tup, frz_iface, fresh_func, fresh_agg, fresh_tup, fresh_iface, frz_ptr, frz_sl, fresh_sl, Cls.isFree, Cls.makes, callCls, chain, cond_true, tz, ty, e5]; rfl) ?_
            refine ⟨_, ?_, i + 1, true, id, O, rfl, ?_, ?_, ?_, ?_, hb, by omega, fun _ => hO, fun h => by omega⟩
            · omega
            all_goals simp only [upd_app, Nat.reduceEqDiff, ↓reduceIte, e0, e3]
            rfl
          · refine vcE.block (vcE.ex (by simp (disch := omega) only [exC, exOps, exOp, evE, evsE, putE, wantedE, Nat.reduceEqDiff, ↓reduceIte, ROp.run, same, binA, intA, strA, eqA, indexSA, byteA, unA, bounds3, Option.map_some, Option.map_none, dec_true, dec_false, Int.toNat_natCast, Int.natCast_nonneg, beq_self_eq_true, List.append_nil, beq_iff_eq, reduceCtorEq, List.getD_cons_zero, List.getD_cons_succ, loadA, rowA, pickA, bslA, storeA_eq, decide_true, flatA, List.length_cons, List.length_nil, Nat.reduceAdd, List.flatMap_cons, List.flatMap_nil, BEq.rfl, List.cons_append, List.nil_append, if_pos, if_neg, ordered, List.getElem?_cons_zero, List.getElem?_cons_succ, frzL, nidL, frz_func, frz_agg, frz_tup, frz_iface, fresh_func, fresh_agg, fresh_tup, fresh_iface, frz_ptr, frz_sl, fresh_sl, Cls.isFree, Cls.makes, callCls, chain, cond_true, tz, ty, e0, e3, e4, e5, hc, hn42, hw']; rfl) ?_)
            refine vcE.ex (by simp (disch := omega) only [exC, exOps, exOp, evE, evsE, putE, wantedE, Nat.reduceEqDiff, ↓reduceIte, ROp.run, same, binA, intA, strA, eqA, indexSA, byteA, unA, bounds3, Option.map_some, Option.map_none, dec_true, dec_false, Int.toNat_natCast, Int.natCast_nonneg, beq_self_eq_true, List.append_nil, beq_iff_eq, reduceCtorEq, List.getD_cons_zero, List.getD_cons_succ, loadA, rowA, pickA, bslA, storeA_eq, decide_true, flatA, List.length_cons, List.length_nil, Nat.reduceAdd, List.flatMap_cons, List.flatMap_nil, BEq.rfl, List.cons_append, List.nil_append, if_pos, if_neg, ordered, List.getElem?_cons_zero, List.getElem?_cons_succ, frzL, nidL, frz_func, frz_agg, frz_tup, frz_iface, fresh_func, fresh_agg, fresh_tup, fresh_iface, frz_ptr, frz_sl, fresh_sl, Cls.isFree, Cls.makes, callCls, chain, cond_true, tz, ty, e5]; rfl) ?_
            refine ⟨_, ?_, i + 1, true, id, O, rfl, ?_, ?_, ?_, ?_, hb, by omega, fun _ => hO, fun h => by omega⟩
            · omega
            all_goals simp only [upd_app, Nat.reduceEqDiff, ↓reduceIte, e0, e3]
            rfl
        · have hn42 : ¬ (c.toNat : Int) = 42 := fun h => h42 (u8_eqI.1 h)
          have happ := (hb.app [some (.row 5 [.int .u8 c.toNat])]).more (bytes := 1) (m := [c]) (src_one (ex := true)) (by simp) (by simp; omega) (by simp; omega)
          simp only [show encB.sz = 1 from rfl] at happ
          by_cases h63 : c = 63
          · have hw' : J0 27 [.int .u8 c.toNat] = some (.rd true (.bool true)) := by rw [hw]; simp [wildB, h63]
            have hO2 : (O ++ [c]) ++ normS b (p.drop (i + 1)) = normB p := by
              rw [← hO, h63]
              simp only [normS, if_neg (show ¬ (63 : UInt8) = 42 by decide), if_true, List.append_assoc, List.cons_append, List.nil_append]
            cases b
            · refine vcE.block (vcE.ex (by simp (disch := first | assumption | omega) only [exC, exOps, exOp, evE, evsE, putE, wantedE, Nat.reduceEqDiff, ↓reduceIte, ROp.run, same, binA, intA, strA, eqA, indexSA, byteA, unA, bounds3, Option.map_some, Option.map_none, dec_true, dec_false, Int.toNat_natCast, Int.natCast_nonneg, beq_self_eq_true, List.append_nil, beq_iff_eq, reduceCtorEq, List.getD_cons_zero, List.getD_cons_succ, loadA, rowA, pickA, bslA, storeA_eq, decide_true, flatA, List.length_cons, List.length_nil, Nat.reduceAdd, List.flatMap_cons, List.flatMap_nil, BEq.rfl, List.cons_append, List.nil_append, if_pos, if_neg, ordered, List.getElem?_cons_zero, List.getElem?_cons_succ, frzL, nidL, frz_func, frz_agg, frz_tup, frz_iface, fresh_func, fresh_agg, fresh_tup, fresh_iface, frz_ptr, frz_sl, fresh_sl, Cls.isFree, Cls.makes, callCls, chain, cond_true, tz, ty, e0, e3, e4, e5, hc, happ]; rfl) ?_)
              refine vcE.ex (by simp (disch := omega) only [exC, exOps, exOp, evE, evsE, putE, wantedE, Nat.reduceEqDiff, ↓reduceIte, ROp.run, same, binA, intA, strA, eqA, indexSA, byteA, unA, bounds3, Option.map_some, Option.map_none, dec_true, dec_false, Int.toNat_natCast, Int.natCast_nonneg, beq_self_eq_true, List.append_nil, beq_iff_eq, reduceCtorEq, List.getD_cons_zero, List.getD_cons_succ, loadA, rowA, pickA, bslA, storeA_eq, decide_true, flatA, List.length_cons, List.length_nil, Nat.reduceAdd, List.flatMap_cons, List.flatMap_nil, BEq.rfl, List.cons_append, List.nil_append, if_pos, if_neg, ordered, List.getElem?_cons_zero, List.getElem?_cons_succ, frzL, nidL, frz_func, frz_agg, frz_tup, frz_iface, fresh_func, fresh_agg, fresh_tup, fresh_iface, frz_ptr, frz_sl, fresh_sl, Cls.isFree, Cls.makes, callCls, chain, cond_true, tz, ty, e5]; rfl) ?_
              refine ⟨_, ?_, i + 1, false, _, O ++ [c], rfl, ?_, ?_, ?_, ?_, BldAt.moreAt encB _ _ _ _ _, by omega, fun _ => hO2, fun h => by omega⟩
              · omega
              all_goals simp only [upd_app, Nat.reduceEqDiff, ↓reduceIte, e0, e4]
              all_goals rfl
            · refine vcE.block (vcE.ex (by simp (disch := first | assumption | omega) only [exC, exOps, exOp, evE, evsE, putE, wantedE, Nat.reduceEqDiff, ↓reduceIte, ROp.run, same, binA, intA, strA, eqA, indexSA, byteA, unA, bounds3, Option.map_some, Option.map_none, dec_true, dec_false, Int.toNat_natCast, Int.natCast_nonneg, beq_self_eq_true, List.append_nil, beq_iff_eq, reduceCtorEq, List.getD_cons_zero, List.getD_cons_succ, loadA, rowA, pickA, bslA, storeA_eq, decide_true, flatA, List.length_cons, List.length_nil, Nat.reduceAdd, List.flatMap_cons, List.flatMap_nil, BEq.rfl, List.cons_append, List.nil_append, if_pos, if_neg, ordered, List.getElem?_cons_zero, List.getElem?_cons_succ, frzL, nidL, frz_func, frz_agg, frz_tup, frz_iface, fresh_func, fresh_agg, fresh_tup, fresh_iface, frz_ptr, frz_sl, fresh_sl, Cls.isFree, Cls.makes, callCls, chain, cond_true, tz, ty, e0, e3, e4, e5, hc, happ, hw']; rfl) ?_)
              refine vcE.ex (by simp (disch := omega) only [exC, exOps, exOp, evE, evsE, putE, wantedE, Nat.reduceEqDiff, ↓reduceIte, ROp.run, same, binA, intA, strA, eqA, indexSA, byteA, unA, bounds3, Option.map_some, Option.map_none, dec_true, dec_false, Int.toNat_natCast, Int.natCast_nonneg, beq_self_eq_true, List.append_nil, beq_iff_eq, reduceCtorEq, List.getD_cons_zero, List.getD_cons_succ, loadA, rowA, pickA, bslA, storeA_eq, decide_true, flatA, List.length_cons, List.length_nil, Nat.reduceAdd, List.flatMap_cons, List.flatMap_nil, BEq.rfl, List.cons_append, List.nil_append, if_pos, if_neg, ordered, List.getElem?_cons_zero, List.getElem?_cons_succ, frzL, nidL, frz_func, frz_agg, frz_tup, frz_iface, fresh_func, fresh_agg, fresh_tup, fresh_iface, frz_ptr, frz_sl, fresh_sl, Cls.isFree, Cls.makes, callCls, chain, cond_true, tz, ty, e5]; rfl) ?_
              refine ⟨_, ?_, i + 1, true, _, O ++ [c], rfl, ?_, ?_, ?_, ?_, BldAt.moreAt encB _ _ _ _ _, by omega, fun _ => hO2, fun h => by omega⟩
              · omega
              all_goals simp only [upd_app, Nat.reduceEqDiff, ↓reduceIte, e0, e4]
              all_goals rfl
          · have hw' : J0 27 [.int .u8 c.toNat] = some (.rd true (.bool false)) := by rw [hw]; simp [wildB, h63, h42]
            cases b
            · have hO2 : (O ++ [c]) ++ normS false (p.drop (i + 1)) = normB p := by
                rw [← hO, normS_plain h42 h63]
                simp
              refine vcE.block (vcE.ex (by simp (disch := first | assumption | omega) only [exC, exOps, exOp, evE, evsE, putE, wantedE, Nat.reduceEqDiff, ↓reduceIte, ROp.run, same, binA, intA, strA, eqA, indexSA, byteA, unA, bounds3, Option.map_some, Option.map_none, dec_true, dec_false, Int.toNat_natCast, Int.natCast_nonneg, beq_self_eq_true, List.append_nil, beq_iff_eq, reduceCtorEq, List.getD_cons_zero, List.getD_cons_succ, loadA, rowA, pickA, bslA, storeA_eq, decide_true, flatA, List.length_cons, List.length_nil, Nat.reduceAdd, List.flatMap_cons, List.flatMap_nil, BEq.rfl, List.cons_append, List.nil_append, if_pos, if_neg, ordered, List.getElem?_cons_zero, List.getElem?_cons_succ, frzL, nidL, frz_func, frz_agg, frz_tup, frz_iface, fresh_func, fresh_agg, fresh_tup, fresh_iface, frz_ptr, frz_sl, fresh_sl, Cls.isFree, Cls.makes, callCls, chain, cond_true, tz, ty, e0, e3, e4, e5, hc, happ]; rfl) ?_)
              refine vcE.ex (by simp (disch := omega) only [exC, exOps, exOp, evE, evsE, putE, wantedE, Nat.reduceEqDiff, ↓reduceIte, ROp.run, same, binA, intA, strA, eqA, indexSA, byteA, unA, bounds3, Option.map_some, Option.map_none, dec_true, dec_false, Int.toNat_natCast, Int.natCast_nonneg, beq_self_eq_true, List.append_nil, beq_iff_eq, reduceCtorEq, List.getD_cons_zero, List.getD_cons_succ, loadA, rowA, pickA, bslA, storeA_eq, decide_true, flatA, List.length_cons, List.length_nil, Nat.reduceAdd, List.flatMap_cons, List.flatMap_nil, BEq.rfl, List.cons_append, List.nil_append, if_pos, if_neg, ordered, List.getElem?_cons_zero, List.getElem?_cons_succ, frzL, nidL, frz_func, frz_agg, frz_tup, frz_iface, fresh_func, fresh_agg, fresh_tup, fresh_iface, frz_ptr, frz_sl, fresh_sl, Cls.isFree, Cls.makes, callCls, chain, cond_true, tz, ty, e5]; rfl) ?_
              refine ⟨_, ?_, i + 1, false, _, O ++ [c], rfl, ?_, ?_, ?_, ?_, BldAt.moreAt encB _ _ _ _ _, by omega, fun _ => hO2, fun h => by omega⟩
              · omega
              all_goals simp only [upd_app, Nat.reduceEqDiff, ↓reduceIte, e0, e4]
              all_goals rfl
            · obtain ⟨id1, hp1, a1, b1⟩ := rNorm_star hb (by omega)
              have a1l : (O ++ [42]).length ≤ 300 + 1 := by simp; omega
              have happ2 := (b1.app [some (.row 5 [.int .u8 c.toNat])]).more (bytes := 1) (m := [c]) (src_one (ex := true)) (by simp) (by simp; omega) (by simp; omega)
              simp only [show encB.sz = 1 from rfl] at happ2
              have hO2 : (O ++ [42] ++ [c]) ++ normS false (p.drop (i + 1)) = normB p := by
                rw [← hO, normS_plain h42 h63]
                simp
              refine vcE.block (vcE.ex (by simp (disch := first | assumption | omega) only [exC, exOps, exOp, evE, evsE, putE, wantedE, Nat.reduceEqDiff, ↓reduceIte, ROp.run, same, binA, intA, strA, eqA, indexSA, byteA, unA, bounds3, Option.map_some, Option.map_none, dec_true, dec_false, Int.toNat_natCast, Int.natCast_nonneg, beq_self_eq_true, List.append_nil, beq_iff_eq, reduceCtorEq, List.getD_cons_zero, List.getD_cons_succ, loadA, rowA, pickA, bslA, storeA_eq, decide_true, flatA, List.length_cons, List.length_nil, Nat.reduceAdd, List.flatMap_cons, List.flatMap_nil, BEq.rfl, List.cons_append, List.nil_append, if_pos, if_neg, ordered, List.getElem?_cons_zero, List.getElem?_cons_succ, frzL, nidL, frz_func, frz_agg, frz_tup, frz_iface, fresh_func, fresh_agg, fresh_tup, fresh_iface, frz_ptr, frz_sl, fresh_sl, Cls.isFree, Cls.makes, callCls, chain, cond_true, tz, ty, e0, e3, e4, e5, hc, a1, happ2, hw']; rfl) ?_)
              refine vcE.ex (by simp (disch := omega) only [exC, exOps, exOp, evE, evsE, putE, wantedE, Nat.reduceEqDiff, ↓reduceIte, ROp.run, same, binA, intA, strA, eqA, indexSA, byteA, unA, bounds3, Option.map_some, Option.map_none, dec_true, dec_false, Int.toNat_natCast, Int.natCast_nonneg, beq_self_eq_true, List.append_nil, beq_iff_eq, reduceCtorEq, List.getD_cons_zero, List.getD_cons_succ, loadA, rowA, pickA, bslA, storeA_eq, decide_true, flatA, List.length_cons, List.length_nil, Nat.reduceAdd, List.flatMap_cons, List.flatMap_nil, BEq.rfl, List.cons_append, List.nil_append, if_pos, if_neg, ordered, List.getElem?_cons_zero, List.getElem?_cons_succ, frzL, nidL, frz_func, frz_agg, frz_tup, frz_iface, fresh_func, fresh_agg, fresh_tup, fresh_iface, frz_ptr, frz_sl, fresh_sl, Cls.isFree, Cls.makes, callCls, chain, cond_true, tz, ty, e5]; rfl) ?_
              refine ⟨_, ?_, i + 1, false, _, O ++ [42] ++ [c], rfl, ?_, ?_, ?_, ?_, BldAt.moreAt encB _ _ _ _ _, by omega, fun _ => hO2, fun h => by omega⟩
              · omega
              all_goals simp only [upd_app, Nat.reduceEqDiff, ↓reduceIte, e0, e4]
              all_goals rfl
      · obtain rfl : i = p.length := by omega
        rw [List.drop_length] at hO
        cases b
        · simp only [normS, Bool.false_eq_true, if_false, List.append_nil] at hO
          refine vcE.block (vcE.ex (by simp (disch := first | assumption | omega) only [exC, exOps, exOp, evE, evsE, putE, wantedE, Nat.reduceEqDiff, ↓reduceIte, ROp.run, same, binA, intA, strA, eqA, indexSA, byteA, unA, bounds3, Option.map_some, Option.map_none, dec_true, dec_false, Int.toNat_natCast, Int.natCast_nonneg, beq_self_eq_true, List.append_nil, beq_iff_eq, reduceCtorEq, List.getD_cons_zero, List.getD_cons_succ, loadA, rowA, pickA, bslA, storeA_eq, decide_true, flatA, List.length_cons, List.length_nil, Nat.reduceAdd, List.flatMap_cons, List.flatMap_nil, BEq.rfl, List.cons_append, List.nil_append, if_pos, if_neg, ordered, List.getElem?_cons_zero, List.getElem?_cons_succ, frzL, nidL, frz_func, frz_agg, frz_tup, frz_iface, fresh_func, fresh_agg, fresh_tup, fresh_iface, frz_ptr, frz_sl, fresh_sl, Cls.isFree, Cls.makes, callCls, chain, cond_true, tz, ty, e0, e3, e4, e5]; rfl) ?_)
          refine vcE.ex (by simp (disch := omega) only [exC, exOps, exOp, evE, evsE, putE, wantedE, Nat.reduceEqDiff, ↓reduceIte, ROp.run, same, binA, intA, strA, eqA, indexSA, byteA, unA, bounds3, Option.map_some, Option.map_none, dec_true, dec_false, Int.toNat_natCast, Int.natCast_nonneg, beq_self_eq_true, List.append_nil, beq_iff_eq, reduceCtorEq, List.getD_cons_zero, List.getD_cons_succ, loadA, rowA, pickA, bslA, storeA_eq, decide_true, flatA, List.length_cons, List.length_nil, Nat.reduceAdd, List.flatMap_cons, List.flatMap_nil, BEq.rfl, List.cons_append, List.nil_append, if_pos, if_neg, ordered, List.getElem?_cons_zero, List.getElem?_cons_succ, frzL, nidL, frz_func, frz_agg, frz_tup, frz_iface, fresh_func, fresh_agg, fresh_tup, fresh_iface, frz_ptr, frz_sl, fresh_sl, Cls.isFree, Cls.makes, callCls, chain, cond_true, tz, ty, e5]; rfl) ?_
          refine ⟨_, ?_, p.length + 1, false, id, O, rfl, ?_, ?_, ?_, ?_, hb, by omega, fun h => by omega, fun _ => hO⟩
          · omega
          all_goals simp only [upd_app, Nat.reduceEqDiff, ↓reduceIte, e0, e3, e4]
          rfl
        · simp only [normS, if_true] at hO
          obtain ⟨id1, hp1, a1, b1⟩ := rNorm_star hb (by omega)
          refine vcE.block (vcE.ex (by simp (disch := first | assumption | omega) only [exC, exOps, exOp, evE, evsE, putE, wantedE, Nat.reduceEqDiff, ↓reduceIte, ROp.run, same, binA, intA, strA, eqA, indexSA, byteA, unA, bounds3, Option.map_some, Option.map_none, dec_true, dec_false, Int.toNat_natCast, Int.natCast_nonneg, beq_self_eq_true, List.append_nil, beq_iff_eq, reduceCtorEq, List.getD_cons_zero, List.getD_cons_succ, loadA, rowA, pickA, bslA, storeA_eq, decide_true, flatA, List.length_cons, List.length_nil, Nat.reduceAdd, List.flatMap_cons, List.flatMap_nil, BEq.rfl, List.cons_append, List.nil_append, if_pos, if_neg, ordered, List.getElem?_cons_zero, List.getElem?_cons_succ, frzL, nidL, frz_func, frz_agg, frz_tup, frz_iface, fresh_func, fresh_agg, fresh_tup, fresh_iface, frz_ptr, frz_sl, fresh_sl, Cls.isFree, Cls.makes, callCls, chain, cond_true, tz, ty, e0, e3, e4, e5, a1]; rfl) ?_)
          refine vcE.ex (by simp (disch := omega) only [exC, exOps, exOp, evE, evsE, putE, wantedE, Nat.reduceEqDiff, ↓reduceIte, ROp.run, same, binA, intA, strA, eqA, indexSA, byteA, unA, bounds3, Option.map_some, Option.map_none, dec_true, dec_false, Int.toNat_natCast, Int.natCast_nonneg, beq_self_eq_true, List.append_nil, beq_iff_eq, reduceCtorEq, List.getD_cons_zero, List.getD_cons_succ, loadA, rowA, pickA, bslA, storeA_eq, decide_true, flatA, List.length_cons, List.length_nil, Nat.reduceAdd, List.flatMap_cons, List.flatMap_nil, BEq.rfl, List.cons_append, List.nil_append, if_pos, if_neg, ordered, List.getElem?_cons_zero, List.getElem?_cons_succ, frzL, nidL, frz_func, frz_agg, frz_tup, frz_iface, fresh_func, fresh_agg, fresh_tup, fresh_iface, frz_ptr, frz_sl, fresh_sl, Cls.isFree, Cls.makes, callCls, chain, cond_true, tz, ty, e5]; rfl) ?_
          refine ⟨_, ?_, p.length + 1, false, id1, O ++ [42], rfl, ?_, ?_, ?_, ?_, b1, by omega, fun h => by omega, fun _ => hO⟩
          · omega
          all_goals simp only [upd_app, Nat.reduceEqDiff, ↓reduceIte, e0]
          rfl
    · obtain rfl : i = p.length + 1 := by omega
      have := hE rfl
      subst this
      refine vcE.ex (by simp (disch := omega) only [exC, exOps, exOp, evE, evsE, putE, wantedE, Nat.reduceEqDiff, ↓reduceIte, ROp.run, same, binA, intA, strA, eqA, indexSA, byteA, unA, bounds3, Option.map_some, Option.map_none, dec_true, dec_false, Int.toNat_natCast, Int.natCast_nonneg, beq_self_eq_true, List.append_nil, beq_iff_eq, reduceCtorEq, List.getD_cons_zero, List.getD_cons_succ, loadA, rowA, pickA, bslA, storeA_eq, decide_true, flatA, List.length_cons, List.length_nil, Nat.reduceAdd, List.flatMap_cons, List.flatMap_nil, BEq.rfl, List.cons_append, List.nil_append, if_pos, if_neg, ordered, List.getElem?_cons_zero, List.getElem?_cons_succ, frzL, nidL, frz_func, frz_agg, frz_tup, frz_iface, fresh_func, fresh_agg, fresh_tup, fresh_iface, frz_ptr, frz_sl, fresh_sl, Cls.isFree, Cls.makes, callCls, chain, cond_true, tz, ty, e0, e5]; rfl) ?_
      refine ⟨rfl, id, ?_, hb⟩
      simp only [upd_app, Nat.reduceEqDiff, ↓reduceIte, e3]
  · rintro e tm hp ⟨rfl, id, h3, hb⟩
    have hs := hb.src
    have hb2 : b2sA hp (bld id (normB p).length 1) = some (.str (normB p)) := by
      unfold b2sA
      rw [show (1 : Nat) = encB.sz from rfl, hs]
      simp only [unbyte_encB, Option.map_some]
      by_cases h0 : (normB p).length = 0
      · rw [h0]; rfl
      · rw [bld_pos (by omega)]
    refine vcE.ex (by simp only [exC, exOps, exOp, evE, evsE, putE, wantedE, Nat.reduceEqDiff, ↓reduceIte, ROp.run, same, binA, intA, strA, eqA, indexSA, byteA, unA, bounds3, Option.map_some, Option.map_none, dec_true, dec_false, Int.toNat_natCast, Int.natCast_nonneg, beq_self_eq_true, List.append_nil, beq_iff_eq, reduceCtorEq, List.getD_cons_zero, List.getD_cons_succ, loadA, rowA, pickA, bslA, storeA_eq, decide_true, flatA, List.length_cons, List.length_nil, Nat.reduceAdd, List.flatMap_cons, List.flatMap_nil, BEq.rfl, List.cons_append, List.nil_append, if_pos, if_neg, ordered, List.getElem?_cons_zero, List.getElem?_cons_succ, frzL, nidL, frz_func, frz_agg, frz_tup, frz_iface, fresh_func, fresh_agg, fresh_tup, fresh_iface, frz_ptr, frz_sl, fresh_sl, Cls.isFree, Cls.makes, callCls, chain, cond_true, tz, ty, h3, hb2]; rfl) ?_
    exact ⟨_, rfl, rfl⟩

end Go.Gi
