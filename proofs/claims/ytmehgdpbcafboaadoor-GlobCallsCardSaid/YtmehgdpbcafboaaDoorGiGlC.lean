/- bytes.Count of one byte; glob.Norm: what they give. -/
import Derived.Test.YtmehgdpbcafboaaDoorGiGlB
import Derived.Test.YtmehgdpbcafboaaDoorGiGlR
import Derived.Test.YtmehgdpbcafboaaDoorGiGlobNL
set_option linter.unusedVariables false
set_option linter.unusedSimpArgs false
namespace Go.Gi
set_option linter.unusedSectionVars false
variable [Mx]
open Go Go.Proofs

theorem countB_eq (c : UInt8) : ∀ (bs : List UInt8) (n : Int), bs.foldl (fun (n : Int) x => if x == c then n + 1 else n) n = n + bs.count c
  | [], n => by simp
  | b :: bs, n => by
    rw [List.foldl_cons, countB_eq c bs, List.count_cons]
    by_cases h : b = c
    · subst h; simp; omega
    · simp [h]
theorem ext_count {s : List UInt8} {c : UInt8} {hp : HP} {x : AV} {n : Nat} (hx : srcA hp 1 x = some (encB.cs s, n)) : AExt Tryd.prog 29 [x, .int .u8 c.toNat] hp fun r hp' => r = .int .i64 (s.count c) ∧ hp' = hp := by
  have hc : countE hp [x, .int .u8 c.toNat] = some (.int .i64 (s.count c), hp, hp.length) := by
    simp only [countE, hx, unbyte_encB]
    rw [show (c.toNat : Int).toNat.toUInt8 = c by simp, countB, countB_eq]
    simp
  exact (count_ext (fn := Tryd.f29) (by kernel_rfl) (by kernel_rfl) (by kernel_rfl) (by kernel_rfl) (by kernel_rfl) hc).1

theorem pCount (s : List UInt8) (c : UInt8) : PCF Tryd.prog 21 [encB.S s, .fsl [.int .u8 c.toNat] 1] (.int .i64 (s.count c)) := by
  refine pcf_e hmG (TabOk.none _) comp21 (by decide) (by simp) (nidL_ok (by simp only [nidL, Enc.S_nid]; rfl)) ?_
  repeat' (first | refine vcE.seq ?_ | refine vcE.block ?_ | (refine vcE.condTrue ?_ ?_; first | rfl | (simp (disch := first | assumption | omega) only [exC, exOps, exOp, evE, evsE, putE, wantedE, Nat.reduceEqDiff, ↓reduceIte, ROp.run, same, binA, intA, strA, eqA, indexSA, byteA, unA, bounds3, Option.map_some, Option.map_none, dec_true, dec_false, Int.toNat_natCast, Int.natCast_nonneg, beq_self_eq_true, List.append_nil, beq_iff_eq, reduceCtorEq, List.getD_cons_zero, List.getD_cons_succ, loadA, rowA, pickA, bslA, storeA_eq, decide_true, flatA, List.length_cons, List.length_nil, Nat.reduceAdd, List.flatMap_cons, List.flatMap_nil, BEq.rfl, List.cons_append, List.nil_append, if_pos, if_neg, ordered, List.getElem?_cons_zero, List.getElem?_cons_succ, frzL, nidL, frz_func, frz_agg, frz_tup, frz_iface, fresh_func, fresh_agg, fresh_tup, fresh_iface, frz_ptr, frz_sl, fresh_sl, Cls.isFree, Cls.makes, callCls, chain, cond_true, tz, ty, faddrA, allocA, over, List.take_succ_cons, List.take_zero, List.drop_succ_cons, List.drop_zero, List.drop_nil, List.set_cons_zero, List.set_cons_succ, Nat.reduceLeDiff, and_self] <;> rfl)) | (refine vcE.condFalse ?_ ?_; first | rfl | (simp (disch := first | assumption | omega) only [exC, exOps, exOp, evE, evsE, putE, wantedE, Nat.reduceEqDiff, ↓reduceIte, ROp.run, same, binA, intA, strA, eqA, indexSA, byteA, unA, bounds3, Option.map_some, Option.map_none, dec_true, dec_false, Int.toNat_natCast, Int.natCast_nonneg, beq_self_eq_true, List.append_nil, beq_iff_eq, reduceCtorEq, List.getD_cons_zero, List.getD_cons_succ, loadA, rowA, pickA, bslA, storeA_eq, decide_true, flatA, List.length_cons, List.length_nil, Nat.reduceAdd, List.flatMap_cons, List.flatMap_nil, BEq.rfl, List.cons_append, List.nil_append, if_pos, if_neg, ordered, List.getElem?_cons_zero, List.getElem?_cons_succ, frzL, nidL, frz_func, frz_agg, frz_tup, frz_iface, fresh_func, fresh_agg, fresh_tup, fresh_iface, frz_ptr, frz_sl, fresh_sl, Cls.isFree, Cls.makes, callCls, chain, cond_true, tz, ty, faddrA, allocA, over, List.take_succ_cons, List.take_zero, List.drop_succ_cons, List.drop_zero, List.drop_nil, List.set_cons_zero, List.set_cons_succ, Nat.reduceLeDiff, and_self] <;> rfl)) | (refine vcE.condND _ rfl (fun hc => ?_) (fun hc => ?_) <;> try (exfalso; first | omega | contradiction)) | (refine vcE.condD _ rfl (fun hc => ?_) (fun hc => ?_) <;> try (exfalso; first | omega | contradiction)) | (refine vcE.condNB _ rfl (fun hc => ?_) (fun hc => ?_) <;> try (exfalso; first | omega | contradiction)) | (refine vcE.condB _ rfl (fun hc => ?_) (fun hc => ?_) <;> try (exfalso; first | omega | contradiction)) | (apply vcE.ex; (simp (disch := first | assumption | omega) only [exC, exOps, exOp, evE, evsE, putE, wantedE, Nat.reduceEqDiff, ↓reduceIte, ROp.run, same, binA, intA, strA, eqA, indexSA, byteA, unA, bounds3, Option.map_some, Option.map_none, dec_true, dec_false, Int.toNat_natCast, Int.natCast_nonneg, beq_self_eq_true, List.append_nil, beq_iff_eq, reduceCtorEq, List.getD_cons_zero, List.getD_cons_succ, loadA, rowA, pickA, bslA, storeA_eq, decide_true, flatA, List.length_cons, List.length_nil, Nat.reduceAdd, List.flatMap_cons, List.flatMap_nil, BEq.rfl, List.cons_append, List.nil_append, if_pos, if_neg, ordered, List.getElem?_cons_zero, List.getElem?_cons_succ, frzL, nidL, frz_func, frz_agg, frz_tup, frz_iface, fresh_func, fresh_agg, fresh_tup, fresh_iface, frz_ptr, frz_sl, fresh_sl, Cls.isFree, Cls.makes, callCls, chain, cond_true, tz, ty, faddrA, allocA, over, List.take_succ_cons, List.take_zero, List.drop_succ_cons, List.drop_zero, List.drop_nil, List.set_cons_zero, List.set_cons_succ, Nat.reduceLeDiff, and_self] <;> rfl)) | fail)
  rw [show r21_4 = r21_4.take 4 ++ ((r21_4.drop 4).take 1 ++ r21_4.drop 5) from rfl]
  refine vcE.app (vcE.ex (by simp (disch := omega) only [exC, exOps, exOp, evE, evsE, putE, wantedE, Nat.reduceEqDiff, ↓reduceIte, ROp.run, same, binA, intA, strA, eqA, indexSA, byteA, unA, bounds3, Option.map_some, Option.map_none, dec_true, dec_false, Int.toNat_natCast, Int.natCast_nonneg, beq_self_eq_true, List.append_nil, beq_iff_eq, reduceCtorEq, List.getD_cons_zero, List.getD_cons_succ, loadA, rowA, pickA, bslA, storeA_eq, decide_true, flatA, List.length_cons, List.length_nil, Nat.reduceAdd, List.flatMap_cons, List.flatMap_nil, BEq.rfl, List.cons_append, List.nil_append, if_pos, if_neg, ordered, List.getElem?_cons_zero, List.getElem?_cons_succ, frzL, nidL, frz_func, frz_agg, frz_tup, frz_iface, fresh_func, fresh_agg, fresh_tup, fresh_iface, frz_ptr, frz_sl, fresh_sl, Cls.isFree, Cls.makes, callCls, chain, cond_true, tz, ty, faddrA, allocA, over, List.take_succ_cons, List.take_zero, List.drop_succ_cons, List.drop_zero, List.drop_nil, List.set_cons_zero, List.set_cons_succ, Nat.reduceLeDiff, and_self, iaddrA, List.take]; rfl) ⟨rfl, vcE.app (vcE.ext (f := 29) (caps := []) (ys := [encB.S s, .int .u8 c.toNat]) rfl rfl (ext_count (s := s) (c := c) (n := s.length) (by exact encB.S_src _ s)) ?_)⟩)
  rintro r hp' ⟨rfl, rfl⟩
  refine ⟨rfl, ?_⟩
  repeat' (first | refine vcE.seq ?_ | refine vcE.block ?_ | (refine vcE.condTrue ?_ ?_; first | rfl | (simp (disch := first | assumption | omega) only [exC, exOps, exOp, evE, evsE, putE, wantedE, Nat.reduceEqDiff, ↓reduceIte, ROp.run, same, binA, intA, strA, eqA, indexSA, byteA, unA, bounds3, Option.map_some, Option.map_none, dec_true, dec_false, Int.toNat_natCast, Int.natCast_nonneg, beq_self_eq_true, List.append_nil, beq_iff_eq, reduceCtorEq, List.getD_cons_zero, List.getD_cons_succ, loadA, rowA, pickA, bslA, storeA_eq, decide_true, flatA, List.length_cons, List.length_nil, Nat.reduceAdd, List.flatMap_cons, List.flatMap_nil, BEq.rfl, List.cons_append, List.nil_append, if_pos, if_neg, ordered, List.getElem?_cons_zero, List.getElem?_cons_succ, frzL, nidL, frz_func, frz_agg, frz_tup, frz_iface, fresh_func, fresh_agg, fresh_tup, fresh_iface, frz_ptr, frz_sl, fresh_sl, Cls.isFree, Cls.makes, callCls, chain, cond_true, tz, ty, faddrA, allocA, over, List.take_succ_cons, List.take_zero, List.drop_succ_cons, List.drop_zero, List.drop_nil, List.set_cons_zero, List.set_cons_succ, Nat.reduceLeDiff, and_self] <;> rfl)) | (refine vcE.condFalse ?_ ?_; first | rfl | (simp (disch := first | assumption | omega) only [exC, exOps, exOp, evE, evsE, putE, wantedE, Nat.reduceEqDiff, ↓reduceIte, ROp.run, same, binA, intA, strA, eqA, indexSA, byteA, unA, bounds3, Option.map_some, Option.map_none, dec_true, dec_false, Int.toNat_natCast, Int.natCast_nonneg, beq_self_eq_true, List.append_nil, beq_iff_eq, reduceCtorEq, List.getD_cons_zero, List.getD_cons_succ, loadA, rowA, pickA, bslA, storeA_eq, decide_true, flatA, List.length_cons, List.length_nil, Nat.reduceAdd, List.flatMap_cons, List.flatMap_nil, BEq.rfl, List.cons_append, List.nil_append, if_pos, if_neg, ordered, List.getElem?_cons_zero, List.getElem?_cons_succ, frzL, nidL, frz_func, frz_agg, frz_tup, frz_iface, fresh_func, fresh_agg, fresh_tup, fresh_iface, frz_ptr, frz_sl, fresh_sl, Cls.isFree, Cls.makes, callCls, chain, cond_true, tz, ty, faddrA, allocA, over, List.take_succ_cons, List.take_zero, List.drop_succ_cons, List.drop_zero, List.drop_nil, List.set_cons_zero, List.set_cons_succ, Nat.reduceLeDiff, and_self] <;> rfl)) | (refine vcE.condND _ rfl (fun hc => ?_) (fun hc => ?_) <;> try (exfalso; first | omega | contradiction)) | (refine vcE.condD _ rfl (fun hc => ?_) (fun hc => ?_) <;> try (exfalso; first | omega | contradiction)) | (refine vcE.condNB _ rfl (fun hc => ?_) (fun hc => ?_) <;> try (exfalso; first | omega | contradiction)) | (refine vcE.condB _ rfl (fun hc => ?_) (fun hc => ?_) <;> try (exfalso; first | omega | contradiction)) | (apply vcE.ex; (simp (disch := first | assumption | omega) only [exC, exOps, exOp, evE, evsE, putE, wantedE, Nat.reduceEqDiff, ↓reduceIte, ROp.run, same, binA, intA, strA, eqA, indexSA, byteA, unA, bounds3, Option.map_some, Option.map_none, dec_true, dec_false, Int.toNat_natCast, Int.natCast_nonneg, beq_self_eq_true, List.append_nil, beq_iff_eq, reduceCtorEq, List.getD_cons_zero, List.getD_cons_succ, loadA, rowA, pickA, bslA, storeA_eq, decide_true, flatA, List.length_cons, List.length_nil, Nat.reduceAdd, List.flatMap_cons, List.flatMap_nil, BEq.rfl, List.cons_append, List.nil_append, if_pos, if_neg, ordered, List.getElem?_cons_zero, List.getElem?_cons_succ, frzL, nidL, frz_func, frz_agg, frz_tup, frz_iface, fresh_func, fresh_agg, fresh_tup, fresh_iface, frz_ptr, frz_sl, fresh_sl, Cls.isFree, Cls.makes, callCls, chain, cond_true, tz, ty, faddrA, allocA, over, List.take_succ_cons, List.take_zero, List.drop_succ_cons, List.drop_zero, List.drop_nil, List.set_cons_zero, List.set_cons_succ, Nat.reduceLeDiff, and_self] <;> rfl)) | fail)
  exact ⟨_, rfl, rfl⟩

def G1 : Tab := ((G0.addR 13 (.cons .str .nil) fun p => .rd true (.int .i64 (checkG p.1))).addO 21 (.cons (.S encB) (.cons (.S encB) .nil)) fun p => match p.2.1 with
  | [c] => some (.rd true (.int .i64 (p.1.count c)))
  | _ => none).addO 22 (.cons (.S encB) (.cons .i64 .nil)) fun p => if p.1 = [63] ∧ 0 ≤ p.2.1 ∧ p.2.1 ≤ 300 then some (.rd true (encB.S (List.replicate p.2.1.toNat 63))) else none
theorem encB_rep (n : Nat) : encB.S (List.replicate n 63) = .fsl (List.replicate n (.int .u8 63)) n := by
  simp only [Enc.S, encB_cs, List.map_replicate, List.length_replicate]
  rfl
theorem G1_ok : TabOk Tryd.prog G1 := by
  refine TabOk.addO (TabOk.addO (TabOk.addR G0_ok ?_) ?_) ?_
  · exact fun p => pCheck p.1
  · intro p r h
    split at h
    · rename_i c hc
      cases h
      have := pCount p.1 c
      show PCF _ _ [encB.S p.1, encB.S p.2.1] _
      rw [hc]
      exact this
    · cases h
  · intro p r h
    split at h
    · rename_i hc
      obtain ⟨h1, h2, h3⟩ := hc
      cases h
      show PCF _ _ [encB.S p.1, .int .i64 p.2.1] _
      rw [h1, encB_rep]
      have := pRepeat p.2.1.toNat (by omega)
      rw [Int.toNat_of_nonneg h2] at this
      exact this
    · cases h
theorem G1_check (p : List UInt8) : G1 13 [.str p] = some (.rd true (.int .i64 (checkG p))) := by
  rw [G1, Tab.addO_ne _ _ _ _ rfl, Tab.addO_ne _ _ _ _ rfl]
  exact Tab.addR_self _ _ (.cons .str .nil) _ (p, ())
theorem G1_count (s : List UInt8) (c : UInt8) : G1 21 [encB.S s, encB.S [c]] = some (.rd true (.int .i64 (s.count c))) := by
  rw [G1, Tab.addO_ne _ _ _ _ rfl]
  exact Tab.addO_self _ _ (.cons (.S encB) (.cons (.S encB) .nil)) _ (s, [c], ())
theorem G1_repeat (n : Nat) (h : n ≤ 300) : G1 22 [encB.S [63], .int .i64 n] = some (.rd true (encB.S (List.replicate n 63))) := by
  rw [G1]
  refine (Tab.addO_self _ _ (.cons (.S encB) (.cons .i64 .nil)) _ ([63], (n : Int), ())).trans ?_
  show (if ([63] : List UInt8) = [63] ∧ (0 : Int) ≤ n ∧ (n : Int) ≤ 300 then _ else _) = _
  rw [if_pos ⟨rfl, by omega, by omega⟩]
  simp

/-- A byte that stands for any. -/
def wildB (c : UInt8) : Prop := c = 42 ∨ c = 63
theorem run_loop {p : List UInt8} (hl : p.length ≤ 4611686018427387904) {i : Nat} (hi : i < p.length) {tm : Env} {hp : HP} {n : Nat} (e0 : tm 0 = .str p) (e5 : tm 5 = .int .i64 i) (hint : Nat → Nat) : vcE Tryd.prog hint G1 n (IC.block 2 (IC.loop b8_0)) tm hp fun e tm' hp' => e = .normal ∧ hp' = hp ∧ tm' 0 = tm 0 ∧ tm' 3 = tm 3 ∧ tm' 4 = tm 4 ∧ ∃ r : Nat, tm' 5 = .int .i64 r ∧ i ≤ r ∧ r ≤ p.length ∧ (∀ k c, i ≤ k → k < r → p[k]? = some c → wildB c) ∧ ∀ c, p[r]? = some c → ¬ wildB c := by
  refine vcE.block (vcE.loop (by intro l tm hp h; simp at h) (fun m tm' hp' => hp' = hp ∧ tm' 0 = tm 0 ∧ tm' 3 = tm 3 ∧ tm' 4 = tm 4 ∧ ∃ r : Nat, tm' 5 = .int .i64 r ∧ i ≤ r ∧ r ≤ p.length ∧ (∀ k c, i ≤ k → k < r → p[k]? = some c → wildB c) ∧ m = p.length - r) (p.length - i) ⟨rfl, rfl, rfl, rfl, i, e5, Nat.le_refl _, by omega, fun k c h1 h2 => by omega, rfl⟩ ?_)
  rintro m tm' hp' ⟨rfl, h0, h3, h4, r, h5, hir, hrl, hw, rfl⟩
  rw [e0] at h0
  by_cases hr : r < p.length
  · obtain ⟨c, hc⟩ : ∃ c, p[r]? = some c := ⟨_, List.getElem?_eq_getElem hr⟩
    have hstep : wildB c → ∀ k d, i ≤ k → k < r + 1 → p[k]? = some d → wildB d := fun hwc k d k1 k2 hd => by
      by_cases hk : k = r
      · subst hk
        rw [hc] at hd
        cases hd
        exact hwc
      · exact hw k d k1 (by omega) hd
    by_cases h42 : c.toNat = 42
    · refine vcE.ex (by simp (disch := omega) only [exC, exOps, exOp, evE, evsE, putE, wantedE, Nat.reduceEqDiff, ↓reduceIte, ROp.run, same, binA, intA, strA, eqA, indexSA, byteA, unA, bounds3, Option.map_some, Option.map_none, dec_true, dec_false, Int.toNat_natCast, Int.natCast_nonneg, beq_self_eq_true, List.append_nil, beq_iff_eq, reduceCtorEq, List.getD_cons_zero, List.getD_cons_succ, loadA, rowA, pickA, bslA, storeA_eq, decide_true, flatA, List.length_cons, List.length_nil, Nat.reduceAdd, List.flatMap_cons, List.flatMap_nil, BEq.rfl, List.cons_append, List.nil_append, if_pos, if_neg, ordered, List.getElem?_cons_zero, List.getElem?_cons_succ, frzL, nidL, frz_func, frz_agg, frz_tup, frz_iface, fresh_func, fresh_agg, fresh_tup, fresh_iface, frz_ptr, frz_sl, fresh_sl, Cls.isFree, Cls.makes, callCls, chain, cond_true, tz, ty, h0, h5, hc, h42]; rfl) ?_
      refine ⟨_, by omega, rfl, ?_, ?_, ?_, r + 1, ?_, by omega, hr, hstep (.inl (UInt8.toNat_inj.1 h42)), rfl⟩
      all_goals simp only [upd_app, Nat.reduceEqDiff, ↓reduceIte, h0, h3, h4, e0]
      all_goals rfl
    · by_cases h63 : c.toNat = 63
      · refine vcE.ex (by simp (disch := omega) only [exC, exOps, exOp, evE, evsE, putE, wantedE, Nat.reduceEqDiff, ↓reduceIte, ROp.run, same, binA, intA, strA, eqA, indexSA, byteA, unA, bounds3, Option.map_some, Option.map_none, dec_true, dec_false, Int.toNat_natCast, Int.natCast_nonneg, beq_self_eq_true, List.append_nil, beq_iff_eq, reduceCtorEq, List.getD_cons_zero, List.getD_cons_succ, loadA, rowA, pickA, bslA, storeA_eq, decide_true, flatA, List.length_cons, List.length_nil, Nat.reduceAdd, List.flatMap_cons, List.flatMap_nil, BEq.rfl, List.cons_append, List.nil_append, if_pos, if_neg, ordered, List.getElem?_cons_zero, List.getElem?_cons_succ, frzL, nidL, frz_func, frz_agg, frz_tup, frz_iface, fresh_func, fresh_agg, fresh_tup, fresh_iface, frz_ptr, frz_sl, fresh_sl, Cls.isFree, Cls.makes, callCls, chain, cond_true, tz, ty, h0, h5, hc, h63]; rfl) ?_
        refine ⟨_, by omega, rfl, ?_, ?_, ?_, r + 1, ?_, by omega, hr, hstep (.inr (UInt8.toNat_inj.1 h63)), rfl⟩
        all_goals simp only [upd_app, Nat.reduceEqDiff, ↓reduceIte, h0, h3, h4, e0]
        all_goals rfl
      · refine vcE.ex (by simp (disch := omega) only [exC, exOps, exOp, evE, evsE, putE, wantedE, Nat.reduceEqDiff, ↓reduceIte, ROp.run, same, binA, intA, strA, eqA, indexSA, byteA, unA, bounds3, Option.map_some, Option.map_none, dec_true, dec_false, Int.toNat_natCast, Int.natCast_nonneg, beq_self_eq_true, List.append_nil, beq_iff_eq, reduceCtorEq, List.getD_cons_zero, List.getD_cons_succ, loadA, rowA, pickA, bslA, storeA_eq, decide_true, flatA, List.length_cons, List.length_nil, Nat.reduceAdd, List.flatMap_cons, List.flatMap_nil, BEq.rfl, List.cons_append, List.nil_append, if_pos, if_neg, ordered, List.getElem?_cons_zero, List.getElem?_cons_succ, frzL, nidL, frz_func, frz_agg, frz_tup, frz_iface, fresh_func, fresh_agg, fresh_tup, fresh_iface, frz_ptr, frz_sl, fresh_sl, Cls.isFree, Cls.makes, callCls, chain, cond_true, tz, ty, h0, h5, hc]; rfl) ?_
        refine ⟨rfl, rfl, ?_, ?_, ?_, r, ?_, hir, hrl, hw, ?_⟩
        all_goals try simp only [upd_app, Nat.reduceEqDiff, ↓reduceIte, h0, h3, h4, h5, e0]
        rintro d hd (h | h)
        · rw [hc] at hd; cases hd; exact h42 (by rw [h]; rfl)
        · rw [hc] at hd; cases hd; exact h63 (by rw [h]; rfl)
  · refine vcE.ex (by simp (disch := omega) only [exC, exOps, exOp, evE, evsE, putE, wantedE, Nat.reduceEqDiff, ↓reduceIte, ROp.run, same, binA, intA, strA, eqA, indexSA, byteA, unA, bounds3, Option.map_some, Option.map_none, dec_true, dec_false, Int.toNat_natCast, Int.natCast_nonneg, beq_self_eq_true, List.append_nil, beq_iff_eq, reduceCtorEq, List.getD_cons_zero, List.getD_cons_succ, loadA, rowA, pickA, bslA, storeA_eq, decide_true, flatA, List.length_cons, List.length_nil, Nat.reduceAdd, List.flatMap_cons, List.flatMap_nil, BEq.rfl, List.cons_append, List.nil_append, if_pos, if_neg, ordered, List.getElem?_cons_zero, List.getElem?_cons_succ, frzL, nidL, frz_func, frz_agg, frz_tup, frz_iface, fresh_func, fresh_agg, fresh_tup, fresh_iface, frz_ptr, frz_sl, fresh_sl, Cls.isFree, Cls.makes, callCls, chain, cond_true, tz, ty, h0, h5]; rfl) ?_
    refine ⟨rfl, rfl, ?_, ?_, ?_, r, ?_, hir, hrl, hw, fun d hd => ?_⟩
    all_goals try simp only [upd_app, Nat.reduceEqDiff, ↓reduceIte, h0, h3, h4, h5, e0]
    rw [List.getElem?_eq_none (by omega)] at hd
    cases hd
end Go.Gi
