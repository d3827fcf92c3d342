/- The law GlobCalls's function returns true, whatever the input is. No condition but that strings fit. -/
import Derived.Test.YtmehgdpbcafboaaDoorGiGlQ
import Derived.Test.YtmehgdpbcafboaaDoorGiGlT
set_option linter.unusedVariables false
set_option linter.unusedSimpArgs false
namespace Go.Gi
set_option linter.unusedSectionVars false
variable [Mx]
open Go Go.Proofs

def TC : Tab := ((((((TL.addR 13 (.cons .str .nil) fun p => .rd true (.int .i64 (checkG p.1))).addR 15 (.cons .str .nil) fun p => .rd true (.int .i64 (checkG p.1))).addO 16 (.cons .str (.cons .str (.cons .bool .nil))) fun p => if p.1.length ≤ 1000000 ∧ p.2.1.length ≤ 1000000 then some (.rd true (.bool (gm (sameB p.2.2.1) p.1 p.2.1))) else none).addO 17 (.cons .str .nil) fun p => if p.1.length ≤ 300 then some (.rd true (.str (normB p.1))) else none).addO 14 (.cons .str .nil) fun p => if p.1.length ≤ 1000000 then some (.rd true (litP p.1)) else none).addO 18 (.cons .str .nil) fun p => if p.1.length ≤ 1000000 then some (.rd true (.int .i64 (leastB p.1))) else none).addO 19 (.cons .str .nil) fun p => if p.1.length ≤ 1000000 then some (.rd true (.str (p.1.map foldB))) else none
theorem TC_ok : TabOk Tryd.prog TC := by
  refine TabOk.addO (TabOk.addO (TabOk.addO (TabOk.addO (TabOk.addO (TabOk.addR (TabOk.addR TL_ok ?_) ?_) ?_) ?_) ?_) ?_) ?_
  · exact fun p => pCheck p.1
  · exact fun p => rCheck p.1
  · intro p r h
    split at h
    · rename_i hc; cases h; exact rMatch p.1 p.2.1 p.2.2.1 hc.1 hc.2
    · cases h
  · intro p r h
    split at h
    · cases h; exact rNorm p.1 (by assumption)
    · cases h
  · intro p r h
    split at h
    · cases h; exact rLiteral p.1 (by assumption)
    · cases h
  · intro p r h
    split at h
    · cases h; exact rLeast p.1 (by assumption)
    · cases h
  · intro p r h
    split at h
    · cases h; exact rFold p.1 (by omega)
    · cases h
theorem TC_TL {g : FuncId} {xs : List AV} (h : (Nat.beq g 13 || Nat.beq g 15 || Nat.beq g 16 || Nat.beq g 17 || Nat.beq g 14 || Nat.beq g 18 || Nat.beq g 19) = false) : TC g xs = TL g xs := by
  simp only [Bool.or_eq_false_iff] at h
  obtain ⟨⟨⟨⟨⟨⟨h1, h2⟩, h3⟩, h4⟩, h5⟩, h6⟩, h7⟩ := h
  rw [TC, Tab.addO_ne _ _ _ _ h7, Tab.addO_ne _ _ _ _ h6, Tab.addO_ne _ _ _ _ h5, Tab.addO_ne _ _ _ _ h4, Tab.addO_ne _ _ _ _ h3, Tab.addR_ne _ _ _ _ h2, Tab.addR_ne _ _ _ _ h1]
theorem TC_fold (p : List UInt8) (h : p.length ≤ 1000000) : TC 19 [.str p] = some (.rd true (.str (p.map foldB))) := by
  rw [TC]
  refine (Tab.addO_self _ _ (.cons .str .nil) _ (p, ())).trans ?_
  rw [if_pos h]
theorem TC_least (p : List UInt8) (h : p.length ≤ 1000000) : TC 18 [.str p] = some (.rd true (.int .i64 (leastB p))) := by
  rw [TC, Tab.addO_ne _ _ _ _ rfl]
  refine (Tab.addO_self _ _ (.cons .str .nil) _ (p, ())).trans ?_
  rw [if_pos h]
theorem TC_lit (p : List UInt8) (h : p.length ≤ 1000000) : TC 14 [.str p] = some (.rd true (litP p)) := by
  rw [TC, Tab.addO_ne _ _ _ _ rfl, Tab.addO_ne _ _ _ _ rfl]
  refine (Tab.addO_self _ _ (.cons .str .nil) _ (p, ())).trans ?_
  rw [if_pos h]
theorem TC_norm (p : List UInt8) (h : p.length ≤ 300) : TC 17 [.str p] = some (.rd true (.str (normB p))) := by
  rw [TC, Tab.addO_ne _ _ _ _ rfl, Tab.addO_ne _ _ _ _ rfl, Tab.addO_ne _ _ _ _ rfl]
  refine (Tab.addO_self _ _ (.cons .str .nil) _ (p, ())).trans ?_
  rw [if_pos h]
theorem TC_match (p t : List UInt8) (f : Bool) (h1 : p.length ≤ 1000000) (h2 : t.length ≤ 1000000) : TC 16 [.str p, .str t, .bool f] = some (.rd true (.bool (gm (sameB f) p t))) := by
  rw [TC, Tab.addO_ne _ _ _ _ rfl, Tab.addO_ne _ _ _ _ rfl, Tab.addO_ne _ _ _ _ rfl, Tab.addO_ne _ _ _ _ rfl]
  refine (Tab.addO_self _ _ (.cons .str (.cons .str (.cons .bool .nil))) _ (p, t, f, ())).trans ?_
  rw [if_pos ⟨h1, h2⟩]
theorem TC_rcheck (p : List UInt8) : TC 15 [.str p] = some (.rd true (.int .i64 (checkG p))) := by
  rw [TC, Tab.addO_ne _ _ _ _ rfl, Tab.addO_ne _ _ _ _ rfl, Tab.addO_ne _ _ _ _ rfl, Tab.addO_ne _ _ _ _ rfl, Tab.addO_ne _ _ _ _ rfl]
  exact Tab.addR_self _ _ (.cons .str .nil) _ (p, ())
theorem TC_check (p : List UInt8) : TC 13 [.str p] = some (.rd true (.int .i64 (checkG p))) := by
  rw [TC, Tab.addO_ne _ _ _ _ rfl, Tab.addO_ne _ _ _ _ rfl, Tab.addO_ne _ _ _ _ rfl, Tab.addO_ne _ _ _ _ rfl, Tab.addO_ne _ _ _ _ rfl, Tab.addR_ne _ _ _ _ rfl]
  exact Tab.addR_self _ _ (.cons .str .nil) _ (p, ())

theorem lawCalls (p t : List UInt8) (f : Bool) : PC Tryd.prog 5 [.str p, .str t, .bool f] (.bool true) := by
  have hlt := (TC_TL (g := 7) (xs := [.fsl [.str p, .str t] 2]) rfl).trans (TL_light p t)
  have hlv := (TC_TL (g := 6) (xs := []) rfl).trans TL_lives
  refine pc_e hmG TC_ok comp5 (by decide) (by simp) (nidL_ok rfl) ?_
  refine vcE.step (by simp only [exC, exOps, exOp, evE, evsE, putE, wantedE, Nat.reduceEqDiff, ↓reduceIte, ROp.run, same, binA, intA, strA, eqA, indexSA, byteA, unA, bounds3, Option.map_some, Option.map_none, dec_true, dec_false, Int.toNat_natCast, Int.natCast_nonneg, beq_self_eq_true, List.append_nil, beq_iff_eq, reduceCtorEq, List.getD_cons_zero, List.getD_cons_succ, loadA, rowA, pickA, bslA, storeA_eq, decide_true, flatA, List.length_cons, List.length_nil, Nat.reduceAdd, List.flatMap_cons, List.flatMap_nil, BEq.rfl, List.cons_append, List.nil_append, if_pos, if_neg, ordered, List.getElem?_cons_zero, List.getElem?_cons_succ, frzL, nidL, frz_func, frz_agg, frz_tup, frz_iface, fresh_func, fresh_agg, fresh_tup, fresh_iface, frz_ptr, frz_sl, fresh_sl, Cls.isFree, Cls.makes, callCls, chain, cond_true, tz, ty]; rfl) ?_
  refine vcE.step (by simp only [exC, exOps, exOp, evE, evsE, putE, wantedE, Nat.reduceEqDiff, ↓reduceIte, ROp.run, same, binA, intA, strA, eqA, indexSA, byteA, unA, bounds3, Option.map_some, Option.map_none, dec_true, dec_false, Int.toNat_natCast, Int.natCast_nonneg, beq_self_eq_true, List.append_nil, beq_iff_eq, reduceCtorEq, List.getD_cons_zero, List.getD_cons_succ, loadA, rowA, pickA, bslA, storeA_eq, decide_true, flatA, List.length_cons, List.length_nil, Nat.reduceAdd, List.flatMap_cons, List.flatMap_nil, BEq.rfl, List.cons_append, List.nil_append, if_pos, if_neg, ordered, List.getElem?_cons_zero, List.getElem?_cons_succ, frzL, nidL, frz_func, frz_agg, frz_tup, frz_iface, fresh_func, fresh_agg, fresh_tup, fresh_iface, frz_ptr, frz_sl, fresh_sl, Cls.isFree, Cls.makes, callCls, chain, cond_true, tz, ty, hlv]; rfl) ?_
  cases hL : lightG p t
  · rw [hL] at hlt
    refine vcE.ex (by simp (disch := omega) only [exC, exOps, exOp, evE, evsE, putE, wantedE, Nat.reduceEqDiff, ↓reduceIte, ROp.run, same, binA, intA, strA, eqA, indexSA, byteA, unA, bounds3, Option.map_some, Option.map_none, dec_true, dec_false, Int.toNat_natCast, Int.natCast_nonneg, beq_self_eq_true, List.append_nil, beq_iff_eq, reduceCtorEq, List.getD_cons_zero, List.getD_cons_succ, loadA, rowA, pickA, bslA, storeA_eq, decide_true, flatA, List.length_cons, List.length_nil, Nat.reduceAdd, List.flatMap_cons, List.flatMap_nil, BEq.rfl, List.cons_append, List.nil_append, if_pos, if_neg, ordered, List.getElem?_cons_zero, List.getElem?_cons_succ, frzL, nidL, frz_func, frz_agg, frz_tup, frz_iface, fresh_func, fresh_agg, fresh_tup, fresh_iface, frz_ptr, frz_sl, fresh_sl, Cls.isFree, Cls.makes, callCls, chain, cond_true, tz, ty, faddrA, allocA, over, List.take_succ_cons, List.take_zero, List.drop_succ_cons, List.drop_zero, List.drop_nil, List.set_cons_zero, List.set_cons_succ, Nat.reduceLeDiff, and_self, hlt]; rfl) ?_
    exact ⟨_, rfl, rfl⟩
  rw [hL] at hlt
  refine vcE.step (by simp (disch := omega) only [exC, exOps, exOp, evE, evsE, putE, wantedE, Nat.reduceEqDiff, ↓reduceIte, ROp.run, same, binA, intA, strA, eqA, indexSA, byteA, unA, bounds3, Option.map_some, Option.map_none, dec_true, dec_false, Int.toNat_natCast, Int.natCast_nonneg, beq_self_eq_true, List.append_nil, beq_iff_eq, reduceCtorEq, List.getD_cons_zero, List.getD_cons_succ, loadA, rowA, pickA, bslA, storeA_eq, decide_true, flatA, List.length_cons, List.length_nil, Nat.reduceAdd, List.flatMap_cons, List.flatMap_nil, BEq.rfl, List.cons_append, List.nil_append, if_pos, if_neg, ordered, List.getElem?_cons_zero, List.getElem?_cons_succ, frzL, nidL, frz_func, frz_agg, frz_tup, frz_iface, fresh_func, fresh_agg, fresh_tup, fresh_iface, frz_ptr, frz_sl, fresh_sl, Cls.isFree, Cls.makes, callCls, chain, cond_true, tz, ty, faddrA, allocA, over, List.take_succ_cons, List.take_zero, List.drop_succ_cons, List.drop_zero, List.drop_nil, List.set_cons_zero, List.set_cons_succ, Nat.reduceLeDiff, and_self, hlt]; rfl) ?_
  simp only [lightG, Bool.and_eq_true, decide_eq_true_eq] at hL
  obtain ⟨hp, ht⟩ := hL
  have a1 := TC_check p
  have b1 := TC_rcheck p
  have a2 := (TC_TL (g := 9) (xs := [.str p, .str t, .bool f]) rfl).trans (TL_match p t f (by omega) (by omega))
  have b2 := TC_match p t f (by omega) (by omega)
  have a3 := (TC_TL (g := 8) (xs := [.str p]) rfl).trans (TL_norm p hp)
  have b3 := TC_norm p hp
  have a4 := (TC_TL (g := 11) (xs := [.str p]) rfl).trans (TL_lit p (by omega))
  have b4 := TC_lit p (by omega)
  have a5 := (TC_TL (g := 10) (xs := [.str p]) rfl).trans (TL_least p (by omega))
  have b5 := TC_least p (by omega)
  have a6 := (TC_TL (g := 12) (xs := [.str t]) rfl).trans (TL_fold t (by omega))
  have b6 := TC_fold t (by omega)
  generalize gm (sameB f) p t = m at a2 b2
  unfold litP at a4 b4
  cases hw : p.any wildb <;> rw [hw] at a4 b4 <;> simp only [if_true, Bool.false_eq_true, if_false] at a4 b4 <;> cases m
  all_goals
    refine vcE.step (by simp (disch := omega) only [exC, exOps, exOp, evE, evsE, putE, wantedE, Nat.reduceEqDiff, ↓reduceIte, ROp.run, same, binA, intA, strA, eqA, indexSA, byteA, unA, bounds3, Option.map_some, Option.map_none, dec_true, dec_false, Int.toNat_natCast, Int.natCast_nonneg, beq_self_eq_true, List.append_nil, beq_iff_eq, reduceCtorEq, List.getD_cons_zero, List.getD_cons_succ, loadA, rowA, pickA, bslA, storeA_eq, decide_true, flatA, List.length_cons, List.length_nil, Nat.reduceAdd, List.flatMap_cons, List.flatMap_nil, BEq.rfl, List.cons_append, List.nil_append, if_pos, if_neg, ordered, List.getElem?_cons_zero, List.getElem?_cons_succ, frzL, nidL, frz_func, frz_agg, frz_tup, frz_iface, fresh_func, fresh_agg, fresh_tup, fresh_iface, frz_ptr, frz_sl, fresh_sl, Cls.isFree, Cls.makes, callCls, chain, cond_true, tz, ty, a4]; rfl) ?_
    refine vcE.step (by simp (disch := omega) only [exC, exOps, exOp, evE, evsE, putE, wantedE, Nat.reduceEqDiff, ↓reduceIte, ROp.run, same, binA, intA, strA, eqA, indexSA, byteA, unA, bounds3, Option.map_some, Option.map_none, dec_true, dec_false, Int.toNat_natCast, Int.natCast_nonneg, beq_self_eq_true, List.append_nil, beq_iff_eq, reduceCtorEq, List.getD_cons_zero, List.getD_cons_succ, loadA, rowA, pickA, bslA, storeA_eq, decide_true, flatA, List.length_cons, List.length_nil, Nat.reduceAdd, List.flatMap_cons, List.flatMap_nil, BEq.rfl, List.cons_append, List.nil_append, if_pos, if_neg, ordered, List.getElem?_cons_zero, List.getElem?_cons_succ, frzL, nidL, frz_func, frz_agg, frz_tup, frz_iface, fresh_func, fresh_agg, fresh_tup, fresh_iface, frz_ptr, frz_sl, fresh_sl, Cls.isFree, Cls.makes, callCls, chain, cond_true, tz, ty, b4]; rfl) ?_
    refine vcE.ex (by simp (disch := omega) only [exC, exOps, exOp, evE, evsE, putE, wantedE, Nat.reduceEqDiff, ↓reduceIte, ROp.run, same, binA, intA, strA, eqA, indexSA, byteA, unA, bounds3, Option.map_some, Option.map_none, dec_true, dec_false, Int.toNat_natCast, Int.natCast_nonneg, beq_self_eq_true, List.append_nil, beq_iff_eq, reduceCtorEq, List.getD_cons_zero, List.getD_cons_succ, loadA, rowA, pickA, bslA, storeA_eq, decide_true, flatA, List.length_cons, List.length_nil, Nat.reduceAdd, List.flatMap_cons, List.flatMap_nil, BEq.rfl, List.cons_append, List.nil_append, if_pos, if_neg, ordered, List.getElem?_cons_zero, List.getElem?_cons_succ, frzL, nidL, frz_func, frz_agg, frz_tup, frz_iface, fresh_func, fresh_agg, fresh_tup, fresh_iface, frz_ptr, frz_sl, fresh_sl, Cls.isFree, Cls.makes, callCls, chain, cond_true, tz, ty, a1, b1, a2, b2, a3, b3, a5, b5, a6, b6, eq_self]; rfl) ?_
    exact ⟨_, rfl, rfl⟩

end Go.Gi
