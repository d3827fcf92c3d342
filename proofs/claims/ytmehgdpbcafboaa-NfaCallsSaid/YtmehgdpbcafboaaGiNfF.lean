/- States: New, lives, light; the table for the laws; an invalid object. -/
import Derived.Test.YtmehgdpbcafboaaGiNfE
import Derived.Test.YtmehgdpbcafboaaGiGlE
set_option linter.unusedVariables false
set_option linter.unusedSimpArgs false
namespace Go.Gi
open Go Go.Proofs

theorem normB_ne {p : List UInt8} (h : p ≠ []) : normB p ≠ [] := by
  have key : ∀ (p : List UInt8) (b : Bool), (b = true ∨ p ≠ []) → normS b p ≠ [] := by
    intro p
    induction p with
    | nil =>
      intro b h
      rcases h with rfl | h
      · simp [normS]
      · exact absurd rfl h
    | cons c p ih =>
      intro b _
      simp only [normS]
      split
      · exact ih true (.inl rfl)
      · split
        · simp
        · simp
  exact key p false (.inr h)

/-- nfa.New. -/
def newV (p : List UInt8) (f : Bool) : Option (List UInt8 × Bool) := if checkG p = 0 then some (normB p, f) else none
theorem newV_ok {p : List UInt8} {f : Bool} (hl : p.length ≤ 300) : okW (newV p f) := by
  unfold newV
  split
  · rename_i h
    have hne : p ≠ [] := by
      rintro rfl
      simp [checkG] at h
    have h1 := normB_len p
    refine ⟨⟨normB_ne hne, by omega⟩, ?_⟩
    rw [nN_some (normB_ne hne)]
    omega
  · exact ⟨trivial, by simp [nN]⟩

def H4 : Tab := H3.addO 106 (.cons .str .nil) fun p => if p.1.length ≤ 300 then some (.rd true (.str (normB p.1))) else none
theorem H4_ok : TabOk Try.prog H4 := by
  refine TabOk.addO H3_ok ?_
  intro p r h
  split at h
  · rename_i hv
    cases h
    exact pNorm p.1 hv
  · cases h
theorem H4_norm (p : List UInt8) (h : p.length ≤ 300) : H4 106 [.str p] = some (.rd true (.str (normB p))) := by
  refine (Tab.addO_self _ _ (.cons .str .nil) _ (p, ())).trans ?_
  rw [if_pos h]
theorem H4_check (p : List UInt8) : H4 66 [.str p] = some (.rd true (.int .i64 (checkG p))) := by
  rw [H4, Tab.addO_ne _ _ _ _ rfl, H3, Tab.addO_ne _ _ _ _ rfl, Tab.addO_ne _ _ _ _ rfl, Tab.addO_ne _ _ _ _ rfl, Tab.addO_ne _ _ _ _ rfl, H2, Tab.addO_ne _ _ _ _ rfl, H1, Tab.addR_ne _ _ _ _ rfl, H0, Tab.addO_ne _ _ _ _ rfl]
  exact G1_check p

theorem pNew (p : List UInt8) (f : Bool) (hl : p.length ≤ 300) : PCF Try.prog 51 [.str p, .bool f] (.tup [nV (newV p f), .int .i64 (checkG p)]) := by
  refine pcf_e hmG H4_ok comp51 (by decide) (by simp) (nidL_ok rfl) ?_
  have h1 := H4_norm p hl
  have h2 := H4_check p
  unfold newV
  by_cases hc : checkG p = 0
  · refine vcE.ex (by simp (disch := first | assumption | omega) only [exC, exOps, exOp, evE, evsE, putE, wantedE, Nat.reduceEqDiff, ↓reduceIte, ROp.run, same, binA, intA, strA, eqA, indexSA, byteA, unA, bounds3, Option.map_some, Option.map_none, dec_true, dec_false, Int.toNat_natCast, Int.natCast_nonneg, beq_self_eq_true, List.append_nil, beq_iff_eq, reduceCtorEq, List.getD_cons_zero, List.getD_cons_succ, loadA, rowA, pickA, bslA, storeA_eq, decide_true, flatA, List.length_cons, List.length_nil, Nat.reduceAdd, List.flatMap_cons, List.flatMap_nil, BEq.rfl, List.cons_append, List.nil_append, if_pos, if_neg, ordered, List.getElem?_cons_zero, List.getElem?_cons_succ, frzL, nidL, frz_func, frz_agg, frz_tup, frz_iface, fresh_func, fresh_agg, fresh_tup, fresh_iface, frz_ptr, frz_sl, fresh_sl, Cls.isFree, Cls.makes, callCls, chain, cond_true, tz, ty, faddrA, allocA, over, List.take_succ_cons, List.take_zero, List.drop_succ_cons, List.drop_zero, List.drop_nil, List.set_cons_zero, List.set_cons_succ, Nat.reduceLeDiff, and_self, h1, h2, fillA]; rfl) ?_
    refine ⟨_, rfl, ?_⟩
    rw [if_pos hc, hc]
    rfl
  · refine vcE.ex (by simp (disch := first | assumption | omega) only [exC, exOps, exOp, evE, evsE, putE, wantedE, Nat.reduceEqDiff, ↓reduceIte, ROp.run, same, binA, intA, strA, eqA, indexSA, byteA, unA, bounds3, Option.map_some, Option.map_none, dec_true, dec_false, Int.toNat_natCast, Int.natCast_nonneg, beq_self_eq_true, List.append_nil, beq_iff_eq, reduceCtorEq, List.getD_cons_zero, List.getD_cons_succ, loadA, rowA, pickA, bslA, storeA_eq, decide_true, flatA, List.length_cons, List.length_nil, Nat.reduceAdd, List.flatMap_cons, List.flatMap_nil, BEq.rfl, List.cons_append, List.nil_append, if_pos, if_neg, ordered, List.getElem?_cons_zero, List.getElem?_cons_succ, frzL, nidL, frz_func, frz_agg, frz_tup, frz_iface, fresh_func, fresh_agg, fresh_tup, fresh_iface, frz_ptr, frz_sl, fresh_sl, Cls.isFree, Cls.makes, callCls, chain, cond_true, tz, ty, faddrA, allocA, over, List.take_succ_cons, List.take_zero, List.drop_succ_cons, List.drop_zero, List.drop_nil, List.set_cons_zero, List.set_cons_succ, Nat.reduceLeDiff, and_self, h1, h2]; rfl) ?_
    refine ⟨_, rfl, ?_⟩
    rw [if_neg hc]
    rfl

set_option maxRecDepth 1000000 in
theorem runLives : xF FT noO (xC FT noO EXR LT 400) 50 [] [] = some (.bool true, [], 0) := by kernel_rfl
theorem pLives : PCF Try.prog 50 [] (.bool true) := pcf_run hmG FT_ok (noO_ok _) exr_ok LT_ok rfl runLives rfl

def lightN (p t : List UInt8) : Bool := decide (p.length ≤ 300) && decide (t.length ≤ 260)
theorem pLight (p t : List UInt8) : PCF Try.prog 60 [.str p, .str t] (.bool (lightN p t)) := by
  refine pcf_e hmG (TabOk.none _) comp60 (by decide) (by simp) (nidL_ok rfl) ?_
  unfold lightN
  by_cases h1 : p.length ≤ 300
  · by_cases h2 : t.length ≤ 260
    all_goals
      refine vcE.ex (by simp (disch := omega) only [exC, exOps, exOp, evE, evsE, putE, wantedE, Nat.reduceEqDiff, ↓reduceIte, ROp.run, same, binA, intA, strA, eqA, indexSA, byteA, unA, bounds3, Option.map_some, Option.map_none, dec_true, dec_false, Int.toNat_natCast, Int.natCast_nonneg, beq_self_eq_true, List.append_nil, beq_iff_eq, reduceCtorEq, List.getD_cons_zero, List.getD_cons_succ, loadA, rowA, pickA, bslA, storeA_eq, decide_true, flatA, List.length_cons, List.length_nil, Nat.reduceAdd, List.flatMap_cons, List.flatMap_nil, BEq.rfl, List.cons_append, List.nil_append, if_pos, if_neg, ordered, List.getElem?_cons_zero, List.getElem?_cons_succ, frzL, nidL, frz_func, frz_agg, frz_tup, frz_iface, fresh_func, fresh_agg, fresh_tup, fresh_iface, frz_ptr, frz_sl, fresh_sl, Cls.isFree, Cls.makes, callCls, chain, cond_true, tz, ty]; rfl) ?_
      refine ⟨_, rfl, ?_⟩
      simp only [upd_app, Nat.reduceEqDiff, ↓reduceIte, fresh_bool, h1, h2, decide_true, decide_false, Bool.and_true, Bool.and_false]
  · refine vcE.ex (by simp (disch := omega) only [exC, exOps, exOp, evE, evsE, putE, wantedE, Nat.reduceEqDiff, ↓reduceIte, ROp.run, same, binA, intA, strA, eqA, indexSA, byteA, unA, bounds3, Option.map_some, Option.map_none, dec_true, dec_false, Int.toNat_natCast, Int.natCast_nonneg, beq_self_eq_true, List.append_nil, beq_iff_eq, reduceCtorEq, List.getD_cons_zero, List.getD_cons_succ, loadA, rowA, pickA, bslA, storeA_eq, decide_true, flatA, List.length_cons, List.length_nil, Nat.reduceAdd, List.flatMap_cons, List.flatMap_nil, BEq.rfl, List.cons_append, List.nil_append, if_pos, if_neg, ordered, List.getElem?_cons_zero, List.getElem?_cons_succ, frzL, nidL, frz_func, frz_agg, frz_tup, frz_iface, fresh_func, fresh_agg, fresh_tup, fresh_iface, frz_ptr, frz_sl, fresh_sl, Cls.isFree, Cls.makes, callCls, chain, cond_true, tz, ty]; rfl) ?_
    refine ⟨_, rfl, ?_⟩
    simp only [upd_app, Nat.reduceEqDiff, ↓reduceIte, fresh_bool, h1, decide_false, Bool.false_and]

def patP : Option (List UInt8 × Bool) → List UInt8
  | some (p, _) => p
  | none => []
def patF : Option (List UInt8 × Bool) → Bool
  | some (_, f) => f
  | none => false
theorem pPatternV (x : Option (List UInt8 × Bool)) : PCF Try.prog 56 [nV x] (.tup [.str (patP x), .bool (patF x)]) := by
  cases x with
  | none =>
    refine pcf_e hmG (TabOk.none _) comp56 (by decide) (by simp) (nidL_ok rfl) ?_
    refine vcE.ex (by simp (disch := omega) only [exC, exOps, exOp, evE, evsE, putE, wantedE, Nat.reduceEqDiff, ↓reduceIte, ROp.run, same, binA, intA, strA, eqA, indexSA, byteA, unA, bounds3, Option.map_some, Option.map_none, dec_true, dec_false, Int.toNat_natCast, Int.natCast_nonneg, beq_self_eq_true, List.append_nil, beq_iff_eq, reduceCtorEq, List.getD_cons_zero, List.getD_cons_succ, loadA, rowA, pickA, bslA, storeA_eq, decide_true, flatA, List.length_cons, List.length_nil, Nat.reduceAdd, List.flatMap_cons, List.flatMap_nil, BEq.rfl, List.cons_append, List.nil_append, if_pos, if_neg, ordered, List.getElem?_cons_zero, List.getElem?_cons_succ, frzL, nidL, frz_func, frz_agg, frz_tup, frz_iface, fresh_func, fresh_agg, fresh_tup, fresh_iface, frz_ptr, frz_sl, fresh_sl, Cls.isFree, Cls.makes, callCls, chain, cond_true, tz, ty, faddrA, allocA, over, List.take_succ_cons, List.take_zero, List.drop_succ_cons, List.drop_zero, List.drop_nil, List.set_cons_zero, List.set_cons_succ, Nat.reduceLeDiff, and_self, nV, isNilA]; rfl) ?_
    exact ⟨_, rfl, rfl⟩
  | some a => exact pPattern a.1 a.2

instance (x : Option (List UInt8 × Bool)) : Decidable (okW x) := inferInstanceAs (Decidable (_ ∧ _))
/-- The table for the laws. -/
def H5 : Tab := ((((((((H4.addR 50 .nil fun _ => .rd true (.bool true)).addR 60 (.cons .str (.cons .str .nil)) fun p => .rd true (.bool (lightN p.1 p.2.1))).addO 51 (.cons .str (.cons .bool .nil)) fun p => if p.1.length ≤ 300 then some (.rd true (.tup [nV (newV p.1 p.2.1), .int .i64 (checkG p.1)])) else none).addR 56 (.cons .nfa .nil) fun p => .rd true (.tup [.str (patP p.1), .bool (patF p.1)])).addO 58 (.cons .nfa .nil) fun p => if okW p.1 then some (.rd true (encI.S (lst (nN p.1) (startV p.1)))) else none).addO 52 (.cons .nfa (.cons (.S encI) (.cons .u8 .nil))) fun p => if okW p.1 ∧ p.2.1.length ≤ 1000000 then some (.rd true (encI.S (lst (nN p.1) (stepV p.1 (ofS p.2.1) p.2.2.1)))) else none).addO 55 (.cons .nfa (.cons (.S encI) .nil)) fun p => if okW p.1 ∧ p.2.1.length ≤ 1000000 then some (.rd true (.bool (accV p.1 (ofS p.2.1)))) else none).addO 59 (.cons .nfa (.cons .str .nil)) fun p => if okW p.1 ∧ p.2.1.length ≤ 1000000 then some (.rd true (.bool (accV p.1 (runV p.1 p.2.1 (startV p.1))))) else none).addO 17 (.cons .str (.cons .str (.cons .bool .nil))) fun p => if p.1.length < 4611686018427387904 ∧ p.2.1.length < 4611686018427387904 then some (.rd true (.bool (gm (sameB p.2.2.1) p.1 p.2.1))) else none
theorem H5_ok : TabOk Try.prog H5 := by
  refine TabOk.addO (TabOk.addO (TabOk.addO (TabOk.addO (TabOk.addO (TabOk.addR (TabOk.addO (TabOk.addR (TabOk.addR H4_ok ?_) ?_) ?_) ?_) ?_) ?_) ?_) ?_) ?_
  · exact fun _ => pLives
  · exact fun p => pLight p.1 p.2.1
  · intro p r h
    split at h
    · rename_i hv
      cases h
      exact pNew p.1 p.2.1 hv
    · cases h
  · exact fun p => pPatternV p.1
  · intro p r h
    split at h
    · rename_i hv
      cases h
      exact pStartM p.1 hv
    · cases h
  · intro p r h
    split at h
    · rename_i hv
      cases h
      exact pStepM p.1 hv.1 p.2.1 hv.2 p.2.2.1
    · cases h
  · intro p r h
    split at h
    · rename_i hv
      cases h
      exact pAccepts p.1 hv.1 p.2.1 hv.2
    · cases h
  · intro p r h
    split at h
    · rename_i hv
      cases h
      exact pRun p.1 hv.1 p.2.1 hv.2
    · cases h
  · intro p r h
    split at h
    · rename_i hv
      cases h
      exact pMatch hv.1 hv.2 p.2.2.1
    · cases h
section
variable (x : Option (List UInt8 × Bool))
theorem H5_match (p t : List UInt8) (f : Bool) (hp : p.length < 4611686018427387904) (ht : t.length < 4611686018427387904) : H5 17 [.str p, .str t, .bool f] = some (.rd true (.bool (gm (sameB f) p t))) := by
  refine (Tab.addO_self _ _ (.cons .str (.cons .str (.cons .bool .nil))) _ (p, t, f, ())).trans ?_
  rw [if_pos ⟨hp, ht⟩]
theorem H5_run (t : List UInt8) (ht : t.length ≤ 1000000) (h : okW x) : H5 59 [nV x, .str t] = some (.rd true (.bool (accV x (runV x t (startV x))))) := by
  rw [H5, Tab.addO_ne _ _ _ _ rfl]
  refine (Tab.addO_self _ _ (.cons .nfa (.cons .str .nil)) _ (x, t, ())).trans ?_
  rw [if_pos ⟨h, ht⟩]
theorem H5_acc (l : List Int) (hl : l.length ≤ 1000000) (h : okW x) : H5 55 [nV x, encI.S l] = some (.rd true (.bool (accV x (ofS l)))) := by
  rw [H5, Tab.addO_ne _ _ _ _ rfl, Tab.addO_ne _ _ _ _ rfl]
  refine (Tab.addO_self _ _ (.cons .nfa (.cons (.S encI) .nil)) _ (x, l, ())).trans ?_
  rw [if_pos ⟨h, hl⟩]
theorem H5_step (l : List Int) (c : UInt8) (hl : l.length ≤ 1000000) (h : okW x) : H5 52 [nV x, encI.S l, .int .u8 c.toNat] = some (.rd true (encI.S (lst (nN x) (stepV x (ofS l) c)))) := by
  rw [H5, Tab.addO_ne _ _ _ _ rfl, Tab.addO_ne _ _ _ _ rfl, Tab.addO_ne _ _ _ _ rfl]
  refine (Tab.addO_self _ _ (.cons .nfa (.cons (.S encI) (.cons .u8 .nil))) _ (x, l, c, ())).trans ?_
  rw [if_pos ⟨h, hl⟩]
theorem H5_start (h : okW x) : H5 58 [nV x] = some (.rd true (encI.S (lst (nN x) (startV x)))) := by
  rw [H5, Tab.addO_ne _ _ _ _ rfl, Tab.addO_ne _ _ _ _ rfl, Tab.addO_ne _ _ _ _ rfl, Tab.addO_ne _ _ _ _ rfl]
  refine (Tab.addO_self _ _ (.cons .nfa .nil) _ (x, ())).trans ?_
  rw [if_pos h]
theorem H5_pattern : H5 56 [nV x] = some (.rd true (.tup [.str (patP x), .bool (patF x)])) := by
  rw [H5, Tab.addO_ne _ _ _ _ rfl, Tab.addO_ne _ _ _ _ rfl, Tab.addO_ne _ _ _ _ rfl, Tab.addO_ne _ _ _ _ rfl, Tab.addO_ne _ _ _ _ rfl]
  exact Tab.addR_self _ _ (.cons .nfa .nil) _ (x, ())
theorem H5_new (p : List UInt8) (f : Bool) (hp : p.length ≤ 300) : H5 51 [.str p, .bool f] = some (.rd true (.tup [nV (newV p f), .int .i64 (checkG p)])) := by
  rw [H5, Tab.addO_ne _ _ _ _ rfl, Tab.addO_ne _ _ _ _ rfl, Tab.addO_ne _ _ _ _ rfl, Tab.addO_ne _ _ _ _ rfl, Tab.addO_ne _ _ _ _ rfl, Tab.addR_ne _ _ _ _ rfl]
  refine (Tab.addO_self _ _ (.cons .str (.cons .bool .nil)) _ (p, f, ())).trans ?_
  rw [if_pos hp]
theorem H5_light (p t : List UInt8) : H5 60 [.str p, .str t] = some (.rd true (.bool (lightN p t))) := by
  rw [H5, Tab.addO_ne _ _ _ _ rfl, Tab.addO_ne _ _ _ _ rfl, Tab.addO_ne _ _ _ _ rfl, Tab.addO_ne _ _ _ _ rfl, Tab.addO_ne _ _ _ _ rfl, Tab.addR_ne _ _ _ _ rfl, Tab.addO_ne _ _ _ _ rfl]
  exact Tab.addR_self _ _ (.cons .str (.cons .str .nil)) _ (p, t, ())
theorem H5_lives : H5 50 [] = some (.rd true (.bool true)) := by
  rw [H5, Tab.addO_ne _ _ _ _ rfl, Tab.addO_ne _ _ _ _ rfl, Tab.addO_ne _ _ _ _ rfl, Tab.addO_ne _ _ _ _ rfl, Tab.addO_ne _ _ _ _ rfl, Tab.addR_ne _ _ _ _ rfl, Tab.addO_ne _ _ _ _ rfl, Tab.addR_ne _ _ _ _ rfl]
  exact Tab.addR_self _ _ .nil _ ()
theorem H5_H4 {g : FuncId} {xs : List AV} (h : (Nat.beq g 50 || Nat.beq g 60 || Nat.beq g 51 || Nat.beq g 56 || Nat.beq g 58 || Nat.beq g 52 || Nat.beq g 55 || Nat.beq g 59 || Nat.beq g 17) = false) : H5 g xs = H4 g xs := by
  simp only [Bool.or_eq_false_iff] at h
  obtain ⟨⟨⟨⟨⟨⟨⟨⟨h1, h2⟩, h3⟩, h4⟩, h5⟩, h6⟩, h7⟩, h8⟩, h9⟩ := h
  rw [H5, Tab.addO_ne _ _ _ _ h9, Tab.addO_ne _ _ _ _ h8, Tab.addO_ne _ _ _ _ h7, Tab.addO_ne _ _ _ _ h6, Tab.addO_ne _ _ _ _ h5, Tab.addR_ne _ _ _ _ h4, Tab.addO_ne _ _ _ _ h3, Tab.addR_ne _ _ _ _ h2, Tab.addR_ne _ _ _ _ h1]
theorem H5_states (h : nSmall x) : H5 54 [nV x] = some (.rd true (.int .i64 (nN x))) := by
  rw [H5_H4 rfl, H4, Tab.addO_ne _ _ _ _ rfl, H3, Tab.addO_ne _ _ _ _ rfl, Tab.addO_ne _ _ _ _ rfl, Tab.addO_ne _ _ _ _ rfl, Tab.addO_ne _ _ _ _ rfl, H2, Tab.addO_ne _ _ _ _ rfl, H1, Tab.addR_ne _ _ _ _ rfl]
  exact H0_states x h
theorem H5_check (p : List UInt8) : H5 66 [.str p] = some (.rd true (.int .i64 (checkG p))) := by
  rw [H5_H4 rfl]
  exact H4_check p
end

/-! ### An invalid object returns nothing -/
theorem lawNil (l : List Int) (c : UInt8) (t : List UInt8) : PC Try.prog 13 [encI.S l, .int .u8 c.toNat, .str t] (.bool true) := by
  refine pc_e hmG H5_ok comp13 (by decide) (by simp) (nidL_ok (by simp only [nidL, Enc.S_nid, nid_int, nid_str, Bool.and_self])) ?_
  have hok : okW none := ⟨trivial, by simp [nN]⟩
  by_cases h1 : l.length ≤ 200
  · by_cases h2 : t.length ≤ 200
    · have k1 := H5_pattern none
      have k2 := H5_states none trivial
      have k3 := H5_start none hok
      have k4 := H5_step none l c (by omega) hok
      have k5 := H5_acc none l (by omega) hok
      have k6 := H5_run none t (by omega) hok
      simp only [nV, nN] at k1 k2 k3 k4 k5 k6
      have hl0 : ∀ b, lst 0 b = [] := fun b => rfl
      refine vcE.ex (by simp (disch := omega) only [exC, exOps, exOp, evE, evsE, putE, wantedE, Nat.reduceEqDiff, ↓reduceIte, ROp.run, same, binA, intA, strA, eqA, indexSA, byteA, unA, bounds3, Option.map_some, Option.map_none, dec_true, dec_false, Int.toNat_natCast, Int.natCast_nonneg, beq_self_eq_true, List.append_nil, beq_iff_eq, reduceCtorEq, List.getD_cons_zero, List.getD_cons_succ, loadA, rowA, pickA, bslA, storeA_eq, decide_true, flatA, List.length_cons, List.length_nil, Nat.reduceAdd, List.flatMap_cons, List.flatMap_nil, BEq.rfl, List.cons_append, List.nil_append, if_pos, if_neg, ordered, List.getElem?_cons_zero, List.getElem?_cons_succ, frzL, nidL, frz_func, frz_agg, frz_tup, frz_iface, fresh_func, fresh_agg, fresh_tup, fresh_iface, frz_ptr, frz_sl, fresh_sl, Cls.isFree, Cls.makes, callCls, chain, cond_true, tz, ty, faddrA, allocA, over, List.take_succ_cons, List.take_zero, List.drop_succ_cons, List.drop_zero, List.drop_nil, List.set_cons_zero, List.set_cons_succ, Nat.reduceLeDiff, and_self, H5_lives, k1, k2, k3, k4, k5, k6, hl0, accV, patP, patF, Enc.S_len, Enc.S_nid]; rfl) ?_
      exact ⟨_, rfl, rfl⟩
    · refine vcE.ex (by simp (disch := omega) only [exC, exOps, exOp, evE, evsE, putE, wantedE, Nat.reduceEqDiff, ↓reduceIte, ROp.run, same, binA, intA, strA, eqA, indexSA, byteA, unA, bounds3, Option.map_some, Option.map_none, dec_true, dec_false, Int.toNat_natCast, Int.natCast_nonneg, beq_self_eq_true, List.append_nil, beq_iff_eq, reduceCtorEq, List.getD_cons_zero, List.getD_cons_succ, loadA, rowA, pickA, bslA, storeA_eq, decide_true, flatA, List.length_cons, List.length_nil, Nat.reduceAdd, List.flatMap_cons, List.flatMap_nil, BEq.rfl, List.cons_append, List.nil_append, if_pos, if_neg, ordered, List.getElem?_cons_zero, List.getElem?_cons_succ, frzL, nidL, frz_func, frz_agg, frz_tup, frz_iface, fresh_func, fresh_agg, fresh_tup, fresh_iface, frz_ptr, frz_sl, fresh_sl, Cls.isFree, Cls.makes, callCls, chain, cond_true, tz, ty, faddrA, allocA, over, List.take_succ_cons, List.take_zero, List.drop_succ_cons, List.drop_zero, List.drop_nil, List.set_cons_zero, List.set_cons_succ, Nat.reduceLeDiff, and_self, H5_lives]; rfl) ?_
      exact ⟨_, rfl, rfl⟩
  · refine vcE.ex (by simp (disch := omega) only [exC, exOps, exOp, evE, evsE, putE, wantedE, Nat.reduceEqDiff, ↓reduceIte, ROp.run, same, binA, intA, strA, eqA, indexSA, byteA, unA, bounds3, Option.map_some, Option.map_none, dec_true, dec_false, Int.toNat_natCast, Int.natCast_nonneg, beq_self_eq_true, List.append_nil, beq_iff_eq, reduceCtorEq, List.getD_cons_zero, List.getD_cons_succ, loadA, rowA, pickA, bslA, storeA_eq, decide_true, flatA, List.length_cons, List.length_nil, Nat.reduceAdd, List.flatMap_cons, List.flatMap_nil, BEq.rfl, List.cons_append, List.nil_append, if_pos, if_neg, ordered, List.getElem?_cons_zero, List.getElem?_cons_succ, frzL, nidL, frz_func, frz_agg, frz_tup, frz_iface, fresh_func, fresh_agg, fresh_tup, fresh_iface, frz_ptr, frz_sl, fresh_sl, Cls.isFree, Cls.makes, callCls, chain, cond_true, tz, ty, faddrA, allocA, over, List.take_succ_cons, List.take_zero, List.drop_succ_cons, List.drop_zero, List.drop_nil, List.set_cons_zero, List.set_cons_succ, Nat.reduceLeDiff, and_self, H5_lives]; rfl) ?_
    exact ⟨_, rfl, rfl⟩

end Go.Gi
