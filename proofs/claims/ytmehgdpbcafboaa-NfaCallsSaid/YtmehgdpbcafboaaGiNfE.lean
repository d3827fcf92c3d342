/- States: New, Start, Step, Accepts, Run: what they give. -/
import Derived.Test.YtmehgdpbcafboaaGiNfD
set_option linter.unusedVariables false
set_option linter.unusedSimpArgs false
namespace Go.Gi
open Go Go.Proofs

/-- A call of a method's value. -/
theorem vcE.callB {P : Program} {hint : Nat → Nat} {T : Tab} {n : Nat} {d : Option Nat} {xs : List Opd} {g : Option (Nat × Bool)} {tm : Env} {hp : HP} {Q : Exit → Env → HP → Prop} {f : FuncId} {first ys : List AV} {K : AV → HP → Prop} (hw : wantedE tm g = true) (he : evsE tm xs = .bound f first :: ys) (hc : ACalls P f (first ++ ys) hp K) (hk : ∀ r hp', K r hp' → Q .normal (putE tm d r) hp') : vcE P hint T n (.reg [⟨d, .call none, xs, g⟩]) tm hp Q := by
  intro hm hT hs l Q' hl hq
  simp only [okS, List.all_cons, List.all_nil, Bool.and_true, IOp.inR, Bool.and_eq_true] at hs
  obtain ⟨⟨h1, h2⟩, h3⟩ := hs
  show vop P _ _ _
  unfold vop
  rw [if_pos (by rw [hl.wanted h3]; exact hw)]
  simp only
  rw [hl.evs h1, he]
  exact hc.mono fun r hp' hr => hq _ _ _ _ hl.put (hk r hp' hr)

/-- Glob's states as New makes them, or nil. -/
def okV : Option (List UInt8 × Bool) → Prop
  | none => True
  | some (p, _) => p ≠ [] ∧ p.length ≤ 1000000
theorem okV.small {x : Option (List UInt8 × Bool)} (h : okV x) : nSmall x := by
  cases x with
  | none => trivial
  | some a => exact h.2
instance (x : Option (List UInt8 × Bool)) : Decidable (okV x) := by
  cases x with
  | none => exact isTrue trivial
  | some a => exact inferInstanceAs (Decidable (a.1 ≠ [] ∧ a.1.length ≤ 1000000))
theorem nN_some {p : List UInt8} {f : Bool} (h : p ≠ []) : nN (some (p, f)) = p.length + 1 := by simp [nN, nSt, h]
def startV : Option (List UInt8 × Bool) → Nat → Bool
  | none => fun _ => false
  | some (p, _) => startS p
def stepV : Option (List UInt8 × Bool) → (Nat → Bool) → UInt8 → Nat → Bool
  | none, _, _ => fun _ => false
  | some (p, f), r, c => stepS (sameB f) p r c
def runV (x : Option (List UInt8 × Bool)) : List UInt8 → (Nat → Bool) → Nat → Bool
  | [], r => r
  | c :: t, r => runV x t (stepV x r c)
theorem runV_snoc (x : Option (List UInt8 × Bool)) : ∀ (t : List UInt8) (c : UInt8) (r : Nat → Bool), runV x (t ++ [c]) r = stepV x (runV x t r) c
  | [], c, r => rfl
  | d :: t, c, r => runV_snoc x t c _
theorem runV_some (p : List UInt8) (f : Bool) : ∀ (t : List UInt8) (r : Nat → Bool), runV (some (p, f)) t r = runS (sameB f) p t r
  | [], r => rfl
  | c :: t, r => runV_some p f t _

theorem pStartV (x : Option (List UInt8 × Bool)) (h : okV x) : PCF Try.prog 110 [nV x] (encT.S (rowB (nN x) (startV x))) := by
  cases x with
  | none =>
    refine pcf_e hmG H0_ok comp110 (by decide) (by simp) (nidL_ok rfl) ?_
    have hS := H0_states none trivial
    simp only [nV, nN] at hS
    refine vcE.ex (by simp (disch := omega) only [exC, exOps, exOp, evE, evsE, putE, wantedE, Nat.reduceEqDiff, ↓reduceIte, ROp.run, same, binA, intA, strA, eqA, indexSA, byteA, unA, bounds3, Option.map_some, Option.map_none, dec_true, dec_false, Int.toNat_natCast, Int.natCast_nonneg, beq_self_eq_true, List.append_nil, beq_iff_eq, reduceCtorEq, List.getD_cons_zero, List.getD_cons_succ, loadA, rowA, pickA, bslA, storeA_eq, decide_true, flatA, List.length_cons, List.length_nil, Nat.reduceAdd, List.flatMap_cons, List.flatMap_nil, BEq.rfl, List.cons_append, List.nil_append, if_pos, if_neg, ordered, List.getElem?_cons_zero, List.getElem?_cons_succ, frzL, nidL, frz_func, frz_agg, frz_tup, frz_iface, fresh_func, fresh_agg, fresh_tup, fresh_iface, frz_ptr, frz_sl, fresh_sl, Cls.isFree, Cls.makes, callCls, chain, cond_true, tz, ty, faddrA, allocA, over, List.take_succ_cons, List.take_zero, List.drop_succ_cons, List.drop_zero, List.drop_nil, List.set_cons_zero, List.set_cons_succ, Nat.reduceLeDiff, and_self, nV, hS, make_row]; rfl) ?_
    exact ⟨_, rfl, rfl⟩
  | some a =>
    obtain ⟨p, f⟩ := a
    rw [nN_some h.1]
    exact pStart p f h.1 h.2

theorem pStepNil (c : UInt8) : PCF Try.prog 107 [.nilp, encT.S [], .int .u8 c.toNat] (encT.S []) := by
  refine pcf_of (nidL_ok rfl) ((calls_k hmG H2_ok comp107 keys107 (by decide) (by simp) (K := fun r' hp' => fresh hp' r' = some (encT.S [])) ?_).mono fun _ _ => fresh_ok)
  have hmk := make_row (hp := [some (.row 73 [.nilp]), some (.row 5 [.int .u8 c.toNat])]) (N := 0) (k := .i64) (k' := .i64) (by omega)
  have hall := H2_all []
  refine vcE.step (by simp (disch := omega) only [exC, exOps, exOp, evE, evsE, putE, wantedE, Nat.reduceEqDiff, ↓reduceIte, ROp.run, same, binA, intA, strA, eqA, indexSA, byteA, unA, bounds3, Option.map_some, Option.map_none, dec_true, dec_false, Int.toNat_natCast, Int.natCast_nonneg, beq_self_eq_true, List.append_nil, beq_iff_eq, reduceCtorEq, List.getD_cons_zero, List.getD_cons_succ, loadA, rowA, pickA, bslA, storeA_eq, decide_true, flatA, List.length_cons, List.length_nil, Nat.reduceAdd, List.flatMap_cons, List.flatMap_nil, BEq.rfl, List.cons_append, List.nil_append, if_pos, if_neg, ordered, List.getElem?_cons_zero, List.getElem?_cons_succ, frzL, nidL, frz_func, frz_agg, frz_tup, frz_iface, fresh_func, fresh_agg, fresh_tup, fresh_iface, frz_ptr, frz_sl, fresh_sl, Cls.isFree, Cls.makes, callCls, chain, cond_true, tz, ty, faddrA, allocA, over, List.take_succ_cons, List.take_zero, List.drop_succ_cons, List.drop_zero, List.drop_nil, List.set_cons_zero, List.set_cons_succ, Nat.reduceLeDiff, and_self]; rfl) (vcE.step (by simp (disch := omega) only [exC, exOps, exOp, evE, evsE, putE, wantedE, Nat.reduceEqDiff, ↓reduceIte, ROp.run, same, binA, intA, strA, eqA, indexSA, byteA, unA, bounds3, Option.map_some, Option.map_none, dec_true, dec_false, Int.toNat_natCast, Int.natCast_nonneg, beq_self_eq_true, List.append_nil, beq_iff_eq, reduceCtorEq, List.getD_cons_zero, List.getD_cons_succ, loadA, rowA, pickA, bslA, storeA_eq, decide_true, flatA, List.length_cons, List.length_nil, Nat.reduceAdd, List.flatMap_cons, List.flatMap_nil, BEq.rfl, List.cons_append, List.nil_append, if_pos, if_neg, ordered, List.getElem?_cons_zero, List.getElem?_cons_succ, frzL, nidL, frz_func, frz_agg, frz_tup, frz_iface, fresh_func, fresh_agg, fresh_tup, fresh_iface, frz_ptr, frz_sl, fresh_sl, Cls.isFree, Cls.makes, callCls, chain, cond_true, tz, ty, faddrA, allocA, over, List.take_succ_cons, List.take_zero, List.drop_succ_cons, List.drop_zero, List.drop_nil, List.set_cons_zero, List.set_cons_succ, Nat.reduceLeDiff, and_self, ↓hmk]; rfl) (vcE.then (fun e tm hp => e = .normal ∧ tm 7 = .ptr 3 0 ∧ ∃ b, hp = [some (.row 73 [.nilp]), some (.row 5 [.int .u8 c.toNat]), rowBlk 0 (fun _ => false), some (.row 119 [.sl 2 0 0 1 0 true]), b]) ?_ ?_))
  · refine vcE.step (by simp (disch := omega) only [exC, exOps, exOp, evE, evsE, putE, wantedE, Nat.reduceEqDiff, ↓reduceIte, ROp.run, same, binA, intA, strA, eqA, indexSA, byteA, unA, bounds3, Option.map_some, Option.map_none, dec_true, dec_false, Int.toNat_natCast, Int.natCast_nonneg, beq_self_eq_true, List.append_nil, beq_iff_eq, reduceCtorEq, List.getD_cons_zero, List.getD_cons_succ, loadA, rowA, pickA, bslA, storeA_eq, decide_true, flatA, List.length_cons, List.length_nil, Nat.reduceAdd, List.flatMap_cons, List.flatMap_nil, BEq.rfl, List.cons_append, List.nil_append, if_pos, if_neg, ordered, List.getElem?_cons_zero, List.getElem?_cons_succ, frzL, nidL, frz_func, frz_agg, frz_tup, frz_iface, fresh_func, fresh_agg, fresh_tup, fresh_iface, frz_ptr, frz_sl, fresh_sl, Cls.isFree, Cls.makes, callCls, chain, cond_true, tz, ty, faddrA, allocA, over, List.take_succ_cons, List.take_zero, List.drop_succ_cons, List.drop_zero, List.drop_nil, List.set_cons_zero, List.set_cons_succ, Nat.reduceLeDiff, and_self, hall, Enc.S_nid]; rfl) (vcE.block (vcE.rangeF (g := 137) (caps := [.fptr [encT.S []] 0]) ?_ ?_))
    · simp only [evE, upd_app, Nat.reduceEqDiff, ↓reduceIte]
    · intro l hl'
      refine (cAll (R := []) (by simp) (id := 4) (J := fun i hp => hp = [some (.row 73 [.nilp]), some (.row 5 [.int .u8 c.toNat]), rowBlk 0 (fun _ => false), some (.row 119 [.sl 2 0 0 1 0 true]), some (.loop l 107000 .ready none)]) (S := fun hp => False) rfl ?_ ?_).mono ?_
      · intro i hp hi; simp at hi
      · intro i hp hi; simp at hi
      · rintro rv hp' (h2 | h2)
        · subst h2
          refine ⟨l, _, .ready, none, rfl, by simp, rfl, ?_, some (.loop l 107000 .exhausted none), rfl⟩
          simp only [upd_app, Nat.reduceEqDiff, ↓reduceIte]
        · exact h2.elim
  · rintro e tm hp ⟨rfl, h7, b, rfl⟩
    refine vcE.ex (by simp (disch := omega) only [exC, exOps, exOp, evE, evsE, putE, wantedE, Nat.reduceEqDiff, ↓reduceIte, ROp.run, same, binA, intA, strA, eqA, indexSA, byteA, unA, bounds3, Option.map_some, Option.map_none, dec_true, dec_false, Int.toNat_natCast, Int.natCast_nonneg, beq_self_eq_true, List.append_nil, beq_iff_eq, reduceCtorEq, List.getD_cons_zero, List.getD_cons_succ, loadA, rowA, pickA, bslA, storeA_eq, decide_true, flatA, List.length_cons, List.length_nil, Nat.reduceAdd, List.flatMap_cons, List.flatMap_nil, BEq.rfl, List.cons_append, List.nil_append, if_pos, if_neg, ordered, List.getElem?_cons_zero, List.getElem?_cons_succ, frzL, nidL, frz_func, frz_agg, frz_tup, frz_iface, fresh_func, fresh_agg, fresh_tup, fresh_iface, frz_ptr, frz_sl, fresh_sl, Cls.isFree, Cls.makes, callCls, chain, cond_true, tz, ty, faddrA, allocA, over, List.take_succ_cons, List.take_zero, List.drop_succ_cons, List.drop_zero, List.drop_nil, List.set_cons_zero, List.set_cons_succ, Nat.reduceLeDiff, and_self, h7]; rfl) ?_
    exact ⟨_, rfl, rfl⟩
theorem pStepV (x : Option (List UInt8 × Bool)) (h : okV x) (r : Nat → Bool) (c : UInt8) : PCF Try.prog 107 [nV x, encT.S (rowB (nN x) r), .int .u8 c.toNat] (encT.S (rowB (nN x) (stepV x r c))) := by
  cases x with
  | none => exact pStepNil c
  | some a =>
    obtain ⟨p, f⟩ := a
    rw [nN_some h.1]
    exact pStep p f c h.1 h.2 r

/-- A row's function. -/
def unRow (R : List Bool) (i : Nat) : Bool := R[i]?.getD false
theorem rowB_unRow (R : List Bool) : rowB R.length (unRow R) = R := by
  apply List.ext_getElem?
  intro i
  by_cases hi : i < R.length
  · rw [rowB_get hi, List.getElem?_eq_getElem hi]
    simp [unRow, hi]
  · rw [List.getElem?_eq_none (by rw [rowB_len]; omega), List.getElem?_eq_none (by omega)]

def H3 : Tab := (((H2.addO 110 (.cons .nfa .nil) fun p => if okV p.1 then some (.rd true (encT.S (rowB (nN p.1) (startV p.1)))) else none).addO 108 (.cons .nfa (.cons (.S encI) .nil)) fun p => if okV p.1 ∧ p.2.1.length ≤ 1000000 then some (.rd true (encT.S (rowB (nN p.1) (ofS p.2.1)))) else none).addO 107 (.cons .nfa (.cons (.S encT) (.cons .u8 .nil))) fun p => if okV p.1 ∧ p.2.1.length = nN p.1 then some (.rd true (encT.S (rowB (nN p.1) (stepV p.1 (unRow p.2.1) p.2.2.1)))) else none).addO 109 (.cons (.S encT) .nil) fun p => if p.1.length ≤ 1000000 then some (.rd true (encI.S (listB p.1))) else none
theorem H3_ok : TabOk Try.prog H3 := by
  refine TabOk.addO (TabOk.addO (TabOk.addO (TabOk.addO H2_ok ?_) ?_) ?_) ?_
  · intro p r h
    split at h
    · rename_i hv
      cases h
      exact pStartV p.1 hv
    · cases h
  · intro p r h
    split at h
    · rename_i hv
      cases h
      exact pOf p.1 hv.1.small p.2.1 hv.2
    · cases h
  · intro p r h
    split at h
    · rename_i hv
      cases h
      have := pStepV p.1 hv.1 (unRow p.2.1) p.2.2.1
      rw [← hv.2, rowB_unRow, hv.2] at this
      exact this
    · cases h
  · intro p r h
    split at h
    · rename_i hv
      cases h
      exact pList p.1 hv
    · cases h
theorem H3_start (x : Option (List UInt8 × Bool)) (h : okV x) : H3 110 [nV x] = some (.rd true (encT.S (rowB (nN x) (startV x)))) := by
  rw [H3, Tab.addO_ne _ _ _ _ rfl, Tab.addO_ne _ _ _ _ rfl, Tab.addO_ne _ _ _ _ rfl]
  refine (Tab.addO_self _ _ (.cons .nfa .nil) _ (x, ())).trans ?_
  rw [if_pos h]
theorem H3_of (x : Option (List UInt8 × Bool)) (h : okV x) (l : List Int) (hl : l.length ≤ 1000000) : H3 108 [nV x, encI.S l] = some (.rd true (encT.S (rowB (nN x) (ofS l)))) := by
  rw [H3, Tab.addO_ne _ _ _ _ rfl, Tab.addO_ne _ _ _ _ rfl]
  refine (Tab.addO_self _ _ (.cons .nfa (.cons (.S encI) .nil)) _ (x, l, ())).trans ?_
  rw [if_pos ⟨h, hl⟩]
theorem H3_step (x : Option (List UInt8 × Bool)) (h : okV x) (r : Nat → Bool) (c : UInt8) (hr : ∀ r r' : Nat → Bool, (∀ i, i < nN x → r i = r' i) → rowB (nN x) (stepV x r c) = rowB (nN x) (stepV x r' c)) : H3 107 [nV x, encT.S (rowB (nN x) r), .int .u8 c.toNat] = some (.rd true (encT.S (rowB (nN x) (stepV x r c)))) := by
  rw [H3, Tab.addO_ne _ _ _ _ rfl]
  refine (Tab.addO_self _ _ (.cons .nfa (.cons (.S encT) (.cons .u8 .nil))) _ (x, rowB (nN x) r, c, ())).trans ?_
  rw [if_pos ⟨h, rowB_len _ _⟩]
  show some (Res.rd true (encT.S (rowB (nN x) (stepV x (unRow (rowB (nN x) r)) c)))) = _
  rw [hr _ r fun i hi => by simp only [unRow, rowB_get hi, Option.getD_some]]
theorem stepV_congr {x : Option (List UInt8 × Bool)} (h : okV x) {c : UInt8} (r r' : Nat → Bool) (hr : ∀ i, i < nN x → r i = r' i) : rowB (nN x) (stepV x r c) = rowB (nN x) (stepV x r' c) := by
  refine rowB_congr fun j hj => ?_
  cases x with
  | none => rfl
  | some a =>
    obtain ⟨p, f⟩ := a
    exact stepS_congr fun i hi => hr i (by omega)
theorem H3_list (R : List Bool) (h : R.length ≤ 1000000) : H3 109 [encT.S R] = some (.rd true (encI.S (listB R))) := by
  refine (Tab.addO_self _ _ (.cons (.S encT) .nil) _ (R, ())).trans ?_
  rw [if_pos h]

/-- A row's list. -/
def lst (N : Nat) (b : Nat → Bool) : List Int := listB (rowB N b)
theorem okV.n {x : Option (List UInt8 × Bool)} (h : okV x) : nN x ≤ 1000001 := nN_small h.small
theorem nV_frz (x : Option (List UInt8 × Bool)) (hp : HP) : frz hp (nV x) = some (nV x) := by
  cases x with
  | none => rfl
  | some a => rfl

/-- As New makes them, and not the longest. -/
def okW (x : Option (List UInt8 × Bool)) : Prop := okV x ∧ nN x ≤ 1000000

theorem pStartM (x : Option (List UInt8 × Bool)) (h : okW x) : PCF Try.prog 58 [nV x] (encI.S (lst (nN x) (startV x))) := by
  refine pcf_e hmG H3_ok comp58 (by decide) (by simp) (nidL_ok (by simp only [nidL, nV_nid, Bool.and_self])) ?_
  have h1 := H3_start x h.1
  refine vcE.step (by simp only [exC, exOps, exOp, evE, evsE, putE, wantedE, Nat.reduceEqDiff, ↓reduceIte, ROp.run, same, binA, intA, strA, eqA, indexSA, byteA, unA, bounds3, Option.map_some, Option.map_none, dec_true, dec_false, Int.toNat_natCast, Int.natCast_nonneg, beq_self_eq_true, List.append_nil, beq_iff_eq, reduceCtorEq, List.getD_cons_zero, List.getD_cons_succ, loadA, rowA, pickA, bslA, storeA_eq, decide_true, flatA, List.length_cons, List.length_nil, Nat.reduceAdd, List.flatMap_cons, List.flatMap_nil, BEq.rfl, List.cons_append, List.nil_append, if_pos, if_neg, ordered, List.getElem?_cons_zero, List.getElem?_cons_succ, frzL, nidL, frz_func, frz_agg, frz_tup, frz_iface, fresh_func, fresh_agg, fresh_tup, fresh_iface, frz_ptr, frz_sl, fresh_sl, Cls.isFree, Cls.makes, callCls, chain, cond_true, tz, ty]; rfl) (vcE.seq ?_)
  rw [show r58_1 = r58_1.take 2 ++ ((r58_1.drop 2).take 1 ++ r58_1.drop 3) from rfl]
  refine vcE.app (vcE.ex (by simp (disch := omega) only [exC, exOps, exOp, evE, evsE, putE, wantedE, Nat.reduceEqDiff, ↓reduceIte, ROp.run, same, binA, intA, strA, eqA, indexSA, byteA, unA, bounds3, Option.map_some, Option.map_none, dec_true, dec_false, Int.toNat_natCast, Int.natCast_nonneg, beq_self_eq_true, List.append_nil, beq_iff_eq, reduceCtorEq, List.getD_cons_zero, List.getD_cons_succ, loadA, rowA, pickA, bslA, storeA_eq, decide_true, flatA, List.length_cons, List.length_nil, Nat.reduceAdd, List.flatMap_cons, List.flatMap_nil, BEq.rfl, List.cons_append, List.nil_append, if_pos, if_neg, ordered, List.getElem?_cons_zero, List.getElem?_cons_succ, frzL, nidL, frz_func, frz_agg, frz_tup, frz_iface, fresh_func, fresh_agg, fresh_tup, fresh_iface, frz_ptr, frz_sl, fresh_sl, Cls.isFree, Cls.makes, callCls, chain, cond_true, tz, ty, faddrA, allocA, over, List.take_succ_cons, List.take_zero, List.drop_succ_cons, List.drop_zero, List.drop_nil, List.set_cons_zero, List.set_cons_succ, Nat.reduceLeDiff, and_self, nV_frz, nV_nid, h1, Enc.S_nid]; rfl) ⟨rfl, vcE.app (vcE.call (f := 109) (caps := []) (ys := [encT.S (rowB (nN x) (startV x))]) rfl ?_ (cList _ (by rw [rowB_len]; exact h.2)) ?_)⟩)
  · simp only [evsE, evE, upd_app, Nat.reduceEqDiff, ↓reduceIte]
  · rintro r hp' ⟨id, rfl, hb⟩
    refine ⟨rfl, vcE.ex (by simp (disch := omega) only [exC, exOps, exOp, evE, evsE, putE, wantedE, Nat.reduceEqDiff, ↓reduceIte, ROp.run, same, binA, intA, strA, eqA, indexSA, byteA, unA, bounds3, Option.map_some, Option.map_none, dec_true, dec_false, Int.toNat_natCast, Int.natCast_nonneg, beq_self_eq_true, List.append_nil, beq_iff_eq, reduceCtorEq, List.getD_cons_zero, List.getD_cons_succ, loadA, rowA, pickA, bslA, storeA_eq, decide_true, flatA, List.length_cons, List.length_nil, Nat.reduceAdd, List.flatMap_cons, List.flatMap_nil, BEq.rfl, List.cons_append, List.nil_append, if_pos, if_neg, ordered, List.getElem?_cons_zero, List.getElem?_cons_succ, frzL, nidL, frz_func, frz_agg, frz_tup, frz_iface, fresh_func, fresh_agg, fresh_tup, fresh_iface, frz_ptr, frz_sl, fresh_sl, Cls.isFree, Cls.makes, callCls, chain, cond_true, tz, ty, faddrA, allocA, over, List.take_succ_cons, List.take_zero, List.drop_succ_cons, List.drop_zero, List.drop_nil, List.set_cons_zero, List.set_cons_succ, Nat.reduceLeDiff, and_self]; rfl) ?_⟩
    refine vcE.ex (by simp only [exC, exOps, exOp, evE, evsE, putE, wantedE, Nat.reduceEqDiff, ↓reduceIte, ROp.run, same, binA, intA, strA, eqA, indexSA, byteA, unA, bounds3, Option.map_some, Option.map_none, dec_true, dec_false, Int.toNat_natCast, Int.natCast_nonneg, beq_self_eq_true, List.append_nil, beq_iff_eq, reduceCtorEq, List.getD_cons_zero, List.getD_cons_succ, loadA, rowA, pickA, bslA, storeA_eq, decide_true, flatA, List.length_cons, List.length_nil, Nat.reduceAdd, List.flatMap_cons, List.flatMap_nil, BEq.rfl, List.cons_append, List.nil_append, if_pos, if_neg, ordered, List.getElem?_cons_zero, List.getElem?_cons_succ, frzL, nidL, frz_func, frz_agg, frz_tup, frz_iface, fresh_func, fresh_agg, fresh_tup, fresh_iface, frz_ptr, frz_sl, fresh_sl, Cls.isFree, Cls.makes, callCls, chain, cond_true, tz, ty]; rfl) ?_
    exact ⟨_, rfl, hb.fresh⟩
theorem pStepM (x : Option (List UInt8 × Bool)) (h : okW x) (l : List Int) (hl : l.length ≤ 1000000) (c : UInt8) : PCF Try.prog 52 [nV x, encI.S l, .int .u8 c.toNat] (encI.S (lst (nN x) (stepV x (ofS l) c))) := by
  refine pcf_e hmG H3_ok comp52 (by decide) (by simp) (nidL_ok (by simp only [nidL, nV_nid, Enc.S_nid, nid_int, Bool.and_self])) ?_
  have h1 := H3_of x h.1 l hl
  have h2 := H3_step x h.1 (ofS l) c (stepV_congr h.1)
  refine vcE.step (by simp only [exC, exOps, exOp, evE, evsE, putE, wantedE, Nat.reduceEqDiff, ↓reduceIte, ROp.run, same, binA, intA, strA, eqA, indexSA, byteA, unA, bounds3, Option.map_some, Option.map_none, dec_true, dec_false, Int.toNat_natCast, Int.natCast_nonneg, beq_self_eq_true, List.append_nil, beq_iff_eq, reduceCtorEq, List.getD_cons_zero, List.getD_cons_succ, loadA, rowA, pickA, bslA, storeA_eq, decide_true, flatA, List.length_cons, List.length_nil, Nat.reduceAdd, List.flatMap_cons, List.flatMap_nil, BEq.rfl, List.cons_append, List.nil_append, if_pos, if_neg, ordered, List.getElem?_cons_zero, List.getElem?_cons_succ, frzL, nidL, frz_func, frz_agg, frz_tup, frz_iface, fresh_func, fresh_agg, fresh_tup, fresh_iface, frz_ptr, frz_sl, fresh_sl, Cls.isFree, Cls.makes, callCls, chain, cond_true, tz, ty]; rfl) (vcE.seq ?_)
  rw [show r52_1 = r52_1.take 6 ++ ((r52_1.drop 6).take 1 ++ r52_1.drop 7) from rfl]
  refine vcE.app (vcE.ex (by simp (disch := omega) only [exC, exOps, exOp, evE, evsE, putE, wantedE, Nat.reduceEqDiff, ↓reduceIte, ROp.run, same, binA, intA, strA, eqA, indexSA, byteA, unA, bounds3, Option.map_some, Option.map_none, dec_true, dec_false, Int.toNat_natCast, Int.natCast_nonneg, beq_self_eq_true, List.append_nil, beq_iff_eq, reduceCtorEq, List.getD_cons_zero, List.getD_cons_succ, loadA, rowA, pickA, bslA, storeA_eq, decide_true, flatA, List.length_cons, List.length_nil, Nat.reduceAdd, List.flatMap_cons, List.flatMap_nil, BEq.rfl, List.cons_append, List.nil_append, if_pos, if_neg, ordered, List.getElem?_cons_zero, List.getElem?_cons_succ, frzL, nidL, frz_func, frz_agg, frz_tup, frz_iface, fresh_func, fresh_agg, fresh_tup, fresh_iface, frz_ptr, frz_sl, fresh_sl, Cls.isFree, Cls.makes, callCls, chain, cond_true, tz, ty, faddrA, allocA, over, List.take_succ_cons, List.take_zero, List.drop_succ_cons, List.drop_zero, List.drop_nil, List.set_cons_zero, List.set_cons_succ, Nat.reduceLeDiff, and_self, nV_frz, nV_nid, h1, h2, Enc.S_nid]; rfl) ⟨rfl, vcE.app (vcE.call (f := 109) (caps := []) (ys := [encT.S (rowB (nN x) (stepV x (ofS l) c))]) rfl ?_ (cList _ (by rw [rowB_len]; exact h.2)) ?_)⟩)
  · simp only [evsE, evE, upd_app, Nat.reduceEqDiff, ↓reduceIte]
  · rintro r hp' ⟨id, rfl, hb⟩
    refine ⟨rfl, vcE.ex (by simp (disch := omega) only [exC, exOps, exOp, evE, evsE, putE, wantedE, Nat.reduceEqDiff, ↓reduceIte, ROp.run, same, binA, intA, strA, eqA, indexSA, byteA, unA, bounds3, Option.map_some, Option.map_none, dec_true, dec_false, Int.toNat_natCast, Int.natCast_nonneg, beq_self_eq_true, List.append_nil, beq_iff_eq, reduceCtorEq, List.getD_cons_zero, List.getD_cons_succ, loadA, rowA, pickA, bslA, storeA_eq, decide_true, flatA, List.length_cons, List.length_nil, Nat.reduceAdd, List.flatMap_cons, List.flatMap_nil, BEq.rfl, List.cons_append, List.nil_append, if_pos, if_neg, ordered, List.getElem?_cons_zero, List.getElem?_cons_succ, frzL, nidL, frz_func, frz_agg, frz_tup, frz_iface, fresh_func, fresh_agg, fresh_tup, fresh_iface, frz_ptr, frz_sl, fresh_sl, Cls.isFree, Cls.makes, callCls, chain, cond_true, tz, ty, faddrA, allocA, over, List.take_succ_cons, List.take_zero, List.drop_succ_cons, List.drop_zero, List.drop_nil, List.set_cons_zero, List.set_cons_succ, Nat.reduceLeDiff, and_self]; rfl) ?_⟩
    refine vcE.ex (by simp only [exC, exOps, exOp, evE, evsE, putE, wantedE, Nat.reduceEqDiff, ↓reduceIte, ROp.run, same, binA, intA, strA, eqA, indexSA, byteA, unA, bounds3, Option.map_some, Option.map_none, dec_true, dec_false, Int.toNat_natCast, Int.natCast_nonneg, beq_self_eq_true, List.append_nil, beq_iff_eq, reduceCtorEq, List.getD_cons_zero, List.getD_cons_succ, loadA, rowA, pickA, bslA, storeA_eq, decide_true, flatA, List.length_cons, List.length_nil, Nat.reduceAdd, List.flatMap_cons, List.flatMap_nil, BEq.rfl, List.cons_append, List.nil_append, if_pos, if_neg, ordered, List.getElem?_cons_zero, List.getElem?_cons_succ, frzL, nidL, frz_func, frz_agg, frz_tup, frz_iface, fresh_func, fresh_agg, fresh_tup, fresh_iface, frz_ptr, frz_sl, fresh_sl, Cls.isFree, Cls.makes, callCls, chain, cond_true, tz, ty]; rfl) ?_
    exact ⟨_, rfl, hb.fresh⟩
/-- Is the length among places? -/
def accV (x : Option (List UInt8 × Bool)) (r : Nat → Bool) : Bool := match x with
  | none => false
  | some (p, _) => r p.length
theorem acc_region {N : Nat} {b : Nat → Bool} (hN : 0 < N) {k : IntKind} : iaddrA 1 (encT.S (rowB N b)) (.int k ((N : Int) - 1)) = some (.fptr (encT.cs (rowB N b)) (N - 1)) := by
  have := encT_iaddr (R := rowB N b) (i := N - 1) (k := k) (by rw [rowB_len]; omega)
  rw [show ((N - 1 : Nat) : Int) = (N : Int) - 1 by omega] at this
  exact this
theorem pAccepts (x : Option (List UInt8 × Bool)) (h : okW x) (l : List Int) (hl : l.length ≤ 1000000) : PCF Try.prog 55 [nV x, encI.S l] (.bool (accV x (ofS l))) := by
  refine pcf_e hmG H3_ok comp55 (by decide) (by simp) (nidL_ok (by simp only [nidL, nV_nid, Enc.S_nid, nid_int, Bool.and_self])) ?_
  have h1 := H3_of x h.1 l hl
  have hn := h.2
  cases x with
  | none =>
    simp only [nN] at h1
    refine vcE.ex (by simp (disch := omega) only [exC, exOps, exOp, evE, evsE, putE, wantedE, Nat.reduceEqDiff, ↓reduceIte, ROp.run, same, binA, intA, strA, eqA, indexSA, byteA, unA, bounds3, Option.map_some, Option.map_none, dec_true, dec_false, Int.toNat_natCast, Int.natCast_nonneg, beq_self_eq_true, List.append_nil, beq_iff_eq, reduceCtorEq, List.getD_cons_zero, List.getD_cons_succ, loadA, rowA, pickA, bslA, storeA_eq, decide_true, flatA, List.length_cons, List.length_nil, Nat.reduceAdd, List.flatMap_cons, List.flatMap_nil, BEq.rfl, List.cons_append, List.nil_append, if_pos, if_neg, ordered, List.getElem?_cons_zero, List.getElem?_cons_succ, frzL, nidL, frz_func, frz_agg, frz_tup, frz_iface, fresh_func, fresh_agg, fresh_tup, fresh_iface, frz_ptr, frz_sl, fresh_sl, Cls.isFree, Cls.makes, callCls, chain, cond_true, tz, ty, faddrA, allocA, over, List.take_succ_cons, List.take_zero, List.drop_succ_cons, List.drop_zero, List.drop_nil, List.set_cons_zero, List.set_cons_succ, Nat.reduceLeDiff, and_self, nV_frz, nV_nid, h1, Enc.S_nid, rowB_len]; rfl) ?_
    exact ⟨_, rfl, rfl⟩
  | some a =>
    obtain ⟨p, f⟩ := a
    rw [nN_some h.1.1] at h1 hn
    have hia := acc_region (N := p.length + 1) (b := ofS l) (by omega) (k := .i64)
    have hpick := encT.pick1 (l := rowB (p.length + 1) (ofS l)) rfl (rowB_get (i := p.length) (by omega)) (v := .bool (ofS l p.length)) rfl rfl
    rw [show p.length + 1 - 1 = p.length by omega] at hia
    have hlen : ∀ hp, lenA hp (encT.S (rowB (p.length + 1) (ofS l))) = some (.int .i64 ((p.length + 1 : Nat) : Int)) := fun hp => by rw [encT.S_len, rowB_len]
    refine vcE.ex (by simp (disch := omega) only [exC, exOps, exOp, evE, evsE, putE, wantedE, Nat.reduceEqDiff, ↓reduceIte, ROp.run, same, binA, intA, strA, eqA, indexSA, byteA, unA, bounds3, Option.map_some, Option.map_none, dec_true, dec_false, Int.toNat_natCast, Int.natCast_nonneg, beq_self_eq_true, List.append_nil, beq_iff_eq, reduceCtorEq, List.getD_cons_zero, List.getD_cons_succ, loadA, rowA, pickA, bslA, storeA_eq, decide_true, flatA, List.length_cons, List.length_nil, Nat.reduceAdd, List.flatMap_cons, List.flatMap_nil, BEq.rfl, List.cons_append, List.nil_append, if_pos, if_neg, ordered, List.getElem?_cons_zero, List.getElem?_cons_succ, frzL, nidL, frz_func, frz_agg, frz_tup, frz_iface, fresh_func, fresh_agg, fresh_tup, fresh_iface, frz_ptr, frz_sl, fresh_sl, Cls.isFree, Cls.makes, callCls, chain, cond_true, tz, ty, faddrA, allocA, over, List.take_succ_cons, List.take_zero, List.drop_succ_cons, List.drop_zero, List.drop_nil, List.set_cons_zero, List.set_cons_succ, Nat.reduceLeDiff, and_self, nV_frz, nV_nid, h1, Enc.S_nid, ↓hlen, hia, ↓hpick]; rfl) ?_
    refine ⟨_, rfl, rfl⟩

theorem pRun (x : Option (List UInt8 × Bool)) (h : okW x) (t : List UInt8) (ht : t.length ≤ 1000000) : PCF Try.prog 59 [nV x, .str t] (.bool (accV x (runV x t (startV x)))) := by
  refine pcf_e hmG H3_ok comp59 (by decide) (by simp) (nidL_ok (by simp only [nidL, nV_nid, nid_str, Bool.and_self])) ?_
  have h1 := H3_start x h.1
  have hn := h.2
  refine vcE.step (by simp only [exC, exOps, exOp, evE, evsE, putE, wantedE, Nat.reduceEqDiff, ↓reduceIte, ROp.run, same, binA, intA, strA, eqA, indexSA, byteA, unA, bounds3, Option.map_some, Option.map_none, dec_true, dec_false, Int.toNat_natCast, Int.natCast_nonneg, beq_self_eq_true, List.append_nil, beq_iff_eq, reduceCtorEq, List.getD_cons_zero, List.getD_cons_succ, loadA, rowA, pickA, bslA, storeA_eq, decide_true, flatA, List.length_cons, List.length_nil, Nat.reduceAdd, List.flatMap_cons, List.flatMap_nil, BEq.rfl, List.cons_append, List.nil_append, if_pos, if_neg, ordered, List.getElem?_cons_zero, List.getElem?_cons_succ, frzL, nidL, frz_func, frz_agg, frz_tup, frz_iface, fresh_func, fresh_agg, fresh_tup, fresh_iface, frz_ptr, frz_sl, fresh_sl, Cls.isFree, Cls.makes, callCls, chain, cond_true, tz, ty]; rfl) (vcE.step (by simp only [exC, exOps, exOp, evE, evsE, putE, wantedE, Nat.reduceEqDiff, ↓reduceIte, ROp.run, same, binA, intA, strA, eqA, indexSA, byteA, unA, bounds3, Option.map_some, Option.map_none, dec_true, dec_false, Int.toNat_natCast, Int.natCast_nonneg, beq_self_eq_true, List.append_nil, beq_iff_eq, reduceCtorEq, List.getD_cons_zero, List.getD_cons_succ, loadA, rowA, pickA, bslA, storeA_eq, decide_true, flatA, List.length_cons, List.length_nil, Nat.reduceAdd, List.flatMap_cons, List.flatMap_nil, BEq.rfl, List.cons_append, List.nil_append, if_pos, if_neg, ordered, List.getElem?_cons_zero, List.getElem?_cons_succ, frzL, nidL, frz_func, frz_agg, frz_tup, frz_iface, fresh_func, fresh_agg, fresh_tup, fresh_iface, frz_ptr, frz_sl, fresh_sl, Cls.isFree, Cls.makes, callCls, chain, cond_true, tz, ty]; rfl) (vcE.step (by simp only [exC, exOps, exOp, evE, evsE, putE, wantedE, Nat.reduceEqDiff, ↓reduceIte, ROp.run, same, binA, intA, strA, eqA, indexSA, byteA, unA, bounds3, Option.map_some, Option.map_none, dec_true, dec_false, Int.toNat_natCast, Int.natCast_nonneg, beq_self_eq_true, List.append_nil, beq_iff_eq, reduceCtorEq, List.getD_cons_zero, List.getD_cons_succ, loadA, rowA, pickA, bslA, storeA_eq, decide_true, flatA, List.length_cons, List.length_nil, Nat.reduceAdd, List.flatMap_cons, List.flatMap_nil, BEq.rfl, List.cons_append, List.nil_append, if_pos, if_neg, ordered, List.getElem?_cons_zero, List.getElem?_cons_succ, frzL, nidL, frz_func, frz_agg, frz_tup, frz_iface, fresh_func, fresh_agg, fresh_tup, fresh_iface, frz_ptr, frz_sl, fresh_sl, Cls.isFree, Cls.makes, callCls, chain, cond_true, tz, ty, nV_frz, h1]; rfl) (vcE.then (fun e tm hp => e = .normal ∧ tm 6 = encT.S (rowB (nN x) (runV x t (startV x)))) ?_ ?_)))
  · refine vcE.step (by simp only [exC, exOps, exOp, evE, evsE, putE, wantedE, Nat.reduceEqDiff, ↓reduceIte, ROp.run, same, binA, intA, strA, eqA, indexSA, byteA, unA, bounds3, Option.map_some, Option.map_none, dec_true, dec_false, Int.toNat_natCast, Int.natCast_nonneg, beq_self_eq_true, List.append_nil, beq_iff_eq, reduceCtorEq, List.getD_cons_zero, List.getD_cons_succ, loadA, rowA, pickA, bslA, storeA_eq, decide_true, flatA, List.length_cons, List.length_nil, Nat.reduceAdd, List.flatMap_cons, List.flatMap_nil, BEq.rfl, List.cons_append, List.nil_append, if_pos, if_neg, ordered, List.getElem?_cons_zero, List.getElem?_cons_succ, frzL, nidL, frz_func, frz_agg, frz_tup, frz_iface, fresh_func, fresh_agg, fresh_tup, fresh_iface, frz_ptr, frz_sl, fresh_sl, Cls.isFree, Cls.makes, callCls, chain, cond_true, tz, ty]; rfl) (vcE.block (vcE.count (by intro l tm hp h; simp at h)
      (fun i tm hp => tm 1 = .str t ∧ tm 5 = .bound 107 [nV x] ∧ tm 13 = .int .i64 t.length ∧ tm 14 = .int .i64 i ∧ tm 6 = encT.S (rowB (nN x) (runV x (t.take i) (startV x)))) t.length ⟨?_, ?_, ?_, ?_, ?_⟩ ?_ ?_))
    · rfl
    · rfl
    · rfl
    · rfl
    · rfl
    · rintro i tm hp hi ⟨e1, e5, e13, e14, e6⟩
      obtain ⟨c, hc⟩ : ∃ c, t[i]? = some c := ⟨_, List.getElem?_eq_getElem hi⟩
      have htk : t.take (i + 1) = t.take i ++ [c] := by rw [List.take_add_one, hc]; rfl
      refine vcE.step (by simp (disch := omega) only [exC, exOps, exOp, evE, evsE, putE, wantedE, Nat.reduceEqDiff, ↓reduceIte, ROp.run, same, binA, intA, strA, eqA, indexSA, byteA, unA, bounds3, Option.map_some, Option.map_none, dec_true, dec_false, Int.toNat_natCast, Int.natCast_nonneg, beq_self_eq_true, List.append_nil, beq_iff_eq, reduceCtorEq, List.getD_cons_zero, List.getD_cons_succ, loadA, rowA, pickA, bslA, storeA_eq, decide_true, flatA, List.length_cons, List.length_nil, Nat.reduceAdd, List.flatMap_cons, List.flatMap_nil, BEq.rfl, List.cons_append, List.nil_append, if_pos, if_neg, ordered, List.getElem?_cons_zero, List.getElem?_cons_succ, frzL, nidL, frz_func, frz_agg, frz_tup, frz_iface, fresh_func, fresh_agg, fresh_tup, fresh_iface, frz_ptr, frz_sl, fresh_sl, Cls.isFree, Cls.makes, callCls, chain, cond_true, tz, ty, e13, e14]; rfl) (vcE.step (by simp (disch := omega) only [exC, exOps, exOp, evE, evsE, putE, wantedE, Nat.reduceEqDiff, ↓reduceIte, ROp.run, same, binA, intA, strA, eqA, indexSA, byteA, unA, bounds3, Option.map_some, Option.map_none, dec_true, dec_false, Int.toNat_natCast, Int.natCast_nonneg, beq_self_eq_true, List.append_nil, beq_iff_eq, reduceCtorEq, List.getD_cons_zero, List.getD_cons_succ, loadA, rowA, pickA, bslA, storeA_eq, decide_true, flatA, List.length_cons, List.length_nil, Nat.reduceAdd, List.flatMap_cons, List.flatMap_nil, BEq.rfl, List.cons_append, List.nil_append, if_pos, if_neg, ordered, List.getElem?_cons_zero, List.getElem?_cons_succ, frzL, nidL, frz_func, frz_agg, frz_tup, frz_iface, fresh_func, fresh_agg, fresh_tup, fresh_iface, frz_ptr, frz_sl, fresh_sl, Cls.isFree, Cls.makes, callCls, chain, cond_true, tz, ty]; rfl) (vcE.seq (vcE.block (vcE.step (by simp only [exC, exOps, exOp, evE, evsE, putE, wantedE, Nat.reduceEqDiff, ↓reduceIte, ROp.run, same, binA, intA, strA, eqA, indexSA, byteA, unA, bounds3, Option.map_some, Option.map_none, dec_true, dec_false, Int.toNat_natCast, Int.natCast_nonneg, beq_self_eq_true, List.append_nil, beq_iff_eq, reduceCtorEq, List.getD_cons_zero, List.getD_cons_succ, loadA, rowA, pickA, bslA, storeA_eq, decide_true, flatA, List.length_cons, List.length_nil, Nat.reduceAdd, List.flatMap_cons, List.flatMap_nil, BEq.rfl, List.cons_append, List.nil_append, if_pos, if_neg, ordered, List.getElem?_cons_zero, List.getElem?_cons_succ, frzL, nidL, frz_func, frz_agg, frz_tup, frz_iface, fresh_func, fresh_agg, fresh_tup, fresh_iface, frz_ptr, frz_sl, fresh_sl, Cls.isFree, Cls.makes, callCls, chain, cond_true, tz, ty, e14]; rfl) ?_))))
      rw [show r59_6 = r59_6.take 5 ++ ((r59_6.drop 5).take 1 ++ r59_6.drop 6) from rfl]
      refine vcE.app (vcE.ex (by simp (disch := omega) only [exC, exOps, exOp, evE, evsE, putE, wantedE, Nat.reduceEqDiff, ↓reduceIte, ROp.run, same, binA, intA, strA, eqA, indexSA, byteA, unA, bounds3, Option.map_some, Option.map_none, dec_true, dec_false, Int.toNat_natCast, Int.natCast_nonneg, beq_self_eq_true, List.append_nil, beq_iff_eq, reduceCtorEq, List.getD_cons_zero, List.getD_cons_succ, loadA, rowA, pickA, bslA, storeA_eq, decide_true, flatA, List.length_cons, List.length_nil, Nat.reduceAdd, List.flatMap_cons, List.flatMap_nil, BEq.rfl, List.cons_append, List.nil_append, if_pos, if_neg, ordered, List.getElem?_cons_zero, List.getElem?_cons_succ, frzL, nidL, frz_func, frz_agg, frz_tup, frz_iface, fresh_func, fresh_agg, fresh_tup, fresh_iface, frz_ptr, frz_sl, fresh_sl, Cls.isFree, Cls.makes, callCls, chain, cond_true, tz, ty, faddrA, allocA, over, List.take_succ_cons, List.take_zero, List.drop_succ_cons, List.drop_zero, List.drop_nil, List.set_cons_zero, List.set_cons_succ, Nat.reduceLeDiff, and_self, e1, e5, e6, hc]; rfl) ⟨rfl, vcE.app (vcE.callB (f := 107) (first := [nV x]) (ys := [encT.S (rowB (nN x) (runV x (t.take i) (startV x))), .int .u8 c.toNat]) rfl ?_ ((pStepV x h.1 _ c).pc hp) ?_)⟩)
      · simp only [evsE, evE, upd_app, Nat.reduceEqDiff, ↓reduceIte, e5]
      · rintro rv hp' ⟨rfl, rfl⟩
        refine ⟨rfl, vcE.ex (by simp (disch := omega) only [exC, exOps, exOp, evE, evsE, putE, wantedE, Nat.reduceEqDiff, ↓reduceIte, ROp.run, same, binA, intA, strA, eqA, indexSA, byteA, unA, bounds3, Option.map_some, Option.map_none, dec_true, dec_false, Int.toNat_natCast, Int.natCast_nonneg, beq_self_eq_true, List.append_nil, beq_iff_eq, reduceCtorEq, List.getD_cons_zero, List.getD_cons_succ, loadA, rowA, pickA, bslA, storeA_eq, decide_true, flatA, List.length_cons, List.length_nil, Nat.reduceAdd, List.flatMap_cons, List.flatMap_nil, BEq.rfl, List.cons_append, List.nil_append, if_pos, if_neg, ordered, List.getElem?_cons_zero, List.getElem?_cons_succ, frzL, nidL, frz_func, frz_agg, frz_tup, frz_iface, fresh_func, fresh_agg, fresh_tup, fresh_iface, frz_ptr, frz_sl, fresh_sl, Cls.isFree, Cls.makes, callCls, chain, cond_true, tz, ty, faddrA, allocA, over, List.take_succ_cons, List.take_zero, List.drop_succ_cons, List.drop_zero, List.drop_nil, List.set_cons_zero, List.set_cons_succ, Nat.reduceLeDiff, and_self]; rfl) ?_⟩
        refine vcE.ex (by simp (disch := omega) only [exC, exOps, exOp, evE, evsE, putE, wantedE, Nat.reduceEqDiff, ↓reduceIte, ROp.run, same, binA, intA, strA, eqA, indexSA, byteA, unA, bounds3, Option.map_some, Option.map_none, dec_true, dec_false, Int.toNat_natCast, Int.natCast_nonneg, beq_self_eq_true, List.append_nil, beq_iff_eq, reduceCtorEq, List.getD_cons_zero, List.getD_cons_succ, loadA, rowA, pickA, bslA, storeA_eq, decide_true, flatA, List.length_cons, List.length_nil, Nat.reduceAdd, List.flatMap_cons, List.flatMap_nil, BEq.rfl, List.cons_append, List.nil_append, if_pos, if_neg, ordered, List.getElem?_cons_zero, List.getElem?_cons_succ, frzL, nidL, frz_func, frz_agg, frz_tup, frz_iface, fresh_func, fresh_agg, fresh_tup, fresh_iface, frz_ptr, frz_sl, fresh_sl, Cls.isFree, Cls.makes, callCls, chain, cond_true, tz, ty, e14]; rfl) ?_
        refine ⟨?_, ?_, ?_, ?_, ?_⟩
        · simp only [upd_app, Nat.reduceEqDiff, ↓reduceIte, e1]
        · simp only [upd_app, Nat.reduceEqDiff, ↓reduceIte, e5]
        · simp only [upd_app, Nat.reduceEqDiff, ↓reduceIte, e13]
        · simp only [upd_app, Nat.reduceEqDiff, ↓reduceIte]; rfl
        · simp only [upd_app, Nat.reduceEqDiff, ↓reduceIte]
          rw [htk, runV_snoc]
    · rintro tm hp ⟨e1, e5, e13, e14, e6⟩
      refine vcE.ex (by simp (disch := omega) only [exC, exOps, exOp, evE, evsE, putE, wantedE, Nat.reduceEqDiff, ↓reduceIte, ROp.run, same, binA, intA, strA, eqA, indexSA, byteA, unA, bounds3, Option.map_some, Option.map_none, dec_true, dec_false, Int.toNat_natCast, Int.natCast_nonneg, beq_self_eq_true, List.append_nil, beq_iff_eq, reduceCtorEq, List.getD_cons_zero, List.getD_cons_succ, loadA, rowA, pickA, bslA, storeA_eq, decide_true, flatA, List.length_cons, List.length_nil, Nat.reduceAdd, List.flatMap_cons, List.flatMap_nil, BEq.rfl, List.cons_append, List.nil_append, if_pos, if_neg, ordered, List.getElem?_cons_zero, List.getElem?_cons_succ, frzL, nidL, frz_func, frz_agg, frz_tup, frz_iface, fresh_func, fresh_agg, fresh_tup, fresh_iface, frz_ptr, frz_sl, fresh_sl, Cls.isFree, Cls.makes, callCls, chain, cond_true, tz, ty, e13, e14]; rfl) ?_
      refine ⟨rfl, ?_⟩
      simp only [upd_app, Nat.reduceEqDiff, ↓reduceIte, e6, List.take_length]
  · rintro e tm hp ⟨rfl, h6⟩
    cases x with
    | none =>
      refine vcE.ex (by simp (disch := omega) only [exC, exOps, exOp, evE, evsE, putE, wantedE, Nat.reduceEqDiff, ↓reduceIte, ROp.run, same, binA, intA, strA, eqA, indexSA, byteA, unA, bounds3, Option.map_some, Option.map_none, dec_true, dec_false, Int.toNat_natCast, Int.natCast_nonneg, beq_self_eq_true, List.append_nil, beq_iff_eq, reduceCtorEq, List.getD_cons_zero, List.getD_cons_succ, loadA, rowA, pickA, bslA, storeA_eq, decide_true, flatA, List.length_cons, List.length_nil, Nat.reduceAdd, List.flatMap_cons, List.flatMap_nil, BEq.rfl, List.cons_append, List.nil_append, if_pos, if_neg, ordered, List.getElem?_cons_zero, List.getElem?_cons_succ, frzL, nidL, frz_func, frz_agg, frz_tup, frz_iface, fresh_func, fresh_agg, fresh_tup, fresh_iface, frz_ptr, frz_sl, fresh_sl, Cls.isFree, Cls.makes, callCls, chain, cond_true, tz, ty, faddrA, allocA, over, List.take_succ_cons, List.take_zero, List.drop_succ_cons, List.drop_zero, List.drop_nil, List.set_cons_zero, List.set_cons_succ, Nat.reduceLeDiff, and_self, h6, nN, Enc.S_len, rowB_len]; rfl) ?_
      exact ⟨_, rfl, rfl⟩
    | some a =>
      obtain ⟨p, f⟩ := a
      rw [nN_some h.1.1] at h6 hn
      generalize hb : runV (some (p, f)) t (startV (some (p, f))) = b at h6 ⊢
      have hia := acc_region (N := p.length + 1) (b := b) (by omega) (k := .i64)
      have hpick := encT.pick1 (l := rowB (p.length + 1) b) rfl (rowB_get (i := p.length) (by omega)) (v := .bool (b p.length)) rfl rfl
      rw [show p.length + 1 - 1 = p.length by omega] at hia
      have hlen : ∀ hp, lenA hp (encT.S (rowB (p.length + 1) b)) = some (.int .i64 ((p.length + 1 : Nat) : Int)) := fun hp => by rw [encT.S_len, rowB_len]
      refine vcE.ex (by simp (disch := omega) only [exC, exOps, exOp, evE, evsE, putE, wantedE, Nat.reduceEqDiff, ↓reduceIte, ROp.run, same, binA, intA, strA, eqA, indexSA, byteA, unA, bounds3, Option.map_some, Option.map_none, dec_true, dec_false, Int.toNat_natCast, Int.natCast_nonneg, beq_self_eq_true, List.append_nil, beq_iff_eq, reduceCtorEq, List.getD_cons_zero, List.getD_cons_succ, loadA, rowA, pickA, bslA, storeA_eq, decide_true, flatA, List.length_cons, List.length_nil, Nat.reduceAdd, List.flatMap_cons, List.flatMap_nil, BEq.rfl, List.cons_append, List.nil_append, if_pos, if_neg, ordered, List.getElem?_cons_zero, List.getElem?_cons_succ, frzL, nidL, frz_func, frz_agg, frz_tup, frz_iface, fresh_func, fresh_agg, fresh_tup, fresh_iface, frz_ptr, frz_sl, fresh_sl, Cls.isFree, Cls.makes, callCls, chain, cond_true, tz, ty, faddrA, allocA, over, List.take_succ_cons, List.take_zero, List.drop_succ_cons, List.drop_zero, List.drop_nil, List.set_cons_zero, List.set_cons_succ, Nat.reduceLeDiff, and_self, h6, Enc.S_nid, ↓hlen, hia, ↓hpick]; rfl) ?_
      exact ⟨_, rfl, rfl⟩

end Go.Gi
