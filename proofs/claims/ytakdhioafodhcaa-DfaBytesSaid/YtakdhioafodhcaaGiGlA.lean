/- Bytes, whole numbers and truth values as elements; glob.fold, Match's comparing functions, glob.Check: what they give. -/
import Derived.Test.YtakdhioafodhcaaGoD
import Derived.Test.YtakdhioafodhcaaGiAU
set_option linter.unusedVariables false
set_option linter.unusedSimpArgs false
namespace Go.Gi
open Go Go.Proofs

theorem hmG : Try.prog.follows .mixedOrders = true := by kernel_rfl

def R1.u8 : R1 UInt8 where
  v c := .int .u8 c.toNat
  un := fun
    | .int .u8 n => if 0 ≤ n ∧ n < 256 then some (UInt8.ofNat n.toNat) else none
    | _ => none
  un_v c := by
    have := c.toNat_lt
    show (if (0 : Int) ≤ c.toNat ∧ (c.toNat : Int) < 256 then some (UInt8.ofNat (c.toNat : Int).toNat) else none) = _
    rw [if_pos (by omega), Int.toNat_natCast, UInt8.ofNat_toNat]
  un_some x a h := by
    split at h
    · split at h
      · rename_i n hn
        cases h
        rw [UInt8.toNat_ofNat_of_lt' (show n.toNat < 256 by omega), Int.toNat_of_nonneg hn.1]
      · cases h
    · cases h
def encB : Enc UInt8 where
  c b := [.int .u8 b.toNat]
  sz := 1
  pos := by omega
  len _ := rfl
  nd _ := rfl
  ip := true
  pl _ _ := rfl
  fz _ _ := rfl
  dec := fun
    | [x] => R1.u8.un x
    | _ => none
  dec_c b := R1.u8.un_v b
  dec_some cs a h := by
    split at h
    · rw [R1.u8.un_some _ _ h]; rfl
    · cases h
def encI : Enc Int where
  c b := [.int .i64 b]
  sz := 1
  pos := by omega
  len _ := rfl
  nd _ := rfl
  ip := true
  pl _ _ := rfl
  fz _ _ := rfl
  dec := fun
    | [.int .i64 n] => some n
    | _ => none
  dec_c b := rfl
  dec_some cs a h := by
    split at h
    · cases h; rfl
    · cases h
def encT : Enc Bool where
  c b := [.bool b]
  sz := 1
  pos := by omega
  len _ := rfl
  nd _ := rfl
  ip := true
  pl _ _ := rfl
  fz _ _ := rfl
  dec := fun
    | [.bool n] => some n
    | _ => none
  dec_c b := rfl
  dec_some cs a h := by
    split at h
    · cases h; rfl
    · cases h

def foldB (c : UInt8) : UInt8 := if 65 ≤ c.toNat ∧ c.toNat ≤ 90 then UInt8.ofNat (c.toNat + 32) else c
theorem foldB_up {c : UInt8} (h1 : 65 ≤ c.toNat) (h2 : c.toNat ≤ 90) : (foldB c).toNat = c.toNat + 32 := by
  unfold foldB
  rw [if_pos ⟨h1, h2⟩, UInt8.toNat_ofNat_of_lt' (show c.toNat + 32 < 256 by omega)]
theorem foldB_lo {c : UInt8} (h : c.toNat < 65 ∨ 90 < c.toNat) : foldB c = c := by
  unfold foldB
  rw [if_neg (by omega)]
theorem foldB_eq {a b : UInt8} : ((foldB a).toNat : Int) = (foldB b).toNat ↔ foldB a = foldB b := by
  rw [← UInt8.toNat_inj]
  omega
theorem u8_eqI {a b : UInt8} : (a.toNat : Int) = b.toNat ↔ a = b := by
  rw [← UInt8.toNat_inj]
  omega

theorem pFold (c : UInt8) : PCF Try.prog 103 [.int .u8 c.toNat] (.int .u8 (foldB c).toNat) := by
  have hlt := c.toNat_lt
  refine pcf_e hmG (TabOk.none _) comp103 (by decide) (by simp) (nidL_ok rfl) ?_
  by_cases h1 : 65 ≤ c.toNat
  · by_cases h2 : c.toNat ≤ 90
    · refine vcE.ex (by simp (disch := omega) only [exC, exOps, exOp, evE, evsE, putE, wantedE, Nat.reduceEqDiff, ↓reduceIte, ROp.run, same, binA, intA, strA, eqA, indexSA, byteA, unA, bounds3, Option.map_some, Option.map_none, dec_true, dec_false, Int.toNat_natCast, Int.natCast_nonneg, beq_self_eq_true, List.append_nil, beq_iff_eq, reduceCtorEq, List.getD_cons_zero, List.getD_cons_succ, loadA, rowA, pickA, bslA, litV, storeA_eq, decide_true, flatA, List.length_cons, List.length_nil, Nat.reduceAdd, List.flatMap_cons, List.flatMap_nil, BEq.rfl, List.cons_append, List.nil_append, if_pos, if_neg, ordered, List.getElem?_cons_zero, List.getElem?_cons_succ, frzL, nidL, frz_func, frz_agg, frz_tup, frz_iface, fresh_func, fresh_agg, fresh_tup, fresh_iface, frz_ptr, frz_sl, fresh_sl, Cls.isFree, Cls.makes, callCls, chain, cond_true, tz, ty, wrap_u8]; rfl) ?_
      refine ⟨_, rfl, ?_⟩
      rw [foldB_up h1 h2]
      rfl
    · refine vcE.ex (by simp (disch := omega) only [exC, exOps, exOp, evE, evsE, putE, wantedE, Nat.reduceEqDiff, ↓reduceIte, ROp.run, same, binA, intA, strA, eqA, indexSA, byteA, unA, bounds3, Option.map_some, Option.map_none, dec_true, dec_false, Int.toNat_natCast, Int.natCast_nonneg, beq_self_eq_true, List.append_nil, beq_iff_eq, reduceCtorEq, List.getD_cons_zero, List.getD_cons_succ, loadA, rowA, pickA, bslA, litV, storeA_eq, decide_true, flatA, List.length_cons, List.length_nil, Nat.reduceAdd, List.flatMap_cons, List.flatMap_nil, BEq.rfl, List.cons_append, List.nil_append, if_pos, if_neg, ordered, List.getElem?_cons_zero, List.getElem?_cons_succ, frzL, nidL, frz_func, frz_agg, frz_tup, frz_iface, fresh_func, fresh_agg, fresh_tup, fresh_iface, frz_ptr, frz_sl, fresh_sl, Cls.isFree, Cls.makes, callCls, chain, cond_true, tz, ty, wrap_u8]; rfl) ?_
      refine ⟨_, rfl, ?_⟩
      rw [foldB_lo (by omega)]
      rfl
  · refine vcE.ex (by simp (disch := omega) only [exC, exOps, exOp, evE, evsE, putE, wantedE, Nat.reduceEqDiff, ↓reduceIte, ROp.run, same, binA, intA, strA, eqA, indexSA, byteA, unA, bounds3, Option.map_some, Option.map_none, dec_true, dec_false, Int.toNat_natCast, Int.natCast_nonneg, beq_self_eq_true, List.append_nil, beq_iff_eq, reduceCtorEq, List.getD_cons_zero, List.getD_cons_succ, loadA, rowA, pickA, bslA, litV, storeA_eq, decide_true, flatA, List.length_cons, List.length_nil, Nat.reduceAdd, List.flatMap_cons, List.flatMap_nil, BEq.rfl, List.cons_append, List.nil_append, if_pos, if_neg, ordered, List.getElem?_cons_zero, List.getElem?_cons_succ, frzL, nidL, frz_func, frz_agg, frz_tup, frz_iface, fresh_func, fresh_agg, fresh_tup, fresh_iface, frz_ptr, frz_sl, fresh_sl, Cls.isFree, Cls.makes, callCls, chain, cond_true, tz, ty, wrap_u8]; rfl) ?_
    refine ⟨_, rfl, ?_⟩
    rw [foldB_lo (by omega)]
    rfl

def sameB (f : Bool) (c b : UInt8) : Bool := if f then decide (foldB c = foldB b) else decide (c = b)
theorem sameB_iff (f : Bool) (a b : UInt8) : sameB f a b = true ↔ (if f then foldB a else a) = (if f then foldB b else b) := by
  cases f <;> simp [sameB]

def G0 : Tab := Tab.none.addR 103 (.cons .u8 .nil) fun p => .rd true (.int .u8 (foldB p.1).toNat)
theorem G0_ok : TabOk Try.prog G0 := (TabOk.none _).addR fun p => pFold p.1
theorem G0_fold (c : UInt8) : G0 103 [.int .u8 c.toNat] = some (.rd true (.int .u8 (foldB c).toNat)) := Tab.addR_self _ _ (.cons .u8 .nil) _ (c, ())

theorem pSame0 (a b : UInt8) : PCF Try.prog 101 [.int .u8 a.toNat, .int .u8 b.toNat] (.bool (sameB false a b)) := by
  refine pcf_e hmG (TabOk.none _) comp101 (by decide) (by simp) (nidL_ok rfl) ?_
  refine vcE.ex (by simp only [exC, exOps, exOp, evE, evsE, putE, wantedE, Nat.reduceEqDiff, ↓reduceIte, ROp.run, same, binA, intA, strA, eqA, indexSA, byteA, unA, bounds3, Option.map_some, Option.map_none, dec_true, dec_false, Int.toNat_natCast, Int.natCast_nonneg, beq_self_eq_true, List.append_nil, beq_iff_eq, reduceCtorEq, List.getD_cons_zero, List.getD_cons_succ, loadA, rowA, pickA, bslA, litV, storeA_eq, decide_true, flatA, List.length_cons, List.length_nil, Nat.reduceAdd, List.flatMap_cons, List.flatMap_nil, BEq.rfl, List.cons_append, List.nil_append, if_pos, if_neg, ordered, List.getElem?_cons_zero, List.getElem?_cons_succ, frzL, nidL, frz_func, frz_agg, frz_tup, frz_iface, fresh_func, fresh_agg, fresh_tup, fresh_iface, frz_ptr, frz_sl, fresh_sl, Cls.isFree, Cls.makes, callCls, chain, cond_true, tz, ty, u8_eqI]; rfl) ?_
  exact ⟨_, rfl, rfl⟩
theorem pSame1 (a b : UInt8) : PCF Try.prog 102 [.int .u8 a.toNat, .int .u8 b.toNat] (.bool (sameB true a b)) := by
  refine pcf_e hmG G0_ok comp102 (by decide) (by simp) (nidL_ok rfl) ?_
  refine vcE.ex (by simp (disch := omega) only [exC, exOps, exOp, evE, evsE, putE, wantedE, Nat.reduceEqDiff, ↓reduceIte, ROp.run, same, binA, intA, strA, eqA, indexSA, byteA, unA, bounds3, Option.map_some, Option.map_none, dec_true, dec_false, Int.toNat_natCast, Int.natCast_nonneg, beq_self_eq_true, List.append_nil, beq_iff_eq, reduceCtorEq, List.getD_cons_zero, List.getD_cons_succ, loadA, rowA, pickA, bslA, litV, storeA_eq, decide_true, flatA, List.length_cons, List.length_nil, Nat.reduceAdd, List.flatMap_cons, List.flatMap_nil, BEq.rfl, List.cons_append, List.nil_append, if_pos, if_neg, ordered, List.getElem?_cons_zero, List.getElem?_cons_succ, frzL, nidL, frz_func, frz_agg, frz_tup, frz_iface, fresh_func, fresh_agg, fresh_tup, fresh_iface, frz_ptr, frz_sl, fresh_sl, Cls.isFree, Cls.makes, callCls, chain, cond_true, tz, ty, G0_fold, foldB_eq]; rfl) ?_
  exact ⟨_, rfl, rfl⟩

/-- glob.Check. -/
def checkG (p : List UInt8) : Int := if p = [] then 2 else if p.length > 255 then 4 else 0
theorem pCheck (p : List UInt8) : PCF Try.prog 49 [.str p] (.int .i64 (checkG p)) := by
  refine pcf_e hmG (TabOk.none _) comp49 (by decide) (by simp) (nidL_ok rfl) ?_
  unfold checkG
  repeat' (first | refine vcE.seq ?_ | refine vcE.block ?_ | (refine vcE.condTrue ?_ ?_; first | rfl | (simp (disch := first | assumption | omega) only [exC, exOps, exOp, evE, evsE, putE, wantedE, Nat.reduceEqDiff, ↓reduceIte, ROp.run, same, binA, intA, strA, eqA, indexSA, byteA, unA, bounds3, Option.map_some, Option.map_none, dec_true, dec_false, Int.toNat_natCast, Int.natCast_nonneg, beq_self_eq_true, List.append_nil, beq_iff_eq, reduceCtorEq, List.getD_cons_zero, List.getD_cons_succ, loadA, rowA, pickA, bslA, litV, storeA_eq, decide_true, flatA, List.length_cons, List.length_nil, Nat.reduceAdd, List.flatMap_cons, List.flatMap_nil, BEq.rfl, List.cons_append, List.nil_append, if_pos, if_neg, ordered, List.getElem?_cons_zero, List.getElem?_cons_succ, frzL, nidL, frz_func, frz_agg, frz_tup, frz_iface, fresh_func, fresh_agg, fresh_tup, fresh_iface, frz_ptr, frz_sl, fresh_sl, Cls.isFree, Cls.makes, callCls, chain, cond_true, tz, ty, faddrA, allocA, over, List.take_succ_cons, List.take_zero, List.drop_succ_cons, List.drop_zero, List.drop_nil, List.set_cons_zero, List.set_cons_succ, Nat.reduceLeDiff, and_self] <;> rfl)) | (refine vcE.condFalse ?_ ?_; first | rfl | (simp (disch := first | assumption | omega) only [exC, exOps, exOp, evE, evsE, putE, wantedE, Nat.reduceEqDiff, ↓reduceIte, ROp.run, same, binA, intA, strA, eqA, indexSA, byteA, unA, bounds3, Option.map_some, Option.map_none, dec_true, dec_false, Int.toNat_natCast, Int.natCast_nonneg, beq_self_eq_true, List.append_nil, beq_iff_eq, reduceCtorEq, List.getD_cons_zero, List.getD_cons_succ, loadA, rowA, pickA, bslA, litV, storeA_eq, decide_true, flatA, List.length_cons, List.length_nil, Nat.reduceAdd, List.flatMap_cons, List.flatMap_nil, BEq.rfl, List.cons_append, List.nil_append, if_pos, if_neg, ordered, List.getElem?_cons_zero, List.getElem?_cons_succ, frzL, nidL, frz_func, frz_agg, frz_tup, frz_iface, fresh_func, fresh_agg, fresh_tup, fresh_iface, frz_ptr, frz_sl, fresh_sl, Cls.isFree, Cls.makes, callCls, chain, cond_true, tz, ty, faddrA, allocA, over, List.take_succ_cons, List.take_zero, List.drop_succ_cons, List.drop_zero, List.drop_nil, List.set_cons_zero, List.set_cons_succ, Nat.reduceLeDiff, and_self] <;> rfl)) | (refine vcE.condND _ rfl (fun hc => ?_) (fun hc => ?_) <;> try (exfalso; first | omega | contradiction)) | (refine vcE.condD _ rfl (fun hc => ?_) (fun hc => ?_) <;> try (exfalso; first | omega | contradiction)) | (refine vcE.condNB _ rfl (fun hc => ?_) (fun hc => ?_) <;> try (exfalso; first | omega | contradiction)) | (refine vcE.condB _ rfl (fun hc => ?_) (fun hc => ?_) <;> try (exfalso; first | omega | contradiction)) | (apply vcE.ex; (simp (disch := first | assumption | omega) only [exC, exOps, exOp, evE, evsE, putE, wantedE, Nat.reduceEqDiff, ↓reduceIte, ROp.run, same, binA, intA, strA, eqA, indexSA, byteA, unA, bounds3, Option.map_some, Option.map_none, dec_true, dec_false, Int.toNat_natCast, Int.natCast_nonneg, beq_self_eq_true, List.append_nil, beq_iff_eq, reduceCtorEq, List.getD_cons_zero, List.getD_cons_succ, loadA, rowA, pickA, bslA, litV, storeA_eq, decide_true, flatA, List.length_cons, List.length_nil, Nat.reduceAdd, List.flatMap_cons, List.flatMap_nil, BEq.rfl, List.cons_append, List.nil_append, if_pos, if_neg, ordered, List.getElem?_cons_zero, List.getElem?_cons_succ, frzL, nidL, frz_func, frz_agg, frz_tup, frz_iface, fresh_func, fresh_agg, fresh_tup, fresh_iface, frz_ptr, frz_sl, fresh_sl, Cls.isFree, Cls.makes, callCls, chain, cond_true, tz, ty, faddrA, allocA, over, List.take_succ_cons, List.take_zero, List.drop_succ_cons, List.drop_zero, List.drop_nil, List.set_cons_zero, List.set_cons_succ, Nat.reduceLeDiff, and_self] <;> rfl)) | fail)
  all_goals refine ⟨_, rfl, ?_⟩
  all_goals simp (disch := omega) only [if_pos, if_neg, *]
  all_goals rfl

end Go.Gi
