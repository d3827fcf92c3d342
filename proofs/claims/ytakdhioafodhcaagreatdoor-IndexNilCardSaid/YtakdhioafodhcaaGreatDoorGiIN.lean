/- IndexNil: what the law's functions give; what the methods of a nil index give. -/
import Derived.Test.YtakdhioafodhcaaGreatDoorGiIR
import Derived.Test.YtakdhioafodhcaaGreatDoorGiRP
import Derived.Test.YtakdhioafodhcaaGreatDoorGiAU
import Derived.Test.YtakdhioafodhcaaGreatDoorGiGB
set_option linter.unusedVariables false
set_option linter.unusedSimpArgs false
set_option maxRecDepth 100000
namespace Go.Gi
open Go Go.Proofs

/-- An act of the law's. -/
structure IAct where
  kind : Int
  id : Int
  pat : List UInt8
  fold : Bool
  text : List UInt8
def IAct.c (a : IAct) : List AV := [.int .i64 a.kind, .int .i64 a.id, .str a.pat, .bool a.fold, .str a.text]
def encX : Enc IAct where
  c := IAct.c
  sz := 5
  pos := by omega
  len _ := rfl
  nd _ := rfl
  ip := true
  pl _ _ := rfl
  fz _ _ := rfl
  dec := fun
    | [.int .i64 k, .int .i64 n, .str r, .bool s, .str t] => some ⟨k, n, r, s, t⟩
    | _ => none
  dec_c _ := rfl
  dec_some cs a h := by
    split at h
    · cases h; rfl
    · cases h
def IAct.light (a : IAct) : Bool := decide (a.pat.length ≤ 300) && decide (a.text.length ≤ 260)
def lightI (l : List IAct) : Bool := l.all IAct.light && decide (l.length ≤ 60)
theorem all_take_succ {α : Type} {p : α → Bool} {l : List α} {i : Nat} {a : α} (h : l[i]? = some a) : (l.take (i + 1)).all p = ((l.take i).all p && p a) := by
  rw [List.take_add_one, h, List.all_append]
  simp
theorem all_false {α : Type} {p : α → Bool} {l : List α} {i : Nat} {a : α} (h : l[i]? = some a) (hp : p a = false) : l.all p = false := by
  cases hl : l.all p
  · rfl
  · rw [List.all_eq_true] at hl
    rw [hl a (List.mem_of_getElem? h)] at hp
    cases hp
theorem encX_pat {l : List IAct} {i : Nat} {x : IAct} (h : l[i]? = some x) : pickA none (encX.cs l) (i * 5 + 2) = some (.str x.pat) := by
  have := encX.pick_part h (sh := none) (o := 2) (by show 2 + 1 ≤ 5; omega)
  rw [show encX.sz = 5 from rfl] at this
  rw [this]
  rfl
theorem encX_text {l : List IAct} {i : Nat} {x : IAct} (h : l[i]? = some x) : pickA none (encX.cs l) (i * 5 + 4) = some (.str x.text) := by
  have := encX.pick_part h (sh := none) (o := 4) (by show 4 + 1 ≤ 5; omega)
  rw [show encX.sz = 5 from rfl] at this
  rw [this]
  rfl
theorem pLightI (l : List IAct) (hl : l.length ≤ 4611686018427387904) : PCF Tryz.prog 15 [encX.S l] (.bool (lightI l)) := by
  refine pcf_of (nidL_ok (by simp only [nidL, Enc.S_nid, Bool.and_self])) ((calls_e hmT (TabOk.none _) comp15 (by decide) (by simp) (K := fun r' hp' => fresh hp' r' = some (.bool (lightI l))) ?_).mono fun _ _ => fresh_ok)
  have hg2 : ∀ x y : Int, (x > y) = (y < x) := fun _ _ => rfl
  refine vcE.step (by simp (disch := first | assumption | omega) only [exC, exOps, exOp, evE, evsE, putE, wantedE, Nat.reduceEqDiff, ↓reduceIte, ROp.run, same, binA, intA, strA, eqA, indexSA, byteA, unA, bounds3, Option.map_some, Option.map_none, dec_true, dec_false, Int.toNat_natCast, Int.natCast_nonneg, beq_self_eq_true, List.append_nil, beq_iff_eq, reduceCtorEq, List.getD_cons_zero, List.getD_cons_succ, loadA, rowA, pickA, bslA, storeA_eq, decide_true, flatA, List.length_cons, List.length_nil, Nat.reduceAdd, List.flatMap_cons, List.flatMap_nil, BEq.rfl, List.cons_append, List.nil_append, if_pos, if_neg, ordered, List.getElem?_cons_zero, List.getElem?_cons_succ, frzL, nidL, frz_func, frz_agg, frz_tup, frz_iface, fresh_func, fresh_agg, fresh_tup, fresh_iface, frz_ptr, frz_sl, fresh_sl, Cls.isFree, Cls.makes, callCls, chain, cond_true, tz, ty, faddrA, allocA, over, List.take_succ_cons, List.take_zero, List.drop_succ_cons, List.drop_zero, List.drop_nil, List.set_cons_zero, List.set_cons_succ, Nat.reduceLeDiff, and_self]; rfl) (vcE.then (fun e tm hp => (e = .ret ∧ tm 2 = .bool false ∧ l.all IAct.light = false) ∨ (e = .normal ∧ tm 0 = encX.S l ∧ l.all IAct.light = true)) ?_ ?_)
  · refine vcE.step (by simp (disch := first | assumption | omega) only [exC, exOps, exOp, evE, evsE, putE, wantedE, Nat.reduceEqDiff, ↓reduceIte, ROp.run, same, binA, intA, strA, eqA, indexSA, byteA, unA, bounds3, Option.map_some, Option.map_none, dec_true, dec_false, Int.toNat_natCast, Int.natCast_nonneg, beq_self_eq_true, List.append_nil, beq_iff_eq, reduceCtorEq, List.getD_cons_zero, List.getD_cons_succ, loadA, rowA, pickA, bslA, storeA_eq, decide_true, flatA, List.length_cons, List.length_nil, Nat.reduceAdd, List.flatMap_cons, List.flatMap_nil, BEq.rfl, List.cons_append, List.nil_append, if_pos, if_neg, ordered, List.getElem?_cons_zero, List.getElem?_cons_succ, frzL, nidL, frz_func, frz_agg, frz_tup, frz_iface, fresh_func, fresh_agg, fresh_tup, fresh_iface, frz_ptr, frz_sl, fresh_sl, Cls.isFree, Cls.makes, callCls, chain, cond_true, tz, ty, faddrA, allocA, over, List.take_succ_cons, List.take_zero, List.drop_succ_cons, List.drop_zero, List.drop_nil, List.set_cons_zero, List.set_cons_succ, Nat.reduceLeDiff, and_self]; rfl) (vcE.block (vcE.count (by intro l tm hp h; simp at h) (fun i tm hp => tm 0 = encX.S l ∧ tm 3 = .int .i64 i ∧ (l.take i).all IAct.light = true) l.length ⟨rfl, rfl, rfl⟩ ?_ ?_))
    · rintro i tm hp hi ⟨e0, e3, hall⟩
      obtain ⟨x, hx⟩ : ∃ x, l[i]? = some x := ⟨_, List.getElem?_eq_getElem hi⟩
      have hia : iaddrA 5 (encX.S l) (.int .i64 i) = some (.fptr (encX.cs l) (i * 5)) := encX.S_iaddr hi
      have p2 := encX_pat hx
      have p4 := encX_text hx
      have hw : IntKind.wrap .i64 ((i : Int) + 1) = (i : Int) + 1 := wrap_i64 (by omega) (by omega)
      by_cases h1 : x.pat.length ≤ 300
      · by_cases h2 : x.text.length ≤ 260
        · refine vcE.ex (by simp (disch := first | assumption | omega) only [exC, exOps, exOp, evE, evsE, putE, wantedE, Nat.reduceEqDiff, ↓reduceIte, ROp.run, same, binA, intA, strA, eqA, indexSA, byteA, unA, bounds3, Option.map_some, Option.map_none, dec_true, dec_false, Int.toNat_natCast, Int.natCast_nonneg, beq_self_eq_true, List.append_nil, beq_iff_eq, reduceCtorEq, List.getD_cons_zero, List.getD_cons_succ, loadA, rowA, pickA, bslA, storeA_eq, decide_true, flatA, List.length_cons, List.length_nil, Nat.reduceAdd, List.flatMap_cons, List.flatMap_nil, BEq.rfl, List.cons_append, List.nil_append, if_pos, if_neg, ordered, List.getElem?_cons_zero, List.getElem?_cons_succ, frzL, nidL, frz_func, frz_agg, frz_tup, frz_iface, fresh_func, fresh_agg, fresh_tup, fresh_iface, frz_ptr, frz_sl, fresh_sl, Cls.isFree, Cls.makes, callCls, chain, cond_true, tz, ty, faddrA, allocA, over, List.take_succ_cons, List.take_zero, List.drop_succ_cons, List.drop_zero, List.drop_nil, List.set_cons_zero, List.set_cons_succ, Nat.reduceLeDiff, and_self, e0, e3, hia, ↓p2, ↓p4, hw, Enc.S_len, Enc.S_fits, hg2]; rfl) ?_
          refine ⟨?_, ?_, by rw [all_take_succ hx, hall]; simp only [IAct.light, h1, h2, decide_true, Bool.and_self]⟩
          · simp only [upd_app, Nat.reduceEqDiff, ↓reduceIte, e0]
          · simp only [upd_app, Nat.reduceEqDiff, ↓reduceIte]; rfl
        · refine vcE.ex (by simp (disch := first | assumption | omega) only [exC, exOps, exOp, evE, evsE, putE, wantedE, Nat.reduceEqDiff, ↓reduceIte, ROp.run, same, binA, intA, strA, eqA, indexSA, byteA, unA, bounds3, Option.map_some, Option.map_none, dec_true, dec_false, Int.toNat_natCast, Int.natCast_nonneg, beq_self_eq_true, List.append_nil, beq_iff_eq, reduceCtorEq, List.getD_cons_zero, List.getD_cons_succ, loadA, rowA, pickA, bslA, storeA_eq, decide_true, flatA, List.length_cons, List.length_nil, Nat.reduceAdd, List.flatMap_cons, List.flatMap_nil, BEq.rfl, List.cons_append, List.nil_append, if_pos, if_neg, ordered, List.getElem?_cons_zero, List.getElem?_cons_succ, frzL, nidL, frz_func, frz_agg, frz_tup, frz_iface, fresh_func, fresh_agg, fresh_tup, fresh_iface, frz_ptr, frz_sl, fresh_sl, Cls.isFree, Cls.makes, callCls, chain, cond_true, tz, ty, faddrA, allocA, over, List.take_succ_cons, List.take_zero, List.drop_succ_cons, List.drop_zero, List.drop_nil, List.set_cons_zero, List.set_cons_succ, Nat.reduceLeDiff, and_self, e0, e3, hia, ↓p2, ↓p4, hw, Enc.S_len, Enc.S_fits, hg2]; rfl) ?_
          refine .inl ⟨rfl, ?_, all_false hx (by simp only [IAct.light, h2, decide_false, Bool.and_false])⟩
          simp only [upd_app, Nat.reduceEqDiff, ↓reduceIte]
      · refine vcE.ex (by simp (disch := first | assumption | omega) only [exC, exOps, exOp, evE, evsE, putE, wantedE, Nat.reduceEqDiff, ↓reduceIte, ROp.run, same, binA, intA, strA, eqA, indexSA, byteA, unA, bounds3, Option.map_some, Option.map_none, dec_true, dec_false, Int.toNat_natCast, Int.natCast_nonneg, beq_self_eq_true, List.append_nil, beq_iff_eq, reduceCtorEq, List.getD_cons_zero, List.getD_cons_succ, loadA, rowA, pickA, bslA, storeA_eq, decide_true, flatA, List.length_cons, List.length_nil, Nat.reduceAdd, List.flatMap_cons, List.flatMap_nil, BEq.rfl, List.cons_append, List.nil_append, if_pos, if_neg, ordered, List.getElem?_cons_zero, List.getElem?_cons_succ, frzL, nidL, frz_func, frz_agg, frz_tup, frz_iface, fresh_func, fresh_agg, fresh_tup, fresh_iface, frz_ptr, frz_sl, fresh_sl, Cls.isFree, Cls.makes, callCls, chain, cond_true, tz, ty, faddrA, allocA, over, List.take_succ_cons, List.take_zero, List.drop_succ_cons, List.drop_zero, List.drop_nil, List.set_cons_zero, List.set_cons_succ, Nat.reduceLeDiff, and_self, e0, e3, hia, ↓p2, ↓p4, hw, Enc.S_len, Enc.S_fits, hg2]; rfl) ?_
        refine .inl ⟨rfl, ?_, all_false hx (by simp only [IAct.light, h1, decide_false, Bool.false_and])⟩
        simp only [upd_app, Nat.reduceEqDiff, ↓reduceIte]
    · rintro tm hp ⟨e0, e3, hall⟩
      rw [List.take_length] at hall
      refine vcE.ex (by simp (disch := first | assumption | omega) only [exC, exOps, exOp, evE, evsE, putE, wantedE, Nat.reduceEqDiff, ↓reduceIte, ROp.run, same, binA, intA, strA, eqA, indexSA, byteA, unA, bounds3, Option.map_some, Option.map_none, dec_true, dec_false, Int.toNat_natCast, Int.natCast_nonneg, beq_self_eq_true, List.append_nil, beq_iff_eq, reduceCtorEq, List.getD_cons_zero, List.getD_cons_succ, loadA, rowA, pickA, bslA, storeA_eq, decide_true, flatA, List.length_cons, List.length_nil, Nat.reduceAdd, List.flatMap_cons, List.flatMap_nil, BEq.rfl, List.cons_append, List.nil_append, if_pos, if_neg, ordered, List.getElem?_cons_zero, List.getElem?_cons_succ, frzL, nidL, frz_func, frz_agg, frz_tup, frz_iface, fresh_func, fresh_agg, fresh_tup, fresh_iface, frz_ptr, frz_sl, fresh_sl, Cls.isFree, Cls.makes, callCls, chain, cond_true, tz, ty, faddrA, allocA, over, List.take_succ_cons, List.take_zero, List.drop_succ_cons, List.drop_zero, List.drop_nil, List.set_cons_zero, List.set_cons_succ, Nat.reduceLeDiff, and_self, e0, e3, Enc.S_len, Enc.S_fits]; rfl) ?_
      refine .inr ⟨rfl, ?_, hall⟩
      simp only [upd_app, Nat.reduceEqDiff, ↓reduceIte, e0]
  · rintro e tm hp (⟨rfl, h2, h⟩ | ⟨rfl, h0, h⟩)
    · refine ⟨_, by simp only [resE, resEL, resE1, h2]; rfl, ?_⟩
      rw [lightI, h]
      rfl
    · by_cases h60 : l.length ≤ 60
      all_goals refine vcE.ex (by simp (disch := first | assumption | omega) only [exC, exOps, exOp, evE, evsE, putE, wantedE, Nat.reduceEqDiff, ↓reduceIte, ROp.run, same, binA, intA, strA, eqA, indexSA, byteA, unA, bounds3, Option.map_some, Option.map_none, dec_true, dec_false, Int.toNat_natCast, Int.natCast_nonneg, beq_self_eq_true, List.append_nil, beq_iff_eq, reduceCtorEq, List.getD_cons_zero, List.getD_cons_succ, loadA, rowA, pickA, bslA, storeA_eq, decide_true, flatA, List.length_cons, List.length_nil, Nat.reduceAdd, List.flatMap_cons, List.flatMap_nil, BEq.rfl, List.cons_append, List.nil_append, if_pos, if_neg, ordered, List.getElem?_cons_zero, List.getElem?_cons_succ, frzL, nidL, frz_func, frz_agg, frz_tup, frz_iface, fresh_func, fresh_agg, fresh_tup, fresh_iface, frz_ptr, frz_sl, fresh_sl, Cls.isFree, Cls.makes, callCls, chain, cond_true, tz, ty, faddrA, allocA, over, List.take_succ_cons, List.take_zero, List.drop_succ_cons, List.drop_zero, List.drop_nil, List.set_cons_zero, List.set_cons_succ, Nat.reduceLeDiff, and_self, h0, Enc.S_len, Enc.S_fits]; rfl) ?_
      all_goals refine ⟨_, rfl, ?_⟩
      all_goals simp only [lightI, h, h60, upd_app, Nat.reduceEqDiff, ↓reduceIte, decide_true, decide_false, Bool.and_self, Bool.and_false]
      all_goals rfl

/-! ### Methods of a nil index -/
set_option maxRecDepth 100000 in
theorem r27 : xF FT noO (xC FT noO noO LT 100) 27 [.nilp] [] = some (.bool false, [], 0) := by kernel_rfl
theorem p27 : PCF Tryz.prog 27 [.nilp] (.bool false) := pcf_run hmT FT_ok (noO_ok _) (noE_ok _) LT_ok rfl r27 rfl
def s27 : List AV → Option Res
  | [.nilp] => some (.rd true (.bool false))
  | _ => none
def TN : Tab := Tab.none.add 27 s27
theorem TN_ok : TabOk Tryz.prog TN := by
  refine (TabOk.none _).add ?_
  intro xs r h
  unfold s27 at h
  split at h
  · cases h; exact p27
  · cases h
theorem TN_27 : TN 27 [.nilp] = some (.rd true (.bool false)) := rfl
theorem pPut (n : Int) (s : List UInt8) (b : Bool) : PCF Tryz.prog 11 [.nilp, .int .i64 n, .str s, .bool b] (.int .i64 1) := by
  refine pcf_of (nidL_ok rfl) ((calls_e hmT TN_ok comp11 (by decide) (by simp) (K := fun r' hp' => fresh hp' r' = some (.int .i64 1)) ?_).mono fun _ _ => fresh_ok)
  refine vcE.ex (by simp (disch := first | assumption | omega) only [exC, exOps, exOp, evE, evsE, putE, wantedE, Nat.reduceEqDiff, ↓reduceIte, ROp.run, same, binA, intA, strA, eqA, indexSA, byteA, unA, bounds3, Option.map_some, Option.map_none, dec_true, dec_false, Int.toNat_natCast, Int.natCast_nonneg, beq_self_eq_true, List.append_nil, beq_iff_eq, reduceCtorEq, List.getD_cons_zero, List.getD_cons_succ, loadA, rowA, pickA, bslA, storeA_eq, decide_true, flatA, List.length_cons, List.length_nil, Nat.reduceAdd, List.flatMap_cons, List.flatMap_nil, BEq.rfl, List.cons_append, List.nil_append, if_pos, if_neg, ordered, List.getElem?_cons_zero, List.getElem?_cons_succ, frzL, nidL, frz_func, frz_agg, frz_tup, frz_iface, fresh_func, fresh_agg, fresh_tup, fresh_iface, frz_ptr, frz_sl, fresh_sl, Cls.isFree, Cls.makes, callCls, chain, cond_true, tz, ty, faddrA, allocA, over, List.take_succ_cons, List.take_zero, List.drop_succ_cons, List.drop_zero, List.drop_nil, List.set_cons_zero, List.set_cons_succ, Nat.reduceLeDiff, and_self, TN_27]; rfl) ?_
  exact ⟨_, rfl, rfl⟩
theorem pDrop (n : Int) : PCF Tryz.prog 14 [.nilp, .int .i64 n] (.int .i64 1) := by
  refine pcf_of (nidL_ok rfl) ((calls_e hmT TN_ok comp14 (by decide) (by simp) (K := fun r' hp' => fresh hp' r' = some (.int .i64 1)) ?_).mono fun _ _ => fresh_ok)
  refine vcE.ex (by simp (disch := first | assumption | omega) only [exC, exOps, exOp, evE, evsE, putE, wantedE, Nat.reduceEqDiff, ↓reduceIte, ROp.run, same, binA, intA, strA, eqA, indexSA, byteA, unA, bounds3, Option.map_some, Option.map_none, dec_true, dec_false, Int.toNat_natCast, Int.natCast_nonneg, beq_self_eq_true, List.append_nil, beq_iff_eq, reduceCtorEq, List.getD_cons_zero, List.getD_cons_succ, loadA, rowA, pickA, bslA, storeA_eq, decide_true, flatA, List.length_cons, List.length_nil, Nat.reduceAdd, List.flatMap_cons, List.flatMap_nil, BEq.rfl, List.cons_append, List.nil_append, if_pos, if_neg, ordered, List.getElem?_cons_zero, List.getElem?_cons_succ, frzL, nidL, frz_func, frz_agg, frz_tup, frz_iface, fresh_func, fresh_agg, fresh_tup, fresh_iface, frz_ptr, frz_sl, fresh_sl, Cls.isFree, Cls.makes, callCls, chain, cond_true, tz, ty, faddrA, allocA, over, List.take_succ_cons, List.take_zero, List.drop_succ_cons, List.drop_zero, List.drop_nil, List.set_cons_zero, List.set_cons_succ, Nat.reduceLeDiff, and_self, TN_27]; rfl) ?_
  exact ⟨_, rfl, rfl⟩
theorem pMatch (s : List UInt8) : PCF Tryz.prog 12 [.nilp, .str s] (.fsl [] 0) := by
  refine pcf_of (nidL_ok rfl) ((calls_e hmT TN_ok comp12 (by decide) (by simp) (K := fun r' hp' => fresh hp' r' = some (.fsl [] 0)) ?_).mono fun _ _ => fresh_ok)
  refine vcE.ex (by simp (disch := first | assumption | omega) only [exC, exOps, exOp, evE, evsE, putE, wantedE, Nat.reduceEqDiff, ↓reduceIte, ROp.run, same, binA, intA, strA, eqA, indexSA, byteA, unA, bounds3, Option.map_some, Option.map_none, dec_true, dec_false, Int.toNat_natCast, Int.natCast_nonneg, beq_self_eq_true, List.append_nil, beq_iff_eq, reduceCtorEq, List.getD_cons_zero, List.getD_cons_succ, loadA, rowA, pickA, bslA, storeA_eq, decide_true, flatA, List.length_cons, List.length_nil, Nat.reduceAdd, List.flatMap_cons, List.flatMap_nil, BEq.rfl, List.cons_append, List.nil_append, if_pos, if_neg, ordered, List.getElem?_cons_zero, List.getElem?_cons_succ, frzL, nidL, frz_func, frz_agg, frz_tup, frz_iface, fresh_func, fresh_agg, fresh_tup, fresh_iface, frz_ptr, frz_sl, fresh_sl, Cls.isFree, Cls.makes, callCls, chain, cond_true, tz, ty, faddrA, allocA, over, List.take_succ_cons, List.take_zero, List.drop_succ_cons, List.drop_zero, List.drop_nil, List.set_cons_zero, List.set_cons_succ, Nat.reduceLeDiff, and_self, TN_27]; rfl) ?_
  exact ⟨_, rfl, rfl⟩
theorem pGlobs : PCF Tryz.prog 25 [.nilp] (.fsl [] 0) := by
  refine pcf_of (nidL_ok rfl) ((calls_e hmT TN_ok comp25 (by decide) (by simp) (K := fun r' hp' => fresh hp' r' = some (.fsl [] 0)) ?_).mono fun _ _ => fresh_ok)
  refine vcE.ex (by simp (disch := first | assumption | omega) only [exC, exOps, exOp, evE, evsE, putE, wantedE, Nat.reduceEqDiff, ↓reduceIte, ROp.run, same, binA, intA, strA, eqA, indexSA, byteA, unA, bounds3, Option.map_some, Option.map_none, dec_true, dec_false, Int.toNat_natCast, Int.natCast_nonneg, beq_self_eq_true, List.append_nil, beq_iff_eq, reduceCtorEq, List.getD_cons_zero, List.getD_cons_succ, loadA, rowA, pickA, bslA, storeA_eq, decide_true, flatA, List.length_cons, List.length_nil, Nat.reduceAdd, List.flatMap_cons, List.flatMap_nil, BEq.rfl, List.cons_append, List.nil_append, if_pos, if_neg, ordered, List.getElem?_cons_zero, List.getElem?_cons_succ, frzL, nidL, frz_func, frz_agg, frz_tup, frz_iface, fresh_func, fresh_agg, fresh_tup, fresh_iface, frz_ptr, frz_sl, fresh_sl, Cls.isFree, Cls.makes, callCls, chain, cond_true, tz, ty, faddrA, allocA, over, List.take_succ_cons, List.take_zero, List.drop_succ_cons, List.drop_zero, List.drop_nil, List.set_cons_zero, List.set_cons_succ, Nat.reduceLeDiff, and_self, TN_27]; rfl) ?_
  exact ⟨_, rfl, rfl⟩
theorem pHas (n : Int) : PCF Tryz.prog 22 [.nilp, .int .i64 n] (.bool false) := by
  refine pcf_of (nidL_ok rfl) ((calls_e hmT TN_ok comp22 (by decide) (by simp) (K := fun r' hp' => fresh hp' r' = some (.bool false)) ?_).mono fun _ _ => fresh_ok)
  refine vcE.ex (by simp (disch := first | assumption | omega) only [exC, exOps, exOp, evE, evsE, putE, wantedE, Nat.reduceEqDiff, ↓reduceIte, ROp.run, same, binA, intA, strA, eqA, indexSA, byteA, unA, bounds3, Option.map_some, Option.map_none, dec_true, dec_false, Int.toNat_natCast, Int.natCast_nonneg, beq_self_eq_true, List.append_nil, beq_iff_eq, reduceCtorEq, List.getD_cons_zero, List.getD_cons_succ, loadA, rowA, pickA, bslA, storeA_eq, decide_true, flatA, List.length_cons, List.length_nil, Nat.reduceAdd, List.flatMap_cons, List.flatMap_nil, BEq.rfl, List.cons_append, List.nil_append, if_pos, if_neg, ordered, List.getElem?_cons_zero, List.getElem?_cons_succ, frzL, nidL, frz_func, frz_agg, frz_tup, frz_iface, fresh_func, fresh_agg, fresh_tup, fresh_iface, frz_ptr, frz_sl, fresh_sl, Cls.isFree, Cls.makes, callCls, chain, cond_true, tz, ty, faddrA, allocA, over, List.take_succ_cons, List.take_zero, List.drop_succ_cons, List.drop_zero, List.drop_nil, List.set_cons_zero, List.set_cons_succ, Nat.reduceLeDiff, and_self, TN_27]; rfl) ?_
  exact ⟨_, rfl, rfl⟩
theorem pLen : PCF Tryz.prog 13 [.nilp] (.int .i64 0) := by
  refine pcf_of (nidL_ok rfl) ((calls_e hmT TN_ok comp13 (by decide) (by simp) (K := fun r' hp' => fresh hp' r' = some (.int .i64 0)) ?_).mono fun _ _ => fresh_ok)
  refine vcE.ex (by simp (disch := first | assumption | omega) only [exC, exOps, exOp, evE, evsE, putE, wantedE, Nat.reduceEqDiff, ↓reduceIte, ROp.run, same, binA, intA, strA, eqA, indexSA, byteA, unA, bounds3, Option.map_some, Option.map_none, dec_true, dec_false, Int.toNat_natCast, Int.natCast_nonneg, beq_self_eq_true, List.append_nil, beq_iff_eq, reduceCtorEq, List.getD_cons_zero, List.getD_cons_succ, loadA, rowA, pickA, bslA, storeA_eq, decide_true, flatA, List.length_cons, List.length_nil, Nat.reduceAdd, List.flatMap_cons, List.flatMap_nil, BEq.rfl, List.cons_append, List.nil_append, if_pos, if_neg, ordered, List.getElem?_cons_zero, List.getElem?_cons_succ, frzL, nidL, frz_func, frz_agg, frz_tup, frz_iface, fresh_func, fresh_agg, fresh_tup, fresh_iface, frz_ptr, frz_sl, fresh_sl, Cls.isFree, Cls.makes, callCls, chain, cond_true, tz, ty, faddrA, allocA, over, List.take_succ_cons, List.take_zero, List.drop_succ_cons, List.drop_zero, List.drop_nil, List.set_cons_zero, List.set_cons_succ, Nat.reduceLeDiff, and_self, TN_27]; rfl) ?_
  exact ⟨_, rfl, rfl⟩

def R1.nilp : R1 Unit where
  v _ := .nilp
  un := fun
    | .nilp => some ()
    | _ => none
  un_v _ := rfl
  un_some x q h := by
    split at h
    · rfl
    · cases h
def TI : Tab := (((((((Tab.none.addR 8 .nil fun _ => .rd true (.bool true)).addO 15 (.cons (.S encX) .nil) fun p => if p.1.length ≤ 4611686018427387904 then some (.rd true (.bool (lightI p.1))) else none).addR 11 (.cons .nilp (.cons .i64 (.cons .str (.cons .bool .nil)))) fun _ => .rd true (.int .i64 1)).addR 14 (.cons .nilp (.cons .i64 .nil)) fun _ => .rd true (.int .i64 1)).addR 12 (.cons .nilp (.cons .str .nil)) fun _ => .rd true (.fsl [] 0)).addR 22 (.cons .nilp (.cons .i64 .nil)) fun _ => .rd true (.bool false)).addR 13 (.cons .nilp .nil) fun _ => .rd true (.int .i64 0)).addR 25 (.cons .nilp .nil) fun _ => .rd true (.fsl [] 0)
theorem TI_ok : TabOk Tryz.prog TI := by
  refine TabOk.addR (TabOk.addR (TabOk.addR (TabOk.addR (TabOk.addR (TabOk.addR (TabOk.addO (TabOk.addR (TabOk.none _) ?_) ?_) ?_) ?_) ?_) ?_) ?_) ?_
  · exact fun _ => pLives
  · intro p r h
    split at h
    · rename_i hv; cases h; exact pLightI p.1 hv
    · cases h
  · exact fun p => pPut p.2.1 p.2.2.1 p.2.2.2.1
  · exact fun p => pDrop p.2.1
  · exact fun p => pMatch p.2.1
  · exact fun p => pHas p.2.1
  · exact fun _ => pLen
  · exact fun _ => pGlobs
theorem TI_8 : TI 8 [] = some (.rd true (.bool true)) := rfl
theorem TI_15 (a : IAct) : TI 15 [encX.S [a]] = some (.rd true (.bool (lightI [a]))) := by
  rw [TI, Tab.addR_ne _ _ _ _ rfl, Tab.addR_ne _ _ _ _ rfl, Tab.addR_ne _ _ _ _ rfl, Tab.addR_ne _ _ _ _ rfl, Tab.addR_ne _ _ _ _ rfl, Tab.addR_ne _ _ _ _ rfl]
  exact (Tab.addO_self _ _ (.cons (.S encX) .nil) _ ([a], ())).trans (if_pos (by simp))
theorem TI_11 (n : Int) (s : List UInt8) (b : Bool) : TI 11 [.nilp, .int .i64 n, .str s, .bool b] = some (.rd true (.int .i64 1)) := rfl
theorem TI_14 (n : Int) : TI 14 [.nilp, .int .i64 n] = some (.rd true (.int .i64 1)) := rfl
theorem TI_12 (s : List UInt8) : TI 12 [.nilp, .str s] = some (.rd true (.fsl [] 0)) := rfl
theorem TI_22 (n : Int) : TI 22 [.nilp, .int .i64 n] = some (.rd true (.bool false)) := rfl
theorem TI_13 : TI 13 [.nilp] = some (.rd true (.int .i64 0)) := rfl
theorem TI_25 : TI 25 [.nilp] = some (.rd true (.fsl [] 0)) := rfl
set_option maxHeartbeats 2000000 in
theorem lawNil (a : IAct) : PC Tryz.prog 6 [.agg a.c] (.bool true) := by
  refine pc_e hmT TI_ok comp6 (by decide) (by simp) (nidL_ok rfl) ?_
  obtain ⟨k, n, s, b, t⟩ := a
  have c1 := TI_15 ⟨k, n, s, b, t⟩
  generalize hE : encX.S [(⟨k, n, s, b, t⟩ : IAct)] = E at c1
  generalize lightI [(⟨k, n, s, b, t⟩ : IAct)] = L at c1
  have hfz : ∀ ex, frz [some (.row 38 [.int .i64 k, .int .i64 n, .str s, .bool b, .str t]), some (.row 38 [.int .i64 k, .int .i64 n, .str s, .bool b, .str t])] (.sl 1 0 1 5 1 ex) = some E := fun ex => by
    rw [← hE]
    rfl
  refine vcE.step (by simp (disch := first | assumption | omega) only [exC, exOps, exOp, evE, evsE, putE, wantedE, Nat.reduceEqDiff, ↓reduceIte, ROp.run, same, binA, intA, strA, eqA, indexSA, byteA, unA, bounds3, Option.map_some, Option.map_none, dec_true, dec_false, Int.toNat_natCast, Int.natCast_nonneg, beq_self_eq_true, List.append_nil, beq_iff_eq, reduceCtorEq, List.getD_cons_zero, List.getD_cons_succ, loadA, rowA, pickA, bslA, storeA_eq, decide_true, flatA, List.length_cons, List.length_nil, Nat.reduceAdd, List.flatMap_cons, List.flatMap_nil, BEq.rfl, List.cons_append, List.nil_append, if_pos, if_neg, ordered, List.getElem?_cons_zero, List.getElem?_cons_succ, frzL, nidL, frz_func, frz_agg, frz_tup, frz_iface, fresh_func, fresh_agg, fresh_tup, fresh_iface, frz_ptr, frz_sl, fresh_sl, Cls.isFree, Cls.makes, callCls, chain, cond_true, tz, ty, faddrA, allocA, over, List.take_succ_cons, List.take_zero, List.drop_succ_cons, List.drop_zero, List.drop_nil, List.set_cons_zero, List.set_cons_succ, Nat.reduceLeDiff, and_self, allocA, IAct.c]; rfl) (vcE.step (by simp (disch := first | assumption | omega) only [exC, exOps, exOp, evE, evsE, putE, wantedE, Nat.reduceEqDiff, ↓reduceIte, ROp.run, same, binA, intA, strA, eqA, indexSA, byteA, unA, bounds3, Option.map_some, Option.map_none, dec_true, dec_false, Int.toNat_natCast, Int.natCast_nonneg, beq_self_eq_true, List.append_nil, beq_iff_eq, reduceCtorEq, List.getD_cons_zero, List.getD_cons_succ, loadA, rowA, pickA, bslA, storeA_eq, decide_true, flatA, List.length_cons, List.length_nil, Nat.reduceAdd, List.flatMap_cons, List.flatMap_nil, BEq.rfl, List.cons_append, List.nil_append, if_pos, if_neg, ordered, List.getElem?_cons_zero, List.getElem?_cons_succ, frzL, nidL, frz_func, frz_agg, frz_tup, frz_iface, fresh_func, fresh_agg, fresh_tup, fresh_iface, frz_ptr, frz_sl, fresh_sl, Cls.isFree, Cls.makes, callCls, chain, cond_true, tz, ty, faddrA, allocA, over, List.take_succ_cons, List.take_zero, List.drop_succ_cons, List.drop_zero, List.drop_nil, List.set_cons_zero, List.set_cons_succ, Nat.reduceLeDiff, and_self, TI_8, Bool.not_true]; rfl) ?_)
  cases L
  · refine vcE.ex (by simp (disch := first | assumption | omega) only [exC, exOps, exOp, evE, evsE, putE, wantedE, Nat.reduceEqDiff, ↓reduceIte, ROp.run, same, binA, intA, strA, eqA, indexSA, byteA, unA, bounds3, Option.map_some, Option.map_none, dec_true, dec_false, Int.toNat_natCast, Int.natCast_nonneg, beq_self_eq_true, List.append_nil, beq_iff_eq, reduceCtorEq, List.getD_cons_zero, List.getD_cons_succ, loadA, rowA, pickA, bslA, storeA_eq, decide_true, flatA, List.length_cons, List.length_nil, Nat.reduceAdd, List.flatMap_cons, List.flatMap_nil, BEq.rfl, List.cons_append, List.nil_append, if_pos, if_neg, ordered, List.getElem?_cons_zero, List.getElem?_cons_succ, frzL, nidL, frz_func, frz_agg, frz_tup, frz_iface, fresh_func, fresh_agg, fresh_tup, fresh_iface, frz_ptr, frz_sl, fresh_sl, Cls.isFree, Cls.makes, callCls, chain, cond_true, tz, ty, faddrA, allocA, over, List.take_succ_cons, List.take_zero, List.drop_succ_cons, List.drop_zero, List.drop_nil, List.set_cons_zero, List.set_cons_succ, Nat.reduceLeDiff, and_self, allocA, ↓hfz, c1, Bool.not_false, Bool.true_or]; rfl) ?_
    exact ⟨_, rfl, rfl⟩
  · refine vcE.step (by simp (disch := first | assumption | omega) only [exC, exOps, exOp, evE, evsE, putE, wantedE, Nat.reduceEqDiff, ↓reduceIte, ROp.run, same, binA, intA, strA, eqA, indexSA, byteA, unA, bounds3, Option.map_some, Option.map_none, dec_true, dec_false, Int.toNat_natCast, Int.natCast_nonneg, beq_self_eq_true, List.append_nil, beq_iff_eq, reduceCtorEq, List.getD_cons_zero, List.getD_cons_succ, loadA, rowA, pickA, bslA, storeA_eq, decide_true, flatA, List.length_cons, List.length_nil, Nat.reduceAdd, List.flatMap_cons, List.flatMap_nil, BEq.rfl, List.cons_append, List.nil_append, if_pos, if_neg, ordered, List.getElem?_cons_zero, List.getElem?_cons_succ, frzL, nidL, frz_func, frz_agg, frz_tup, frz_iface, fresh_func, fresh_agg, fresh_tup, fresh_iface, frz_ptr, frz_sl, fresh_sl, Cls.isFree, Cls.makes, callCls, chain, cond_true, tz, ty, faddrA, allocA, over, List.take_succ_cons, List.take_zero, List.drop_succ_cons, List.drop_zero, List.drop_nil, List.set_cons_zero, List.set_cons_succ, Nat.reduceLeDiff, and_self, allocA, ↓hfz, c1, Bool.not_true, Bool.true_or]; rfl) (vcE.step (by simp (disch := first | assumption | omega) only [exC, exOps, exOp, evE, evsE, putE, wantedE, Nat.reduceEqDiff, ↓reduceIte, ROp.run, same, binA, intA, strA, eqA, indexSA, byteA, unA, bounds3, Option.map_some, Option.map_none, dec_true, dec_false, Int.toNat_natCast, Int.natCast_nonneg, beq_self_eq_true, List.append_nil, beq_iff_eq, reduceCtorEq, List.getD_cons_zero, List.getD_cons_succ, loadA, rowA, pickA, bslA, storeA_eq, decide_true, flatA, List.length_cons, List.length_nil, Nat.reduceAdd, List.flatMap_cons, List.flatMap_nil, BEq.rfl, List.cons_append, List.nil_append, if_pos, if_neg, ordered, List.getElem?_cons_zero, List.getElem?_cons_succ, frzL, nidL, frz_func, frz_agg, frz_tup, frz_iface, fresh_func, fresh_agg, fresh_tup, fresh_iface, frz_ptr, frz_sl, fresh_sl, Cls.isFree, Cls.makes, callCls, chain, cond_true, tz, ty, faddrA, allocA, over, List.take_succ_cons, List.take_zero, List.drop_succ_cons, List.drop_zero, List.drop_nil, List.set_cons_zero, List.set_cons_succ, Nat.reduceLeDiff, and_self]; rfl) ?_)
    refine vcE.ex (by simp (disch := first | assumption | omega) only [exC, exOps, exOp, evE, evsE, putE, wantedE, Nat.reduceEqDiff, ↓reduceIte, ROp.run, same, binA, intA, strA, eqA, indexSA, byteA, unA, bounds3, Option.map_some, Option.map_none, dec_true, dec_false, Int.toNat_natCast, Int.natCast_nonneg, beq_self_eq_true, List.append_nil, beq_iff_eq, reduceCtorEq, List.getD_cons_zero, List.getD_cons_succ, loadA, rowA, pickA, bslA, storeA_eq, decide_true, flatA, List.length_cons, List.length_nil, Nat.reduceAdd, List.flatMap_cons, List.flatMap_nil, BEq.rfl, List.cons_append, List.nil_append, if_pos, if_neg, ordered, List.getElem?_cons_zero, List.getElem?_cons_succ, frzL, nidL, frz_func, frz_agg, frz_tup, frz_iface, fresh_func, fresh_agg, fresh_tup, fresh_iface, frz_ptr, frz_sl, fresh_sl, Cls.isFree, Cls.makes, callCls, chain, cond_true, tz, ty, faddrA, allocA, over, List.take_succ_cons, List.take_zero, List.drop_succ_cons, List.drop_zero, List.drop_nil, List.set_cons_zero, List.set_cons_succ, Nat.reduceLeDiff, and_self, Bool.not_true, Bool.not_false, Bool.true_or, TI_11, TI_14, TI_12, TI_22, TI_13, TI_25]; rfl) ?_
    exact ⟨_, rfl, rfl⟩
/-- The law's argument. -/
theorem arg_iact {B n : Nat} {x : AV} (h : HasVB Tryz.prog B (n + 2) 38 x) : ∃ a : IAct, x = .agg a.c := by
  simp only [HasVB, Tryz.underlying38] at h
  obtain ⟨bs, rfl, h⟩ := h
  simp only [HasTB, Tryz.underlying38, Tryz.underlying3, Tryz.underlying9, Tryz.underlying4, hasFs] at h
  obtain ⟨_, _, rfl, ⟨k, rfl, _⟩, _, _, rfl, ⟨m, rfl, _⟩, _, _, rfl, ⟨s1, rfl, _⟩, _, _, rfl, ⟨b, rfl⟩, _, _, rfl, ⟨s2, rfl, _⟩, rfl⟩ := h
  exact ⟨⟨k, m, s1, b, s2⟩, rfl⟩

end Go.Gi
