/- States: a step. -/
import Derived.Test.YtmehgdpbcafboaaGiNfC
set_option linter.unusedVariables false
set_option linter.unusedSimpArgs false
namespace Go.Gi
open Go Go.Proofs

/-- What the places below one lead to. -/
def accS (s : UInt8 → UInt8 → Bool) (p : List UInt8) (r : Nat → Bool) (c : UInt8) : Nat → Nat → Bool
  | 0, _ => false
  | i + 1, j => accS s p r c i j || (r i && ((isStar p i && rch p i j) || (takes s p i c && rch p (i + 1) j)))
theorem accS_iff {s : UInt8 → UInt8 → Bool} {p : List UInt8} {r : Nat → Bool} {c : UInt8} {j : Nat} : ∀ {i : Nat}, accS s p r c i j = true ↔ ∃ k, k < i ∧ r k = true ∧ ((isStar p k = true ∧ rch p k j = true) ∨ (takes s p k c = true ∧ rch p (k + 1) j = true))
  | 0 => by simp [accS]
  | i + 1 => by
    simp only [accS, Bool.or_eq_true, Bool.and_eq_true, accS_iff (i := i)]
    constructor
    · rintro (⟨k, h1, h2⟩ | ⟨h1, h2⟩)
      · exact ⟨k, by omega, h2⟩
      · exact ⟨i, by omega, h1, h2⟩
    · rintro ⟨k, h1, h2, h3⟩
      by_cases hk : k = i
      · subst hk; exact .inr ⟨h2, h3⟩
      · exact .inl ⟨k, by omega, h2, h3⟩
theorem isStar_end (p : List UInt8) : isStar p p.length = false := by simp [isStar]
theorem takes_end (s : UInt8 → UInt8 → Bool) (p : List UInt8) (c : UInt8) : takes s p p.length c = false := by simp [takes]
theorem accS_end {s : UInt8 → UInt8 → Bool} {p : List UInt8} {r : Nat → Bool} {c : UInt8} {j : Nat} : accS s p r c (p.length + 1) j = accS s p r c p.length j := by
  simp [accS, isStar_end, takes_end]
theorem accS_step {s : UInt8 → UInt8 → Bool} {p : List UInt8} {r : Nat → Bool} {c : UInt8} {j : Nat} : accS s p r c p.length j = stepS s p r c j := by
  rw [Bool.eq_iff_iff, accS_iff, stepS, clo_iff]
  constructor
  · rintro ⟨k, h1, h2, ⟨h3, h4⟩ | ⟨h3, h4⟩⟩
    · rw [rch_iff] at h4
      refine ⟨k, h4.1, ?_, h4.2⟩
      cases k with
      | zero => simp only [leads, h2, h3, Bool.and_self]
      | succ k => simp only [leads, h2, h3, Bool.and_self, Bool.true_or]
    · rw [rch_iff] at h4
      exact ⟨k + 1, h4.1, by simp only [leads, h2, h3, Bool.and_self, Bool.or_true], h4.2⟩
  · rintro ⟨i, h1, h2, h3⟩
    have hs : isStar p i = true → i < p.length := fun h => by
      simp only [isStar, decide_eq_true_eq] at h
      exact (List.getElem?_eq_some_iff.1 h).1
    have ht : ∀ i, takes s p i c = true → i < p.length := fun i h => by
      unfold takes at h
      split at h
      · rename_i a ha
        exact (List.getElem?_eq_some_iff.1 ha).1
      · cases h
    cases i with
    | zero =>
      simp only [leads, Bool.and_eq_true] at h2
      exact ⟨0, hs h2.2, h2.1, .inl ⟨h2.2, rch_iff.2 ⟨h1, h3⟩⟩⟩
    | succ i =>
      simp only [leads, Bool.or_eq_true, Bool.and_eq_true] at h2
      rcases h2 with h2 | h2
      · exact ⟨i + 1, hs h2.2, h2.1, .inl ⟨h2.2, rch_iff.2 ⟨h1, h3⟩⟩⟩
      · exact ⟨i, ht i h2.2, h2.1, .inr ⟨h2.2, rch_iff.2 ⟨h1, h3⟩⟩⟩

/-- A step's memory. -/
def stepH (p : List UInt8) (f : Bool) (c : UInt8) (acc : Nat → Bool) (b : Option Blk) : HP :=
  [some (.row 73 [nP p f]), some (.row 5 [.int .u8 c.toNat]), rowBlk (p.length + 1) acc, some (.row 119 [.sl 2 0 (p.length + 1) 1 (p.length + 1) true]), b]

def H2 : Tab := H1.addO 128 (.cons .str .nil) fun p => if p.1.length ≤ 1000000 then some (.rd true (.str (p.1.map foldB))) else none
theorem H2_ok : TabOk Try.prog H2 := by
  refine TabOk.addO H1_ok ?_
  intro p r h
  split at h
  · cases h
    exact pFoldS p.1 (by omega)
  · cases h
theorem H2_fold (s : List UInt8) (h : s.length ≤ 1000000) : H2 128 [.str s] = some (.rd true (.str (s.map foldB))) := by
  refine (Tab.addO_self _ _ (.cons .str .nil) _ (s, ())).trans ?_
  rw [if_pos h]
theorem H2_all (R : List Bool) : H2 126 [encT.S R] = some (.rd false (.func 137 [.fptr [encT.S R] 0])) := by
  rw [H2, Tab.addO_ne _ _ _ _ rfl]
  exact H1_all R
theorem b2s_one (hp : HP) (c : UInt8) : b2sA hp (.fsl [.int .u8 c.toNat] 1) = some (.str [c]) := by
  have h : unbyte (encB.cs [c]) = some [c] := unbyte_encB [c]
  have h2 : unbyte [.int .u8 (c.toNat : Int)] = some [c] := h
  simp [b2sA, srcA, h2]

section
variable {p : List UInt8} {f : Bool} {c : UInt8} {r : Nat → Bool} {l : List AV} {tm0 : Env}

/-- Behind a place. -/
def SK (p : List UInt8) (f : Bool) (c : UInt8) (r : Nat → Bool) (l : List AV) (i : Nat) (rv : AV) (hp' : HP) : Prop :=
  (rv = .bool true ∧ hp' = stepH p f c (accS (sameB f) p r c (i + 1)) (some (.loop l 107000 .ready none)) ∧ i < p.length) ∨ (rv = .bool false ∧ ∃ l' st, st ≠ .busy ∧ hp' = stepH p f c (accS (sameB f) p r c p.length) (some (.loop l' 107000 st (some (some 0)))))

theorem step_tail {i : Nat} (hi : i < p.length) (ri : r i = true) {acc : Nat → Bool} (hacc : ∀ j, acc j = accS (sameB f) p r c (i + 1) j) {hp3 : HP} (h3 : hp3 = stepH p f c acc (some (.loop l 107000 .busy none))) :
    ∃ pe tms3 key3 ls3 pd3, pendOf .normal = some pe ∧ hp3[4]? = some (some (.loop tms3 key3 ls3 pd3)) ∧ SK p f c r l i (.bool pe.isNone) (hp3.set 4 (some (.loop tms3 key3 (if pe.isNone then .ready else .done) pe))) := by
  subst h3
  refine ⟨none, l, _, .busy, none, rfl, rfl, .inl ⟨rfl, ?_, hi⟩⟩
  rw [show acc = accS (sameB f) p r c (i + 1) from funext hacc]
  rfl

theorem step_round (hl : p.length ≤ 1000000) (hl0 : Is 63 tm0 l) (t3 : tm0 3 = .ptr 0 0) (t5 : tm0 5 = .ptr 1 0) (t7 : tm0 7 = .ptr 3 0) {i : Nat} (hi : i ≤ p.length) (ri : r i = true) :
    ARound Try.prog 4 [.int .i64 i] (stepH p f c (accS (sameB f) p r c i) (some (.loop l 107000 .ready none))) (SK p f c r l i) := by
  refine round_e hmG H2_ok lok107000 (tms := l) rfl rfl (tm := upd tm0 15 (.int .i64 i)) (hl0.setP 15 _) ?_
  intro hint
  refine vcE.ex (by simp (disch := omega) only [exC, exOps, exOp, evE, evsE, putE, wantedE, Nat.reduceEqDiff, ↓reduceIte, ROp.run, same, binA, intA, strA, eqA, indexSA, byteA, unA, bounds3, Option.map_some, Option.map_none, dec_true, dec_false, Int.toNat_natCast, Int.natCast_nonneg, beq_self_eq_true, List.append_nil, beq_iff_eq, reduceCtorEq, List.getD_cons_zero, List.getD_cons_succ, loadA, rowA, pickA, bslA, storeA_eq, decide_true, flatA, List.length_cons, List.length_nil, Nat.reduceAdd, List.flatMap_cons, List.flatMap_nil, BEq.rfl, List.cons_append, List.nil_append, if_pos, if_neg, ordered, List.getElem?_cons_zero, List.getElem?_cons_succ, frzL, nidL, frz_func, frz_agg, frz_tup, frz_iface, fresh_func, fresh_agg, fresh_tup, fresh_iface, frz_ptr, frz_sl, fresh_sl, Cls.isFree, Cls.makes, callCls, chain, cond_true, tz, ty]; rfl) ?_
  refine ⟨rfl, l, _, none, rfl, ?_⟩
  have hset : (stepH p f c (accS (sameB f) p r c i) (some (.loop l 107000 .ready none))).set 4 (some (.loop l 107000 .busy none)) = stepH p f c (accS (sameB f) p r c i) (some (.loop l 107000 .busy none)) := rfl
  rw [hset]
  have frzN : ∀ hp, frz hp (nP p f) = some (nP p f) := fun _ => rfl
  by_cases hip : i = p.length
  · subst hip
    refine vcE.block (vcE.ex (by simp (disch := omega) only [exC, exOps, exOp, evE, evsE, putE, wantedE, Nat.reduceEqDiff, ↓reduceIte, ROp.run, same, binA, intA, strA, eqA, indexSA, byteA, unA, bounds3, Option.map_some, Option.map_none, dec_true, dec_false, Int.toNat_natCast, Int.natCast_nonneg, beq_self_eq_true, List.append_nil, beq_iff_eq, reduceCtorEq, List.getD_cons_zero, List.getD_cons_succ, loadA, rowA, pickA, bslA, storeA_eq, decide_true, flatA, List.length_cons, List.length_nil, Nat.reduceAdd, List.flatMap_cons, List.flatMap_nil, BEq.rfl, List.cons_append, List.nil_append, if_pos, if_neg, ordered, List.getElem?_cons_zero, List.getElem?_cons_succ, frzL, nidL, frz_func, frz_agg, frz_tup, frz_iface, fresh_func, fresh_agg, fresh_tup, fresh_iface, frz_ptr, frz_sl, fresh_sl, Cls.isFree, Cls.makes, callCls, chain, cond_true, tz, ty, faddrA, allocA, over, List.take_succ_cons, List.take_zero, List.drop_succ_cons, List.drop_zero, List.drop_nil, List.set_cons_zero, List.set_cons_succ, Nat.reduceLeDiff, and_self, stepH, nP, nilchkA, t3]; rfl) ?_)
    simp only [Nat.reduceEqDiff, ↓reduceIte]
    exact ⟨some (some 0), l, _, .busy, none, rfl, rfl, .inr ⟨rfl, l, .done, by simp, rfl⟩⟩
  · have hlt : i < p.length := by omega
    obtain ⟨a, ha⟩ : ∃ a, p[i]? = some a := ⟨_, List.getElem?_eq_getElem hlt⟩
    refine vcE.block (vcE.step (by simp (disch := omega) only [exC, exOps, exOp, evE, evsE, putE, wantedE, Nat.reduceEqDiff, ↓reduceIte, ROp.run, same, binA, intA, strA, eqA, indexSA, byteA, unA, bounds3, Option.map_some, Option.map_none, dec_true, dec_false, Int.toNat_natCast, Int.natCast_nonneg, beq_self_eq_true, List.append_nil, beq_iff_eq, reduceCtorEq, List.getD_cons_zero, List.getD_cons_succ, loadA, rowA, pickA, bslA, storeA_eq, decide_true, flatA, List.length_cons, List.length_nil, Nat.reduceAdd, List.flatMap_cons, List.flatMap_nil, BEq.rfl, List.cons_append, List.nil_append, if_pos, if_neg, ordered, List.getElem?_cons_zero, List.getElem?_cons_succ, frzL, nidL, frz_func, frz_agg, frz_tup, frz_iface, fresh_func, fresh_agg, fresh_tup, fresh_iface, frz_ptr, frz_sl, fresh_sl, Cls.isFree, Cls.makes, callCls, chain, cond_true, tz, ty, faddrA, allocA, over, List.take_succ_cons, List.take_zero, List.drop_succ_cons, List.drop_zero, List.drop_nil, List.set_cons_zero, List.set_cons_succ, Nat.reduceLeDiff, and_self, stepH, nP, nilchkA, t3]; rfl) (vcE.step (by simp (disch := omega) only [exC, exOps, exOp, evE, evsE, putE, wantedE, Nat.reduceEqDiff, ↓reduceIte, ROp.run, same, binA, intA, strA, eqA, indexSA, byteA, unA, bounds3, Option.map_some, Option.map_none, dec_true, dec_false, Int.toNat_natCast, Int.natCast_nonneg, beq_self_eq_true, List.append_nil, beq_iff_eq, reduceCtorEq, List.getD_cons_zero, List.getD_cons_succ, loadA, rowA, pickA, bslA, storeA_eq, decide_true, flatA, List.length_cons, List.length_nil, Nat.reduceAdd, List.flatMap_cons, List.flatMap_nil, BEq.rfl, List.cons_append, List.nil_append, if_pos, if_neg, ordered, List.getElem?_cons_zero, List.getElem?_cons_succ, frzL, nidL, frz_func, frz_agg, frz_tup, frz_iface, fresh_func, fresh_agg, fresh_tup, fresh_iface, frz_ptr, frz_sl, fresh_sl, Cls.isFree, Cls.makes, callCls, chain, cond_true, tz, ty, faddrA, allocA, over, List.take_succ_cons, List.take_zero, List.drop_succ_cons, List.drop_zero, List.drop_nil, List.set_cons_zero, List.set_cons_succ, Nat.reduceLeDiff, and_self, stepH, nP, nilchkA, t3, ha]; rfl) (vcE.block (vcE.step (by simp (disch := omega) only [exC, exOps, exOp, evE, evsE, putE, wantedE, Nat.reduceEqDiff, ↓reduceIte, ROp.run, same, binA, intA, strA, eqA, indexSA, byteA, unA, bounds3, Option.map_some, Option.map_none, dec_true, dec_false, Int.toNat_natCast, Int.natCast_nonneg, beq_self_eq_true, List.append_nil, beq_iff_eq, reduceCtorEq, List.getD_cons_zero, List.getD_cons_succ, loadA, rowA, pickA, bslA, storeA_eq, decide_true, flatA, List.length_cons, List.length_nil, Nat.reduceAdd, List.flatMap_cons, List.flatMap_nil, BEq.rfl, List.cons_append, List.nil_append, if_pos, if_neg, ordered, List.getElem?_cons_zero, List.getElem?_cons_succ, frzL, nidL, frz_func, frz_agg, frz_tup, frz_iface, fresh_func, fresh_agg, fresh_tup, fresh_iface, frz_ptr, frz_sl, fresh_sl, Cls.isFree, Cls.makes, callCls, chain, cond_true, tz, ty]; rfl) ?_))))
    by_cases h42 : a.toNat = 42
    · have hstar : isStar p i = true := by
        simp only [isStar, decide_eq_true_eq, ha, Option.some.injEq]
        exact UInt8.toNat_inj.1 h42
      have htake : takes (sameB f) p i c = false := by
        simp [takes, ha, show a = 42 from UInt8.toNat_inj.1 h42]
      refine vcE.condTrue (by simp (disch := omega) only [exC, exOps, exOp, evE, evsE, putE, wantedE, Nat.reduceEqDiff, ↓reduceIte, ROp.run, same, binA, intA, strA, eqA, indexSA, byteA, unA, bounds3, Option.map_some, Option.map_none, dec_true, dec_false, Int.toNat_natCast, Int.natCast_nonneg, beq_self_eq_true, List.append_nil, beq_iff_eq, reduceCtorEq, List.getD_cons_zero, List.getD_cons_succ, loadA, rowA, pickA, bslA, storeA_eq, decide_true, flatA, List.length_cons, List.length_nil, Nat.reduceAdd, List.flatMap_cons, List.flatMap_nil, BEq.rfl, List.cons_append, List.nil_append, if_pos, if_neg, ordered, List.getElem?_cons_zero, List.getElem?_cons_succ, frzL, nidL, frz_func, frz_agg, frz_tup, frz_iface, fresh_func, fresh_agg, fresh_tup, fresh_iface, frz_ptr, frz_sl, fresh_sl, Cls.isFree, Cls.makes, callCls, chain, cond_true, tz, ty, h42]) ?_
      rw [show r107_8 = r107_8.take 3 ++ r107_8.drop 3 from rfl]
      refine vcE.app (vcE.ex (by simp (disch := omega) only [exC, exOps, exOp, evE, evsE, putE, wantedE, Nat.reduceEqDiff, ↓reduceIte, ROp.run, same, binA, intA, strA, eqA, indexSA, byteA, unA, bounds3, Option.map_some, Option.map_none, dec_true, dec_false, Int.toNat_natCast, Int.natCast_nonneg, beq_self_eq_true, List.append_nil, beq_iff_eq, reduceCtorEq, List.getD_cons_zero, List.getD_cons_succ, loadA, rowA, pickA, bslA, storeA_eq, decide_true, flatA, List.length_cons, List.length_nil, Nat.reduceAdd, List.flatMap_cons, List.flatMap_nil, BEq.rfl, List.cons_append, List.nil_append, if_pos, if_neg, ordered, List.getElem?_cons_zero, List.getElem?_cons_succ, frzL, nidL, frz_func, frz_agg, frz_tup, frz_iface, fresh_func, fresh_agg, fresh_tup, fresh_iface, frz_ptr, frz_sl, fresh_sl, Cls.isFree, Cls.makes, callCls, chain, cond_true, tz, ty, faddrA, allocA, over, List.take_succ_cons, List.take_zero, List.drop_succ_cons, List.drop_zero, List.drop_nil, List.set_cons_zero, List.set_cons_succ, Nat.reduceLeDiff, and_self, stepH, t3, t7, nP]; rfl) ⟨rfl, vcE.call (f := 127) (caps := []) (ys := [nP p f, .sl 2 0 (p.length + 1) 1 (p.length + 1) true, .int .i64 i]) rfl ?_ (cCome p f (by omega) (id := 2) (b := accS (sameB f) p r c i) rfl hi) ?_⟩)
      · rfl
      · rintro rv hp' rfl
        refine step_tail hlt ri (acc := fun j => accS (sameB f) p r c i j || rch p i j) (fun j => ?_) rfl
        simp only [accS, ri, hstar, htake, Bool.true_and, Bool.false_and, Bool.or_false]
    · have hne : a ≠ 42 := fun e => h42 (by rw [e]; rfl)
      have hstar : isStar p i = false := by simp [isStar, ha, hne]
      refine vcE.condFalse (by simp (disch := omega) only [exC, exOps, exOp, evE, evsE, putE, wantedE, Nat.reduceEqDiff, ↓reduceIte, ROp.run, same, binA, intA, strA, eqA, indexSA, byteA, unA, bounds3, Option.map_some, Option.map_none, dec_true, dec_false, Int.toNat_natCast, Int.natCast_nonneg, beq_self_eq_true, List.append_nil, beq_iff_eq, reduceCtorEq, List.getD_cons_zero, List.getD_cons_succ, loadA, rowA, pickA, bslA, storeA_eq, decide_true, flatA, List.length_cons, List.length_nil, Nat.reduceAdd, List.flatMap_cons, List.flatMap_nil, BEq.rfl, List.cons_append, List.nil_append, if_pos, if_neg, ordered, List.getElem?_cons_zero, List.getElem?_cons_succ, frzL, nidL, frz_func, frz_agg, frz_tup, frz_iface, fresh_func, fresh_agg, fresh_tup, fresh_iface, frz_ptr, frz_sl, fresh_sl, Cls.isFree, Cls.makes, callCls, chain, cond_true, tz, ty]) ?_
      have yes : takes (sameB f) p i c = true → ∀ tm : Env, tm 36 = .bool true → tm 3 = .ptr 0 0 → tm 7 = .ptr 3 0 → tm 8 = .int .i64 i → vcE Try.prog hint H2 63 (IC.cond (.t 36) (IC.reg r107_12) IC.skip) tm (stepH p f c (accS (sameB f) p r c i) (some (.loop l 107000 .busy none))) (fun e tm3 hp3 => e = .normal ∧ ∃ pe tms3 key3 ls3 pd3, pendOf .normal = some pe ∧ hp3[4]? = some (some (.loop tms3 key3 ls3 pd3)) ∧ SK p f c r l i (.bool pe.isNone) (hp3.set 4 (some (.loop tms3 key3 (if pe.isNone then .ready else .done) pe)))) := by
        intro htake tm e36 e3 e7 e8
        refine vcE.condTrue (by simp only [evE, e36]) ?_
        rw [show r107_12 = r107_12.take 4 ++ r107_12.drop 4 from rfl]
        refine vcE.app (vcE.ex (by simp (disch := omega) only [exC, exOps, exOp, evE, evsE, putE, wantedE, Nat.reduceEqDiff, ↓reduceIte, ROp.run, same, binA, intA, strA, eqA, indexSA, byteA, unA, bounds3, Option.map_some, Option.map_none, dec_true, dec_false, Int.toNat_natCast, Int.natCast_nonneg, beq_self_eq_true, List.append_nil, beq_iff_eq, reduceCtorEq, List.getD_cons_zero, List.getD_cons_succ, loadA, rowA, pickA, bslA, storeA_eq, decide_true, flatA, List.length_cons, List.length_nil, Nat.reduceAdd, List.flatMap_cons, List.flatMap_nil, BEq.rfl, List.cons_append, List.nil_append, if_pos, if_neg, ordered, List.getElem?_cons_zero, List.getElem?_cons_succ, frzL, nidL, frz_func, frz_agg, frz_tup, frz_iface, fresh_func, fresh_agg, fresh_tup, fresh_iface, frz_ptr, frz_sl, fresh_sl, Cls.isFree, Cls.makes, callCls, chain, cond_true, tz, ty, faddrA, allocA, over, List.take_succ_cons, List.take_zero, List.drop_succ_cons, List.drop_zero, List.drop_nil, List.set_cons_zero, List.set_cons_succ, Nat.reduceLeDiff, and_self, stepH, e3, e7, e8, nP]; rfl) ⟨rfl, vcE.call (f := 127) (caps := []) (ys := [nP p f, .sl 2 0 (p.length + 1) 1 (p.length + 1) true, .int .i64 ((i + 1 : Nat) : Int)]) rfl ?_ (cCome p f (by omega) (id := 2) (b := accS (sameB f) p r c i) rfl (a := i + 1) (by omega)) ?_⟩)
        · rfl
        · rintro rv hp' rfl
          refine ⟨rfl, step_tail hlt ri (acc := fun j => accS (sameB f) p r c i j || rch p (i + 1) j) (fun j => ?_) rfl⟩
          simp only [accS, ri, hstar, htake, Bool.true_and, Bool.false_and, Bool.false_or]
      have no : takes (sameB f) p i c = false → ∃ pe tms3 key3 ls3 pd3, pendOf .normal = some pe ∧ (stepH p f c (accS (sameB f) p r c i) (some (.loop l 107000 .busy none)))[4]? = some (some (.loop tms3 key3 ls3 pd3)) ∧ SK p f c r l i (.bool pe.isNone) ((stepH p f c (accS (sameB f) p r c i) (some (.loop l 107000 .busy none))).set 4 (some (.loop tms3 key3 (if pe.isNone then .ready else .done) pe))) := fun htake => by
        refine step_tail hlt ri (acc := accS (sameB f) p r c i) (fun j => ?_) rfl
        simp only [accS, ri, hstar, htake, Bool.true_and, Bool.false_and, Bool.or_false]
      have fin : ∀ {tm : Env} {hp : HP} {Q : Exit → Env → HP → Prop} {n : Nat} {ic : IC}, vcE Try.prog hint H2 n ic tm hp (fun e tm3 hp3 => e = .normal ∧ Q .normal tm3 hp3) → vcE Try.prog hint H2 n ic tm hp Q := fun h => h.mono fun e tm hp ⟨h1, h2⟩ => by subst h1; exact h2
      have hsame : a.toNat ≠ 63 → takes (sameB f) p i c = sameB f a c := fun h63 => by
        have : a ≠ 63 := fun e => h63 (by rw [e]; rfl)
        have h1 : (a == 42) = false := by simpa using hne
        have h2 : (a == 63) = false := by simpa using this
        simp only [takes, ha, bne, h1, h2, Bool.not_false, Bool.true_and, Bool.false_or]
      by_cases h63 : a.toNat = 63
      · have htake : takes (sameB f) p i c = true := by
          simp [takes, ha, hne, show a = 63 from UInt8.toNat_inj.1 h63]
        refine vcE.step (by simp (disch := omega) only [exC, exOps, exOp, evE, evsE, putE, wantedE, Nat.reduceEqDiff, ↓reduceIte, ROp.run, same, binA, intA, strA, eqA, indexSA, byteA, unA, bounds3, Option.map_some, Option.map_none, dec_true, dec_false, Int.toNat_natCast, Int.natCast_nonneg, beq_self_eq_true, List.append_nil, beq_iff_eq, reduceCtorEq, List.getD_cons_zero, List.getD_cons_succ, loadA, rowA, pickA, bslA, storeA_eq, decide_true, flatA, List.length_cons, List.length_nil, Nat.reduceAdd, List.flatMap_cons, List.flatMap_nil, BEq.rfl, List.cons_append, List.nil_append, if_pos, if_neg, ordered, List.getElem?_cons_zero, List.getElem?_cons_succ, frzL, nidL, frz_func, frz_agg, frz_tup, frz_iface, fresh_func, fresh_agg, fresh_tup, fresh_iface, frz_ptr, frz_sl, fresh_sl, Cls.isFree, Cls.makes, callCls, chain, cond_true, tz, ty, h63]; rfl) (fin (yes htake _ ?_ ?_ ?_ ?_))
        all_goals simp only [upd_app, Nat.reduceEqDiff, ↓reduceIte, t3, t7]
      · by_cases hac : a = c
        · subst hac
          have htake : takes (sameB f) p i a = true := by
            rw [hsame h63]
            cases f <;> simp [sameB]
          refine vcE.step (by simp (disch := omega) only [exC, exOps, exOp, evE, evsE, putE, wantedE, Nat.reduceEqDiff, ↓reduceIte, ROp.run, same, binA, intA, strA, eqA, indexSA, byteA, unA, bounds3, Option.map_some, Option.map_none, dec_true, dec_false, Int.toNat_natCast, Int.natCast_nonneg, beq_self_eq_true, List.append_nil, beq_iff_eq, reduceCtorEq, List.getD_cons_zero, List.getD_cons_succ, loadA, rowA, pickA, bslA, storeA_eq, decide_true, flatA, List.length_cons, List.length_nil, Nat.reduceAdd, List.flatMap_cons, List.flatMap_nil, BEq.rfl, List.cons_append, List.nil_append, if_pos, if_neg, ordered, List.getElem?_cons_zero, List.getElem?_cons_succ, frzL, nidL, frz_func, frz_agg, frz_tup, frz_iface, fresh_func, fresh_agg, fresh_tup, fresh_iface, frz_ptr, frz_sl, fresh_sl, Cls.isFree, Cls.makes, callCls, chain, cond_true, tz, ty, faddrA, allocA, over, List.take_succ_cons, List.take_zero, List.drop_succ_cons, List.drop_zero, List.drop_nil, List.set_cons_zero, List.set_cons_succ, Nat.reduceLeDiff, and_self, stepH, t5]; rfl) (fin (yes htake _ ?_ ?_ ?_ ?_))
          all_goals simp only [upd_app, Nat.reduceEqDiff, ↓reduceIte, t3, t7]
        · have hac' : ¬ (a.toNat : Int) = c.toNat := fun e => hac (u8_eqI.1 e)
          cases f
          · have htake : takes (sameB false) p i c = false := by
              rw [hsame h63]
              simp [sameB, hac]
            refine vcE.step (by simp (disch := first | assumption | omega) only [exC, exOps, exOp, evE, evsE, putE, wantedE, Nat.reduceEqDiff, ↓reduceIte, ROp.run, same, binA, intA, strA, eqA, indexSA, byteA, unA, bounds3, Option.map_some, Option.map_none, dec_true, dec_false, Int.toNat_natCast, Int.natCast_nonneg, beq_self_eq_true, List.append_nil, beq_iff_eq, reduceCtorEq, List.getD_cons_zero, List.getD_cons_succ, loadA, rowA, pickA, bslA, storeA_eq, decide_true, flatA, List.length_cons, List.length_nil, Nat.reduceAdd, List.flatMap_cons, List.flatMap_nil, BEq.rfl, List.cons_append, List.nil_append, if_pos, if_neg, ordered, List.getElem?_cons_zero, List.getElem?_cons_succ, frzL, nidL, frz_func, frz_agg, frz_tup, frz_iface, fresh_func, fresh_agg, fresh_tup, fresh_iface, frz_ptr, frz_sl, fresh_sl, Cls.isFree, Cls.makes, callCls, chain, cond_true, tz, ty, faddrA, allocA, over, List.take_succ_cons, List.take_zero, List.drop_succ_cons, List.drop_zero, List.drop_nil, List.set_cons_zero, List.set_cons_succ, Nat.reduceLeDiff, and_self, stepH, t3, t5, nP, nilchkA]; rfl) (vcE.ex (by simp (disch := omega) only [exC, exOps, exOp, evE, evsE, putE, wantedE, Nat.reduceEqDiff, ↓reduceIte, ROp.run, same, binA, intA, strA, eqA, indexSA, byteA, unA, bounds3, Option.map_some, Option.map_none, dec_true, dec_false, Int.toNat_natCast, Int.natCast_nonneg, beq_self_eq_true, List.append_nil, beq_iff_eq, reduceCtorEq, List.getD_cons_zero, List.getD_cons_succ, loadA, rowA, pickA, bslA, storeA_eq, decide_true, flatA, List.length_cons, List.length_nil, Nat.reduceAdd, List.flatMap_cons, List.flatMap_nil, BEq.rfl, List.cons_append, List.nil_append, if_pos, if_neg, ordered, List.getElem?_cons_zero, List.getElem?_cons_succ, frzL, nidL, frz_func, frz_agg, frz_tup, frz_iface, fresh_func, fresh_agg, fresh_tup, fresh_iface, frz_ptr, frz_sl, fresh_sl, Cls.isFree, Cls.makes, callCls, chain, cond_true, tz, ty]; rfl) ?_)
            exact no htake
          · have hfa := H2_fold [a] (by simp)
            have hfc := H2_fold [c] (by simp)
            by_cases hfo : foldB a = foldB c
            · have htake : takes (sameB true) p i c = true := by
                rw [hsame h63]
                simp [sameB, hfo]
              refine vcE.step (by simp (disch := first | assumption | omega) only [exC, exOps, exOp, evE, evsE, putE, wantedE, Nat.reduceEqDiff, ↓reduceIte, ROp.run, same, binA, intA, strA, eqA, indexSA, byteA, unA, bounds3, Option.map_some, Option.map_none, dec_true, dec_false, Int.toNat_natCast, Int.natCast_nonneg, beq_self_eq_true, List.append_nil, beq_iff_eq, reduceCtorEq, List.getD_cons_zero, List.getD_cons_succ, loadA, rowA, pickA, bslA, storeA_eq, decide_true, flatA, List.length_cons, List.length_nil, Nat.reduceAdd, List.flatMap_cons, List.flatMap_nil, BEq.rfl, List.cons_append, List.nil_append, if_pos, if_neg, ordered, List.getElem?_cons_zero, List.getElem?_cons_succ, frzL, nidL, frz_func, frz_agg, frz_tup, frz_iface, fresh_func, fresh_agg, fresh_tup, fresh_iface, frz_ptr, frz_sl, fresh_sl, Cls.isFree, Cls.makes, callCls, chain, cond_true, tz, ty, faddrA, allocA, over, List.take_succ_cons, List.take_zero, List.drop_succ_cons, List.drop_zero, List.drop_nil, List.set_cons_zero, List.set_cons_succ, Nat.reduceLeDiff, and_self, stepH, t3, t5, nP, nilchkA, b2s_one, hfa, hfc, List.map_cons, List.map_nil, hfo]; rfl) (fin (yes htake _ ?_ ?_ ?_ ?_))
              all_goals simp only [upd_app, Nat.reduceEqDiff, ↓reduceIte, t3, t7]
            · have htake : takes (sameB true) p i c = false := by
                rw [hsame h63]
                simp [sameB, hfo]
              have hfo2 : ¬ ([foldB a] = [foldB c]) := by simpa using hfo
              refine vcE.step (by simp (disch := first | assumption | omega) only [exC, exOps, exOp, evE, evsE, putE, wantedE, Nat.reduceEqDiff, ↓reduceIte, ROp.run, same, binA, intA, strA, eqA, indexSA, byteA, unA, bounds3, Option.map_some, Option.map_none, dec_true, dec_false, Int.toNat_natCast, Int.natCast_nonneg, beq_self_eq_true, List.append_nil, beq_iff_eq, reduceCtorEq, List.getD_cons_zero, List.getD_cons_succ, loadA, rowA, pickA, bslA, storeA_eq, decide_true, flatA, List.length_cons, List.length_nil, Nat.reduceAdd, List.flatMap_cons, List.flatMap_nil, BEq.rfl, List.cons_append, List.nil_append, if_pos, if_neg, ordered, List.getElem?_cons_zero, List.getElem?_cons_succ, frzL, nidL, frz_func, frz_agg, frz_tup, frz_iface, fresh_func, fresh_agg, fresh_tup, fresh_iface, frz_ptr, frz_sl, fresh_sl, Cls.isFree, Cls.makes, callCls, chain, cond_true, tz, ty, faddrA, allocA, over, List.take_succ_cons, List.take_zero, List.drop_succ_cons, List.drop_zero, List.drop_nil, List.set_cons_zero, List.set_cons_succ, Nat.reduceLeDiff, and_self, stepH, t3, t5, nP, nilchkA, b2s_one, hfa, hfc, List.map_cons, List.map_nil]; rfl) (vcE.ex (by simp (disch := omega) only [exC, exOps, exOp, evE, evsE, putE, wantedE, Nat.reduceEqDiff, ↓reduceIte, ROp.run, same, binA, intA, strA, eqA, indexSA, byteA, unA, bounds3, Option.map_some, Option.map_none, dec_true, dec_false, Int.toNat_natCast, Int.natCast_nonneg, beq_self_eq_true, List.append_nil, beq_iff_eq, reduceCtorEq, List.getD_cons_zero, List.getD_cons_succ, loadA, rowA, pickA, bslA, storeA_eq, decide_true, flatA, List.length_cons, List.length_nil, Nat.reduceAdd, List.flatMap_cons, List.flatMap_nil, BEq.rfl, List.cons_append, List.nil_append, if_pos, if_neg, ordered, List.getElem?_cons_zero, List.getElem?_cons_succ, frzL, nidL, frz_func, frz_agg, frz_tup, frz_iface, fresh_func, fresh_agg, fresh_tup, fresh_iface, frz_ptr, frz_sl, fresh_sl, Cls.isFree, Cls.makes, callCls, chain, cond_true, tz, ty]; rfl) ?_)
              exact no htake
end


theorem pStep (p : List UInt8) (f : Bool) (c : UInt8) (h0 : p ≠ []) (hl : p.length ≤ 1000000) (r : Nat → Bool) : PCF Try.prog 107 [nP p f, encT.S (rowB (p.length + 1) r), .int .u8 c.toNat] (encT.S (rowB (p.length + 1) (stepS (sameB f) p r c))) := by
  have hx : NoIdL [nP p f, encT.S (rowB (p.length + 1) r), .int .u8 c.toNat] := nidL_ok (by simp only [nidL, Enc.S_nid, nP_nid, nid_int, Bool.and_self])
  refine pcf_of hx ((calls_k hmG H2_ok comp107 keys107 (by decide) (by simp) (K := fun r' hp' => fresh hp' r' = some (encT.S (rowB (p.length + 1) (stepS (sameB f) p r c)))) ?_).mono fun _ _ => fresh_ok)
  have hrl := rowB_len (p.length + 1) r
  have hlen : lenA [some (.row 73 [nP p f]), some (.row 5 [.int .u8 c.toNat])] (encT.S (rowB (p.length + 1) r)) = some (.int .i64 ((p.length + 1 : Nat) : Int)) := by rw [encT.S_len, hrl]
  have hN : notTup (nP p f) = true := rfl
  have hC : cellsA (nP p f) = [nP p f] := rfl
  have hsm : ((p.length + 1 : Nat) : Int) = (p.length : Int) + 1 := rfl
  have hmk := make_row (hp := [some (.row 73 [nP p f]), some (.row 5 [.int .u8 c.toNat])]) (N := p.length + 1) (k := .i64) (k' := .i64) (by omega)
  have hall := H2_all (rowB (p.length + 1) r)
  refine vcE.step (by simp (disch := omega) only [exC, exOps, exOp, evE, evsE, putE, wantedE, Nat.reduceEqDiff, ↓reduceIte, ROp.run, same, binA, intA, strA, eqA, indexSA, byteA, unA, bounds3, Option.map_some, Option.map_none, dec_true, dec_false, Int.toNat_natCast, Int.natCast_nonneg, beq_self_eq_true, List.append_nil, beq_iff_eq, reduceCtorEq, List.getD_cons_zero, List.getD_cons_succ, loadA, rowA, pickA, bslA, storeA_eq, decide_true, flatA, List.length_cons, List.length_nil, Nat.reduceAdd, List.flatMap_cons, List.flatMap_nil, BEq.rfl, List.cons_append, List.nil_append, if_pos, if_neg, ordered, List.getElem?_cons_zero, List.getElem?_cons_succ, frzL, nidL, frz_func, frz_agg, frz_tup, frz_iface, fresh_func, fresh_agg, fresh_tup, fresh_iface, frz_ptr, frz_sl, fresh_sl, Cls.isFree, Cls.makes, callCls, chain, cond_true, tz, ty, faddrA, allocA, over, List.take_succ_cons, List.take_zero, List.drop_succ_cons, List.drop_zero, List.drop_nil, List.set_cons_zero, List.set_cons_succ, Nat.reduceLeDiff, and_self, hN, hC]; rfl) (vcE.step (by simp (disch := omega) only [exC, exOps, exOp, evE, evsE, putE, wantedE, Nat.reduceEqDiff, ↓reduceIte, ROp.run, same, binA, intA, strA, eqA, indexSA, byteA, unA, bounds3, Option.map_some, Option.map_none, dec_true, dec_false, Int.toNat_natCast, Int.natCast_nonneg, beq_self_eq_true, List.append_nil, beq_iff_eq, reduceCtorEq, List.getD_cons_zero, List.getD_cons_succ, loadA, rowA, pickA, bslA, storeA_eq, decide_true, flatA, List.length_cons, List.length_nil, Nat.reduceAdd, List.flatMap_cons, List.flatMap_nil, BEq.rfl, List.cons_append, List.nil_append, if_pos, if_neg, ordered, List.getElem?_cons_zero, List.getElem?_cons_succ, frzL, nidL, frz_func, frz_agg, frz_tup, frz_iface, fresh_func, fresh_agg, fresh_tup, fresh_iface, frz_ptr, frz_sl, fresh_sl, Cls.isFree, Cls.makes, callCls, chain, cond_true, tz, ty, faddrA, allocA, over, List.take_succ_cons, List.take_zero, List.drop_succ_cons, List.drop_zero, List.drop_nil, List.set_cons_zero, List.set_cons_succ, Nat.reduceLeDiff, and_self, ↓hlen, ↓hmk]; rfl) (vcE.then (fun e tm hp => e = .normal ∧ tm 7 = .ptr 3 0 ∧ ∃ b, hp = stepH p f c (stepS (sameB f) p r c) b) ?_ ?_))
  · refine vcE.step (by simp (disch := omega) only [exC, exOps, exOp, evE, evsE, putE, wantedE, Nat.reduceEqDiff, ↓reduceIte, ROp.run, same, binA, intA, strA, eqA, indexSA, byteA, unA, bounds3, Option.map_some, Option.map_none, dec_true, dec_false, Int.toNat_natCast, Int.natCast_nonneg, beq_self_eq_true, List.append_nil, beq_iff_eq, reduceCtorEq, List.getD_cons_zero, List.getD_cons_succ, loadA, rowA, pickA, bslA, storeA_eq, decide_true, flatA, List.length_cons, List.length_nil, Nat.reduceAdd, List.flatMap_cons, List.flatMap_nil, BEq.rfl, List.cons_append, List.nil_append, if_pos, if_neg, ordered, List.getElem?_cons_zero, List.getElem?_cons_succ, frzL, nidL, frz_func, frz_agg, frz_tup, frz_iface, fresh_func, fresh_agg, fresh_tup, fresh_iface, frz_ptr, frz_sl, fresh_sl, Cls.isFree, Cls.makes, callCls, chain, cond_true, tz, ty, faddrA, allocA, over, List.take_succ_cons, List.take_zero, List.drop_succ_cons, List.drop_zero, List.drop_nil, List.set_cons_zero, List.set_cons_succ, Nat.reduceLeDiff, and_self, hall, Enc.S_nid]; rfl) (vcE.block (vcE.rangeF (g := 137) (caps := [.fptr [encT.S (rowB (p.length + 1) r)] 0]) ?_ ?_))
    · simp only [evE, upd_app, Nat.reduceEqDiff, ↓reduceIte]
    · intro l hl'
      have hfin : stepH p f c (accS (sameB f) p r c p.length) = stepH p f c (stepS (sameB f) p r c) := by rw [show accS (sameB f) p r c p.length = stepS (sameB f) p r c from funext fun j => accS_step]
      refine (cAll (R := rowB (p.length + 1) r) (by omega) (id := 4) (J := fun i hp => i ≤ p.length + 1 ∧ hp = stepH p f c (accS (sameB f) p r c i) (some (.loop l 107000 .ready none))) (S := fun hp => ∃ l' st, st ≠ .busy ∧ hp = stepH p f c (accS (sameB f) p r c p.length) (some (.loop l' 107000 st (some (some 0))))) (hp0 := stepH p f c (fun _ => false) (some (.loop l 107000 .ready none))) ⟨Nat.zero_le _, rfl⟩ ?_ ?_).mono ?_
      · rintro i hp hi ⟨hir, rfl⟩
        have hlt := (List.getElem?_eq_some_iff.1 hi).1
        rw [hrl] at hlt
        rw [rowB_get hlt] at hi
        refine (step_round hl hl' ?_ ?_ ?_ (show i ≤ p.length by omega) (by simpa using hi)).mono ?_
        · simp only [upd_app, Nat.reduceEqDiff, ↓reduceIte]
        · simp only [upd_app, Nat.reduceEqDiff, ↓reduceIte]
        · simp only [upd_app, Nat.reduceEqDiff, ↓reduceIte]
        · rintro rv hp' (⟨h1, h2, h3⟩ | ⟨h1, l', st, h2, h3⟩)
          · exact .inl ⟨h1, by omega, h2⟩
          · exact .inr ⟨h1, l', st, h2, h3⟩
      · rintro i hp hi ⟨hir, rfl⟩
        have hlt := (List.getElem?_eq_some_iff.1 hi).1
        rw [hrl] at hlt
        rw [rowB_get hlt] at hi
        have hri : r i = false := by simpa using hi
        refine ⟨by omega, ?_⟩
        rw [show accS (sameB f) p r c (i + 1) = accS (sameB f) p r c i from funext fun j => by simp [accS, hri]]
      · rintro rv hp' (⟨h1, h2⟩ | ⟨l', st, h2, h3⟩)
        · rw [hrl] at h2
          subst h2
          refine ⟨l, _, .ready, none, rfl, by simp, rfl, ?_, some (.loop l 107000 .exhausted none), ?_⟩
          · simp only [upd_app, Nat.reduceEqDiff, ↓reduceIte]
          · rw [show accS (sameB f) p r c (p.length + 1) = stepS (sameB f) p r c from funext fun j => accS_end.trans accS_step]
            rfl
        · subst h3
          refine ⟨l', _, st, some (some 0), rfl, h2, ?_⟩
          simp only [exitOf, ↓reduceIte]
          refine ⟨trivial, ?_, some (.loop l' 107000 .exhausted (some (some 0))), ?_⟩
          · simp only [upd_app, Nat.reduceEqDiff, ↓reduceIte]
          · rw [hfin]
            rfl
  · rintro e tm hp ⟨rfl, h7, b, rfl⟩
    refine vcE.ex (by simp (disch := omega) only [exC, exOps, exOp, evE, evsE, putE, wantedE, Nat.reduceEqDiff, ↓reduceIte, ROp.run, same, binA, intA, strA, eqA, indexSA, byteA, unA, bounds3, Option.map_some, Option.map_none, dec_true, dec_false, Int.toNat_natCast, Int.natCast_nonneg, beq_self_eq_true, List.append_nil, beq_iff_eq, reduceCtorEq, List.getD_cons_zero, List.getD_cons_succ, loadA, rowA, pickA, bslA, storeA_eq, decide_true, flatA, List.length_cons, List.length_nil, Nat.reduceAdd, List.flatMap_cons, List.flatMap_nil, BEq.rfl, List.cons_append, List.nil_append, if_pos, if_neg, ordered, List.getElem?_cons_zero, List.getElem?_cons_succ, frzL, nidL, frz_func, frz_agg, frz_tup, frz_iface, fresh_func, fresh_agg, fresh_tup, fresh_iface, frz_ptr, frz_sl, fresh_sl, Cls.isFree, Cls.makes, callCls, chain, cond_true, tz, ty, faddrA, allocA, over, List.take_succ_cons, List.take_zero, List.drop_succ_cons, List.drop_zero, List.drop_nil, List.set_cons_zero, List.set_cons_succ, Nat.reduceLeDiff, and_self, stepH, h7]; rfl) ?_
    refine ⟨_, rfl, ?_⟩
    exact rowBlk_fresh (N := p.length + 1) (id := 2) rfl

end Go.Gi
