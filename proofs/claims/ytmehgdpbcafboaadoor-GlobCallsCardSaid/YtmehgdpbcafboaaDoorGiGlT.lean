/- Rows of truth values; the document's Match: what it gives. -/
import Derived.Test.YtmehgdpbcafboaaDoorGiGlS
set_option linter.unusedVariables false
set_option linter.unusedSimpArgs false
namespace Go.Gi
set_option linter.unusedSectionVars false
variable [Mx]
open Go Go.Proofs

/-- A row of so many places. -/
def rowB (N : Nat) (b : Nat → Bool) : List Bool := (List.range N).map b
theorem rowB_len (N : Nat) (b : Nat → Bool) : (rowB N b).length = N := by simp [rowB]
theorem rowB_get {N : Nat} {b : Nat → Bool} {i : Nat} (h : i < N) : (rowB N b)[i]? = some (b i) := by simp [rowB, h]
theorem rowB_congr {N : Nat} {b b' : Nat → Bool} (h : ∀ i, i < N → b i = b' i) : rowB N b = rowB N b' := by
  simp only [rowB]
  exact List.map_congr_left fun i hi => h i (List.mem_range.1 hi)
theorem rowB_setv {N : Nat} {b : Nat → Bool} {i : Nat} {v : Bool} (h : i < N) : (rowB N b).set i v = rowB N (fun j => if j = i then v else b j) := by
  apply List.ext_getElem?
  intro j
  rw [List.getElem?_set]
  by_cases hj : j < N
  · have h1 := rowB_get (b := fun j => if j = i then v else b j) hj
    have h2 := rowB_get (b := b) hj
    by_cases hij : i = j
    · subst hij
      rw [if_pos rfl, if_pos (by rw [rowB_len]; exact h), h1, if_pos rfl]
    · rw [if_neg hij, h1, h2, if_neg (fun e => hij e.symm)]
  · rw [if_neg (by omega), List.getElem?_eq_none (by rw [rowB_len]; omega), List.getElem?_eq_none (by rw [rowB_len]; omega)]
theorem rowB_false (N : Nat) : rowB N (fun _ => false) = List.replicate N false := by
  rw [List.eq_replicate_iff]
  exact ⟨rowB_len _ _, fun b hb => by simp only [rowB, List.mem_map] at hb; obtain ⟨_, _, h⟩ := hb; exact h.symm⟩
def rowBlk (N : Nat) (b : Nat → Bool) : Option Blk := some (.row 4 (encT.cs (rowB N b)))
theorem make_row {hp : HP} {N : Nat} {k k' : IntKind} (h : N ≤ 140737488355328) : makeA hp 4 [.bool false] 1 (.int k N) (.int k' N) = some (.sl hp.length 0 N 1 N true, hp ++ [rowBlk N (fun _ => false)]) := by
  simp only [makeA]
  rw [if_pos (by omega), Int.toNat_natCast, encT_zeros, rowBlk, rowB_false]
  rfl
theorem rowBlk_congr {N : Nat} {b b' : Nat → Bool} (h : ∀ i, i < N → b i = b' i) : rowBlk N b = rowBlk N b' := by
  rw [rowBlk, rowB_congr h, rowBlk]
theorem rowBlk_store {hp : HP} {id N i : Nat} {b : Nat → Bool} {v : Bool} (h : hp[id]? = some (rowBlk N b)) (hi : i < N) : storeA hp 1 (.ptr id i) (.bool v) = some (hp.set id (rowBlk N fun j => if j = i then v else b j)) := by
  have := encT.sl_store1 (l := rowB N b) (e := 4) rfl h (i := i) (by rw [rowB_len]; omega) (b := v) (v := .bool v) rfl (by simp)
  rw [rowB_setv hi] at this
  exact this
theorem rowBlk_load {hp : HP} {id N i : Nat} {b : Nat → Bool} (h : hp[id]? = some (rowBlk N b)) (hi : i < N) : loadA hp none (.ptr id i) = some (.bool (b i)) :=
  encT.sl_load1 (l := rowB N b) (e := 4) rfl h (rowB_get hi) rfl rfl

def sE (a b : UInt8) : Bool := decide (a = b)
/-- The next row, from the row and what stands before. -/
theorem row42 {p t : List UInt8} {i k : Nat} (hc : p[i]? = some 42) (hk : k ≤ t.length) : gm sE (p.take (i + 1)) (t.take k) = (gm sE (p.take i) (t.take k) || (decide (0 < k) && gm sE (p.take (i + 1)) (t.take (k - 1)))) := by
  rw [List.take_add_one, hc]
  show gm sE (p.take i ++ [42]) (t.take k) = _
  match k, hk with
  | 0, _ => rw [List.take_zero, gm_snoc42_nil]; simp
  | k + 1, hk =>
    have hb : t[k]? = some t[k] := List.getElem?_eq_getElem (by omega)
    rw [List.take_add_one, hb]
    show gm sE (p.take i ++ [42]) (t.take k ++ [t[k]]) = _
    rw [Bool.eq_iff_iff, gm_snoc42_snoc, decide_eq_true (Nat.succ_pos k), Bool.true_and, Bool.or_eq_true, Nat.add_sub_cancel]
    exact ⟨fun h => h.elim .inr .inl, fun h => h.elim .inr .inl⟩
theorem row0 {p t : List UInt8} {i : Nat} {c : UInt8} (hc : p[i]? = some c) (h42 : c ≠ 42) : gm sE (p.take (i + 1)) (t.take 0) = false := by
  rw [List.take_add_one, hc, List.take_zero]
  exact gm_snoc_nil h42
theorem rowS {p t : List UInt8} {i k : Nat} {c b : UInt8} (hc : p[i]? = some c) (h42 : c ≠ 42) (hb : t[k]? = some b) : gm sE (p.take (i + 1)) (t.take (k + 1)) = (gm sE (p.take i) (t.take k) && (decide (c = 63) || decide (c = b))) := by
  rw [List.take_add_one, hc, List.take_add_one, hb]
  show gm sE (p.take i ++ [c]) (t.take k ++ [b]) = _
  rw [Bool.eq_iff_iff, gm_snoc h42]
  simp [sE]

def part (B : Nat → Bool) (k : Nat) : Nat → Bool := fun j => decide (j < k) && B j
theorem part_store {N k : Nat} {B : Nat → Bool} {v : Bool} (hv : B k = v) : rowBlk N (fun j => if j = k then v else part B k j) = rowBlk N (part B (k + 1)) :=
  rowBlk_congr fun j _ => by
    unfold part
    by_cases h : j = k
    · subst h; rw [if_pos rfl, decide_eq_true (Nat.lt_succ_self _), hv]; rfl
    · rw [if_neg h]
      congr 1
      exact decide_eq_decide.2 (by omega)
theorem part_skip {N k : Nat} {B : Nat → Bool} (hv : B k = false) : rowBlk N (part B k) = rowBlk N (part B (k + 1)) :=
  rowBlk_congr fun j _ => by
    unfold part
    by_cases h : j = k
    · subst h; rw [hv, Bool.and_false, Bool.and_false]
    · congr 1
      exact decide_eq_decide.2 (by omega)

/-- What stays as it was in a round of the inner loop. -/
def MrI (p t : List UInt8) (i k ia ib : Nat) (A B : Nat → Bool) (tm : Env) (hp : HP) : Prop :=
  tm 0 = .str p ∧ tm 1 = .str t ∧ tm 7 = .sl ia 0 (t.length + 1) 1 (t.length + 1) true ∧ tm 9 = .sl ib 0 (t.length + 1) 1 (t.length + 1) true ∧ tm 8 = .int .i64 i ∧ tm 10 = .int .i64 k ∧ hp[ia]? = some (rowBlk (t.length + 1) A) ∧ hp[ib]? = some (rowBlk (t.length + 1) (part B k))

theorem mrnd {p t : List UInt8} (ht : t.length ≤ 1000000) {i k ia ib : Nat} {A B : Nat → Bool} {tm : Env} {hp : HP} (h : MrI p t i k ia ib A B tm hp) (hne : ia ≠ ib) (hi : i < p.length) (hk : k ≤ t.length)
    (hA : ∀ j, j ≤ t.length → A j = gm sE (p.take i) (t.take j)) (hB : ∀ j, j ≤ t.length → B j = gm sE (p.take (i + 1)) (t.take j)) (hint : Nat → Nat) (T : Tab) (n : Nat) :
    vcE Tryd.prog hint T n b16_0 tm hp fun e tm' hp' => e = .normal ∧ MrI p t i (k + 1) ia ib A B tm' hp' := by
  obtain ⟨e0, e1, e7, e9, e8, e10, ha, hb⟩ := h
  obtain ⟨c, hc⟩ : ∃ c, p[i]? = some c := ⟨_, List.getElem?_eq_getElem hi⟩
  have hcl := c.toNat_lt
  have keep : ∀ v, (hp.set ib (rowBlk (t.length + 1) v))[ia]? = some (rowBlk (t.length + 1) A) := fun v => by
    rw [List.getElem?_set, if_neg (fun e => hne e.symm)]; exact ha
  have mine : ∀ v, (hp.set ib (rowBlk (t.length + 1) v))[ib]? = some (rowBlk (t.length + 1) v) := fun v => by
    rw [List.getElem?_set, if_pos rfl, if_pos (HP.lt hb)]
  have la : ∀ j, j ≤ t.length → loadA hp none (.ptr ia j) = some (.bool (A j)) := fun j hj => rowBlk_load ha (by omega)
  have lb : ∀ j, j < k → loadA hp none (.ptr ib j) = some (.bool (B j)) := fun j hj => by
    rw [rowBlk_load hb (by omega), part, decide_eq_true hj, Bool.true_and]
  have st : ∀ v, B k = v → storeA hp 1 (.ptr ib k) (.bool v) = some (hp.set ib (rowBlk (t.length + 1) (part B (k + 1)))) := fun v hv => by
    rw [rowBlk_store hb (by omega), part_store hv]
  by_cases h42 : c.toNat = 42
  · have hc42 : c = 42 := UInt8.toNat_inj.1 h42
    subst hc42
    have hr := row42 (k := k) hc hk
    rw [← hA k hk, ← hB k hk] at hr
    have lak := la k hk
    cases hAk : A k
    · rw [hAk] at lak
      rw [hAk, Bool.false_or] at hr
      match k, hk, hr, e10, hb, lb, st, lak with
      | 0, hk, hr, e10, hb, lb, st, lak =>
        have stk := st false hr
        refine vcE.ex (by simp (disch := omega) only [exC, exOps, exOp, evE, evsE, putE, wantedE, Nat.reduceEqDiff, ↓reduceIte, ROp.run, same, binA, intA, strA, eqA, indexSA, byteA, unA, bounds3, Option.map_some, Option.map_none, dec_true, dec_false, Int.toNat_natCast, Int.natCast_nonneg, beq_self_eq_true, List.append_nil, beq_iff_eq, reduceCtorEq, List.getD_cons_zero, List.getD_cons_succ, loadA, rowA, pickA, bslA, storeA_eq, decide_true, flatA, List.length_cons, List.length_nil, Nat.reduceAdd, List.flatMap_cons, List.flatMap_nil, BEq.rfl, List.cons_append, List.nil_append, if_pos, if_neg, ordered, List.getElem?_cons_zero, List.getElem?_cons_succ, frzL, nidL, frz_func, frz_agg, frz_tup, frz_iface, fresh_func, fresh_agg, fresh_tup, fresh_iface, frz_ptr, frz_sl, fresh_sl, Cls.isFree, Cls.makes, callCls, chain, cond_true, tz, ty, faddrA, allocA, over, List.take_succ_cons, List.take_zero, List.drop_succ_cons, List.drop_zero, List.drop_nil, List.set_cons_zero, List.set_cons_succ, Nat.reduceLeDiff, and_self, iaddr_sl1, e0, e1, e7, e8, e9, e10, hc, ↓lak, ↓stk]; rfl) ?_
        refine ⟨rfl, ?_, ?_, ?_, ?_, ?_, ?_, keep _, mine _⟩
        all_goals simp only [upd_app, Nat.reduceEqDiff, ↓reduceIte, e0, e1, e7, e8, e9]
        rfl
      | k + 1, hk, hr, e10, hb, lb, st, lak =>
        rw [decide_eq_true (Nat.succ_pos k), Bool.true_and, Nat.add_sub_cancel, ← hB k (by omega)] at hr
        have lbk := lb k (by omega)
        have stk := st _ hr
        have hs1 : ((k + 1 : Nat) : Int) - 1 = (k : Int) := by omega
        refine vcE.ex (by simp (disch := omega) only [exC, exOps, exOp, evE, evsE, putE, wantedE, Nat.reduceEqDiff, ↓reduceIte, ROp.run, same, binA, intA, strA, eqA, indexSA, byteA, unA, bounds3, Option.map_some, Option.map_none, dec_true, dec_false, Int.toNat_natCast, Int.natCast_nonneg, beq_self_eq_true, List.append_nil, beq_iff_eq, reduceCtorEq, List.getD_cons_zero, List.getD_cons_succ, loadA, rowA, pickA, bslA, storeA_eq, decide_true, flatA, List.length_cons, List.length_nil, Nat.reduceAdd, List.flatMap_cons, List.flatMap_nil, BEq.rfl, List.cons_append, List.nil_append, if_pos, if_neg, ordered, List.getElem?_cons_zero, List.getElem?_cons_succ, frzL, nidL, frz_func, frz_agg, frz_tup, frz_iface, fresh_func, fresh_agg, fresh_tup, fresh_iface, frz_ptr, frz_sl, fresh_sl, Cls.isFree, Cls.makes, callCls, chain, cond_true, tz, ty, faddrA, allocA, over, List.take_succ_cons, List.take_zero, List.drop_succ_cons, List.drop_zero, List.drop_nil, List.set_cons_zero, List.set_cons_succ, Nat.reduceLeDiff, and_self, iaddr_sl1, e0, e1, e7, e8, e9, e10, hc, ↓lak, hs1, ↓lbk, ↓stk]; rfl) ?_
        refine ⟨rfl, ?_, ?_, ?_, ?_, ?_, ?_, keep _, mine _⟩
        all_goals simp only [upd_app, Nat.reduceEqDiff, ↓reduceIte, e0, e1, e7, e8, e9]
        rfl
    · rw [hAk] at lak
      have stk := st true (by rw [hr, hAk]; rfl)
      refine vcE.ex (by simp (disch := omega) only [exC, exOps, exOp, evE, evsE, putE, wantedE, Nat.reduceEqDiff, ↓reduceIte, ROp.run, same, binA, intA, strA, eqA, indexSA, byteA, unA, bounds3, Option.map_some, Option.map_none, dec_true, dec_false, Int.toNat_natCast, Int.natCast_nonneg, beq_self_eq_true, List.append_nil, beq_iff_eq, reduceCtorEq, List.getD_cons_zero, List.getD_cons_succ, loadA, rowA, pickA, bslA, storeA_eq, decide_true, flatA, List.length_cons, List.length_nil, Nat.reduceAdd, List.flatMap_cons, List.flatMap_nil, BEq.rfl, List.cons_append, List.nil_append, if_pos, if_neg, ordered, List.getElem?_cons_zero, List.getElem?_cons_succ, frzL, nidL, frz_func, frz_agg, frz_tup, frz_iface, fresh_func, fresh_agg, fresh_tup, fresh_iface, frz_ptr, frz_sl, fresh_sl, Cls.isFree, Cls.makes, callCls, chain, cond_true, tz, ty, faddrA, allocA, over, List.take_succ_cons, List.take_zero, List.drop_succ_cons, List.drop_zero, List.drop_nil, List.set_cons_zero, List.set_cons_succ, Nat.reduceLeDiff, and_self, iaddr_sl1, e0, e1, e7, e8, e9, e10, hc, ↓lak, ↓stk]; rfl) ?_
      refine ⟨rfl, ?_, ?_, ?_, ?_, ?_, ?_, keep _, mine _⟩
      all_goals simp only [upd_app, Nat.reduceEqDiff, ↓reduceIte, e0, e1, e7, e8, e9]
      rfl
  · have hc42 : c ≠ 42 := fun e => h42 (by rw [e]; rfl)
    match k, hk, e10, hb, lb, st with
    | 0, hk, e10, hb, lb, st =>
      have hr := row0 (t := t) hc hc42
      rw [← hB 0 hk] at hr
      have hsk := part_skip (N := t.length + 1) hr
      refine vcE.ex (by simp (disch := omega) only [exC, exOps, exOp, evE, evsE, putE, wantedE, Nat.reduceEqDiff, ↓reduceIte, ROp.run, same, binA, intA, strA, eqA, indexSA, byteA, unA, bounds3, Option.map_some, Option.map_none, dec_true, dec_false, Int.toNat_natCast, Int.natCast_nonneg, beq_self_eq_true, List.append_nil, beq_iff_eq, reduceCtorEq, List.getD_cons_zero, List.getD_cons_succ, loadA, rowA, pickA, bslA, storeA_eq, decide_true, flatA, List.length_cons, List.length_nil, Nat.reduceAdd, List.flatMap_cons, List.flatMap_nil, BEq.rfl, List.cons_append, List.nil_append, if_pos, if_neg, ordered, List.getElem?_cons_zero, List.getElem?_cons_succ, frzL, nidL, frz_func, frz_agg, frz_tup, frz_iface, fresh_func, fresh_agg, fresh_tup, fresh_iface, frz_ptr, frz_sl, fresh_sl, Cls.isFree, Cls.makes, callCls, chain, cond_true, tz, ty, faddrA, allocA, over, List.take_succ_cons, List.take_zero, List.drop_succ_cons, List.drop_zero, List.drop_nil, List.set_cons_zero, List.set_cons_succ, Nat.reduceLeDiff, and_self, iaddr_sl1, e0, e1, e7, e8, e9, e10, hc]; rfl) ?_
      refine ⟨rfl, ?_, ?_, ?_, ?_, ?_, ?_, ha, by rw [← hsk]; exact hb⟩
      all_goals simp only [upd_app, Nat.reduceEqDiff, ↓reduceIte, e0, e1, e7, e8, e9]
      rfl
    | k + 1, hk, e10, hb, lb, st =>
      obtain ⟨b, hbt⟩ : ∃ b, t[k]? = some b := ⟨_, List.getElem?_eq_getElem (by omega)⟩
      have hbl := b.toNat_lt
      have hr := rowS hc hc42 hbt
      rw [← hA k (by omega), ← hB (k + 1) hk] at hr
      have lak := la k (by omega)
      have hs1 : ((k + 1 : Nat) : Int) - 1 = (k : Int) := by omega
      cases hAk : A k <;> rw [hAk] at lak hr
      · have stk := st false hr
        refine vcE.ex (by simp (disch := omega) only [exC, exOps, exOp, evE, evsE, putE, wantedE, Nat.reduceEqDiff, ↓reduceIte, ROp.run, same, binA, intA, strA, eqA, indexSA, byteA, unA, bounds3, Option.map_some, Option.map_none, dec_true, dec_false, Int.toNat_natCast, Int.natCast_nonneg, beq_self_eq_true, List.append_nil, beq_iff_eq, reduceCtorEq, List.getD_cons_zero, List.getD_cons_succ, loadA, rowA, pickA, bslA, storeA_eq, decide_true, flatA, List.length_cons, List.length_nil, Nat.reduceAdd, List.flatMap_cons, List.flatMap_nil, BEq.rfl, List.cons_append, List.nil_append, if_pos, if_neg, ordered, List.getElem?_cons_zero, List.getElem?_cons_succ, frzL, nidL, frz_func, frz_agg, frz_tup, frz_iface, fresh_func, fresh_agg, fresh_tup, fresh_iface, frz_ptr, frz_sl, fresh_sl, Cls.isFree, Cls.makes, callCls, chain, cond_true, tz, ty, faddrA, allocA, over, List.take_succ_cons, List.take_zero, List.drop_succ_cons, List.drop_zero, List.drop_nil, List.set_cons_zero, List.set_cons_succ, Nat.reduceLeDiff, and_self, iaddr_sl1, e0, e1, e7, e8, e9, e10, hc, hs1, ↓lak, ↓stk]; rfl) ?_
        refine ⟨rfl, ?_, ?_, ?_, ?_, ?_, ?_, keep _, mine _⟩
        all_goals simp only [upd_app, Nat.reduceEqDiff, ↓reduceIte, e0, e1, e7, e8, e9]
        rfl
      · by_cases h63 : c.toNat = 63
        · have hc63 : c = 63 := UInt8.toNat_inj.1 h63
          have stk := st true (by rw [hr, hc63]; rfl)
          refine vcE.ex (by simp (disch := omega) only [exC, exOps, exOp, evE, evsE, putE, wantedE, Nat.reduceEqDiff, ↓reduceIte, ROp.run, same, binA, intA, strA, eqA, indexSA, byteA, unA, bounds3, Option.map_some, Option.map_none, dec_true, dec_false, Int.toNat_natCast, Int.natCast_nonneg, beq_self_eq_true, List.append_nil, beq_iff_eq, reduceCtorEq, List.getD_cons_zero, List.getD_cons_succ, loadA, rowA, pickA, bslA, storeA_eq, decide_true, flatA, List.length_cons, List.length_nil, Nat.reduceAdd, List.flatMap_cons, List.flatMap_nil, BEq.rfl, List.cons_append, List.nil_append, if_pos, if_neg, ordered, List.getElem?_cons_zero, List.getElem?_cons_succ, frzL, nidL, frz_func, frz_agg, frz_tup, frz_iface, fresh_func, fresh_agg, fresh_tup, fresh_iface, frz_ptr, frz_sl, fresh_sl, Cls.isFree, Cls.makes, callCls, chain, cond_true, tz, ty, faddrA, allocA, over, List.take_succ_cons, List.take_zero, List.drop_succ_cons, List.drop_zero, List.drop_nil, List.set_cons_zero, List.set_cons_succ, Nat.reduceLeDiff, and_self, iaddr_sl1, e0, e1, e7, e8, e9, e10, hc, hs1, ↓lak, h63, ↓stk]; rfl) ?_
          refine ⟨rfl, ?_, ?_, ?_, ?_, ?_, ?_, keep _, mine _⟩
          all_goals simp only [upd_app, Nat.reduceEqDiff, ↓reduceIte, e0, e1, e7, e8, e9]
          rfl
        · have hc63 : c ≠ 63 := fun e => h63 (by rw [e]; rfl)
          rw [decide_eq_false hc63, Bool.false_or, Bool.true_and] at hr
          have stk := st _ hr
          have heq : decide ((c.toNat : Int) = b.toNat) = decide (c = b) := decide_eq_decide.2 u8_eqI
          refine vcE.ex (by simp (disch := omega) only [exC, exOps, exOp, evE, evsE, putE, wantedE, Nat.reduceEqDiff, ↓reduceIte, ROp.run, same, binA, intA, strA, eqA, indexSA, byteA, unA, bounds3, Option.map_some, Option.map_none, dec_true, dec_false, Int.toNat_natCast, Int.natCast_nonneg, beq_self_eq_true, List.append_nil, beq_iff_eq, reduceCtorEq, List.getD_cons_zero, List.getD_cons_succ, loadA, rowA, pickA, bslA, storeA_eq, decide_true, flatA, List.length_cons, List.length_nil, Nat.reduceAdd, List.flatMap_cons, List.flatMap_nil, BEq.rfl, List.cons_append, List.nil_append, if_pos, if_neg, ordered, List.getElem?_cons_zero, List.getElem?_cons_succ, frzL, nidL, frz_func, frz_agg, frz_tup, frz_iface, fresh_func, fresh_agg, fresh_tup, fresh_iface, frz_ptr, frz_sl, fresh_sl, Cls.isFree, Cls.makes, callCls, chain, cond_true, tz, ty, faddrA, allocA, over, List.take_succ_cons, List.take_zero, List.drop_succ_cons, List.drop_zero, List.drop_nil, List.set_cons_zero, List.set_cons_succ, Nat.reduceLeDiff, and_self, iaddr_sl1, e0, e1, e7, e8, e9, e10, hc, hbt, hs1, ↓lak, heq, ↓stk]; rfl) ?_
          refine ⟨rfl, ?_, ?_, ?_, ?_, ?_, ?_, keep _, mine _⟩
          all_goals simp only [upd_app, Nat.reduceEqDiff, ↓reduceIte, e0, e1, e7, e8, e9]
          rfl

/-- The inner loop. -/
theorem minner {p t : List UInt8} (ht : t.length ≤ 1000000) {i ia ib : Nat} {A B : Nat → Bool} {tm : Env} {hp : HP} (h : MrI p t i 0 ia ib A B tm hp) (hne : ia ≠ ib) (hi : i < p.length)
    (hA : ∀ j, j ≤ t.length → A j = gm sE (p.take i) (t.take j)) (hB : ∀ j, j ≤ t.length → B j = gm sE (p.take (i + 1)) (t.take j)) (hint : Nat → Nat) (T : Tab) (n : Nat) :
    vcE Tryd.prog hint T n (IC.block 2 (IC.loop b16_0)) tm hp fun e tm' hp' => e = .normal ∧ MrI p t i (t.length + 1) ia ib A B tm' hp' := by
  refine vcE.block (vcE.count (by intro l tm hp h; simp at h) (fun k tm hp => MrI p t i k ia ib A B tm hp) (t.length + 1) h ?_ ?_)
  · intro k tm hp hk hm
    refine (mrnd ht hm hne hi (by omega) hA hB _ _ _).mono ?_
    rintro e tm' hp' ⟨rfl, h'⟩
    exact h'
  · rintro tm hp ⟨e0, e1, e7, e9, e8, e10, ha, hb⟩
    refine vcE.ex (by simp (disch := omega) only [exC, exOps, exOp, evE, evsE, putE, wantedE, Nat.reduceEqDiff, ↓reduceIte, ROp.run, same, binA, intA, strA, eqA, indexSA, byteA, unA, bounds3, Option.map_some, Option.map_none, dec_true, dec_false, Int.toNat_natCast, Int.natCast_nonneg, beq_self_eq_true, List.append_nil, beq_iff_eq, reduceCtorEq, List.getD_cons_zero, List.getD_cons_succ, loadA, rowA, pickA, bslA, storeA_eq, decide_true, flatA, List.length_cons, List.length_nil, Nat.reduceAdd, List.flatMap_cons, List.flatMap_nil, BEq.rfl, List.cons_append, List.nil_append, if_pos, if_neg, ordered, List.getElem?_cons_zero, List.getElem?_cons_succ, frzL, nidL, frz_func, frz_agg, frz_tup, frz_iface, fresh_func, fresh_agg, fresh_tup, fresh_iface, frz_ptr, frz_sl, fresh_sl, Cls.isFree, Cls.makes, callCls, chain, cond_true, tz, ty, e1, e10]; rfl) ?_
    refine ⟨rfl, ?_, ?_, ?_, ?_, ?_, ?_, ha, hb⟩
    all_goals simp only [upd_app, Nat.reduceEqDiff, ↓reduceIte, e0, e1, e7, e8, e9, e10]

def rowM (p t : List UInt8) (i : Nat) : Nat → Bool := fun j => gm sE (p.take i) (t.take j)
/-- The loops. -/
theorem mcore {p t : List UInt8} (hp_ : p.length ≤ 1000000) (ht : t.length ≤ 1000000) {tm : Env} {hp : HP} (e0 : tm 0 = .str p) (e1 : tm 1 = .str t) (hint : Nat → Nat) (T : Tab) (n : Nat) :
    vcE Tryd.prog hint T n (IC.seq (IC.reg r16_3) (IC.seq (IC.reg r16_4) (IC.seq (IC.seq (IC.reg r16_5) (IC.block 0 (IC.loop b16_1))) (IC.seq (IC.reg r16_17) IC.ret)))) tm hp fun e tm' hp' => e = .ret ∧ tm' 6 = .bool (gm sE p t) := by
  have hN : (t.length : Int) + 1 = ((t.length + 1 : Nat) : Int) := by omega
  have hmk := make_row (hp := hp) (N := t.length + 1) (k := .i64) (k' := .i64) (by omega)
  have hget : (hp ++ [rowBlk (t.length + 1) fun _ => false])[hp.length]? = some (rowBlk (t.length + 1) fun _ => false) := by simp
  have hst := rowBlk_store (v := true) hget (i := 0) (by omega)
  have hrow : rowBlk (t.length + 1) (fun j => if j = 0 then true else false) = rowBlk (t.length + 1) (rowM p t 0) := rowBlk_congr fun j hj => by
    unfold rowM
    rw [List.take_zero, Bool.eq_iff_iff, gm_nil, List.take_eq_nil_iff]
    by_cases h0 : j = 0
    · rw [if_pos h0]
      exact ⟨fun _ => .inl h0, fun _ => rfl⟩
    · rw [if_neg h0]
      refine ⟨fun h => absurd h Bool.false_ne_true, fun h => ?_⟩
      rcases h with h | h
      · exact absurd h h0
      · rw [h] at hj
        simp at hj
        exact absurd hj h0
  rw [hrow] at hst
  refine vcE.step (by simp (disch := omega) only [exC, exOps, exOp, evE, evsE, putE, wantedE, Nat.reduceEqDiff, ↓reduceIte, ROp.run, same, binA, intA, strA, eqA, indexSA, byteA, unA, bounds3, Option.map_some, Option.map_none, dec_true, dec_false, Int.toNat_natCast, Int.natCast_nonneg, beq_self_eq_true, List.append_nil, beq_iff_eq, reduceCtorEq, List.getD_cons_zero, List.getD_cons_succ, loadA, rowA, pickA, bslA, storeA_eq, decide_true, flatA, List.length_cons, List.length_nil, Nat.reduceAdd, List.flatMap_cons, List.flatMap_nil, BEq.rfl, List.cons_append, List.nil_append, if_pos, if_neg, ordered, List.getElem?_cons_zero, List.getElem?_cons_succ, frzL, nidL, frz_func, frz_agg, frz_tup, frz_iface, fresh_func, fresh_agg, fresh_tup, fresh_iface, frz_ptr, frz_sl, fresh_sl, Cls.isFree, Cls.makes, callCls, chain, cond_true, tz, ty, e1, hN, hmk]; rfl) ?_
  have ia0 : iaddrA 1 (.sl hp.length 0 (t.length + 1) 1 (t.length + 1) true) (.int .i64 0) = some (.ptr hp.length 0) := iaddr_sl1 (i := 0) (by omega)
  refine vcE.step (by simp (disch := omega) only [exC, exOps, exOp, evE, evsE, putE, wantedE, Nat.reduceEqDiff, ↓reduceIte, ROp.run, same, binA, intA, strA, eqA, indexSA, byteA, unA, bounds3, Option.map_some, Option.map_none, dec_true, dec_false, Int.toNat_natCast, Int.natCast_nonneg, beq_self_eq_true, List.append_nil, beq_iff_eq, reduceCtorEq, List.getD_cons_zero, List.getD_cons_succ, loadA, rowA, pickA, bslA, storeA_eq, decide_true, flatA, List.length_cons, List.length_nil, Nat.reduceAdd, List.flatMap_cons, List.flatMap_nil, BEq.rfl, List.cons_append, List.nil_append, if_pos, if_neg, ordered, List.getElem?_cons_zero, List.getElem?_cons_succ, frzL, nidL, frz_func, frz_agg, frz_tup, frz_iface, fresh_func, fresh_agg, fresh_tup, fresh_iface, frz_ptr, frz_sl, fresh_sl, Cls.isFree, Cls.makes, callCls, chain, cond_true, tz, ty, ia0, ↓hst]; rfl) ?_
  refine vcE.then (fun e tm' hp' => e = .normal ∧ ∃ ia, tm' 1 = .str t ∧ tm' 7 = .sl ia 0 (t.length + 1) 1 (t.length + 1) true ∧ hp'[ia]? = some (rowBlk (t.length + 1) (rowM p t p.length))) ?_ ?_
  · refine vcE.step (by simp (disch := omega) only [exC, exOps, exOp, evE, evsE, putE, wantedE, Nat.reduceEqDiff, ↓reduceIte, ROp.run, same, binA, intA, strA, eqA, indexSA, byteA, unA, bounds3, Option.map_some, Option.map_none, dec_true, dec_false, Int.toNat_natCast, Int.natCast_nonneg, beq_self_eq_true, List.append_nil, beq_iff_eq, reduceCtorEq, List.getD_cons_zero, List.getD_cons_succ, loadA, rowA, pickA, bslA, storeA_eq, decide_true, flatA, List.length_cons, List.length_nil, Nat.reduceAdd, List.flatMap_cons, List.flatMap_nil, BEq.rfl, List.cons_append, List.nil_append, if_pos, if_neg, ordered, List.getElem?_cons_zero, List.getElem?_cons_succ, frzL, nidL, frz_func, frz_agg, frz_tup, frz_iface, fresh_func, fresh_agg, fresh_tup, fresh_iface, frz_ptr, frz_sl, fresh_sl, Cls.isFree, Cls.makes, callCls, chain, cond_true, tz, ty]; rfl) (vcE.block (vcE.count (by intro l tm hp h; simp at h) (fun i tm hp => ∃ ia, tm 0 = .str p ∧ tm 1 = .str t ∧ tm 7 = .sl ia 0 (t.length + 1) 1 (t.length + 1) true ∧ tm 8 = .int .i64 i ∧ hp[ia]? = some (rowBlk (t.length + 1) (rowM p t i))) p.length ⟨hp.length, ?_, ?_, ?_, rfl, ?_⟩ ?_ ?_))
    · simp only [upd_app, Nat.reduceEqDiff, ↓reduceIte, e0]
    · simp only [upd_app, Nat.reduceEqDiff, ↓reduceIte, e1]
    · simp only [upd_app, Nat.reduceEqDiff, ↓reduceIte]
    · simp
    · rintro i tm hp hi ⟨ia, e0, e1, e7, e8, ha⟩
      have hmk := make_row (hp := hp) (N := t.length + 1) (k := .i64) (k' := .i64) (by omega)
      have hal := HP.lt ha
      refine vcE.step (by simp (disch := omega) only [exC, exOps, exOp, evE, evsE, putE, wantedE, Nat.reduceEqDiff, ↓reduceIte, ROp.run, same, binA, intA, strA, eqA, indexSA, byteA, unA, bounds3, Option.map_some, Option.map_none, dec_true, dec_false, Int.toNat_natCast, Int.natCast_nonneg, beq_self_eq_true, List.append_nil, beq_iff_eq, reduceCtorEq, List.getD_cons_zero, List.getD_cons_succ, loadA, rowA, pickA, bslA, storeA_eq, decide_true, flatA, List.length_cons, List.length_nil, Nat.reduceAdd, List.flatMap_cons, List.flatMap_nil, BEq.rfl, List.cons_append, List.nil_append, if_pos, if_neg, ordered, List.getElem?_cons_zero, List.getElem?_cons_succ, frzL, nidL, frz_func, frz_agg, frz_tup, frz_iface, fresh_func, fresh_agg, fresh_tup, fresh_iface, frz_ptr, frz_sl, fresh_sl, Cls.isFree, Cls.makes, callCls, chain, cond_true, tz, ty, e0, e8]; rfl) ?_
      refine vcE.seq (vcE.block (vcE.step (by simp (disch := omega) only [exC, exOps, exOp, evE, evsE, putE, wantedE, Nat.reduceEqDiff, ↓reduceIte, ROp.run, same, binA, intA, strA, eqA, indexSA, byteA, unA, bounds3, Option.map_some, Option.map_none, dec_true, dec_false, Int.toNat_natCast, Int.natCast_nonneg, beq_self_eq_true, List.append_nil, beq_iff_eq, reduceCtorEq, List.getD_cons_zero, List.getD_cons_succ, loadA, rowA, pickA, bslA, storeA_eq, decide_true, flatA, List.length_cons, List.length_nil, Nat.reduceAdd, List.flatMap_cons, List.flatMap_nil, BEq.rfl, List.cons_append, List.nil_append, if_pos, if_neg, ordered, List.getElem?_cons_zero, List.getElem?_cons_succ, frzL, nidL, frz_func, frz_agg, frz_tup, frz_iface, fresh_func, fresh_agg, fresh_tup, fresh_iface, frz_ptr, frz_sl, fresh_sl, Cls.isFree, Cls.makes, callCls, chain, cond_true, tz, ty, e1, hN, hmk]; rfl) ?_))
      refine vcE.then (fun e tm' hp' => e = .normal ∧ MrI p t i (t.length + 1) ia hp.length (rowM p t i) (rowM p t (i + 1)) tm' hp') ?_ ?_
      · refine vcE.step (by simp (disch := omega) only [exC, exOps, exOp, evE, evsE, putE, wantedE, Nat.reduceEqDiff, ↓reduceIte, ROp.run, same, binA, intA, strA, eqA, indexSA, byteA, unA, bounds3, Option.map_some, Option.map_none, dec_true, dec_false, Int.toNat_natCast, Int.natCast_nonneg, beq_self_eq_true, List.append_nil, beq_iff_eq, reduceCtorEq, List.getD_cons_zero, List.getD_cons_succ, loadA, rowA, pickA, bslA, storeA_eq, decide_true, flatA, List.length_cons, List.length_nil, Nat.reduceAdd, List.flatMap_cons, List.flatMap_nil, BEq.rfl, List.cons_append, List.nil_append, if_pos, if_neg, ordered, List.getElem?_cons_zero, List.getElem?_cons_succ, frzL, nidL, frz_func, frz_agg, frz_tup, frz_iface, fresh_func, fresh_agg, fresh_tup, fresh_iface, frz_ptr, frz_sl, fresh_sl, Cls.isFree, Cls.makes, callCls, chain, cond_true, tz, ty]; rfl) ?_
        refine minner ht ⟨?_, ?_, ?_, ?_, ?_, rfl, ?_, ?_⟩ (by omega) hi (fun j _ => rfl) (fun j _ => rfl) _ _ _
        · simp only [upd_app, Nat.reduceEqDiff, ↓reduceIte, e0]
        · simp only [upd_app, Nat.reduceEqDiff, ↓reduceIte, e1]
        · simp only [upd_app, Nat.reduceEqDiff, ↓reduceIte, e7]
        · simp only [upd_app, Nat.reduceEqDiff, ↓reduceIte]
        · simp only [upd_app, Nat.reduceEqDiff, ↓reduceIte, e8]
        · rw [List.getElem?_append_left hal]; exact ha
        · rw [List.getElem?_concat_length]
          exact congrArg some (rowBlk_congr fun j _ => by simp [part])
      · rintro e tm' hp' ⟨rfl, k0, k1, k7, k9, k8, k10, ka, kb⟩
        refine vcE.ex (by simp (disch := omega) only [exC, exOps, exOp, evE, evsE, putE, wantedE, Nat.reduceEqDiff, ↓reduceIte, ROp.run, same, binA, intA, strA, eqA, indexSA, byteA, unA, bounds3, Option.map_some, Option.map_none, dec_true, dec_false, Int.toNat_natCast, Int.natCast_nonneg, beq_self_eq_true, List.append_nil, beq_iff_eq, reduceCtorEq, List.getD_cons_zero, List.getD_cons_succ, loadA, rowA, pickA, bslA, storeA_eq, decide_true, flatA, List.length_cons, List.length_nil, Nat.reduceAdd, List.flatMap_cons, List.flatMap_nil, BEq.rfl, List.cons_append, List.nil_append, if_pos, if_neg, ordered, List.getElem?_cons_zero, List.getElem?_cons_succ, frzL, nidL, frz_func, frz_agg, frz_tup, frz_iface, fresh_func, fresh_agg, fresh_tup, fresh_iface, frz_ptr, frz_sl, fresh_sl, Cls.isFree, Cls.makes, callCls, chain, cond_true, tz, ty, k9]; rfl) ?_
        refine vcE.ex (by simp (disch := omega) only [exC, exOps, exOp, evE, evsE, putE, wantedE, Nat.reduceEqDiff, ↓reduceIte, ROp.run, same, binA, intA, strA, eqA, indexSA, byteA, unA, bounds3, Option.map_some, Option.map_none, dec_true, dec_false, Int.toNat_natCast, Int.natCast_nonneg, beq_self_eq_true, List.append_nil, beq_iff_eq, reduceCtorEq, List.getD_cons_zero, List.getD_cons_succ, loadA, rowA, pickA, bslA, storeA_eq, decide_true, flatA, List.length_cons, List.length_nil, Nat.reduceAdd, List.flatMap_cons, List.flatMap_nil, BEq.rfl, List.cons_append, List.nil_append, if_pos, if_neg, ordered, List.getElem?_cons_zero, List.getElem?_cons_succ, frzL, nidL, frz_func, frz_agg, frz_tup, frz_iface, fresh_func, fresh_agg, fresh_tup, fresh_iface, frz_ptr, frz_sl, fresh_sl, Cls.isFree, Cls.makes, callCls, chain, cond_true, tz, ty, k8]; rfl) ?_
        refine ⟨hp.length, ?_, ?_, ?_, ?_, ?_⟩
        · simp only [upd_app, Nat.reduceEqDiff, ↓reduceIte, k0]
        · simp only [upd_app, Nat.reduceEqDiff, ↓reduceIte, k1]
        · simp only [upd_app, Nat.reduceEqDiff, ↓reduceIte]
        · simp only [upd_app, Nat.reduceEqDiff, ↓reduceIte]; rfl
        · rw [kb]
          exact congrArg some (rowBlk_congr fun j hj => by unfold part; rw [decide_eq_true hj, Bool.true_and])
    · rintro tm hp ⟨ia, e0, e1, e7, e8, ha⟩
      refine vcE.ex (by simp (disch := omega) only [exC, exOps, exOp, evE, evsE, putE, wantedE, Nat.reduceEqDiff, ↓reduceIte, ROp.run, same, binA, intA, strA, eqA, indexSA, byteA, unA, bounds3, Option.map_some, Option.map_none, dec_true, dec_false, Int.toNat_natCast, Int.natCast_nonneg, beq_self_eq_true, List.append_nil, beq_iff_eq, reduceCtorEq, List.getD_cons_zero, List.getD_cons_succ, loadA, rowA, pickA, bslA, storeA_eq, decide_true, flatA, List.length_cons, List.length_nil, Nat.reduceAdd, List.flatMap_cons, List.flatMap_nil, BEq.rfl, List.cons_append, List.nil_append, if_pos, if_neg, ordered, List.getElem?_cons_zero, List.getElem?_cons_succ, frzL, nidL, frz_func, frz_agg, frz_tup, frz_iface, fresh_func, fresh_agg, fresh_tup, fresh_iface, frz_ptr, frz_sl, fresh_sl, Cls.isFree, Cls.makes, callCls, chain, cond_true, tz, ty, e0, e8]; rfl) ?_
      refine ⟨rfl, ia, ?_, ?_, ha⟩
      all_goals simp only [upd_app, Nat.reduceEqDiff, ↓reduceIte, e1, e7]
  · rintro e tm' hp' ⟨rfl, ia, k1, k7, ka⟩
    have hld := rowBlk_load ka (i := t.length) (by omega)
    rw [rowM, List.take_of_length_le (Nat.le_refl _), List.take_of_length_le (Nat.le_refl _)] at hld
    refine vcE.ex (by simp (disch := omega) only [exC, exOps, exOp, evE, evsE, putE, wantedE, Nat.reduceEqDiff, ↓reduceIte, ROp.run, same, binA, intA, strA, eqA, indexSA, byteA, unA, bounds3, Option.map_some, Option.map_none, dec_true, dec_false, Int.toNat_natCast, Int.natCast_nonneg, beq_self_eq_true, List.append_nil, beq_iff_eq, reduceCtorEq, List.getD_cons_zero, List.getD_cons_succ, loadA, rowA, pickA, bslA, storeA_eq, decide_true, flatA, List.length_cons, List.length_nil, Nat.reduceAdd, List.flatMap_cons, List.flatMap_nil, BEq.rfl, List.cons_append, List.nil_append, if_pos, if_neg, ordered, List.getElem?_cons_zero, List.getElem?_cons_succ, frzL, nidL, frz_func, frz_agg, frz_tup, frz_iface, fresh_func, fresh_agg, fresh_tup, fresh_iface, frz_ptr, frz_sl, fresh_sl, Cls.isFree, Cls.makes, callCls, chain, cond_true, tz, ty, iaddr_sl1, k1, k7, ↓hld]; rfl) ?_
    exact ⟨rfl, rfl⟩

theorem foldB_fix (x : UInt8) (hx : x.toNat < 65) (c : UInt8) : foldB c = x ↔ c = x := by
  unfold foldB
  split
  · rename_i h
    refine ⟨fun e => ?_, fun e => by rw [e] at h; omega⟩
    have := congrArg UInt8.toNat e
    rw [UInt8.toNat_ofNat_of_lt' (show c.toNat + 32 < 256 by omega)] at this
    omega
  · exact Iff.rfl
theorem gm_fold (p t : List UInt8) : gm sE (p.map foldB) (t.map foldB) = gm (sameB true) p t := by
  rw [Bool.eq_iff_iff]
  exact (gm_map (f := foldB) (foldB_fix 42 (by decide)) (foldB_fix 63 (by decide)) (fun a b => sameB_iff true a b)).symm
theorem sE_same : sE = sameB false := by
  funext a b
  rfl
/-- The document's Match. -/
theorem rMatch (p t : List UInt8) (f : Bool) (hp : p.length ≤ 1000000) (ht : t.length ≤ 1000000) : PCF Tryd.prog 16 [.str p, .str t, .bool f] (.bool (gm (sameB f) p t)) := by
  have h1 := J0_fold p hp
  have h2 := J0_fold t ht
  refine pcf_e hmG J0_ok comp16 (by decide) (by simp) (nidL_ok rfl) ?_
  refine vcE.step (by simp only [exC, exOps, exOp, evE, evsE, putE, wantedE, Nat.reduceEqDiff, ↓reduceIte, ROp.run, same, binA, intA, strA, eqA, indexSA, byteA, unA, bounds3, Option.map_some, Option.map_none, dec_true, dec_false, Int.toNat_natCast, Int.natCast_nonneg, beq_self_eq_true, List.append_nil, beq_iff_eq, reduceCtorEq, List.getD_cons_zero, List.getD_cons_succ, loadA, rowA, pickA, bslA, storeA_eq, decide_true, flatA, List.length_cons, List.length_nil, Nat.reduceAdd, List.flatMap_cons, List.flatMap_nil, BEq.rfl, List.cons_append, List.nil_append, if_pos, if_neg, ordered, List.getElem?_cons_zero, List.getElem?_cons_succ, frzL, nidL, frz_func, frz_agg, frz_tup, frz_iface, fresh_func, fresh_agg, fresh_tup, fresh_iface, frz_ptr, frz_sl, fresh_sl, Cls.isFree, Cls.makes, callCls, chain, cond_true, tz, ty]; rfl) ?_
  cases f
  · refine vcE.step (by simp only [exC, exOps, exOp, evE, evsE, putE, wantedE, Nat.reduceEqDiff, ↓reduceIte, ROp.run, same, binA, intA, strA, eqA, indexSA, byteA, unA, bounds3, Option.map_some, Option.map_none, dec_true, dec_false, Int.toNat_natCast, Int.natCast_nonneg, beq_self_eq_true, List.append_nil, beq_iff_eq, reduceCtorEq, List.getD_cons_zero, List.getD_cons_succ, loadA, rowA, pickA, bslA, storeA_eq, decide_true, flatA, List.length_cons, List.length_nil, Nat.reduceAdd, List.flatMap_cons, List.flatMap_nil, BEq.rfl, List.cons_append, List.nil_append, if_pos, if_neg, ordered, List.getElem?_cons_zero, List.getElem?_cons_succ, frzL, nidL, frz_func, frz_agg, frz_tup, frz_iface, fresh_func, fresh_agg, fresh_tup, fresh_iface, frz_ptr, frz_sl, fresh_sl, Cls.isFree, Cls.makes, callCls, chain, cond_true, tz, ty]; rfl) ?_
    rw [← sE_same]
    refine (mcore hp ht rfl rfl _ _ _).mono ?_
    rintro e tm' hp' ⟨rfl, h6⟩
    exact ⟨_, rfl, by show fresh hp' (tm' 6) = _; rw [h6]; rfl⟩
  · refine vcE.step (by simp only [exC, exOps, exOp, evE, evsE, putE, wantedE, Nat.reduceEqDiff, ↓reduceIte, ROp.run, same, binA, intA, strA, eqA, indexSA, byteA, unA, bounds3, Option.map_some, Option.map_none, dec_true, dec_false, Int.toNat_natCast, Int.natCast_nonneg, beq_self_eq_true, List.append_nil, beq_iff_eq, reduceCtorEq, List.getD_cons_zero, List.getD_cons_succ, loadA, rowA, pickA, bslA, storeA_eq, decide_true, flatA, List.length_cons, List.length_nil, Nat.reduceAdd, List.flatMap_cons, List.flatMap_nil, BEq.rfl, List.cons_append, List.nil_append, if_pos, if_neg, ordered, List.getElem?_cons_zero, List.getElem?_cons_succ, frzL, nidL, frz_func, frz_agg, frz_tup, frz_iface, fresh_func, fresh_agg, fresh_tup, fresh_iface, frz_ptr, frz_sl, fresh_sl, Cls.isFree, Cls.makes, callCls, chain, cond_true, tz, ty, h1, h2]; rfl) ?_
    rw [← gm_fold]
    refine (mcore (p := p.map foldB) (t := t.map foldB) (by simpa using hp) (by simpa using ht) rfl rfl _ _ _).mono ?_
    rintro e tm' hp' ⟨rfl, h6⟩
    exact ⟨_, rfl, by show fresh hp' (tm' 6) = _; rw [h6]; rfl⟩

end Go.Gi
