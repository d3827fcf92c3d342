/- States: rows of places, and what the small methods give. -/
import Derived.Test.YtmehgdpbcafboaaGiGlD
import Derived.Test.YtmehgdpbcafboaaGiNfaL
import Derived.Test.YtmehgdpbcafboaaGiYR
set_option linter.unusedVariables false
set_option linter.unusedSimpArgs false
namespace Go.Gi
open Go Go.Proofs

/-- A row of so many places. -/
def rowB (N : Nat) (b : Nat → Bool) : List Bool := (List.range N).map b
theorem rowB_len (N : Nat) (b : Nat → Bool) : (rowB N b).length = N := by simp [rowB]
theorem rowB_get {N : Nat} {b : Nat → Bool} {i : Nat} (h : i < N) : (rowB N b)[i]? = some (b i) := by simp [rowB, h]
theorem rowB_set {N : Nat} {b : Nat → Bool} {i : Nat} (h : i < N) : (rowB N b).set i true = rowB N (fun j => b j || decide (j = i)) := by
  apply List.ext_getElem?
  intro j
  rw [List.getElem?_set]
  by_cases hj : j < N
  · rw [rowB_get hj]
    by_cases hij : i = j
    · subst hij
      rw [if_pos rfl, if_pos (by rw [rowB_len]; exact h), rowB_get h]
      simp
    · rw [if_neg hij, rowB_get hj, decide_eq_false (fun e => hij e.symm), Bool.or_false]
  · rw [if_neg (by omega), List.getElem?_eq_none (by rw [rowB_len]; omega), List.getElem?_eq_none (by rw [rowB_len]; omega)]
theorem rowB_congr {N : Nat} {b b' : Nat → Bool} (h : ∀ i, i < N → b i = b' i) : rowB N b = rowB N b' := by
  simp only [rowB]
  exact List.map_congr_left fun i hi => h i (List.mem_range.1 hi)
theorem rowB_false (N : Nat) : rowB N (fun _ => false) = List.replicate N false := by
  rw [List.eq_replicate_iff]
  exact ⟨rowB_len _ _, fun b hb => by simp only [rowB, List.mem_map] at hb; obtain ⟨_, _, h⟩ := hb; exact h.symm⟩

/-- A pointer to a glob's states. -/
def nP (p : List UInt8) (f : Bool) : AV := .fptr [.str p, .bool f] 0
theorem nP_nid (p : List UInt8) (f : Bool) : nid (nP p f) = true := rfl
/-- How many states there are. -/
def nSt (p : List UInt8) : Nat := if p = [] then 0 else p.length + 1

theorem pStates (p : List UInt8) (f : Bool) (hl : p.length ≤ 4611686018427387904) : PCF Try.prog 54 [nP p f] (.int .i64 (nSt p)) := by
  refine pcf_e hmG (TabOk.none _) comp54 (by decide) (by simp) (nidL_ok rfl) ?_
  unfold nSt
  by_cases h : p = []
  · refine vcE.ex (by simp (disch := first | assumption | omega) only [exC, exOps, exOp, evE, evsE, putE, wantedE, upd_app, Nat.reduceEqDiff, ↓reduceIte, ROp.run, same, binA, intA, strA, eqA, indexSA, byteA, unA, bounds3, Option.map_some, Option.map_none, dec_true, dec_false, wrap_i64, Int.toNat_natCast, Int.natCast_nonneg, beq_self_eq_true, List.append_nil, Bool.false_eq_true, beq_iff_eq, reduceCtorEq, Bool.true_eq_false, Bool.not_false, Bool.not_true, start_app, List.getD_cons_zero, List.getD_cons_succ, loadA, rowA, pickA, Nat.mul_one, bslA, storeA_eq, boxA_eq, partsOk_nil, partsOk_cons, Enc.S_notTup, osl_notTup, decide_true, and_self, flatA, List.length_cons, List.length_nil, Nat.reduceAdd, Nat.zero_add, List.flatMap_cons, List.flatMap_nil, Bool.and_self, Bool.and_true, BEq.rfl, List.cons_append, List.nil_append, if_pos, if_neg, ordered, List.getElem?_cons_zero, List.getElem?_cons_succ, frzL, nidL, lenA_sl, frz_func, frz_agg, frz_tup, frz_iface, fresh_func, fresh_agg, fresh_tup, fresh_iface, frz_fsl, frz_fptr, frz_ptr, frz_sl, fresh_sl, Enc.S_one, Enc.S_cells, Enc.S_str, Enc.S_len, Enc.S_fits, Enc.S_nid, Enc.S_frz, Enc.S_src, Enc.S_iaddr, osl_one, osl_cells, osl_str, osl_len, osl_fits, Cls.isFree, Cls.makes, callCls, chain, cond_true, Bool.and_false, Bool.false_and, Bool.true_and, Bool.or_true, Bool.true_or, Bool.or_false, Bool.false_or, tz, faddrA, allocA, over, List.take_succ_cons, List.take_zero, List.drop_succ_cons, List.drop_zero, List.drop_nil, List.set_cons_zero, List.set_cons_succ, Nat.reduceLeDiff, and_self, nP, nilchkA, isNilA]; rfl) ?_
    refine ⟨_, rfl, ?_⟩
    rw [if_pos h]
    rfl
  · refine vcE.ex (by simp (disch := first | assumption | omega) only [exC, exOps, exOp, evE, evsE, putE, wantedE, upd_app, Nat.reduceEqDiff, ↓reduceIte, ROp.run, same, binA, intA, strA, eqA, indexSA, byteA, unA, bounds3, Option.map_some, Option.map_none, dec_true, dec_false, wrap_i64, Int.toNat_natCast, Int.natCast_nonneg, beq_self_eq_true, List.append_nil, Bool.false_eq_true, beq_iff_eq, reduceCtorEq, Bool.true_eq_false, Bool.not_false, Bool.not_true, start_app, List.getD_cons_zero, List.getD_cons_succ, loadA, rowA, pickA, Nat.mul_one, bslA, storeA_eq, boxA_eq, partsOk_nil, partsOk_cons, Enc.S_notTup, osl_notTup, decide_true, and_self, flatA, List.length_cons, List.length_nil, Nat.reduceAdd, Nat.zero_add, List.flatMap_cons, List.flatMap_nil, Bool.and_self, Bool.and_true, BEq.rfl, List.cons_append, List.nil_append, if_pos, if_neg, ordered, List.getElem?_cons_zero, List.getElem?_cons_succ, frzL, nidL, lenA_sl, frz_func, frz_agg, frz_tup, frz_iface, fresh_func, fresh_agg, fresh_tup, fresh_iface, frz_fsl, frz_fptr, frz_ptr, frz_sl, fresh_sl, Enc.S_one, Enc.S_cells, Enc.S_str, Enc.S_len, Enc.S_fits, Enc.S_nid, Enc.S_frz, Enc.S_src, Enc.S_iaddr, osl_one, osl_cells, osl_str, osl_len, osl_fits, Cls.isFree, Cls.makes, callCls, chain, cond_true, Bool.and_false, Bool.false_and, Bool.true_and, Bool.or_true, Bool.true_or, Bool.or_false, Bool.false_or, tz, faddrA, allocA, over, List.take_succ_cons, List.take_zero, List.drop_succ_cons, List.drop_zero, List.drop_nil, List.set_cons_zero, List.set_cons_succ, Nat.reduceLeDiff, and_self, nP, nilchkA, isNilA]; rfl) ?_
    refine ⟨_, rfl, ?_⟩
    rw [if_neg h]
    rfl
theorem pPattern (p : List UInt8) (f : Bool) : PCF Try.prog 56 [nP p f] (.tup [.str p, .bool f]) := by
  refine pcf_e hmG (TabOk.none _) comp56 (by decide) (by simp) (nidL_ok rfl) ?_
  refine vcE.ex (by simp (disch := omega) only [exC, exOps, exOp, evE, evsE, putE, wantedE, upd_app, Nat.reduceEqDiff, ↓reduceIte, ROp.run, same, binA, intA, strA, eqA, indexSA, byteA, unA, bounds3, Option.map_some, Option.map_none, dec_true, dec_false, wrap_i64, Int.toNat_natCast, Int.natCast_nonneg, beq_self_eq_true, List.append_nil, Bool.false_eq_true, beq_iff_eq, reduceCtorEq, Bool.true_eq_false, Bool.not_false, Bool.not_true, start_app, List.getD_cons_zero, List.getD_cons_succ, loadA, rowA, pickA, Nat.mul_one, bslA, storeA_eq, boxA_eq, partsOk_nil, partsOk_cons, Enc.S_notTup, osl_notTup, decide_true, and_self, flatA, List.length_cons, List.length_nil, Nat.reduceAdd, Nat.zero_add, List.flatMap_cons, List.flatMap_nil, Bool.and_self, Bool.and_true, BEq.rfl, List.cons_append, List.nil_append, if_pos, if_neg, ordered, List.getElem?_cons_zero, List.getElem?_cons_succ, frzL, nidL, lenA_sl, frz_func, frz_agg, frz_tup, frz_iface, fresh_func, fresh_agg, fresh_tup, fresh_iface, frz_fsl, frz_fptr, frz_ptr, frz_sl, fresh_sl, Enc.S_one, Enc.S_cells, Enc.S_str, Enc.S_len, Enc.S_fits, Enc.S_nid, Enc.S_frz, Enc.S_src, Enc.S_iaddr, osl_one, osl_cells, osl_str, osl_len, osl_fits, Cls.isFree, Cls.makes, callCls, chain, cond_true, Bool.and_false, Bool.false_and, Bool.true_and, Bool.or_true, Bool.true_or, Bool.or_false, Bool.false_or, tz, faddrA, allocA, over, List.take_succ_cons, List.take_zero, List.drop_succ_cons, List.drop_zero, List.drop_nil, List.set_cons_zero, List.set_cons_succ, Nat.reduceLeDiff, and_self, nP, nilchkA, isNilA]; rfl) ?_
  exact ⟨_, rfl, rfl⟩

/-- From a place on, over stars. -/
def rch (p : List UInt8) (a : Nat) : Nat → Bool := clo p fun i => decide (i = a)
theorem rch_iff {p : List UInt8} {a j : Nat} : rch p a j = true ↔ a ≤ j ∧ ∀ m, a ≤ m → m < j → p[m]? = some 42 := by
  unfold rch
  rw [clo_iff]
  constructor
  · rintro ⟨i, h1, h2, h3⟩
    simp only [decide_eq_true_eq] at h2
    subst h2
    exact ⟨h1, h3⟩
  · rintro ⟨h1, h2⟩
    exact ⟨a, h1, by simp, h2⟩

/-- A row of our own. -/
def OwnRow (hp : HP) (id : Nat) (N : Nat) (b : Nat → Bool) : Prop := hp[id]? = some (some (.row 4 (encT.cs (rowB N b))))
def rowBlk (N : Nat) (b : Nat → Bool) : Option Blk := some (.row 4 (encT.cs (rowB N b)))

/-- (*Nfa).come: what it does to a row of its caller. -/
theorem cCome (p : List UInt8) (f : Bool) (hl : p.length ≤ 4611686018427387904) {hp : HP} {id : Nat} {b : Nat → Bool} {lo : Nat} {ex : Bool} (h : hp[id]? = some (rowBlk (p.length + 1) b)) {a : Nat} (ha : a ≤ p.length) :
    ACalls Try.prog 127 [nP p f, .sl id 0 (p.length + 1) 1 lo ex, .int .i64 a] hp fun r hp' => hp' = hp.set id (rowBlk (p.length + 1) fun j => b j || rch p a j) := by
  refine calls_e hmG (TabOk.none _) comp127 (by decide) (by simp) ?_
  have hst : ∀ {hp : HP} {b : Nat → Bool} {i : Nat}, hp[id]? = some (rowBlk (p.length + 1) b) → i ≤ p.length → storeA hp 1 (.ptr id i) (.bool true) = some (hp.set id (rowBlk (p.length + 1) fun j => b j || decide (j = i))) := fun {hp b i} h hi => by
    have := encT.sl_store1 (l := rowB (p.length + 1) b) (e := 4) rfl h (i := i) (by rw [rowB_len]; omega) (b := true) (v := .bool true) rfl (by simp)
    rw [rowB_set (by omega)] at this
    exact this
  have h1 := hst h ha
  refine vcE.step (by simp (disch := omega) only [exC, exOps, exOp, evE, evsE, putE, wantedE, upd_app, Nat.reduceEqDiff, ↓reduceIte, ROp.run, same, binA, intA, strA, eqA, indexSA, byteA, unA, bounds3, Option.map_some, Option.map_none, dec_true, dec_false, wrap_i64, Int.toNat_natCast, Int.natCast_nonneg, beq_self_eq_true, List.append_nil, Bool.false_eq_true, beq_iff_eq, reduceCtorEq, Bool.true_eq_false, Bool.not_false, Bool.not_true, start_app, List.getD_cons_zero, List.getD_cons_succ, loadA, rowA, pickA, Nat.mul_one, bslA, storeA_eq, boxA_eq, partsOk_nil, partsOk_cons, Enc.S_notTup, osl_notTup, decide_true, and_self, flatA, List.length_cons, List.length_nil, Nat.reduceAdd, Nat.zero_add, List.flatMap_cons, List.flatMap_nil, Bool.and_self, Bool.and_true, BEq.rfl, List.cons_append, List.nil_append, if_pos, if_neg, ordered, List.getElem?_cons_zero, List.getElem?_cons_succ, frzL, nidL, lenA_sl, frz_func, frz_agg, frz_tup, frz_iface, fresh_func, fresh_agg, fresh_tup, fresh_iface, frz_fsl, frz_fptr, frz_ptr, frz_sl, fresh_sl, Enc.S_one, Enc.S_cells, Enc.S_str, Enc.S_len, Enc.S_fits, Enc.S_nid, Enc.S_frz, Enc.S_src, Enc.S_iaddr, osl_one, osl_cells, osl_str, osl_len, osl_fits, Cls.isFree, Cls.makes, callCls, chain, cond_true, Bool.and_false, Bool.false_and, Bool.true_and, Bool.or_true, Bool.true_or, Bool.or_false, Bool.false_or, tz, iaddr_sl1, ↓h1]; rfl) (vcE.block (vcE.loop (by intro l tm hp h; simp [RetE] at h) (fun m tm hp' => ∃ k, a ≤ k ∧ k ≤ p.length ∧ m = p.length - k ∧ (∀ m, a ≤ m → m < k → p[m]? = some 42) ∧ tm 0 = nP p f ∧ tm 1 = .sl id 0 (p.length + 1) 1 lo ex ∧ tm 2 = .int .i64 k ∧ hp' = hp.set id (rowBlk (p.length + 1) fun j => b j || decide (a ≤ j ∧ j ≤ k))) (p.length - a) ⟨a, Nat.le_refl _, ha, rfl, fun m h1 h2 => by omega, ?_, ?_, ?_, ?_⟩ ?_))
  · rfl
  · rfl
  · rfl
  · congr 2
    funext j
    congr 1
    rw [decide_eq_decide]
    omega
  · rintro m tm hp' ⟨k, hak, hkl, rfl, hstar, e0, e1, e2, rfl⟩
    have hh : (hp.set id (rowBlk (p.length + 1) fun j => b j || decide (a ≤ j ∧ j ≤ k)))[id]? = some (rowBlk (p.length + 1) fun j => b j || decide (a ≤ j ∧ j ≤ k)) := set_get h
    have fin : (p[k]? ≠ some 42) → hp.set id (rowBlk (p.length + 1) fun j => b j || decide (a ≤ j ∧ j ≤ k)) = hp.set id (rowBlk (p.length + 1) fun j => b j || rch p a j) := fun hne => by
      congr 2
      funext j
      congr 1
      rw [Bool.eq_iff_iff, rch_iff, decide_eq_true_eq]
      constructor
      · rintro ⟨h1, h2⟩
        exact ⟨h1, fun m h3 h4 => hstar m h3 (by omega)⟩
      · rintro ⟨h1, h2⟩
        refine ⟨h1, ?_⟩
        by_cases hjk : j ≤ k
        · exact hjk
        · exact absurd (h2 k hak (by omega)) hne
    by_cases hk : k < p.length
    · obtain ⟨c, hc⟩ : ∃ c, p[k]? = some c := ⟨_, List.getElem?_eq_getElem hk⟩
      by_cases h42 : c.toNat = 42
      · have h2 := hst (i := k + 1) hh (by omega)
        have hk1 : ((k : Int) + 1) = ((k + 1 : Nat) : Int) := rfl
        refine vcE.ex (by simp (disch := omega) only [exC, exOps, exOp, evE, evsE, putE, wantedE, upd_app, Nat.reduceEqDiff, ↓reduceIte, ROp.run, same, binA, intA, strA, eqA, indexSA, byteA, unA, bounds3, Option.map_some, Option.map_none, dec_true, dec_false, wrap_i64, Int.toNat_natCast, Int.natCast_nonneg, beq_self_eq_true, List.append_nil, Bool.false_eq_true, beq_iff_eq, reduceCtorEq, Bool.true_eq_false, Bool.not_false, Bool.not_true, start_app, List.getD_cons_zero, List.getD_cons_succ, loadA, rowA, pickA, Nat.mul_one, bslA, storeA_eq, boxA_eq, partsOk_nil, partsOk_cons, Enc.S_notTup, osl_notTup, decide_true, and_self, flatA, List.length_cons, List.length_nil, Nat.reduceAdd, Nat.zero_add, List.flatMap_cons, List.flatMap_nil, Bool.and_self, Bool.and_true, BEq.rfl, List.cons_append, List.nil_append, if_pos, if_neg, ordered, List.getElem?_cons_zero, List.getElem?_cons_succ, frzL, nidL, lenA_sl, frz_func, frz_agg, frz_tup, frz_iface, fresh_func, fresh_agg, fresh_tup, fresh_iface, frz_fsl, frz_fptr, frz_ptr, frz_sl, fresh_sl, Enc.S_one, Enc.S_cells, Enc.S_str, Enc.S_len, Enc.S_fits, Enc.S_nid, Enc.S_frz, Enc.S_src, Enc.S_iaddr, osl_one, osl_cells, osl_str, osl_len, osl_fits, Cls.isFree, Cls.makes, callCls, chain, cond_true, Bool.and_false, Bool.false_and, Bool.true_and, Bool.or_true, Bool.true_or, Bool.or_false, Bool.false_or, tz, faddrA, allocA, over, List.take_succ_cons, List.take_zero, List.drop_succ_cons, List.drop_zero, List.drop_nil, List.set_cons_zero, List.set_cons_succ, Nat.reduceLeDiff, and_self, nP, nilchkA, e0, e1, e2, hc, h42, hk1, iaddr_sl1, ↓h2]; rfl) ?_
        refine ⟨_, ?_, k + 1, by omega, hk, rfl, ?_, ?_, ?_, ?_, ?_⟩
        · omega
        · intro m h3 h4
          by_cases hm : m = k
          · subst hm
            rw [hc]
            congr
            exact UInt8.toNat_inj.1 h42
          · exact hstar m h3 (by omega)
        · simp only [upd_app, Nat.reduceEqDiff, ↓reduceIte, e0, nP]
        · simp only [upd_app, Nat.reduceEqDiff, ↓reduceIte, e1]
        · simp only [upd_app, Nat.reduceEqDiff, ↓reduceIte]
        · rw [List.set_set]
          congr 2
          funext j
          rw [Bool.or_assoc]
          congr 1
          rw [Bool.eq_iff_iff]
          simp
          omega
      · refine vcE.ex (by simp (disch := omega) only [exC, exOps, exOp, evE, evsE, putE, wantedE, upd_app, Nat.reduceEqDiff, ↓reduceIte, ROp.run, same, binA, intA, strA, eqA, indexSA, byteA, unA, bounds3, Option.map_some, Option.map_none, dec_true, dec_false, wrap_i64, Int.toNat_natCast, Int.natCast_nonneg, beq_self_eq_true, List.append_nil, Bool.false_eq_true, beq_iff_eq, reduceCtorEq, Bool.true_eq_false, Bool.not_false, Bool.not_true, start_app, List.getD_cons_zero, List.getD_cons_succ, loadA, rowA, pickA, Nat.mul_one, bslA, storeA_eq, boxA_eq, partsOk_nil, partsOk_cons, Enc.S_notTup, osl_notTup, decide_true, and_self, flatA, List.length_cons, List.length_nil, Nat.reduceAdd, Nat.zero_add, List.flatMap_cons, List.flatMap_nil, Bool.and_self, Bool.and_true, BEq.rfl, List.cons_append, List.nil_append, if_pos, if_neg, ordered, List.getElem?_cons_zero, List.getElem?_cons_succ, frzL, nidL, lenA_sl, frz_func, frz_agg, frz_tup, frz_iface, fresh_func, fresh_agg, fresh_tup, fresh_iface, frz_fsl, frz_fptr, frz_ptr, frz_sl, fresh_sl, Enc.S_one, Enc.S_cells, Enc.S_str, Enc.S_len, Enc.S_fits, Enc.S_nid, Enc.S_frz, Enc.S_src, Enc.S_iaddr, osl_one, osl_cells, osl_str, osl_len, osl_fits, Cls.isFree, Cls.makes, callCls, chain, cond_true, Bool.and_false, Bool.false_and, Bool.true_and, Bool.or_true, Bool.true_or, Bool.or_false, Bool.false_or, tz, faddrA, allocA, over, List.take_succ_cons, List.take_zero, List.drop_succ_cons, List.drop_zero, List.drop_nil, List.set_cons_zero, List.set_cons_succ, Nat.reduceLeDiff, and_self, nP, nilchkA, e0, e1, e2, hc]; rfl) ?_
        refine ⟨_, rfl, fin ?_⟩
        rw [hc]
        simp only [ne_eq, Option.some.injEq]
        rintro rfl
        exact h42 rfl
    · refine vcE.ex (by simp (disch := omega) only [exC, exOps, exOp, evE, evsE, putE, wantedE, upd_app, Nat.reduceEqDiff, ↓reduceIte, ROp.run, same, binA, intA, strA, eqA, indexSA, byteA, unA, bounds3, Option.map_some, Option.map_none, dec_true, dec_false, wrap_i64, Int.toNat_natCast, Int.natCast_nonneg, beq_self_eq_true, List.append_nil, Bool.false_eq_true, beq_iff_eq, reduceCtorEq, Bool.true_eq_false, Bool.not_false, Bool.not_true, start_app, List.getD_cons_zero, List.getD_cons_succ, loadA, rowA, pickA, Nat.mul_one, bslA, storeA_eq, boxA_eq, partsOk_nil, partsOk_cons, Enc.S_notTup, osl_notTup, decide_true, and_self, flatA, List.length_cons, List.length_nil, Nat.reduceAdd, Nat.zero_add, List.flatMap_cons, List.flatMap_nil, Bool.and_self, Bool.and_true, BEq.rfl, List.cons_append, List.nil_append, if_pos, if_neg, ordered, List.getElem?_cons_zero, List.getElem?_cons_succ, frzL, nidL, lenA_sl, frz_func, frz_agg, frz_tup, frz_iface, fresh_func, fresh_agg, fresh_tup, fresh_iface, frz_fsl, frz_fptr, frz_ptr, frz_sl, fresh_sl, Enc.S_one, Enc.S_cells, Enc.S_str, Enc.S_len, Enc.S_fits, Enc.S_nid, Enc.S_frz, Enc.S_src, Enc.S_iaddr, osl_one, osl_cells, osl_str, osl_len, osl_fits, Cls.isFree, Cls.makes, callCls, chain, cond_true, Bool.and_false, Bool.false_and, Bool.true_and, Bool.or_true, Bool.true_or, Bool.or_false, Bool.false_or, tz, faddrA, allocA, over, List.take_succ_cons, List.take_zero, List.drop_succ_cons, List.drop_zero, List.drop_nil, List.set_cons_zero, List.set_cons_succ, Nat.reduceLeDiff, and_self, nP, nilchkA, e0, e1, e2]; rfl) ?_
      refine ⟨_, rfl, fin ?_⟩
      rw [List.getElem?_eq_none (by omega)]
      simp

end Go.Gi
