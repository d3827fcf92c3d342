/- States: rows of places, and what the small methods give. -/
/- States: start, of, all, list: what they give. -/
/- States: a row as a list. -/
import Derived.Test.YtmehgdpbcafboaaGiGlD
import Derived.Test.YtmehgdpbcafboaaGiNfaL
import Derived.Test.YtmehgdpbcafboaaGiYR
set_option linter.unusedVariables false
set_option linter.unusedSimpArgs false
namespace Go.Gi
section
open Go Go.Proofs

/-- A row of so many places. -/
def rowB (N : Nat) (b : Nat → Bool) : List Bool := (List.range N).map b
theorem rowB_len (N : Nat) (b : Nat → Bool) : (rowB N b).length = N := by simp [rowB]
theorem rowB_get {N : Nat} {b : Nat → Bool} {i : Nat} (h : i < N) : (rowB N b)[i]? = some (b i) := by simp [rowB, h]
theorem rowB_set {N : Nat} {b : Nat → Bool} {i : Nat} (h : i < N) : (rowB N b).set i true = rowB N (fun j => b j || decide (j = i)) := by
  apply List.ext_getElem?
  intro j
  rw [List.getElem?_set]
  by_cases hj : j < N
  · rw [rowB_get hj]
    by_cases hij : i = j
    · subst hij
      rw [if_pos rfl, if_pos (by rw [rowB_len]; exact h), rowB_get h]
      simp
    · rw [if_neg hij, rowB_get hj, decide_eq_false (fun e => hij e.symm), Bool.or_false]
  · rw [if_neg (by omega), List.getElem?_eq_none (by rw [rowB_len]; omega), List.getElem?_eq_none (by rw [rowB_len]; omega)]
theorem rowB_congr {N : Nat} {b b' : Nat → Bool} (h : ∀ i, i < N → b i = b' i) : rowB N b = rowB N b' := by
  simp only [rowB]
  exact List.map_congr_left fun i hi => h i (List.mem_range.1 hi)
theorem rowB_false (N : Nat) : rowB N (fun _ => false) = List.replicate N false := by
  rw [List.eq_replicate_iff]
  exact ⟨rowB_len _ _, fun b hb => by simp only [rowB, List.mem_map] at hb; obtain ⟨_, _, h⟩ := hb; exact h.symm⟩

/-- A pointer to a glob's states. -/
def nP (p : List UInt8) (f : Bool) : AV := .fptr [.str p, .bool f] 0
theorem nP_nid (p : List UInt8) (f : Bool) : nid (nP p f) = true := rfl
/-- How many states there are. -/
def nSt (p : List UInt8) : Nat := if p = [] then 0 else p.length + 1

theorem pStates (p : List UInt8) (f : Bool) (hl : p.length ≤ 4611686018427387904) : PCF Try.prog 54 [nP p f] (.int .i64 (nSt p)) := by
  refine pcf_e hmG (TabOk.none _) comp54 (by decide) (by simp) (nidL_ok rfl) ?_
  unfold nSt
  by_cases h : p = []
  · refine vcE.ex (by simp (disch := first | assumption | omega) only [exC, exOps, exOp, evE, evsE, putE, wantedE, Nat.reduceEqDiff, ↓reduceIte, ROp.run, same, binA, intA, strA, eqA, indexSA, byteA, unA, bounds3, Option.map_some, Option.map_none, dec_true, dec_false, Int.toNat_natCast, Int.natCast_nonneg, beq_self_eq_true, List.append_nil, beq_iff_eq, reduceCtorEq, List.getD_cons_zero, List.getD_cons_succ, loadA, rowA, pickA, bslA, storeA_eq, decide_true, flatA, List.length_cons, List.length_nil, Nat.reduceAdd, List.flatMap_cons, List.flatMap_nil, BEq.rfl, List.cons_append, List.nil_append, if_pos, if_neg, ordered, List.getElem?_cons_zero, List.getElem?_cons_succ, frzL, nidL, frz_func, frz_agg, frz_tup, frz_iface, fresh_func, fresh_agg, fresh_tup, fresh_iface, frz_ptr, frz_sl, fresh_sl, Cls.isFree, Cls.makes, callCls, chain, cond_true, tz, ty, faddrA, allocA, over, List.take_succ_cons, List.take_zero, List.drop_succ_cons, List.drop_zero, List.drop_nil, List.set_cons_zero, List.set_cons_succ, Nat.reduceLeDiff, and_self, nP, nilchkA, isNilA]; rfl) ?_
    refine ⟨_, rfl, ?_⟩
    rw [if_pos h]
    rfl
  · refine vcE.ex (by simp (disch := first | assumption | omega) only [exC, exOps, exOp, evE, evsE, putE, wantedE, Nat.reduceEqDiff, ↓reduceIte, ROp.run, same, binA, intA, strA, eqA, indexSA, byteA, unA, bounds3, Option.map_some, Option.map_none, dec_true, dec_false, Int.toNat_natCast, Int.natCast_nonneg, beq_self_eq_true, List.append_nil, beq_iff_eq, reduceCtorEq, List.getD_cons_zero, List.getD_cons_succ, loadA, rowA, pickA, bslA, storeA_eq, decide_true, flatA, List.length_cons, List.length_nil, Nat.reduceAdd, List.flatMap_cons, List.flatMap_nil, BEq.rfl, List.cons_append, List.nil_append, if_pos, if_neg, ordered, List.getElem?_cons_zero, List.getElem?_cons_succ, frzL, nidL, frz_func, frz_agg, frz_tup, frz_iface, fresh_func, fresh_agg, fresh_tup, fresh_iface, frz_ptr, frz_sl, fresh_sl, Cls.isFree, Cls.makes, callCls, chain, cond_true, tz, ty, faddrA, allocA, over, List.take_succ_cons, List.take_zero, List.drop_succ_cons, List.drop_zero, List.drop_nil, List.set_cons_zero, List.set_cons_succ, Nat.reduceLeDiff, and_self, nP, nilchkA, isNilA]; rfl) ?_
    refine ⟨_, rfl, ?_⟩
    rw [if_neg h]
    rfl
theorem pPattern (p : List UInt8) (f : Bool) : PCF Try.prog 56 [nP p f] (.tup [.str p, .bool f]) := by
  refine pcf_e hmG (TabOk.none _) comp56 (by decide) (by simp) (nidL_ok rfl) ?_
  refine vcE.ex (by simp (disch := omega) only [exC, exOps, exOp, evE, evsE, putE, wantedE, Nat.reduceEqDiff, ↓reduceIte, ROp.run, same, binA, intA, strA, eqA, indexSA, byteA, unA, bounds3, Option.map_some, Option.map_none, dec_true, dec_false, Int.toNat_natCast, Int.natCast_nonneg, beq_self_eq_true, List.append_nil, beq_iff_eq, reduceCtorEq, List.getD_cons_zero, List.getD_cons_succ, loadA, rowA, pickA, bslA, storeA_eq, decide_true, flatA, List.length_cons, List.length_nil, Nat.reduceAdd, List.flatMap_cons, List.flatMap_nil, BEq.rfl, List.cons_append, List.nil_append, if_pos, if_neg, ordered, List.getElem?_cons_zero, List.getElem?_cons_succ, frzL, nidL, frz_func, frz_agg, frz_tup, frz_iface, fresh_func, fresh_agg, fresh_tup, fresh_iface, frz_ptr, frz_sl, fresh_sl, Cls.isFree, Cls.makes, callCls, chain, cond_true, tz, ty, faddrA, allocA, over, List.take_succ_cons, List.take_zero, List.drop_succ_cons, List.drop_zero, List.drop_nil, List.set_cons_zero, List.set_cons_succ, Nat.reduceLeDiff, and_self, nP, nilchkA, isNilA]; rfl) ?_
  exact ⟨_, rfl, rfl⟩

/-- From a place on, over stars. -/
def rch (p : List UInt8) (a : Nat) : Nat → Bool := clo p fun i => decide (i = a)
theorem rch_iff {p : List UInt8} {a j : Nat} : rch p a j = true ↔ a ≤ j ∧ ∀ m, a ≤ m → m < j → p[m]? = some 42 := by
  unfold rch
  rw [clo_iff]
  constructor
  · rintro ⟨i, h1, h2, h3⟩
    simp only [decide_eq_true_eq] at h2
    subst h2
    exact ⟨h1, h3⟩
  · rintro ⟨h1, h2⟩
    exact ⟨a, h1, by simp, h2⟩

/-- A row of our own. -/
def OwnRow (hp : HP) (id : Nat) (N : Nat) (b : Nat → Bool) : Prop := hp[id]? = some (some (.row 4 (encT.cs (rowB N b))))
def rowBlk (N : Nat) (b : Nat → Bool) : Option Blk := some (.row 4 (encT.cs (rowB N b)))

/-- (*Nfa).come: what it does to a row of its caller. -/
theorem cCome (p : List UInt8) (f : Bool) (hl : p.length ≤ 4611686018427387904) {hp : HP} {id : Nat} {b : Nat → Bool} {lo : Nat} {ex : Bool} (h : hp[id]? = some (rowBlk (p.length + 1) b)) {a : Nat} (ha : a ≤ p.length) :
    ACalls Try.prog 127 [nP p f, .sl id 0 (p.length + 1) 1 lo ex, .int .i64 a] hp fun r hp' => hp' = hp.set id (rowBlk (p.length + 1) fun j => b j || rch p a j) := by
  refine calls_e hmG (TabOk.none _) comp127 (by decide) (by simp) ?_
  have hst : ∀ {hp : HP} {b : Nat → Bool} {i : Nat}, hp[id]? = some (rowBlk (p.length + 1) b) → i ≤ p.length → storeA hp 1 (.ptr id i) (.bool true) = some (hp.set id (rowBlk (p.length + 1) fun j => b j || decide (j = i))) := fun {hp b i} h hi => by
    have := encT.sl_store1 (l := rowB (p.length + 1) b) (e := 4) rfl h (i := i) (by rw [rowB_len]; omega) (b := true) (v := .bool true) rfl (by simp)
    rw [rowB_set (by omega)] at this
    exact this
  have h1 := hst h ha
  refine vcE.step (by simp (disch := omega) only [exC, exOps, exOp, evE, evsE, putE, wantedE, Nat.reduceEqDiff, ↓reduceIte, ROp.run, same, binA, intA, strA, eqA, indexSA, byteA, unA, bounds3, Option.map_some, Option.map_none, dec_true, dec_false, Int.toNat_natCast, Int.natCast_nonneg, beq_self_eq_true, List.append_nil, beq_iff_eq, reduceCtorEq, List.getD_cons_zero, List.getD_cons_succ, loadA, rowA, pickA, bslA, storeA_eq, decide_true, flatA, List.length_cons, List.length_nil, Nat.reduceAdd, List.flatMap_cons, List.flatMap_nil, BEq.rfl, List.cons_append, List.nil_append, if_pos, if_neg, ordered, List.getElem?_cons_zero, List.getElem?_cons_succ, frzL, nidL, frz_func, frz_agg, frz_tup, frz_iface, fresh_func, fresh_agg, fresh_tup, fresh_iface, frz_ptr, frz_sl, fresh_sl, Cls.isFree, Cls.makes, callCls, chain, cond_true, tz, ty, iaddr_sl1, ↓h1]; rfl) (vcE.block (vcE.loop (by intro l tm hp h; simp [RetE] at h) (fun m tm hp' => ∃ k, a ≤ k ∧ k ≤ p.length ∧ m = p.length - k ∧ (∀ m, a ≤ m → m < k → p[m]? = some 42) ∧ tm 0 = nP p f ∧ tm 1 = .sl id 0 (p.length + 1) 1 lo ex ∧ tm 2 = .int .i64 k ∧ hp' = hp.set id (rowBlk (p.length + 1) fun j => b j || decide (a ≤ j ∧ j ≤ k))) (p.length - a) ⟨a, Nat.le_refl _, ha, rfl, fun m h1 h2 => by omega, ?_, ?_, ?_, ?_⟩ ?_))
  · rfl
  · rfl
  · rfl
  · congr 2
    funext j
    congr 1
    rw [decide_eq_decide]
    omega
  · rintro m tm hp' ⟨k, hak, hkl, rfl, hstar, e0, e1, e2, rfl⟩
    have hh : (hp.set id (rowBlk (p.length + 1) fun j => b j || decide (a ≤ j ∧ j ≤ k)))[id]? = some (rowBlk (p.length + 1) fun j => b j || decide (a ≤ j ∧ j ≤ k)) := set_get h
    have fin : (p[k]? ≠ some 42) → hp.set id (rowBlk (p.length + 1) fun j => b j || decide (a ≤ j ∧ j ≤ k)) = hp.set id (rowBlk (p.length + 1) fun j => b j || rch p a j) := fun hne => by
      congr 2
      funext j
      congr 1
      rw [Bool.eq_iff_iff, rch_iff, decide_eq_true_eq]
      constructor
      · rintro ⟨h1, h2⟩
        exact ⟨h1, fun m h3 h4 => hstar m h3 (by omega)⟩
      · rintro ⟨h1, h2⟩
        refine ⟨h1, ?_⟩
        by_cases hjk : j ≤ k
        · exact hjk
        · exact absurd (h2 k hak (by omega)) hne
    by_cases hk : k < p.length
    · obtain ⟨c, hc⟩ : ∃ c, p[k]? = some c := ⟨_, List.getElem?_eq_getElem hk⟩
      by_cases h42 : c.toNat = 42
      · have h2 := hst (i := k + 1) hh (by omega)
        have hk1 : ((k : Int) + 1) = ((k + 1 : Nat) : Int) := rfl
        refine vcE.ex (by simp (disch := omega) only [exC, exOps, exOp, evE, evsE, putE, wantedE, Nat.reduceEqDiff, ↓reduceIte, ROp.run, same, binA, intA, strA, eqA, indexSA, byteA, unA, bounds3, Option.map_some, Option.map_none, dec_true, dec_false, Int.toNat_natCast, Int.natCast_nonneg, beq_self_eq_true, List.append_nil, beq_iff_eq, reduceCtorEq, List.getD_cons_zero, List.getD_cons_succ, loadA, rowA, pickA, bslA, storeA_eq, decide_true, flatA, List.length_cons, List.length_nil, Nat.reduceAdd, List.flatMap_cons, List.flatMap_nil, BEq.rfl, List.cons_append, List.nil_append, if_pos, if_neg, ordered, List.getElem?_cons_zero, List.getElem?_cons_succ, frzL, nidL, frz_func, frz_agg, frz_tup, frz_iface, fresh_func, fresh_agg, fresh_tup, fresh_iface, frz_ptr, frz_sl, fresh_sl, Cls.isFree, Cls.makes, callCls, chain, cond_true, tz, ty, faddrA, allocA, over, List.take_succ_cons, List.take_zero, List.drop_succ_cons, List.drop_zero, List.drop_nil, List.set_cons_zero, List.set_cons_succ, Nat.reduceLeDiff, and_self, nP, nilchkA, e0, e1, e2, hc, h42, hk1, iaddr_sl1, ↓h2]; rfl) ?_
        refine ⟨_, ?_, k + 1, by omega, hk, rfl, ?_, ?_, ?_, ?_, ?_⟩
        · omega
        · intro m h3 h4
          by_cases hm : m = k
          · subst hm
            rw [hc]
            congr
            exact UInt8.toNat_inj.1 h42
          · exact hstar m h3 (by omega)
        · simp only [upd_app, Nat.reduceEqDiff, ↓reduceIte, e0, nP]
        · simp only [upd_app, Nat.reduceEqDiff, ↓reduceIte, e1]
        · simp only [upd_app, Nat.reduceEqDiff, ↓reduceIte]
        · rw [List.set_set]
          congr 2
          funext j
          rw [Bool.or_assoc]
          congr 1
          rw [Bool.eq_iff_iff]
          simp
          omega
      · refine vcE.ex (by simp (disch := omega) only [exC, exOps, exOp, evE, evsE, putE, wantedE, Nat.reduceEqDiff, ↓reduceIte, ROp.run, same, binA, intA, strA, eqA, indexSA, byteA, unA, bounds3, Option.map_some, Option.map_none, dec_true, dec_false, Int.toNat_natCast, Int.natCast_nonneg, beq_self_eq_true, List.append_nil, beq_iff_eq, reduceCtorEq, List.getD_cons_zero, List.getD_cons_succ, loadA, rowA, pickA, bslA, storeA_eq, decide_true, flatA, List.length_cons, List.length_nil, Nat.reduceAdd, List.flatMap_cons, List.flatMap_nil, BEq.rfl, List.cons_append, List.nil_append, if_pos, if_neg, ordered, List.getElem?_cons_zero, List.getElem?_cons_succ, frzL, nidL, frz_func, frz_agg, frz_tup, frz_iface, fresh_func, fresh_agg, fresh_tup, fresh_iface, frz_ptr, frz_sl, fresh_sl, Cls.isFree, Cls.makes, callCls, chain, cond_true, tz, ty, faddrA, allocA, over, List.take_succ_cons, List.take_zero, List.drop_succ_cons, List.drop_zero, List.drop_nil, List.set_cons_zero, List.set_cons_succ, Nat.reduceLeDiff, and_self, nP, nilchkA, e0, e1, e2, hc]; rfl) ?_
        refine ⟨_, rfl, fin ?_⟩
        rw [hc]
        simp only [ne_eq, Option.some.injEq]
        rintro rfl
        exact h42 rfl
    · refine vcE.ex (by simp (disch := omega) only [exC, exOps, exOp, evE, evsE, putE, wantedE, Nat.reduceEqDiff, ↓reduceIte, ROp.run, same, binA, intA, strA, eqA, indexSA, byteA, unA, bounds3, Option.map_some, Option.map_none, dec_true, dec_false, Int.toNat_natCast, Int.natCast_nonneg, beq_self_eq_true, List.append_nil, beq_iff_eq, reduceCtorEq, List.getD_cons_zero, List.getD_cons_succ, loadA, rowA, pickA, bslA, storeA_eq, decide_true, flatA, List.length_cons, List.length_nil, Nat.reduceAdd, List.flatMap_cons, List.flatMap_nil, BEq.rfl, List.cons_append, List.nil_append, if_pos, if_neg, ordered, List.getElem?_cons_zero, List.getElem?_cons_succ, frzL, nidL, frz_func, frz_agg, frz_tup, frz_iface, fresh_func, fresh_agg, fresh_tup, fresh_iface, frz_ptr, frz_sl, fresh_sl, Cls.isFree, Cls.makes, callCls, chain, cond_true, tz, ty, faddrA, allocA, over, List.take_succ_cons, List.take_zero, List.drop_succ_cons, List.drop_zero, List.drop_nil, List.set_cons_zero, List.set_cons_succ, Nat.reduceLeDiff, and_self, nP, nilchkA, e0, e1, e2]; rfl) ?_
      refine ⟨_, rfl, fin ?_⟩
      rw [List.getElem?_eq_none (by omega)]
      simp
end

section
open Go Go.Proofs

theorem make_row {hp : HP} {N : Nat} {k k' : IntKind} (h : N ≤ 140737488355328) : makeA hp 4 [.bool false] 1 (.int k N) (.int k' N) = some (.sl hp.length 0 N 1 N true, hp ++ [rowBlk N (fun _ => false)]) := by
  simp only [makeA]
  rw [if_pos (by omega), Int.toNat_natCast, encT_zeros, rowBlk, rowB_false]
  rfl
theorem rowBlk_fresh {hp : HP} {id N lo : Nat} {b : Nat → Bool} {ex : Bool} (h : hp[id]? = some (rowBlk N b)) : fresh hp (.sl id 0 N 1 lo ex) = some (encT.S (rowB N b)) := by
  have := encT.sl_fresh (l := rowB N b) (e := 4) (lo := lo) (ex := ex) h
  rw [rowB_len] at this
  exact this
theorem rowBlk_frz {hp : HP} {id N lo : Nat} {b : Nat → Bool} {ex : Bool} (h : hp[id]? = some (rowBlk N b)) : frz hp (.sl id 0 N 1 lo ex) = some (encT.S (rowB N b)) := by
  have := encT.sl_frz (l := rowB N b) (e := 4) (lo := lo) (ex := ex) h
  rw [rowB_len] at this
  exact this
theorem rowBlk_store {hp : HP} {id N i : Nat} {b : Nat → Bool} (h : hp[id]? = some (rowBlk N b)) (hi : i < N) : storeA hp 1 (.ptr id i) (.bool true) = some (hp.set id (rowBlk N fun j => b j || decide (j = i))) := by
  have := encT.sl_store1 (l := rowB N b) (e := 4) rfl h (i := i) (by rw [rowB_len]; omega) (b := true) (v := .bool true) rfl (by simp)
  rw [rowB_set hi] at this
  exact this

theorem rowBlk_congr {N : Nat} {b b' : Nat → Bool} (h : ∀ i, i < N → b i = b' i) : rowBlk N b = rowBlk N b' := by
  rw [rowBlk, rowB_congr h]
  rfl

/-- Glob's states, or nil. -/
def nV : Option (List UInt8 × Bool) → AV
  | none => .nilp
  | some (p, f) => nP p f
def nN : Option (List UInt8 × Bool) → Nat
  | none => 0
  | some (p, _) => nSt p
def R1.nfa : R1 (Option (List UInt8 × Bool)) where
  v := nV
  un := fun
    | .nilp => some none
    | .fptr [.str p, .bool f] 0 => some (some (p, f))
    | _ => none
  un_v a := by
    cases a with
    | none => rfl
    | some a => rfl
  un_some x a h := by
    split at h
    · cases h; rfl
    · cases h; rfl
    · cases h
theorem nV_nid (x : Option (List UInt8 × Bool)) : nid (nV x) = true := by
  cases x with
  | none => rfl
  | some a => rfl
def nSmall : Option (List UInt8 × Bool) → Prop
  | none => True
  | some (p, _) => p.length ≤ 1000000
theorem nN_small {x : Option (List UInt8 × Bool)} (h : nSmall x) : nN x ≤ 1000001 := by
  cases x with
  | none => simp [nN]
  | some a =>
    obtain ⟨p, f⟩ := a
    simp only [nSmall] at h
    simp only [nN, nSt]
    split <;> omega
instance (x : Option (List UInt8 × Bool)) : Decidable (nSmall x) := by
  cases x with
  | none => exact isTrue trivial
  | some a => exact inferInstanceAs (Decidable (a.1.length ≤ 1000000))

theorem pStatesV (x : Option (List UInt8 × Bool)) (h : nSmall x) : PCF Try.prog 54 [nV x] (.int .i64 (nN x)) := by
  cases x with
  | none =>
    refine pcf_e hmG (TabOk.none _) comp54 (by decide) (by simp) (nidL_ok rfl) ?_
    refine vcE.ex (by simp (disch := omega) only [exC, exOps, exOp, evE, evsE, putE, wantedE, Nat.reduceEqDiff, ↓reduceIte, ROp.run, same, binA, intA, strA, eqA, indexSA, byteA, unA, bounds3, Option.map_some, Option.map_none, dec_true, dec_false, Int.toNat_natCast, Int.natCast_nonneg, beq_self_eq_true, List.append_nil, beq_iff_eq, reduceCtorEq, List.getD_cons_zero, List.getD_cons_succ, loadA, rowA, pickA, bslA, storeA_eq, decide_true, flatA, List.length_cons, List.length_nil, Nat.reduceAdd, List.flatMap_cons, List.flatMap_nil, BEq.rfl, List.cons_append, List.nil_append, if_pos, if_neg, ordered, List.getElem?_cons_zero, List.getElem?_cons_succ, frzL, nidL, frz_func, frz_agg, frz_tup, frz_iface, fresh_func, fresh_agg, fresh_tup, fresh_iface, frz_ptr, frz_sl, fresh_sl, Cls.isFree, Cls.makes, callCls, chain, cond_true, tz, ty, faddrA, allocA, over, List.take_succ_cons, List.take_zero, List.drop_succ_cons, List.drop_zero, List.drop_nil, List.set_cons_zero, List.set_cons_succ, Nat.reduceLeDiff, and_self, nV, isNilA]; rfl) ?_
    exact ⟨_, rfl, rfl⟩
  | some a =>
    obtain ⟨p, f⟩ := a
    simp only [nSmall] at h
    exact pStates p f (by omega)

def H0 : Tab := G1.addO 54 (.cons .nfa .nil) fun p => if nSmall p.1 then some (.rd true (.int .i64 (nN p.1))) else none
theorem H0_ok : TabOk Try.prog H0 := by
  refine TabOk.addO G1_ok ?_
  intro p r h
  split at h
  · rename_i hs
    cases h
    exact pStatesV p.1 hs
  · cases h
theorem H0_states (x : Option (List UInt8 × Bool)) (h : nSmall x) : H0 54 [nV x] = some (.rd true (.int .i64 (nN x))) := by
  refine (Tab.addO_self _ _ (.cons .nfa .nil) _ (x, ())).trans ?_
  rw [if_pos h]

theorem pStart (p : List UInt8) (f : Bool) (h0 : p ≠ []) (hl : p.length ≤ 1000000) : PCF Try.prog 110 [nP p f] (encT.S (rowB (p.length + 1) (startS p))) := by
  refine pcf_e hmG H0_ok comp110 (by decide) (by simp) (nidL_ok rfl) ?_
  have hN : nN (some (p, f)) = p.length + 1 := by simp [nN, nSt, h0]
  have hS := H0_states (some (p, f)) hl
  rw [hN] at hS
  simp only [nV] at hS
  refine vcE.step (by simp only [exC, exOps, exOp, evE, evsE, putE, wantedE, Nat.reduceEqDiff, ↓reduceIte, ROp.run, same, binA, intA, strA, eqA, indexSA, byteA, unA, bounds3, Option.map_some, Option.map_none, dec_true, dec_false, Int.toNat_natCast, Int.natCast_nonneg, beq_self_eq_true, List.append_nil, beq_iff_eq, reduceCtorEq, List.getD_cons_zero, List.getD_cons_succ, loadA, rowA, pickA, bslA, storeA_eq, decide_true, flatA, List.length_cons, List.length_nil, Nat.reduceAdd, List.flatMap_cons, List.flatMap_nil, BEq.rfl, List.cons_append, List.nil_append, if_pos, if_neg, ordered, List.getElem?_cons_zero, List.getElem?_cons_succ, frzL, nidL, frz_func, frz_agg, frz_tup, frz_iface, fresh_func, fresh_agg, fresh_tup, fresh_iface, frz_ptr, frz_sl, fresh_sl, Cls.isFree, Cls.makes, callCls, chain, cond_true, tz, ty]; rfl) (vcE.step (by simp (disch := omega) only [exC, exOps, exOp, evE, evsE, putE, wantedE, Nat.reduceEqDiff, ↓reduceIte, ROp.run, same, binA, intA, strA, eqA, indexSA, byteA, unA, bounds3, Option.map_some, Option.map_none, dec_true, dec_false, Int.toNat_natCast, Int.natCast_nonneg, beq_self_eq_true, List.append_nil, beq_iff_eq, reduceCtorEq, List.getD_cons_zero, List.getD_cons_succ, loadA, rowA, pickA, bslA, storeA_eq, decide_true, flatA, List.length_cons, List.length_nil, Nat.reduceAdd, List.flatMap_cons, List.flatMap_nil, BEq.rfl, List.cons_append, List.nil_append, if_pos, if_neg, ordered, List.getElem?_cons_zero, List.getElem?_cons_succ, frzL, nidL, frz_func, frz_agg, frz_tup, frz_iface, fresh_func, fresh_agg, fresh_tup, fresh_iface, frz_ptr, frz_sl, fresh_sl, Cls.isFree, Cls.makes, callCls, chain, cond_true, tz, ty, hS, make_row, nP_nid, show ∀ hp, frz hp (nP p f) = some (nP p f) from fun _ => rfl]; rfl) ?_)
  refine vcE.seq (vcE.step (by simp (disch := omega) only [exC, exOps, exOp, evE, evsE, putE, wantedE, Nat.reduceEqDiff, ↓reduceIte, ROp.run, same, binA, intA, strA, eqA, indexSA, byteA, unA, bounds3, Option.map_some, Option.map_none, dec_true, dec_false, Int.toNat_natCast, Int.natCast_nonneg, beq_self_eq_true, List.append_nil, beq_iff_eq, reduceCtorEq, List.getD_cons_zero, List.getD_cons_succ, loadA, rowA, pickA, bslA, storeA_eq, decide_true, flatA, List.length_cons, List.length_nil, Nat.reduceAdd, List.flatMap_cons, List.flatMap_nil, BEq.rfl, List.cons_append, List.nil_append, if_pos, if_neg, ordered, List.getElem?_cons_zero, List.getElem?_cons_succ, frzL, nidL, frz_func, frz_agg, frz_tup, frz_iface, fresh_func, fresh_agg, fresh_tup, fresh_iface, frz_ptr, frz_sl, fresh_sl, Cls.isFree, Cls.makes, callCls, chain, cond_true, tz, ty]; rfl) (vcE.condTrue (by simp (disch := omega) only [exC, exOps, exOp, evE, evsE, putE, wantedE, Nat.reduceEqDiff, ↓reduceIte, ROp.run, same, binA, intA, strA, eqA, indexSA, byteA, unA, bounds3, Option.map_some, Option.map_none, dec_true, dec_false, Int.toNat_natCast, Int.natCast_nonneg, beq_self_eq_true, List.append_nil, beq_iff_eq, reduceCtorEq, List.getD_cons_zero, List.getD_cons_succ, loadA, rowA, pickA, bslA, storeA_eq, decide_true, flatA, List.length_cons, List.length_nil, Nat.reduceAdd, List.flatMap_cons, List.flatMap_nil, BEq.rfl, List.cons_append, List.nil_append, if_pos, if_neg, ordered, List.getElem?_cons_zero, List.getElem?_cons_succ, frzL, nidL, frz_func, frz_agg, frz_tup, frz_iface, fresh_func, fresh_agg, fresh_tup, fresh_iface, frz_ptr, frz_sl, fresh_sl, Cls.isFree, Cls.makes, callCls, chain, cond_true, tz, ty]) ?_))
  rw [show r110_3 = r110_3.take 2 ++ r110_3.drop 2 from rfl]
  refine vcE.app (vcE.ex (by simp (disch := omega) only [exC, exOps, exOp, evE, evsE, putE, wantedE, Nat.reduceEqDiff, ↓reduceIte, ROp.run, same, binA, intA, strA, eqA, indexSA, byteA, unA, bounds3, Option.map_some, Option.map_none, dec_true, dec_false, Int.toNat_natCast, Int.natCast_nonneg, beq_self_eq_true, List.append_nil, beq_iff_eq, reduceCtorEq, List.getD_cons_zero, List.getD_cons_succ, loadA, rowA, pickA, bslA, storeA_eq, decide_true, flatA, List.length_cons, List.length_nil, Nat.reduceAdd, List.flatMap_cons, List.flatMap_nil, BEq.rfl, List.cons_append, List.nil_append, if_pos, if_neg, ordered, List.getElem?_cons_zero, List.getElem?_cons_succ, frzL, nidL, frz_func, frz_agg, frz_tup, frz_iface, fresh_func, fresh_agg, fresh_tup, fresh_iface, frz_ptr, frz_sl, fresh_sl, Cls.isFree, Cls.makes, callCls, chain, cond_true, tz, ty, faddrA, allocA, over, List.take_succ_cons, List.take_zero, List.drop_succ_cons, List.drop_zero, List.drop_nil, List.set_cons_zero, List.set_cons_succ, Nat.reduceLeDiff, and_self]; rfl) ⟨rfl, vcE.call (f := 127) (caps := []) (ys := [nP p f, .sl 0 0 (p.length + 1) 1 (p.length + 1) true, .int .i64 0]) rfl ?_ (cCome p f (by omega) (hp := [rowBlk (p.length + 1) fun _ => false]) (id := 0) (a := 0) rfl (by omega)) ?_⟩)
  · rfl
  · rintro r hp' rfl
    refine vcE.ex (by simp (disch := omega) only [exC, exOps, exOp, evE, evsE, putE, wantedE, Nat.reduceEqDiff, ↓reduceIte, ROp.run, same, binA, intA, strA, eqA, indexSA, byteA, unA, bounds3, Option.map_some, Option.map_none, dec_true, dec_false, Int.toNat_natCast, Int.natCast_nonneg, beq_self_eq_true, List.append_nil, beq_iff_eq, reduceCtorEq, List.getD_cons_zero, List.getD_cons_succ, loadA, rowA, pickA, bslA, storeA_eq, decide_true, flatA, List.length_cons, List.length_nil, Nat.reduceAdd, List.flatMap_cons, List.flatMap_nil, BEq.rfl, List.cons_append, List.nil_append, if_pos, if_neg, ordered, List.getElem?_cons_zero, List.getElem?_cons_succ, frzL, nidL, frz_func, frz_agg, frz_tup, frz_iface, fresh_func, fresh_agg, fresh_tup, fresh_iface, frz_ptr, frz_sl, fresh_sl, Cls.isFree, Cls.makes, callCls, chain, cond_true, tz, ty]; rfl) ?_
    refine ⟨_, rfl, ?_⟩
    refine (rowBlk_fresh (N := p.length + 1) (b := fun j => false || rch p 0 j) (by rfl)).trans ?_
    simp only [Bool.false_or, rch, startS]

/-- A list's numbers, as places. -/
def ofS (l : List Int) (j : Nat) : Bool := decide ((j : Int) ∈ l)
theorem pOf (x : Option (List UInt8 × Bool)) (hx : nSmall x) (l : List Int) (hl : l.length ≤ 1000000) : PCF Try.prog 108 [nV x, encI.S l] (encT.S (rowB (nN x) (ofS l))) := by
  refine pcf_e hmG H0_ok comp108 (by decide) (by simp) (nidL_ok (by simp only [nidL, nV_nid, Enc.S_nid, Bool.and_self])) ?_
  have hS := H0_states x hx
  have hN := nN_small hx
  have hnid := nV_nid x
  have hfz : ∀ hp, frz hp (nV x) = some (nV x) := fun hp => by
    cases x with
    | none => rfl
    | some a => rfl
  refine vcE.step (by simp only [exC, exOps, exOp, evE, evsE, putE, wantedE, Nat.reduceEqDiff, ↓reduceIte, ROp.run, same, binA, intA, strA, eqA, indexSA, byteA, unA, bounds3, Option.map_some, Option.map_none, dec_true, dec_false, Int.toNat_natCast, Int.natCast_nonneg, beq_self_eq_true, List.append_nil, beq_iff_eq, reduceCtorEq, List.getD_cons_zero, List.getD_cons_succ, loadA, rowA, pickA, bslA, storeA_eq, decide_true, flatA, List.length_cons, List.length_nil, Nat.reduceAdd, List.flatMap_cons, List.flatMap_nil, BEq.rfl, List.cons_append, List.nil_append, if_pos, if_neg, ordered, List.getElem?_cons_zero, List.getElem?_cons_succ, frzL, nidL, frz_func, frz_agg, frz_tup, frz_iface, fresh_func, fresh_agg, fresh_tup, fresh_iface, frz_ptr, frz_sl, fresh_sl, Cls.isFree, Cls.makes, callCls, chain, cond_true, tz, ty]; rfl) (vcE.step (by simp (disch := omega) only [exC, exOps, exOp, evE, evsE, putE, wantedE, Nat.reduceEqDiff, ↓reduceIte, ROp.run, same, binA, intA, strA, eqA, indexSA, byteA, unA, bounds3, Option.map_some, Option.map_none, dec_true, dec_false, Int.toNat_natCast, Int.natCast_nonneg, beq_self_eq_true, List.append_nil, beq_iff_eq, reduceCtorEq, List.getD_cons_zero, List.getD_cons_succ, loadA, rowA, pickA, bslA, storeA_eq, decide_true, flatA, List.length_cons, List.length_nil, Nat.reduceAdd, List.flatMap_cons, List.flatMap_nil, BEq.rfl, List.cons_append, List.nil_append, if_pos, if_neg, ordered, List.getElem?_cons_zero, List.getElem?_cons_succ, frzL, nidL, frz_func, frz_agg, frz_tup, frz_iface, fresh_func, fresh_agg, fresh_tup, fresh_iface, frz_ptr, frz_sl, fresh_sl, Cls.isFree, Cls.makes, callCls, chain, cond_true, tz, ty, hS, hnid, hfz, make_row]; rfl) (vcE.then (fun e tm hp => e = .normal ∧ tm 5 = .sl 0 0 (nN x) 1 (nN x) true ∧ hp = [rowBlk (nN x) (ofS l)]) ?_ ?_))
  · refine vcE.step (by simp only [exC, exOps, exOp, evE, evsE, putE, wantedE, Nat.reduceEqDiff, ↓reduceIte, ROp.run, same, binA, intA, strA, eqA, indexSA, byteA, unA, bounds3, Option.map_some, Option.map_none, dec_true, dec_false, Int.toNat_natCast, Int.natCast_nonneg, beq_self_eq_true, List.append_nil, beq_iff_eq, reduceCtorEq, List.getD_cons_zero, List.getD_cons_succ, loadA, rowA, pickA, bslA, storeA_eq, decide_true, flatA, List.length_cons, List.length_nil, Nat.reduceAdd, List.flatMap_cons, List.flatMap_nil, BEq.rfl, List.cons_append, List.nil_append, if_pos, if_neg, ordered, List.getElem?_cons_zero, List.getElem?_cons_succ, frzL, nidL, frz_func, frz_agg, frz_tup, frz_iface, fresh_func, fresh_agg, fresh_tup, fresh_iface, frz_ptr, frz_sl, fresh_sl, Cls.isFree, Cls.makes, callCls, chain, cond_true, tz, ty]; rfl) (vcE.block (vcE.count (by intro l tm hp h; simp at h)
      (fun i tm hp => tm 5 = .sl 0 0 (nN x) 1 (nN x) true ∧ tm 11 = encI.S l ∧ tm 12 = .int .i64 l.length ∧ tm 13 = .int .i64 i ∧ hp = [rowBlk (nN x) (ofS (l.take i))]) l.length ⟨?_, ?_, ?_, ?_, ?_⟩ ?_ ?_))
    · rfl
    · rfl
    · rfl
    · rfl
    · rfl
    · rintro i tm hp hi ⟨e5, e11, e12, e13, rfl⟩
      obtain ⟨a, ha⟩ : ∃ a, l[i]? = some a := ⟨_, List.getElem?_eq_getElem hi⟩
      have hia : iaddrA 1 (encI.S l) (.int .i64 i) = some (.fptr (encI.cs l) i) := by
        have := encI.S_iaddr (k := .i64) hi
        simpa [encI] using this
      have hpick := encI.pick1 (l := l) rfl ha (v := .int .i64 a) rfl rfl
      have htk : l.take (i + 1) = l.take i ++ [a] := by rw [List.take_add_one, ha]; rfl
      have hsame : ¬ (0 ≤ a ∧ a < nN x) → rowBlk (nN x) (ofS (l.take (i + 1))) = rowBlk (nN x) (ofS (l.take i)) := fun hn => by
        refine rowBlk_congr fun j hj => ?_
        simp only [ofS, htk, List.mem_append, List.mem_singleton]
        congr 1
        apply propext
        constructor
        · rintro (h | h)
          · exact h
          · omega
        · exact .inl
      by_cases h1 : 0 ≤ a
      · by_cases h2 : a < nN x
        · obtain ⟨n, rfl⟩ : ∃ n : Nat, a = n := ⟨a.toNat, by omega⟩
          have hst := rowBlk_store (hp := [rowBlk (nN x) (ofS (l.take i))]) (id := 0) (N := nN x) (i := n) rfl (by omega)
          refine vcE.ex (by simp (disch := omega) only [exC, exOps, exOp, evE, evsE, putE, wantedE, Nat.reduceEqDiff, ↓reduceIte, ROp.run, same, binA, intA, strA, eqA, indexSA, byteA, unA, bounds3, Option.map_some, Option.map_none, dec_true, dec_false, Int.toNat_natCast, Int.natCast_nonneg, beq_self_eq_true, List.append_nil, beq_iff_eq, reduceCtorEq, List.getD_cons_zero, List.getD_cons_succ, loadA, rowA, pickA, bslA, storeA_eq, decide_true, flatA, List.length_cons, List.length_nil, Nat.reduceAdd, List.flatMap_cons, List.flatMap_nil, BEq.rfl, List.cons_append, List.nil_append, if_pos, if_neg, ordered, List.getElem?_cons_zero, List.getElem?_cons_succ, frzL, nidL, frz_func, frz_agg, frz_tup, frz_iface, fresh_func, fresh_agg, fresh_tup, fresh_iface, frz_ptr, frz_sl, fresh_sl, Cls.isFree, Cls.makes, callCls, chain, cond_true, tz, ty, faddrA, allocA, over, List.take_succ_cons, List.take_zero, List.drop_succ_cons, List.drop_zero, List.drop_nil, List.set_cons_zero, List.set_cons_succ, Nat.reduceLeDiff, and_self, e5, e11, e12, e13, hia, ↓hpick, iaddr_sl1, ↓hst]; rfl) ?_
          refine ⟨?_, ?_, ?_, ?_, ?_⟩
          · simp only [upd_app, Nat.reduceEqDiff, ↓reduceIte, e5]
          · simp only [upd_app, Nat.reduceEqDiff, ↓reduceIte, e11]
          · simp only [upd_app, Nat.reduceEqDiff, ↓reduceIte, e12]
          · simp only [upd_app, Nat.reduceEqDiff, ↓reduceIte]; rfl
          · refine congrArg (fun b => [b]) (rowBlk_congr fun j hj => ?_)
            simp only [ofS, htk, List.mem_append, List.mem_singleton]
            rw [Bool.eq_iff_iff]
            simp only [Bool.or_eq_true, decide_eq_true_eq]
            constructor
            · rintro (h | h)
              · exact .inl h
              · exact .inr (by omega)
            · rintro (h | h)
              · exact .inl h
              · exact .inr (by omega)
        · refine vcE.ex (by simp (disch := omega) only [exC, exOps, exOp, evE, evsE, putE, wantedE, Nat.reduceEqDiff, ↓reduceIte, ROp.run, same, binA, intA, strA, eqA, indexSA, byteA, unA, bounds3, Option.map_some, Option.map_none, dec_true, dec_false, Int.toNat_natCast, Int.natCast_nonneg, beq_self_eq_true, List.append_nil, beq_iff_eq, reduceCtorEq, List.getD_cons_zero, List.getD_cons_succ, loadA, rowA, pickA, bslA, storeA_eq, decide_true, flatA, List.length_cons, List.length_nil, Nat.reduceAdd, List.flatMap_cons, List.flatMap_nil, BEq.rfl, List.cons_append, List.nil_append, if_pos, if_neg, ordered, List.getElem?_cons_zero, List.getElem?_cons_succ, frzL, nidL, frz_func, frz_agg, frz_tup, frz_iface, fresh_func, fresh_agg, fresh_tup, fresh_iface, frz_ptr, frz_sl, fresh_sl, Cls.isFree, Cls.makes, callCls, chain, cond_true, tz, ty, faddrA, allocA, over, List.take_succ_cons, List.take_zero, List.drop_succ_cons, List.drop_zero, List.drop_nil, List.set_cons_zero, List.set_cons_succ, Nat.reduceLeDiff, and_self, e5, e11, e12, e13, hia, ↓hpick]; rfl) ?_
          refine ⟨?_, ?_, ?_, ?_, ?_⟩
          · simp only [upd_app, Nat.reduceEqDiff, ↓reduceIte, e5]
          · simp only [upd_app, Nat.reduceEqDiff, ↓reduceIte, e11]
          · simp only [upd_app, Nat.reduceEqDiff, ↓reduceIte, e12]
          · simp only [upd_app, Nat.reduceEqDiff, ↓reduceIte]; rfl
          · rw [hsame (by omega)]
      · refine vcE.ex (by simp (disch := omega) only [exC, exOps, exOp, evE, evsE, putE, wantedE, Nat.reduceEqDiff, ↓reduceIte, ROp.run, same, binA, intA, strA, eqA, indexSA, byteA, unA, bounds3, Option.map_some, Option.map_none, dec_true, dec_false, Int.toNat_natCast, Int.natCast_nonneg, beq_self_eq_true, List.append_nil, beq_iff_eq, reduceCtorEq, List.getD_cons_zero, List.getD_cons_succ, loadA, rowA, pickA, bslA, storeA_eq, decide_true, flatA, List.length_cons, List.length_nil, Nat.reduceAdd, List.flatMap_cons, List.flatMap_nil, BEq.rfl, List.cons_append, List.nil_append, if_pos, if_neg, ordered, List.getElem?_cons_zero, List.getElem?_cons_succ, frzL, nidL, frz_func, frz_agg, frz_tup, frz_iface, fresh_func, fresh_agg, fresh_tup, fresh_iface, frz_ptr, frz_sl, fresh_sl, Cls.isFree, Cls.makes, callCls, chain, cond_true, tz, ty, faddrA, allocA, over, List.take_succ_cons, List.take_zero, List.drop_succ_cons, List.drop_zero, List.drop_nil, List.set_cons_zero, List.set_cons_succ, Nat.reduceLeDiff, and_self, e5, e11, e12, e13, hia, ↓hpick]; rfl) ?_
        refine ⟨?_, ?_, ?_, ?_, ?_⟩
        · simp only [upd_app, Nat.reduceEqDiff, ↓reduceIte, e5]
        · simp only [upd_app, Nat.reduceEqDiff, ↓reduceIte, e11]
        · simp only [upd_app, Nat.reduceEqDiff, ↓reduceIte, e12]
        · simp only [upd_app, Nat.reduceEqDiff, ↓reduceIte]; rfl
        · rw [hsame (by omega)]
    · rintro tm hp ⟨e5, e11, e12, e13, rfl⟩
      refine vcE.ex (by simp (disch := omega) only [exC, exOps, exOp, evE, evsE, putE, wantedE, Nat.reduceEqDiff, ↓reduceIte, ROp.run, same, binA, intA, strA, eqA, indexSA, byteA, unA, bounds3, Option.map_some, Option.map_none, dec_true, dec_false, Int.toNat_natCast, Int.natCast_nonneg, beq_self_eq_true, List.append_nil, beq_iff_eq, reduceCtorEq, List.getD_cons_zero, List.getD_cons_succ, loadA, rowA, pickA, bslA, storeA_eq, decide_true, flatA, List.length_cons, List.length_nil, Nat.reduceAdd, List.flatMap_cons, List.flatMap_nil, BEq.rfl, List.cons_append, List.nil_append, if_pos, if_neg, ordered, List.getElem?_cons_zero, List.getElem?_cons_succ, frzL, nidL, frz_func, frz_agg, frz_tup, frz_iface, fresh_func, fresh_agg, fresh_tup, fresh_iface, frz_ptr, frz_sl, fresh_sl, Cls.isFree, Cls.makes, callCls, chain, cond_true, tz, ty, e12, e13]; rfl) ?_
      refine ⟨rfl, ?_, ?_⟩
      · simp only [upd_app, Nat.reduceEqDiff, ↓reduceIte, e5]
      · rw [List.take_length]
  · rintro e tm hp ⟨rfl, h5, rfl⟩
    refine vcE.ex (by simp only [exC, exOps, exOp, evE, evsE, putE, wantedE, Nat.reduceEqDiff, ↓reduceIte, ROp.run, same, binA, intA, strA, eqA, indexSA, byteA, unA, bounds3, Option.map_some, Option.map_none, dec_true, dec_false, Int.toNat_natCast, Int.natCast_nonneg, beq_self_eq_true, List.append_nil, beq_iff_eq, reduceCtorEq, List.getD_cons_zero, List.getD_cons_succ, loadA, rowA, pickA, bslA, storeA_eq, decide_true, flatA, List.length_cons, List.length_nil, Nat.reduceAdd, List.flatMap_cons, List.flatMap_nil, BEq.rfl, List.cons_append, List.nil_append, if_pos, if_neg, ordered, List.getElem?_cons_zero, List.getElem?_cons_succ, frzL, nidL, frz_func, frz_agg, frz_tup, frz_iface, fresh_func, fresh_agg, fresh_tup, fresh_iface, frz_ptr, frz_sl, fresh_sl, Cls.isFree, Cls.makes, callCls, chain, cond_true, tz, ty, h5]; rfl) ?_
    refine ⟨_, rfl, ?_⟩
    exact rowBlk_fresh (N := nN x) (id := 0) rfl


theorem row_load {hp : HP} {id N lo i : Nat} {b : Nat → Bool} {ex : Bool} (h : hp[id]? = some (rowBlk N b)) (hi : i < N) : loadA hp none (.ptr id i) = some (.bool (b i)) :=
  encT.sl_load1 (l := rowB N b) (e := 4) rfl h (rowB_get hi) rfl rfl
theorem encT_iaddr {R : List Bool} {i : Nat} {k : IntKind} (h : i < R.length) : iaddrA 1 (encT.S R) (.int k i) = some (.fptr (encT.cs R) i) := by
  have := encT.S_iaddr (k := k) h
  simpa [encT] using this
theorem encI_iaddr {R : List Int} {i : Nat} {k : IntKind} (h : i < R.length) : iaddrA 1 (encI.S R) (.int k i) = some (.fptr (encI.cs R) i) := by
  have := encI.S_iaddr (k := k) h
  simpa [encI] using this

/-! ### A row's places, one by one -/
/-- The iterator over a row: J at each place, S behind a stop. -/
theorem cAll {R : List Bool} (hR : R.length ≤ 4611686018427387904) {id : Nat} {J : Nat → HP → Prop} {S : HP → Prop} {hp0 : HP} (h0 : J 0 hp0)
    (hstep : ∀ i hp, R[i]? = some true → J i hp → ARound Try.prog id [.int .i64 i] hp fun r hp' => (r = .bool true ∧ J (i + 1) hp') ∨ (r = .bool false ∧ S hp')) (hskip : ∀ i hp, R[i]? = some false → J i hp → J (i + 1) hp) :
    ACalls Try.prog 137 [.yld id, .fptr [encT.S R] 0] hp0 fun _ hp' => J R.length hp' ∨ S hp' := by
  refine calls_e hmG (TabOk.none _) comp137 (by decide) (by simp) ?_
  refine vcE.step (by simp (disch := omega) only [exC, exOps, exOp, evE, evsE, putE, wantedE, Nat.reduceEqDiff, ↓reduceIte, ROp.run, same, binA, intA, strA, eqA, indexSA, byteA, unA, bounds3, Option.map_some, Option.map_none, dec_true, dec_false, Int.toNat_natCast, Int.natCast_nonneg, beq_self_eq_true, List.append_nil, beq_iff_eq, reduceCtorEq, List.getD_cons_zero, List.getD_cons_succ, loadA, rowA, pickA, bslA, storeA_eq, decide_true, flatA, List.length_cons, List.length_nil, Nat.reduceAdd, List.flatMap_cons, List.flatMap_nil, BEq.rfl, List.cons_append, List.nil_append, if_pos, if_neg, ordered, List.getElem?_cons_zero, List.getElem?_cons_succ, frzL, nidL, frz_func, frz_agg, frz_tup, frz_iface, fresh_func, fresh_agg, fresh_tup, fresh_iface, frz_ptr, frz_sl, fresh_sl, Cls.isFree, Cls.makes, callCls, chain, cond_true, tz, ty]; rfl) (vcE.block (vcE.count (by intro l tm hp h; simp [RetE] at h) (fun i tm hp => J i hp ∧ tm 0 = .yld id ∧ tm 5 = encT.S R ∧ tm 6 = .int .i64 R.length ∧ tm 7 = .int .i64 i) R.length ⟨h0, ?_, ?_, ?_, ?_⟩ ?_ ?_))
  · rfl
  · rfl
  · rfl
  · rfl
  · rintro i tm hp hi ⟨hJ, e0, e5, e6, e7⟩
    obtain ⟨c, hc⟩ : ∃ c, R[i]? = some c := ⟨_, List.getElem?_eq_getElem hi⟩
    have hpick := encT.pick1 (l := R) rfl hc (v := .bool c) rfl rfl
    have hia := encT_iaddr (k := .i64) hi
    cases c
    · refine vcE.ex (by simp (disch := omega) only [exC, exOps, exOp, evE, evsE, putE, wantedE, Nat.reduceEqDiff, ↓reduceIte, ROp.run, same, binA, intA, strA, eqA, indexSA, byteA, unA, bounds3, Option.map_some, Option.map_none, dec_true, dec_false, Int.toNat_natCast, Int.natCast_nonneg, beq_self_eq_true, List.append_nil, beq_iff_eq, reduceCtorEq, List.getD_cons_zero, List.getD_cons_succ, loadA, rowA, pickA, bslA, storeA_eq, decide_true, flatA, List.length_cons, List.length_nil, Nat.reduceAdd, List.flatMap_cons, List.flatMap_nil, BEq.rfl, List.cons_append, List.nil_append, if_pos, if_neg, ordered, List.getElem?_cons_zero, List.getElem?_cons_succ, frzL, nidL, frz_func, frz_agg, frz_tup, frz_iface, fresh_func, fresh_agg, fresh_tup, fresh_iface, frz_ptr, frz_sl, fresh_sl, Cls.isFree, Cls.makes, callCls, chain, cond_true, tz, ty, faddrA, allocA, over, List.take_succ_cons, List.take_zero, List.drop_succ_cons, List.drop_zero, List.drop_nil, List.set_cons_zero, List.set_cons_succ, Nat.reduceLeDiff, and_self, e0, e5, e6, e7, hia, ↓hpick]; rfl) ?_
      refine ⟨hskip i hp hc hJ, ?_, ?_, ?_, ?_⟩
      all_goals simp only [upd_app, Nat.reduceEqDiff, ↓reduceIte, e0, e5, e6]
      rfl
    · refine vcE.step (by simp (disch := omega) only [exC, exOps, exOp, evE, evsE, putE, wantedE, Nat.reduceEqDiff, ↓reduceIte, ROp.run, same, binA, intA, strA, eqA, indexSA, byteA, unA, bounds3, Option.map_some, Option.map_none, dec_true, dec_false, Int.toNat_natCast, Int.natCast_nonneg, beq_self_eq_true, List.append_nil, beq_iff_eq, reduceCtorEq, List.getD_cons_zero, List.getD_cons_succ, loadA, rowA, pickA, bslA, storeA_eq, decide_true, flatA, List.length_cons, List.length_nil, Nat.reduceAdd, List.flatMap_cons, List.flatMap_nil, BEq.rfl, List.cons_append, List.nil_append, if_pos, if_neg, ordered, List.getElem?_cons_zero, List.getElem?_cons_succ, frzL, nidL, frz_func, frz_agg, frz_tup, frz_iface, fresh_func, fresh_agg, fresh_tup, fresh_iface, frz_ptr, frz_sl, fresh_sl, Cls.isFree, Cls.makes, callCls, chain, cond_true, tz, ty, e6, e7]; rfl) (vcE.step (by simp (disch := omega) only [exC, exOps, exOp, evE, evsE, putE, wantedE, Nat.reduceEqDiff, ↓reduceIte, ROp.run, same, binA, intA, strA, eqA, indexSA, byteA, unA, bounds3, Option.map_some, Option.map_none, dec_true, dec_false, Int.toNat_natCast, Int.natCast_nonneg, beq_self_eq_true, List.append_nil, beq_iff_eq, reduceCtorEq, List.getD_cons_zero, List.getD_cons_succ, loadA, rowA, pickA, bslA, storeA_eq, decide_true, flatA, List.length_cons, List.length_nil, Nat.reduceAdd, List.flatMap_cons, List.flatMap_nil, BEq.rfl, List.cons_append, List.nil_append, if_pos, if_neg, ordered, List.getElem?_cons_zero, List.getElem?_cons_succ, frzL, nidL, frz_func, frz_agg, frz_tup, frz_iface, fresh_func, fresh_agg, fresh_tup, fresh_iface, frz_ptr, frz_sl, fresh_sl, Cls.isFree, Cls.makes, callCls, chain, cond_true, tz, ty]; rfl) ?_)
      refine vcE.seq (vcE.block (vcE.step (by simp (disch := omega) only [exC, exOps, exOp, evE, evsE, putE, wantedE, Nat.reduceEqDiff, ↓reduceIte, ROp.run, same, binA, intA, strA, eqA, indexSA, byteA, unA, bounds3, Option.map_some, Option.map_none, dec_true, dec_false, Int.toNat_natCast, Int.natCast_nonneg, beq_self_eq_true, List.append_nil, beq_iff_eq, reduceCtorEq, List.getD_cons_zero, List.getD_cons_succ, loadA, rowA, pickA, bslA, storeA_eq, decide_true, flatA, List.length_cons, List.length_nil, Nat.reduceAdd, List.flatMap_cons, List.flatMap_nil, BEq.rfl, List.cons_append, List.nil_append, if_pos, if_neg, ordered, List.getElem?_cons_zero, List.getElem?_cons_succ, frzL, nidL, frz_func, frz_agg, frz_tup, frz_iface, fresh_func, fresh_agg, fresh_tup, fresh_iface, frz_ptr, frz_sl, fresh_sl, Cls.isFree, Cls.makes, callCls, chain, cond_true, tz, ty, faddrA, allocA, over, List.take_succ_cons, List.take_zero, List.drop_succ_cons, List.drop_zero, List.drop_nil, List.set_cons_zero, List.set_cons_succ, Nat.reduceLeDiff, and_self, e0, e5, e6, e7, hia, ↓hpick]; rfl) (vcE.seq ?_)))
      rw [show r137_3 = r137_3.take 4 ++ ((r137_3.drop 4).take 1 ++ r137_3.drop 5) from rfl]
      refine vcE.app (vcE.ex (by simp (disch := omega) only [exC, exOps, exOp, evE, evsE, putE, wantedE, Nat.reduceEqDiff, ↓reduceIte, ROp.run, same, binA, intA, strA, eqA, indexSA, byteA, unA, bounds3, Option.map_some, Option.map_none, dec_true, dec_false, Int.toNat_natCast, Int.natCast_nonneg, beq_self_eq_true, List.append_nil, beq_iff_eq, reduceCtorEq, List.getD_cons_zero, List.getD_cons_succ, loadA, rowA, pickA, bslA, storeA_eq, decide_true, flatA, List.length_cons, List.length_nil, Nat.reduceAdd, List.flatMap_cons, List.flatMap_nil, BEq.rfl, List.cons_append, List.nil_append, if_pos, if_neg, ordered, List.getElem?_cons_zero, List.getElem?_cons_succ, frzL, nidL, frz_func, frz_agg, frz_tup, frz_iface, fresh_func, fresh_agg, fresh_tup, fresh_iface, frz_ptr, frz_sl, fresh_sl, Cls.isFree, Cls.makes, callCls, chain, cond_true, tz, ty, faddrA, allocA, over, List.take_succ_cons, List.take_zero, List.drop_succ_cons, List.drop_zero, List.drop_nil, List.set_cons_zero, List.set_cons_succ, Nat.reduceLeDiff, and_self]; rfl) ⟨rfl, vcE.app (vcE.callY (id := id) (ys := [.int .i64 i]) ?_ ?_ (hstep i hp hc hJ) ?_)⟩)
      · simp only [wantedE, upd_app, Nat.reduceEqDiff, ↓reduceIte]
        rfl
      · simp only [evsE, evE, upd_app, Nat.reduceEqDiff, ↓reduceIte, e0]
      · rintro r hp' (⟨rfl, hJ'⟩ | ⟨rfl, hS⟩)
        · refine ⟨rfl, vcE.ex (by simp (disch := omega) only [exC, exOps, exOp, evE, evsE, putE, wantedE, Nat.reduceEqDiff, ↓reduceIte, ROp.run, same, binA, intA, strA, eqA, indexSA, byteA, unA, bounds3, Option.map_some, Option.map_none, dec_true, dec_false, Int.toNat_natCast, Int.natCast_nonneg, beq_self_eq_true, List.append_nil, beq_iff_eq, reduceCtorEq, List.getD_cons_zero, List.getD_cons_succ, loadA, rowA, pickA, bslA, storeA_eq, decide_true, flatA, List.length_cons, List.length_nil, Nat.reduceAdd, List.flatMap_cons, List.flatMap_nil, BEq.rfl, List.cons_append, List.nil_append, if_pos, if_neg, ordered, List.getElem?_cons_zero, List.getElem?_cons_succ, frzL, nidL, frz_func, frz_agg, frz_tup, frz_iface, fresh_func, fresh_agg, fresh_tup, fresh_iface, frz_ptr, frz_sl, fresh_sl, Cls.isFree, Cls.makes, callCls, chain, cond_true, tz, ty, faddrA, allocA, over, List.take_succ_cons, List.take_zero, List.drop_succ_cons, List.drop_zero, List.drop_nil, List.set_cons_zero, List.set_cons_succ, Nat.reduceLeDiff, and_self]; rfl) ?_⟩
          refine vcE.ex (by simp (disch := omega) only [exC, exOps, exOp, evE, evsE, putE, wantedE, Nat.reduceEqDiff, ↓reduceIte, ROp.run, same, binA, intA, strA, eqA, indexSA, byteA, unA, bounds3, Option.map_some, Option.map_none, dec_true, dec_false, Int.toNat_natCast, Int.natCast_nonneg, beq_self_eq_true, List.append_nil, beq_iff_eq, reduceCtorEq, List.getD_cons_zero, List.getD_cons_succ, loadA, rowA, pickA, bslA, storeA_eq, decide_true, flatA, List.length_cons, List.length_nil, Nat.reduceAdd, List.flatMap_cons, List.flatMap_nil, BEq.rfl, List.cons_append, List.nil_append, if_pos, if_neg, ordered, List.getElem?_cons_zero, List.getElem?_cons_succ, frzL, nidL, frz_func, frz_agg, frz_tup, frz_iface, fresh_func, fresh_agg, fresh_tup, fresh_iface, frz_ptr, frz_sl, fresh_sl, Cls.isFree, Cls.makes, callCls, chain, cond_true, tz, ty]; rfl) ?_
          refine vcE.ex (by simp (disch := omega) only [exC, exOps, exOp, evE, evsE, putE, wantedE, Nat.reduceEqDiff, ↓reduceIte, ROp.run, same, binA, intA, strA, eqA, indexSA, byteA, unA, bounds3, Option.map_some, Option.map_none, dec_true, dec_false, Int.toNat_natCast, Int.natCast_nonneg, beq_self_eq_true, List.append_nil, beq_iff_eq, reduceCtorEq, List.getD_cons_zero, List.getD_cons_succ, loadA, rowA, pickA, bslA, storeA_eq, decide_true, flatA, List.length_cons, List.length_nil, Nat.reduceAdd, List.flatMap_cons, List.flatMap_nil, BEq.rfl, List.cons_append, List.nil_append, if_pos, if_neg, ordered, List.getElem?_cons_zero, List.getElem?_cons_succ, frzL, nidL, frz_func, frz_agg, frz_tup, frz_iface, fresh_func, fresh_agg, fresh_tup, fresh_iface, frz_ptr, frz_sl, fresh_sl, Cls.isFree, Cls.makes, callCls, chain, cond_true, tz, ty, e7]; rfl) ?_
          refine ⟨hJ', ?_, ?_, ?_, ?_⟩
          all_goals simp only [upd_app, Nat.reduceEqDiff, ↓reduceIte, e0, e5, e6]
          rfl
        · refine ⟨rfl, vcE.ex (by simp (disch := omega) only [exC, exOps, exOp, evE, evsE, putE, wantedE, Nat.reduceEqDiff, ↓reduceIte, ROp.run, same, binA, intA, strA, eqA, indexSA, byteA, unA, bounds3, Option.map_some, Option.map_none, dec_true, dec_false, Int.toNat_natCast, Int.natCast_nonneg, beq_self_eq_true, List.append_nil, beq_iff_eq, reduceCtorEq, List.getD_cons_zero, List.getD_cons_succ, loadA, rowA, pickA, bslA, storeA_eq, decide_true, flatA, List.length_cons, List.length_nil, Nat.reduceAdd, List.flatMap_cons, List.flatMap_nil, BEq.rfl, List.cons_append, List.nil_append, if_pos, if_neg, ordered, List.getElem?_cons_zero, List.getElem?_cons_succ, frzL, nidL, frz_func, frz_agg, frz_tup, frz_iface, fresh_func, fresh_agg, fresh_tup, fresh_iface, frz_ptr, frz_sl, fresh_sl, Cls.isFree, Cls.makes, callCls, chain, cond_true, tz, ty, faddrA, allocA, over, List.take_succ_cons, List.take_zero, List.drop_succ_cons, List.drop_zero, List.drop_nil, List.set_cons_zero, List.set_cons_succ, Nat.reduceLeDiff, and_self]; rfl) ?_⟩
          refine vcE.ex (by simp (disch := omega) only [exC, exOps, exOp, evE, evsE, putE, wantedE, Nat.reduceEqDiff, ↓reduceIte, ROp.run, same, binA, intA, strA, eqA, indexSA, byteA, unA, bounds3, Option.map_some, Option.map_none, dec_true, dec_false, Int.toNat_natCast, Int.natCast_nonneg, beq_self_eq_true, List.append_nil, beq_iff_eq, reduceCtorEq, List.getD_cons_zero, List.getD_cons_succ, loadA, rowA, pickA, bslA, storeA_eq, decide_true, flatA, List.length_cons, List.length_nil, Nat.reduceAdd, List.flatMap_cons, List.flatMap_nil, BEq.rfl, List.cons_append, List.nil_append, if_pos, if_neg, ordered, List.getElem?_cons_zero, List.getElem?_cons_succ, frzL, nidL, frz_func, frz_agg, frz_tup, frz_iface, fresh_func, fresh_agg, fresh_tup, fresh_iface, frz_ptr, frz_sl, fresh_sl, Cls.isFree, Cls.makes, callCls, chain, cond_true, tz, ty]; rfl) ?_
          exact ⟨_, rfl, .inr hS⟩
  · rintro tm hp ⟨hJ, e0, e5, e6, e7⟩
    refine vcE.ex (by simp (disch := omega) only [exC, exOps, exOp, evE, evsE, putE, wantedE, Nat.reduceEqDiff, ↓reduceIte, ROp.run, same, binA, intA, strA, eqA, indexSA, byteA, unA, bounds3, Option.map_some, Option.map_none, dec_true, dec_false, Int.toNat_natCast, Int.natCast_nonneg, beq_self_eq_true, List.append_nil, beq_iff_eq, reduceCtorEq, List.getD_cons_zero, List.getD_cons_succ, loadA, rowA, pickA, bslA, storeA_eq, decide_true, flatA, List.length_cons, List.length_nil, Nat.reduceAdd, List.flatMap_cons, List.flatMap_nil, BEq.rfl, List.cons_append, List.nil_append, if_pos, if_neg, ordered, List.getElem?_cons_zero, List.getElem?_cons_succ, frzL, nidL, frz_func, frz_agg, frz_tup, frz_iface, fresh_func, fresh_agg, fresh_tup, fresh_iface, frz_ptr, frz_sl, fresh_sl, Cls.isFree, Cls.makes, callCls, chain, cond_true, tz, ty, e6, e7]; rfl) ?_
    exact ⟨_, rfl, .inl hJ⟩

theorem pAll (R : List Bool) : PC Try.prog 126 [encT.S R] (.func 137 [.fptr [encT.S R] 0]) := by
  refine pc_e hmG (TabOk.none _) comp126 (by decide) (by simp) (nidL_ok (by simp only [nidL, Enc.S_nid, Bool.and_self])) ?_
  refine vcE.ex (by simp (disch := omega) only [exC, exOps, exOp, evE, evsE, putE, wantedE, Nat.reduceEqDiff, ↓reduceIte, ROp.run, same, binA, intA, strA, eqA, indexSA, byteA, unA, bounds3, Option.map_some, Option.map_none, dec_true, dec_false, Int.toNat_natCast, Int.natCast_nonneg, beq_self_eq_true, List.append_nil, beq_iff_eq, reduceCtorEq, List.getD_cons_zero, List.getD_cons_succ, loadA, rowA, pickA, bslA, storeA_eq, decide_true, flatA, List.length_cons, List.length_nil, Nat.reduceAdd, List.flatMap_cons, List.flatMap_nil, BEq.rfl, List.cons_append, List.nil_append, if_pos, if_neg, ordered, List.getElem?_cons_zero, List.getElem?_cons_succ, frzL, nidL, frz_func, frz_agg, frz_tup, frz_iface, fresh_func, fresh_agg, fresh_tup, fresh_iface, frz_ptr, frz_sl, fresh_sl, Cls.isFree, Cls.makes, callCls, chain, cond_true, tz, ty, faddrA, allocA, over, List.take_succ_cons, List.take_zero, List.drop_succ_cons, List.drop_zero, List.drop_nil, List.set_cons_zero, List.set_cons_succ, Nat.reduceLeDiff, and_self]; rfl) ?_
  refine ⟨_, rfl, ?_⟩
  simp [upd, frz, frzL, nidL, Enc.S_nid]

def H1 : Tab := H0.addR 126 (.cons (.S encT) .nil) fun p => .rd false (.func 137 [.fptr [encT.S p.1] 0])
theorem H1_ok : TabOk Try.prog H1 := TabOk.addR H0_ok fun p => pAll p.1
theorem H1_all (R : List Bool) : H1 126 [encT.S R] = some (.rd false (.func 137 [.fptr [encT.S R] 0])) := Tab.addR_self _ _ (.cons (.S encT) .nil) _ (R, ())
end

section
open Go Go.Proofs

/-- A row's places so far, as numbers. -/
def listTo (R : List Bool) (k : Nat) : List Int := ((List.range k).filter fun i => decide (R[i]? = some true)).map fun (i : Nat) => (i : Int)
theorem listTo_zero (R : List Bool) : listTo R 0 = [] := rfl
theorem listTo_one {R : List Bool} {k : Nat} (h : R[k]? = some true) : listTo R (k + 1) = listTo R k ++ [(k : Int)] := by
  simp [listTo, List.range_succ, List.filter_append, h]
theorem listTo_no {R : List Bool} {k : Nat} (h : R[k]? = some false) : listTo R (k + 1) = listTo R k := by
  simp [listTo, List.range_succ, List.filter_append, h]
theorem listTo_len (R : List Bool) (k : Nat) : (listTo R k).length ≤ k := by
  simp only [listTo, List.length_map]
  exact Nat.le_trans (List.length_filter_le _ _) (by simp)
def listB (R : List Bool) : List Int := listTo R R.length

/-- At a place: the list so far lies in the variable's cell. -/
def LJ (R : List Bool) (l : List AV) (i : Nat) (hp : HP) : Prop :=
  ∃ id, hp[0]? = some (some (.row 72 [bld id (listTo R i).length 1])) ∧ BldAt encI hp id 3 (listTo R i) ∧ (listTo R i = [] ∨ 2 ≤ id) ∧ hp[1]? = some (some (.loop l 109000 .ready none)) ∧ i ≤ R.length

theorem src_int {hp : HP} {e : TypeId} {c : Int} {ex : Bool} : srcA (hp ++ [some (.row e [.int .i64 c])]) 1 (.sl hp.length 0 1 1 1 ex) = some (encI.cs [c], 1) := by
  have := encI.sl_src (hp := hp ++ [some (.row e [.int .i64 c])]) (id := hp.length) (e := e) (l := [c]) (lo := 1) (ex := ex) (by simp; rfl)
  exact this

theorem list_round {R : List Bool} (hR : R.length ≤ 1000000) {l : List AV} {tm0 : Env} (hl : Is 13 tm0 l) (h3 : tm0 3 = .ptr 0 0) {i : Nat} {hp : HP} (hi : R[i]? = some true) (hJ : LJ R l i hp) :
    ARound Try.prog 1 [.int .i64 i] hp fun r hp' => (r = .bool true ∧ LJ R l (i + 1) hp') ∨ (r = .bool false ∧ False) := by
  obtain ⟨id, g0, hb, hid, g1, hir⟩ := hJ
  have hil := (List.getElem?_eq_some_iff.1 hi).1
  have hlen := listTo_len R i
  refine round_e hmG (TabOk.none _) lok109000 g1 rfl (tm := upd tm0 7 (.int .i64 i)) (hl.setP 7 _) ?_
  intro hint
  refine vcE.ex (by simp (disch := omega) only [exC, exOps, exOp, evE, evsE, putE, wantedE, Nat.reduceEqDiff, ↓reduceIte, ROp.run, same, binA, intA, strA, eqA, indexSA, byteA, unA, bounds3, Option.map_some, Option.map_none, dec_true, dec_false, Int.toNat_natCast, Int.natCast_nonneg, beq_self_eq_true, List.append_nil, beq_iff_eq, reduceCtorEq, List.getD_cons_zero, List.getD_cons_succ, loadA, rowA, pickA, bslA, storeA_eq, decide_true, flatA, List.length_cons, List.length_nil, Nat.reduceAdd, List.flatMap_cons, List.flatMap_nil, BEq.rfl, List.cons_append, List.nil_append, if_pos, if_neg, ordered, List.getElem?_cons_zero, List.getElem?_cons_succ, frzL, nidL, frz_func, frz_agg, frz_tup, frz_iface, fresh_func, fresh_agg, fresh_tup, fresh_iface, frz_ptr, frz_sl, fresh_sl, Cls.isFree, Cls.makes, callCls, chain, cond_true, tz, ty]; rfl) ?_
  refine ⟨rfl, l, _, none, g1, ?_⟩
  have hb1 : hp[1]? = some (some (.loop l 109000 .ready none)) := g1
  generalize hh : hp.set 1 (some (.loop l 109000 .busy none)) = h1
  have k0 : h1[0]? = some (some (.row 72 [bld id (listTo R i).length 1])) := by rw [← hh, set_get_ne (by omega)]; exact g0
  have k1 : h1[1]? = some (some (.loop l 109000 .busy none)) := by rw [← hh]; exact set_get g1
  have kb : BldAt encI h1 id 3 (listTo R i) := by
    rcases hb with hb | hb
    · exact .inl hb
    · rcases hid with h | h
      · exact .inl h
      · exact .inr (by rw [← hh, set_get_ne (by omega)]; exact hb)
  have kl : 2 ≤ h1.length := get_lt k1
  have happ := (kb.app [some (.row 3 [.int .i64 (i : Int)])]).more (bytes := 8) (m := [(i : Int)]) (src_int (ex := true)) (by simp) (by simp; omega) (by simp; omega)
  simp only [show encI.sz = 1 from rfl] at happ
  have hload : (h1)[0]? = some (some (.row 72 [bld id (listTo R i).length 1])) := k0
  have hother : ∀ j y, (h1 ++ [some (.row 3 [.int .i64 (i : Int)])])[j]? = some y → ((listTo R i).length = 0 ∨ j ≠ id) → (bldH (h1 ++ [some (.row 3 [.int .i64 (i : Int)])]) id (listTo R i).length (.row 3 (encI.cs (listTo R i ++ [(i : Int)]))))[j]? = some y := fun j y h h' => bldH_other h h'
  have hz : (listTo R i).length = 0 ∨ (0 : Nat) ≠ id := by
    rcases hid with h | h
    · exact .inl (by rw [h]; rfl)
    · exact .inr (by omega)
  have hz1 : (listTo R i).length = 0 ∨ (1 : Nat) ≠ id := by
    rcases hid with h | h
    · exact .inl (by rw [h]; rfl)
    · exact .inr (by omega)
  have e0 := hother 0 _ (app_get k0) hz
  have e1 := hother 1 _ (app_get k1) hz1
  have hat := BldAt.moreAt encI (h1 ++ [some (.row 3 [.int .i64 (i : Int)])]) id (listTo R i).length 3 (listTo R i ++ [(i : Int)])
  have hlen2 : (h1 ++ [some (Blk.row 3 [.int .i64 (i : Int)])]).length = h1.length + 1 := by simp
  refine vcE.ex (by simp (disch := omega) only [exC, exOps, exOp, evE, evsE, putE, wantedE, Nat.reduceEqDiff, ↓reduceIte, ROp.run, same, binA, intA, strA, eqA, indexSA, byteA, unA, bounds3, Option.map_some, Option.map_none, dec_true, dec_false, Int.toNat_natCast, Int.natCast_nonneg, beq_self_eq_true, List.append_nil, beq_iff_eq, reduceCtorEq, List.getD_cons_zero, List.getD_cons_succ, loadA, rowA, pickA, bslA, storeA_eq, decide_true, flatA, List.length_cons, List.length_nil, Nat.reduceAdd, List.flatMap_cons, List.flatMap_nil, BEq.rfl, List.cons_append, List.nil_append, if_pos, if_neg, ordered, List.getElem?_cons_zero, List.getElem?_cons_succ, frzL, nidL, frz_func, frz_agg, frz_tup, frz_iface, fresh_func, fresh_agg, fresh_tup, fresh_iface, frz_ptr, frz_sl, fresh_sl, Cls.isFree, Cls.makes, callCls, chain, cond_true, tz, ty, faddrA, allocA, over, List.take_succ_cons, List.take_zero, List.drop_succ_cons, List.drop_zero, List.drop_nil, List.set_cons_zero, List.set_cons_succ, Nat.reduceLeDiff, and_self, h3, k0, bld_one, happ, e0, bld_cells, show ∀ a b c, notTup (bld a b c) = true from fun a b c => by unfold bld; split <;> rfl]; rfl) ?_
  refine ⟨none, l, _, .busy, none, rfl, by rw [set_get_ne (by omega)]; exact e1, .inl ⟨rfl, (h1 ++ [some (Blk.row 3 [.int .i64 (i : Int)])]).length, ?_, ?_, ?_, ?_, hil⟩⟩
  · rw [set_get_ne (by omega), set_get e0, listTo_one hi]
  · rw [listTo_one hi]
    rcases hat with h | h
    · simp at h
    · exact .inr (by rw [set_get_ne (by omega), set_get_ne (by omega)]; exact h)
  · exact .inr (by omega)
  · rw [set_get (y := some (.loop l 109000 .busy none)) (by rw [set_get_ne (by omega)]; exact e1)]
    rfl

theorem cList (R : List Bool) (hR : R.length ≤ 1000000) : ACalls Try.prog 109 [encT.S R] [] fun r' hp' => ∃ id, r' = bld id (listB R).length 1 ∧ BldAt encI hp' id 3 (listB R) := by
  refine calls_k hmG H1_ok comp109 keys109 (by decide) (by simp) ?_
  refine vcE.step (by simp (disch := omega) only [exC, exOps, exOp, evE, evsE, putE, wantedE, Nat.reduceEqDiff, ↓reduceIte, ROp.run, same, binA, intA, strA, eqA, indexSA, byteA, unA, bounds3, Option.map_some, Option.map_none, dec_true, dec_false, Int.toNat_natCast, Int.natCast_nonneg, beq_self_eq_true, List.append_nil, beq_iff_eq, reduceCtorEq, List.getD_cons_zero, List.getD_cons_succ, loadA, rowA, pickA, bslA, storeA_eq, decide_true, flatA, List.length_cons, List.length_nil, Nat.reduceAdd, List.flatMap_cons, List.flatMap_nil, BEq.rfl, List.cons_append, List.nil_append, if_pos, if_neg, ordered, List.getElem?_cons_zero, List.getElem?_cons_succ, frzL, nidL, frz_func, frz_agg, frz_tup, frz_iface, fresh_func, fresh_agg, fresh_tup, fresh_iface, frz_ptr, frz_sl, fresh_sl, Cls.isFree, Cls.makes, callCls, chain, cond_true, tz, ty]; rfl) (vcE.step (by simp (disch := omega) only [exC, exOps, exOp, evE, evsE, putE, wantedE, Nat.reduceEqDiff, ↓reduceIte, ROp.run, same, binA, intA, strA, eqA, indexSA, byteA, unA, bounds3, Option.map_some, Option.map_none, dec_true, dec_false, Int.toNat_natCast, Int.natCast_nonneg, beq_self_eq_true, List.append_nil, beq_iff_eq, reduceCtorEq, List.getD_cons_zero, List.getD_cons_succ, loadA, rowA, pickA, bslA, storeA_eq, decide_true, flatA, List.length_cons, List.length_nil, Nat.reduceAdd, List.flatMap_cons, List.flatMap_nil, BEq.rfl, List.cons_append, List.nil_append, if_pos, if_neg, ordered, List.getElem?_cons_zero, List.getElem?_cons_succ, frzL, nidL, frz_func, frz_agg, frz_tup, frz_iface, fresh_func, fresh_agg, fresh_tup, fresh_iface, frz_ptr, frz_sl, fresh_sl, Cls.isFree, Cls.makes, callCls, chain, cond_true, tz, ty, faddrA, allocA, over, List.take_succ_cons, List.take_zero, List.drop_succ_cons, List.drop_zero, List.drop_nil, List.set_cons_zero, List.set_cons_succ, Nat.reduceLeDiff, and_self]; rfl) (vcE.then (fun e tm hp => e = .normal ∧ tm 3 = .ptr 0 0 ∧ ∃ id, hp[0]? = some (some (.row 72 [bld id (listB R).length 1])) ∧ BldAt encI hp id 3 (listB R)) ?_ ?_))
  · refine vcE.step (by simp (disch := omega) only [exC, exOps, exOp, evE, evsE, putE, wantedE, Nat.reduceEqDiff, ↓reduceIte, ROp.run, same, binA, intA, strA, eqA, indexSA, byteA, unA, bounds3, Option.map_some, Option.map_none, dec_true, dec_false, Int.toNat_natCast, Int.natCast_nonneg, beq_self_eq_true, List.append_nil, beq_iff_eq, reduceCtorEq, List.getD_cons_zero, List.getD_cons_succ, loadA, rowA, pickA, bslA, storeA_eq, decide_true, flatA, List.length_cons, List.length_nil, Nat.reduceAdd, List.flatMap_cons, List.flatMap_nil, BEq.rfl, List.cons_append, List.nil_append, if_pos, if_neg, ordered, List.getElem?_cons_zero, List.getElem?_cons_succ, frzL, nidL, frz_func, frz_agg, frz_tup, frz_iface, fresh_func, fresh_agg, fresh_tup, fresh_iface, frz_ptr, frz_sl, fresh_sl, Cls.isFree, Cls.makes, callCls, chain, cond_true, tz, ty, faddrA, allocA, over, List.take_succ_cons, List.take_zero, List.drop_succ_cons, List.drop_zero, List.drop_nil, List.set_cons_zero, List.set_cons_succ, Nat.reduceLeDiff, and_self, H1_all, Enc.S_nid]; rfl) (vcE.block (vcE.rangeF (g := 137) (caps := [.fptr [encT.S R] 0]) ?_ ?_))
    · simp only [evE, upd_app, Nat.reduceEqDiff, ↓reduceIte]
    · intro l hl
      refine (cAll (R := R) (by omega) (id := 1) (J := LJ R l) (S := fun _ => False) (hp0 := [some (.row 72 [.nils]), some (.loop l 109000 .ready none)]) ⟨0, rfl, .inl rfl, .inl rfl, rfl, Nat.zero_le _⟩ ?_ ?_).mono ?_
      · intro i hp hi hJ
        exact list_round hR hl (by simp only [upd_app, Nat.reduceEqDiff, ↓reduceIte]) hi hJ
      · rintro i hp hi ⟨id, g0, hb, hid, g1, hir⟩
        have hil := (List.getElem?_eq_some_iff.1 hi).1
        exact ⟨id, by rw [listTo_no hi]; exact g0, by rw [listTo_no hi]; exact hb, by rw [listTo_no hi]; exact hid, g1, hil⟩
      · rintro r hp' (⟨id, g0, hb, hid, g1, hir⟩ | h)
        · refine ⟨l, _, .ready, none, g1, by simp, rfl, ?_, id, ?_, ?_⟩
          · simp only [upd_app, Nat.reduceEqDiff, ↓reduceIte]
          · rw [set_get_ne (by simp)]
            exact g0
          · rcases hb with h | h
            · exact .inl h
            · rcases hid with h' | h'
              · exact .inl h'
              · exact .inr (by rw [set_get_ne (by simp; omega)]; exact h)
        · exact h.elim
  · rintro e tm hp ⟨rfl, h3, id, g0, hb⟩
    refine vcE.ex (by simp (disch := omega) only [exC, exOps, exOp, evE, evsE, putE, wantedE, Nat.reduceEqDiff, ↓reduceIte, ROp.run, same, binA, intA, strA, eqA, indexSA, byteA, unA, bounds3, Option.map_some, Option.map_none, dec_true, dec_false, Int.toNat_natCast, Int.natCast_nonneg, beq_self_eq_true, List.append_nil, beq_iff_eq, reduceCtorEq, List.getD_cons_zero, List.getD_cons_succ, loadA, rowA, pickA, bslA, storeA_eq, decide_true, flatA, List.length_cons, List.length_nil, Nat.reduceAdd, List.flatMap_cons, List.flatMap_nil, BEq.rfl, List.cons_append, List.nil_append, if_pos, if_neg, ordered, List.getElem?_cons_zero, List.getElem?_cons_succ, frzL, nidL, frz_func, frz_agg, frz_tup, frz_iface, fresh_func, fresh_agg, fresh_tup, fresh_iface, frz_ptr, frz_sl, fresh_sl, Cls.isFree, Cls.makes, callCls, chain, cond_true, tz, ty, h3, g0, bld_one]; rfl) ?_
    exact ⟨_, rfl, id, rfl, hb⟩
theorem pList (R : List Bool) (hR : R.length ≤ 1000000) : PCF Try.prog 109 [encT.S R] (encI.S (listB R)) :=
  pcf_of (nidL_ok (by simp only [nidL, Enc.S_nid, Bool.and_self])) ((cList R hR).mono fun r hp' ⟨id, h1, h2⟩ => by subst h1; exact fresh_ok h2.fresh)
end

end Go.Gi
