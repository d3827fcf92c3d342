/- unicode/utf8.DecodeRune at a byte that is not ASCII: what is needed of it. -/
import Derived.Test.YtmehgdpbcafboaaDoorGiGlB
set_option linter.unusedVariables false
set_option linter.unusedSimpArgs false
namespace Go.Gi
set_option linter.unusedSectionVars false
variable [Mx]
open Go Go.Proofs

theorem wrap_i32 {n : Int} (h1 : -2147483648 ≤ n) (h2 : n ≤ 2147483647) : IntKind.wrap .i32 n = n := by
  have e : (2 : Int) ^ 32 = 4294967296 := by decide
  have e' : (2 : Int) ^ (32 - 1) = 2147483648 := by decide
  simp only [IntKind.wrap, IntKind.bits, IntKind.signed, Bool.true_and, decide_eq_true_eq, e, e']
  split <;> omega
/-- What a byte tells of a rune. -/
def firstN (n : Nat) : Int := if n < 128 then 240 else if n < 194 then 241 else if n < 224 then 2 else if n = 224 then 19 else if n < 237 then 3 else if n = 237 then 35 else if n < 240 then 3 else if n = 240 then 52 else if n < 244 then 4 else if n = 244 then 68 else 241
set_option maxRecDepth 20000 in
theorem gv1 : gv 1 = (List.range 256).map fun n => AV.int .u8 (firstN n) := by kernel_rfl
theorem first_at (c : UInt8) : pickA none (gv 1) c.toNat = some (.int .u8 (firstN c.toNat)) := by
  have := c.toNat_lt
  simp only [pickA, gv1, List.getElem?_map]
  rw [List.getElem?_range (by omega)]
  rfl
theorem first_addr (c : UInt8) : aaddrA 256 1 (.fptr (gv 1) 0) (.int .u8 c.toNat) = some (.fptr (gv 1) c.toNat) := by
  have := c.toNat_lt
  simp only [aaddrA]
  rw [if_pos (by omega)]
  simp [faddrA]
theorem enc_pick {l : List UInt8} {i : Nat} {c : UInt8} (h : l[i]? = some c) : pickA none (encB.cs l) i = some (.int .u8 c.toNat) := by
  simp [pickA, encB_cs, h, oneA, byteA]
theorem enc_addr {l : List UInt8} {i : Nat} {c : UInt8} (h : l[i]? = some c) : iaddrA 1 (encB.S l) (.int .i64 i) = some (.fptr (encB.cs l) i) := by
  have := encB.S_iaddr (l := l) (i := i) (k := .i64) ((List.getElem?_eq_some_iff.1 h).1)
  simpa [show encB.sz = 1 from rfl] using this

def orI (a b : Int) : Int := IntKind.wrap .i32 ((BitVec.ofInt 32 a ||| BitVec.ofInt 32 b).toNat)
theorem or_at (a b : Int) : bitsA .or .i32 a b = some (orI a b) := rfl
theorem orI_ge {a b : Int} (h1 : 0 ≤ a) (h2 : a < 2097152) (h3 : 0 ≤ b) (h4 : b < 2097152) : a ≤ orI a b ∧ b ≤ orI a b ∧ orI a b < 2097152 := by
  obtain ⟨m, rfl⟩ : ∃ m : Nat, a = m := ⟨a.toNat, by omega⟩
  obtain ⟨k, rfl⟩ : ∃ k : Nat, b = k := ⟨b.toNat, by omega⟩
  have e1 : (BitVec.ofInt 32 (m : Int)).toNat = m := by
    rw [BitVec.ofInt_natCast, BitVec.toNat_ofNat]; omega
  have e2 : (BitVec.ofInt 32 (k : Int)).toNat = k := by
    rw [BitVec.ofInt_natCast, BitVec.toNat_ofNat]; omega
  have h5 : m ||| k < 2 ^ 21 := Nat.or_lt_two_pow (by omega) (by omega)
  have h6 : m ≤ m ||| k := Nat.left_le_or
  have h7 : k ≤ m ||| k := Nat.right_le_or
  unfold orI
  rw [BitVec.toNat_or, e1, e2, wrap_i32 (by omega) (by omega)]
  omega
theorem orI_add {a b : Int} (k : Nat) (hk : k ≤ 18) (x : Nat) (hx : a = x * (2 ^ k : Nat)) (h2 : a < 2097152) (h3 : 0 ≤ b) (h4 : b < (2 ^ k : Nat)) : orI a b = a + b := by
  have hp : (2 : Nat) ^ k ≤ 2 ^ 18 := Nat.pow_le_pow_right (by omega) hk
  have hp' : (2 : Nat) ^ 18 = 262144 := by decide
  obtain ⟨n, rfl⟩ : ∃ n : Nat, b = n := ⟨b.toNat, by omega⟩
  have hx' : a = ((2 ^ k * x : Nat) : Int) := by rw [hx, Nat.mul_comm]; simp
  generalize hm : 2 ^ k * x = m at hx'
  subst hx'
  have e1 : (BitVec.ofInt 32 (m : Int)).toNat = m := by
    rw [BitVec.ofInt_natCast, BitVec.toNat_ofNat]; omega
  have e2 : (BitVec.ofInt 32 (n : Int)).toNat = n := by
    rw [BitVec.ofInt_natCast, BitVec.toNat_ofNat]; omega
  have e3 : m + n = m ||| n := by rw [← hm]; exact Nat.two_pow_add_eq_or_of_lt (by omega) x
  unfold orI
  rw [BitVec.toNat_or, e1, e2, ← e3, wrap_i32 (by omega) (by omega)]
  omega
theorem and15 (c : UInt8) : bitsA .and .u8 c.toNat 15 = some ((c.toNat % 16 : Nat) : Int) := by
  have : ∀ n : Fin 256, bitsA .and .u8 (n.val : Int) 15 = some ((n.val % 16 : Nat) : Int) := by decide +kernel
  exact this ⟨c.toNat, c.toNat_lt⟩
theorem and31 (c : UInt8) : bitsA .and .u8 c.toNat 31 = some ((c.toNat % 32 : Nat) : Int) := by
  have : ∀ n : Fin 256, bitsA .and .u8 (n.val : Int) 31 = some ((n.val % 32 : Nat) : Int) := by decide +kernel
  exact this ⟨c.toNat, c.toNat_lt⟩
theorem and63 (c : UInt8) : bitsA .and .u8 c.toNat 63 = some ((c.toNat % 64 : Nat) : Int) := by
  have : ∀ n : Fin 256, bitsA .and .u8 (n.val : Int) 63 = some ((n.val % 64 : Nat) : Int) := by decide +kernel
  exact this ⟨c.toNat, c.toNat_lt⟩
theorem and7 (c : UInt8) : bitsA .and .u8 c.toNat 7 = some ((c.toNat % 8 : Nat) : Int) := by
  have : ∀ n : Fin 256, bitsA .and .u8 (n.val : Int) 7 = some ((n.val % 8 : Nat) : Int) := by decide +kernel
  exact this ⟨c.toNat, c.toNat_lt⟩
theorem andNot_all (x : Int) : bitsA .andNot .i32 x (-1) = some 0 := by
  have h : BitVec.ofInt 32 x &&& ~~~(BitVec.ofInt 32 (-1)) = 0#32 := by
    have : ~~~(BitVec.ofInt 32 (-1)) = 0#32 := by decide
    rw [this, BitVec.and_zero]
  show some (IntKind.wrap .i32 ((BitVec.ofInt 32 x &&& ~~~(BitVec.ofInt 32 (-1))).toNat)) = _
  rw [h]
  rfl

/-- What is needed of a rune and how many bytes it has. -/
def DecP (l : List UInt8) (rr : Int) (w : Nat) : Prop := 1 ≤ w ∧ w ≤ l.length ∧ (∀ j c, j < w → l[j]? = some c → 128 ≤ c.toNat) ∧ (rr = 65533 ∨ 2 ≤ w) ∧ (3 ≤ w → (w = 3 ∧ 2048 ≤ rr ∧ rr < 65536 ∧ (rr < 55296 ∨ 57344 ≤ rr)) ∨ (w = 4 ∧ 65536 ≤ rr ∧ rr ≤ 1114111))

theorem decP_one {l : List UInt8} {c : UInt8} (h : l[0]? = some c) (hc : 128 ≤ c.toNat) : DecP l 65533 1 := by
  refine ⟨Nat.le_refl _, (List.getElem?_eq_some_iff.1 h).1, fun j d hj hd => ?_, .inl rfl, fun h3 => by omega⟩
  obtain rfl : j = 0 := by omega
  rw [h] at hd
  cases hd
  exact hc

theorem dec_bad {l : List UInt8} {c : UInt8} (h : l[0]? = some c) (hc : 128 ≤ c.toNat) (hx : firstN c.toNat = 241) : PCF Tryd.prog 53 [encB.S l] (.tup [.int .i32 65533, .int .i64 1]) := by
  have hl := (List.getElem?_eq_some_iff.1 h).1
  have ha : iaddrA 1 (encB.S l) (.int .i64 0) = some (.fptr (encB.cs l) 0) := enc_addr h
  have hp := enc_pick h
  have hf := first_at c
  have hfa := first_addr c
  rw [hx] at hf
  have hcl := c.toNat_lt
  have e1 : IntKind.wrap .i32 (241 * 2 ^ (min (Int.toNat 31) (IntKind.bits .i32))) = -2147483648 := by decide
  have e2 : Int.fdiv (-2147483648) (2 ^ (min (Int.toNat 31) (IntKind.bits .i32))) = -1 := by decide
  have e3 : bitsA .and .i32 65533 (-1) = some 65533 := by decide
  have e4 : bitsA .or .i32 0 65533 = some 65533 := by decide
  refine pcf_e hmG (TabOk.none _) comp53 (by rfl) (by simp) (nidL_ok (by simp only [nidL, Enc.S_nid]; rfl)) ?_
  refine vcE.ex (by simp (disch := omega) only [exC, exOps, exOp, evE, evsE, putE, wantedE, Nat.reduceEqDiff, ↓reduceIte, ROp.run, same, binA, intA, strA, eqA, indexSA, byteA, unA, bounds3, Option.map_some, Option.map_none, dec_true, dec_false, Int.toNat_natCast, Int.natCast_nonneg, beq_self_eq_true, List.append_nil, beq_iff_eq, reduceCtorEq, List.getD_cons_zero, List.getD_cons_succ, loadA, rowA, pickA, bslA, storeA_eq, decide_true, flatA, List.length_cons, List.length_nil, Nat.reduceAdd, List.flatMap_cons, List.flatMap_nil, BEq.rfl, List.cons_append, List.nil_append, if_pos, if_neg, ordered, List.getElem?_cons_zero, List.getElem?_cons_succ, frzL, nidL, frz_func, frz_agg, frz_tup, frz_iface, fresh_func, fresh_agg, fresh_tup, fresh_iface, frz_ptr, frz_sl, fresh_sl, Cls.isFree, Cls.makes, callCls, chain, cond_true, tz, ty, faddrA, allocA, over, List.take_succ_cons, List.take_zero, List.drop_succ_cons, List.drop_zero, List.drop_nil, List.set_cons_zero, List.set_cons_succ, Nat.reduceLeDiff, and_self, ha, ↓hp, hfa, ↓hf, wrap_i32, e1, e2, e3, e4, andNot_all]; rfl) ?_
  exact ⟨_, rfl, rfl⟩

set_option maxHeartbeats 2000000 in
/-- A byte that begins a rune of so many bytes, the next of which lies in a range. -/
theorem dec_class {l : List UInt8} {c : UInt8} {X Y lo hi : Int} {q : Nat} (sz : Nat) (h : l[0]? = some c) (hc : 128 ≤ c.toNat) (hx : firstN c.toNat = X) (hX : 0 ≤ X ∧ X < 240) (hsz : bitsA .and .u8 X 7 = some (sz : Int)) (hs : sz = 2 ∨ sz = 3 ∨ sz = 4)
    (hY : X.fdiv (2 ^ (min (Int.toNat 4) (IntKind.bits .u8))) = Y) (hA : aaddrA 16 2 (.fptr (gv 2) 0) (.int .u8 Y) = some (.fptr (gv 2) q)) (hacc : pickA (some 2) (gv 2) q = some (.agg [.int .u8 lo, .int .u8 hi])) (hlo : 128 ≤ lo)
    (h3 : ∀ b : Nat, lo ≤ b → (b : Int) ≤ hi → sz = 3 → (1 ≤ c.toNat % 16 ∨ 32 ≤ b % 64) ∧ (c.toNat % 16 = 13 → b % 64 < 32)) (h4 : ∀ b : Nat, lo ≤ b → (b : Int) ≤ hi → sz = 4 → (1 ≤ c.toNat % 8 ∨ 16 ≤ b % 64) ∧ c.toNat % 8 ≤ 4 ∧ (c.toNat % 8 = 4 → b % 64 < 16)) :
    ∃ (rr : Int) (w : Nat), PCF Tryd.prog 53 [encB.S l] (.tup [.int .i32 rr, .int .i64 w]) ∧ DecP l rr w := by
  have hl := (List.getElem?_eq_some_iff.1 h).1
  have ha : iaddrA 1 (encB.S l) (.int .i64 0) = some (.fptr (encB.cs l) 0) := enc_addr h
  have hp := enc_pick h
  have hf := first_at c
  have hfa := first_addr c
  rw [hx] at hf
  have hcl := c.toNat_lt
  have one_ := decP_one h hc
  have u6 : (2 : Int) ^ (min (Int.toNat 6) (IntKind.bits .i32)) = 64 := by decide
  have u12 : (2 : Int) ^ (min (Int.toNat 12) (IntKind.bits .i32)) = 4096 := by decide
  have u18 : (2 : Int) ^ (min (Int.toNat 18) (IntKind.bits .i32)) = 262144 := by decide
  have step : ∀ {r : AV}, vcE Tryd.prog (fun _ => 0) Tab.none 122 c53 (start [encB.S l]) [] (RetE [.t 2, .t 3] fun a hp' => fresh hp' a = some r) → PCF Tryd.prog 53 [encB.S l] r := fun hv => pcf_e hmG (TabOk.none _) comp53 (by rfl) (by simp) (nidL_ok (by simp only [nidL, Enc.S_nid]; rfl)) hv
  by_cases hn : l.length < sz
  · refine ⟨65533, 1, step ?_, one_⟩
    refine vcE.ex (by simp (disch := omega) only [exC, exOps, exOp, evE, evsE, putE, wantedE, Nat.reduceEqDiff, ↓reduceIte, ROp.run, same, binA, intA, strA, eqA, indexSA, byteA, unA, bounds3, Option.map_some, Option.map_none, dec_true, dec_false, Int.toNat_natCast, Int.natCast_nonneg, beq_self_eq_true, List.append_nil, beq_iff_eq, reduceCtorEq, List.getD_cons_zero, List.getD_cons_succ, loadA, rowA, pickA, bslA, storeA_eq, decide_true, flatA, List.length_cons, List.length_nil, Nat.reduceAdd, List.flatMap_cons, List.flatMap_nil, BEq.rfl, List.cons_append, List.nil_append, if_pos, if_neg, ordered, List.getElem?_cons_zero, List.getElem?_cons_succ, frzL, nidL, frz_func, frz_agg, frz_tup, frz_iface, fresh_func, fresh_agg, fresh_tup, fresh_iface, frz_ptr, frz_sl, fresh_sl, Cls.isFree, Cls.makes, callCls, chain, cond_true, tz, ty, faddrA, allocA, over, List.take_succ_cons, List.take_zero, List.drop_succ_cons, List.drop_zero, List.drop_nil, List.set_cons_zero, List.set_cons_succ, Nat.reduceLeDiff, and_self, ha, ↓hp, hfa, ↓hf, hsz, hY, hA, ↓hacc]; rfl) ?_
    exact ⟨_, rfl, rfl⟩
  obtain ⟨d, h1⟩ : ∃ d, l[1]? = some d := ⟨_, List.getElem?_eq_getElem (by omega)⟩
  have ha1 : iaddrA 1 (encB.S l) (.int .i64 1) = some (.fptr (encB.cs l) 1) := enc_addr h1
  have hp1 := enc_pick h1
  have hdl := d.toNat_lt
  by_cases hd1 : (d.toNat : Int) < lo
  · refine ⟨65533, 1, step ?_, one_⟩
    refine vcE.ex (by simp (disch := omega) only [exC, exOps, exOp, evE, evsE, putE, wantedE, Nat.reduceEqDiff, ↓reduceIte, ROp.run, same, binA, intA, strA, eqA, indexSA, byteA, unA, bounds3, Option.map_some, Option.map_none, dec_true, dec_false, Int.toNat_natCast, Int.natCast_nonneg, beq_self_eq_true, List.append_nil, beq_iff_eq, reduceCtorEq, List.getD_cons_zero, List.getD_cons_succ, loadA, rowA, pickA, bslA, storeA_eq, decide_true, flatA, List.length_cons, List.length_nil, Nat.reduceAdd, List.flatMap_cons, List.flatMap_nil, BEq.rfl, List.cons_append, List.nil_append, if_pos, if_neg, ordered, List.getElem?_cons_zero, List.getElem?_cons_succ, frzL, nidL, frz_func, frz_agg, frz_tup, frz_iface, fresh_func, fresh_agg, fresh_tup, fresh_iface, frz_ptr, frz_sl, fresh_sl, Cls.isFree, Cls.makes, callCls, chain, cond_true, tz, ty, faddrA, allocA, over, List.take_succ_cons, List.take_zero, List.drop_succ_cons, List.drop_zero, List.drop_nil, List.set_cons_zero, List.set_cons_succ, Nat.reduceLeDiff, and_self, ha, ↓hp, hfa, ↓hf, hsz, hY, hA, ↓hacc, ha1, ↓hp1]; rfl) ?_
    exact ⟨_, rfl, rfl⟩
  by_cases hd2 : hi < (d.toNat : Int)
  · refine ⟨65533, 1, step ?_, one_⟩
    refine vcE.ex (by simp (disch := omega) only [exC, exOps, exOp, evE, evsE, putE, wantedE, Nat.reduceEqDiff, ↓reduceIte, ROp.run, same, binA, intA, strA, eqA, indexSA, byteA, unA, bounds3, Option.map_some, Option.map_none, dec_true, dec_false, Int.toNat_natCast, Int.natCast_nonneg, beq_self_eq_true, List.append_nil, beq_iff_eq, reduceCtorEq, List.getD_cons_zero, List.getD_cons_succ, loadA, rowA, pickA, bslA, storeA_eq, decide_true, flatA, List.length_cons, List.length_nil, Nat.reduceAdd, List.flatMap_cons, List.flatMap_nil, BEq.rfl, List.cons_append, List.nil_append, if_pos, if_neg, ordered, List.getElem?_cons_zero, List.getElem?_cons_succ, frzL, nidL, frz_func, frz_agg, frz_tup, frz_iface, fresh_func, fresh_agg, fresh_tup, fresh_iface, frz_ptr, frz_sl, fresh_sl, Cls.isFree, Cls.makes, callCls, chain, cond_true, tz, ty, faddrA, allocA, over, List.take_succ_cons, List.take_zero, List.drop_succ_cons, List.drop_zero, List.drop_nil, List.set_cons_zero, List.set_cons_succ, Nat.reduceLeDiff, and_self, ha, ↓hp, hfa, ↓hf, hsz, hY, hA, ↓hacc, ha1, ↓hp1]; rfl) ?_
    exact ⟨_, rfl, rfl⟩
  have hd := h3 d.toNat (by omega) (by omega)
  have hd' := h4 d.toNat (by omega) (by omega)
  have hi0 : ∀ j b, j < 2 → l[j]? = some b → 128 ≤ b.toNat := by
    intro j b hj hb
    match j, hj with
    | 0, _ => rw [h] at hb; cases hb; exact hc
    | 1, _ => rw [h1] at hb; cases hb; omega
  by_cases s2 : sz = 2
  · subst s2
    refine ⟨orI ((c.toNat % 32 : Nat) * 64) (d.toNat % 64 : Nat), 2, step ?_, by omega, by omega, hi0, .inr (Nat.le_refl _), fun h => by omega⟩
    refine vcE.ex (by simp (disch := omega) only [exC, exOps, exOp, evE, evsE, putE, wantedE, Nat.reduceEqDiff, ↓reduceIte, ROp.run, same, binA, intA, strA, eqA, indexSA, byteA, unA, bounds3, Option.map_some, Option.map_none, dec_true, dec_false, Int.toNat_natCast, Int.natCast_nonneg, beq_self_eq_true, List.append_nil, beq_iff_eq, reduceCtorEq, List.getD_cons_zero, List.getD_cons_succ, loadA, rowA, pickA, bslA, storeA_eq, decide_true, flatA, List.length_cons, List.length_nil, Nat.reduceAdd, List.flatMap_cons, List.flatMap_nil, BEq.rfl, List.cons_append, List.nil_append, if_pos, if_neg, ordered, List.getElem?_cons_zero, List.getElem?_cons_succ, frzL, nidL, frz_func, frz_agg, frz_tup, frz_iface, fresh_func, fresh_agg, fresh_tup, fresh_iface, frz_ptr, frz_sl, fresh_sl, Cls.isFree, Cls.makes, callCls, chain, cond_true, tz, ty, faddrA, allocA, over, List.take_succ_cons, List.take_zero, List.drop_succ_cons, List.drop_zero, List.drop_nil, List.set_cons_zero, List.set_cons_succ, Nat.reduceLeDiff, and_self, ha, ↓hp, hfa, ↓hf, hsz, hY, hA, ↓hacc, ha1, ↓hp1, and31, and63, wrap_i32, u6, or_at]; rfl) ?_
    exact ⟨_, rfl, rfl⟩
  obtain ⟨e, h2⟩ : ∃ e, l[2]? = some e := ⟨_, List.getElem?_eq_getElem (by omega)⟩
  have ha2 : iaddrA 1 (encB.S l) (.int .i64 2) = some (.fptr (encB.cs l) 2) := enc_addr h2
  have hp2 := enc_pick h2
  have hel := e.toNat_lt
  by_cases he1 : e.toNat < 128
  · refine ⟨65533, 1, step ?_, one_⟩
    refine vcE.ex (by simp (disch := omega) only [exC, exOps, exOp, evE, evsE, putE, wantedE, Nat.reduceEqDiff, ↓reduceIte, ROp.run, same, binA, intA, strA, eqA, indexSA, byteA, unA, bounds3, Option.map_some, Option.map_none, dec_true, dec_false, Int.toNat_natCast, Int.natCast_nonneg, beq_self_eq_true, List.append_nil, beq_iff_eq, reduceCtorEq, List.getD_cons_zero, List.getD_cons_succ, loadA, rowA, pickA, bslA, storeA_eq, decide_true, flatA, List.length_cons, List.length_nil, Nat.reduceAdd, List.flatMap_cons, List.flatMap_nil, BEq.rfl, List.cons_append, List.nil_append, if_pos, if_neg, ordered, List.getElem?_cons_zero, List.getElem?_cons_succ, frzL, nidL, frz_func, frz_agg, frz_tup, frz_iface, fresh_func, fresh_agg, fresh_tup, fresh_iface, frz_ptr, frz_sl, fresh_sl, Cls.isFree, Cls.makes, callCls, chain, cond_true, tz, ty, faddrA, allocA, over, List.take_succ_cons, List.take_zero, List.drop_succ_cons, List.drop_zero, List.drop_nil, List.set_cons_zero, List.set_cons_succ, Nat.reduceLeDiff, and_self, ha, ↓hp, hfa, ↓hf, hsz, hY, hA, ↓hacc, ha1, ↓hp1, ha2, ↓hp2]; rfl) ?_
    exact ⟨_, rfl, rfl⟩
  by_cases he2 : 191 < e.toNat
  · refine ⟨65533, 1, step ?_, one_⟩
    refine vcE.ex (by simp (disch := omega) only [exC, exOps, exOp, evE, evsE, putE, wantedE, Nat.reduceEqDiff, ↓reduceIte, ROp.run, same, binA, intA, strA, eqA, indexSA, byteA, unA, bounds3, Option.map_some, Option.map_none, dec_true, dec_false, Int.toNat_natCast, Int.natCast_nonneg, beq_self_eq_true, List.append_nil, beq_iff_eq, reduceCtorEq, List.getD_cons_zero, List.getD_cons_succ, loadA, rowA, pickA, bslA, storeA_eq, decide_true, flatA, List.length_cons, List.length_nil, Nat.reduceAdd, List.flatMap_cons, List.flatMap_nil, BEq.rfl, List.cons_append, List.nil_append, if_pos, if_neg, ordered, List.getElem?_cons_zero, List.getElem?_cons_succ, frzL, nidL, frz_func, frz_agg, frz_tup, frz_iface, fresh_func, fresh_agg, fresh_tup, fresh_iface, frz_ptr, frz_sl, fresh_sl, Cls.isFree, Cls.makes, callCls, chain, cond_true, tz, ty, faddrA, allocA, over, List.take_succ_cons, List.take_zero, List.drop_succ_cons, List.drop_zero, List.drop_nil, List.set_cons_zero, List.set_cons_succ, Nat.reduceLeDiff, and_self, ha, ↓hp, hfa, ↓hf, hsz, hY, hA, ↓hacc, ha1, ↓hp1, ha2, ↓hp2]; rfl) ?_
    exact ⟨_, rfl, rfl⟩
  have hi1 : ∀ j b, j < 3 → l[j]? = some b → 128 ≤ b.toNat := by
    intro j b hj hb
    by_cases hj2 : j < 2
    · exact hi0 j b hj2 hb
    · obtain rfl : j = 2 := by omega
      rw [h2] at hb
      cases hb
      omega
  by_cases s3 : sz = 3
  · subst s3
    have q1 := orI_add (a := (c.toNat % 16 : Nat) * 4096) (b := (d.toNat % 64 : Nat) * 64) 12 (by omega) (c.toNat % 16) rfl (by omega) (by omega) (by simp; omega)
    have q2 := orI_add (a := orI ((c.toNat % 16 : Nat) * 4096) ((d.toNat % 64 : Nat) * 64)) (b := (e.toNat % 64 : Nat)) 6 (by omega) (c.toNat % 16 * 64 + d.toNat % 64) (by rw [q1]; simp; omega) (by omega) (by omega) (by simp; omega)
    refine ⟨orI (orI ((c.toNat % 16 : Nat) * 4096) ((d.toNat % 64 : Nat) * 64)) (e.toNat % 64 : Nat), 3, step ?_, by omega, by omega, hi1, .inr (by omega), fun _ => .inl ⟨rfl, by have := hd rfl; omega, by omega, by have := hd rfl; omega⟩⟩
    refine vcE.ex (by simp (disch := omega) only [exC, exOps, exOp, evE, evsE, putE, wantedE, Nat.reduceEqDiff, ↓reduceIte, ROp.run, same, binA, intA, strA, eqA, indexSA, byteA, unA, bounds3, Option.map_some, Option.map_none, dec_true, dec_false, Int.toNat_natCast, Int.natCast_nonneg, beq_self_eq_true, List.append_nil, beq_iff_eq, reduceCtorEq, List.getD_cons_zero, List.getD_cons_succ, loadA, rowA, pickA, bslA, storeA_eq, decide_true, flatA, List.length_cons, List.length_nil, Nat.reduceAdd, List.flatMap_cons, List.flatMap_nil, BEq.rfl, List.cons_append, List.nil_append, if_pos, if_neg, ordered, List.getElem?_cons_zero, List.getElem?_cons_succ, frzL, nidL, frz_func, frz_agg, frz_tup, frz_iface, fresh_func, fresh_agg, fresh_tup, fresh_iface, frz_ptr, frz_sl, fresh_sl, Cls.isFree, Cls.makes, callCls, chain, cond_true, tz, ty, faddrA, allocA, over, List.take_succ_cons, List.take_zero, List.drop_succ_cons, List.drop_zero, List.drop_nil, List.set_cons_zero, List.set_cons_succ, Nat.reduceLeDiff, and_self, ha, ↓hp, hfa, ↓hf, hsz, hY, hA, ↓hacc, ha1, ↓hp1, ha2, ↓hp2, and15, and63, wrap_i32, u6, u12, or_at]; rfl) ?_
    exact ⟨_, rfl, rfl⟩
  obtain rfl : sz = 4 := by omega
  obtain ⟨g, h5⟩ : ∃ g, l[3]? = some g := ⟨_, List.getElem?_eq_getElem (by omega)⟩
  have ha3 : iaddrA 1 (encB.S l) (.int .i64 3) = some (.fptr (encB.cs l) 3) := enc_addr h5
  have hp3 := enc_pick h5
  have hgl := g.toNat_lt
  by_cases hg1 : g.toNat < 128
  · refine ⟨65533, 1, step ?_, one_⟩
    refine vcE.ex (by simp (disch := omega) only [exC, exOps, exOp, evE, evsE, putE, wantedE, Nat.reduceEqDiff, ↓reduceIte, ROp.run, same, binA, intA, strA, eqA, indexSA, byteA, unA, bounds3, Option.map_some, Option.map_none, dec_true, dec_false, Int.toNat_natCast, Int.natCast_nonneg, beq_self_eq_true, List.append_nil, beq_iff_eq, reduceCtorEq, List.getD_cons_zero, List.getD_cons_succ, loadA, rowA, pickA, bslA, storeA_eq, decide_true, flatA, List.length_cons, List.length_nil, Nat.reduceAdd, List.flatMap_cons, List.flatMap_nil, BEq.rfl, List.cons_append, List.nil_append, if_pos, if_neg, ordered, List.getElem?_cons_zero, List.getElem?_cons_succ, frzL, nidL, frz_func, frz_agg, frz_tup, frz_iface, fresh_func, fresh_agg, fresh_tup, fresh_iface, frz_ptr, frz_sl, fresh_sl, Cls.isFree, Cls.makes, callCls, chain, cond_true, tz, ty, faddrA, allocA, over, List.take_succ_cons, List.take_zero, List.drop_succ_cons, List.drop_zero, List.drop_nil, List.set_cons_zero, List.set_cons_succ, Nat.reduceLeDiff, and_self, ha, ↓hp, hfa, ↓hf, hsz, hY, hA, ↓hacc, ha1, ↓hp1, ha2, ↓hp2, ha3, ↓hp3]; rfl) ?_
    exact ⟨_, rfl, rfl⟩
  by_cases hg2 : 191 < g.toNat
  · refine ⟨65533, 1, step ?_, one_⟩
    refine vcE.ex (by simp (disch := omega) only [exC, exOps, exOp, evE, evsE, putE, wantedE, Nat.reduceEqDiff, ↓reduceIte, ROp.run, same, binA, intA, strA, eqA, indexSA, byteA, unA, bounds3, Option.map_some, Option.map_none, dec_true, dec_false, Int.toNat_natCast, Int.natCast_nonneg, beq_self_eq_true, List.append_nil, beq_iff_eq, reduceCtorEq, List.getD_cons_zero, List.getD_cons_succ, loadA, rowA, pickA, bslA, storeA_eq, decide_true, flatA, List.length_cons, List.length_nil, Nat.reduceAdd, List.flatMap_cons, List.flatMap_nil, BEq.rfl, List.cons_append, List.nil_append, if_pos, if_neg, ordered, List.getElem?_cons_zero, List.getElem?_cons_succ, frzL, nidL, frz_func, frz_agg, frz_tup, frz_iface, fresh_func, fresh_agg, fresh_tup, fresh_iface, frz_ptr, frz_sl, fresh_sl, Cls.isFree, Cls.makes, callCls, chain, cond_true, tz, ty, faddrA, allocA, over, List.take_succ_cons, List.take_zero, List.drop_succ_cons, List.drop_zero, List.drop_nil, List.set_cons_zero, List.set_cons_succ, Nat.reduceLeDiff, and_self, ha, ↓hp, hfa, ↓hf, hsz, hY, hA, ↓hacc, ha1, ↓hp1, ha2, ↓hp2, ha3, ↓hp3]; rfl) ?_
    exact ⟨_, rfl, rfl⟩
  have q1 := orI_add (a := (c.toNat % 8 : Nat) * 262144) (b := (d.toNat % 64 : Nat) * 4096) 18 (by omega) (c.toNat % 8) rfl (by omega) (by omega) (by simp; omega)
  have q2 := orI_add (a := orI ((c.toNat % 8 : Nat) * 262144) ((d.toNat % 64 : Nat) * 4096)) (b := (e.toNat % 64 : Nat) * 64) 12 (by omega) (c.toNat % 8 * 64 + d.toNat % 64) (by rw [q1]; simp; omega) (by omega) (by omega) (by simp; omega)
  have q3 := orI_add (a := orI (orI ((c.toNat % 8 : Nat) * 262144) ((d.toNat % 64 : Nat) * 4096)) ((e.toNat % 64 : Nat) * 64)) (b := (g.toNat % 64 : Nat)) 6 (by omega) (c.toNat % 8 * 4096 + d.toNat % 64 * 64 + e.toNat % 64) (by rw [q2, q1]; simp; omega) (by omega) (by omega) (by simp; omega)
  refine ⟨orI (orI (orI ((c.toNat % 8 : Nat) * 262144) ((d.toNat % 64 : Nat) * 4096)) ((e.toNat % 64 : Nat) * 64)) (g.toNat % 64 : Nat), 4, step ?_, by omega, by omega, ?_, .inr (by omega), fun _ => .inr ⟨rfl, by have := hd' rfl; omega, by have := hd' rfl; omega⟩⟩
  · refine vcE.ex (by simp (disch := omega) only [exC, exOps, exOp, evE, evsE, putE, wantedE, Nat.reduceEqDiff, ↓reduceIte, ROp.run, same, binA, intA, strA, eqA, indexSA, byteA, unA, bounds3, Option.map_some, Option.map_none, dec_true, dec_false, Int.toNat_natCast, Int.natCast_nonneg, beq_self_eq_true, List.append_nil, beq_iff_eq, reduceCtorEq, List.getD_cons_zero, List.getD_cons_succ, loadA, rowA, pickA, bslA, storeA_eq, decide_true, flatA, List.length_cons, List.length_nil, Nat.reduceAdd, List.flatMap_cons, List.flatMap_nil, BEq.rfl, List.cons_append, List.nil_append, if_pos, if_neg, ordered, List.getElem?_cons_zero, List.getElem?_cons_succ, frzL, nidL, frz_func, frz_agg, frz_tup, frz_iface, fresh_func, fresh_agg, fresh_tup, fresh_iface, frz_ptr, frz_sl, fresh_sl, Cls.isFree, Cls.makes, callCls, chain, cond_true, tz, ty, faddrA, allocA, over, List.take_succ_cons, List.take_zero, List.drop_succ_cons, List.drop_zero, List.drop_nil, List.set_cons_zero, List.set_cons_succ, Nat.reduceLeDiff, and_self, ha, ↓hp, hfa, ↓hf, hsz, hY, hA, ↓hacc, ha1, ↓hp1, ha2, ↓hp2, ha3, ↓hp3, and7, and63, wrap_i32, u6, u12, u18, or_at]; rfl) ?_
    exact ⟨_, rfl, rfl⟩
  · intro j b hj hb
    by_cases hj2 : j < 3
    · exact hi1 j b hj2 hb
    · obtain rfl : j = 3 := by omega
      rw [h5] at hb
      cases hb
      omega

/-- unicode/utf8.decodeRuneSlow at a byte that is not ASCII. -/
theorem pDecode {l : List UInt8} {c : UInt8} (h : l[0]? = some c) (hc : 128 ≤ c.toNat) : ∃ (rr : Int) (w : Nat), PCF Tryd.prog 53 [encB.S l] (.tup [.int .i32 rr, .int .i64 w]) ∧ DecP l rr w := by
  have hcl := c.toNat_lt
  by_cases k1 : c.toNat < 194
  · exact ⟨_, _, dec_bad h hc (by simp only [firstN]; rw [if_neg (by omega), if_pos k1]), decP_one h hc⟩
  by_cases k2 : c.toNat < 224
  · exact dec_class (X := 2) (Y := 0) (lo := 128) (hi := 191) (q := 0) 2 h hc (by simp only [firstN]; rw [if_neg (by omega), if_neg k1, if_pos k2]) (by omega) (by decide) (by omega) (by decide) rfl (by kernel_rfl) (by omega) (fun b _ _ hs => by omega) (fun b _ _ hs => by omega)
  by_cases k3 : c.toNat = 224
  · exact dec_class (X := 19) (Y := 1) (lo := 160) (hi := 191) (q := 2) 3 h hc (by rw [k3]; rfl) (by omega) (by decide) (by omega) (by decide) rfl (by kernel_rfl) (by omega) (fun b _ _ hs => by omega) (fun b _ _ hs => by omega)
  by_cases k4 : c.toNat < 237
  · exact dec_class (X := 3) (Y := 0) (lo := 128) (hi := 191) (q := 0) 3 h hc (by simp only [firstN]; rw [if_neg (by omega), if_neg k1, if_neg k2, if_neg k3, if_pos k4]) (by omega) (by decide) (by omega) (by decide) rfl (by kernel_rfl) (by omega) (fun b _ _ hs => by omega) (fun b _ _ hs => by omega)
  by_cases k5 : c.toNat = 237
  · exact dec_class (X := 35) (Y := 2) (lo := 128) (hi := 159) (q := 4) 3 h hc (by rw [k5]; rfl) (by omega) (by decide) (by omega) (by decide) rfl (by kernel_rfl) (by omega) (fun b _ _ hs => by omega) (fun b _ _ hs => by omega)
  by_cases k6 : c.toNat < 240
  · exact dec_class (X := 3) (Y := 0) (lo := 128) (hi := 191) (q := 0) 3 h hc (by simp only [firstN]; rw [if_neg (by omega), if_neg k1, if_neg k2, if_neg k3, if_neg k4, if_neg k5, if_pos k6]) (by omega) (by decide) (by omega) (by decide) rfl (by kernel_rfl) (by omega) (fun b _ _ hs => by omega) (fun b _ _ hs => by omega)
  by_cases k7 : c.toNat = 240
  · exact dec_class (X := 52) (Y := 3) (lo := 144) (hi := 191) (q := 6) 4 h hc (by rw [k7]; rfl) (by omega) (by decide) (by omega) (by decide) rfl (by kernel_rfl) (by omega) (fun b _ _ hs => by omega) (fun b _ _ hs => by omega)
  by_cases k8 : c.toNat < 244
  · exact dec_class (X := 4) (Y := 0) (lo := 128) (hi := 191) (q := 0) 4 h hc (by simp only [firstN]; rw [if_neg (by omega), if_neg k1, if_neg k2, if_neg k3, if_neg k4, if_neg k5, if_neg k6, if_neg k7, if_pos k8]) (by omega) (by decide) (by omega) (by decide) rfl (by kernel_rfl) (by omega) (fun b _ _ hs => by omega) (fun b _ _ hs => by omega)
  by_cases k9 : c.toNat = 244
  · exact dec_class (X := 68) (Y := 4) (lo := 128) (hi := 143) (q := 8) 4 h hc (by rw [k9]; rfl) (by omega) (by decide) (by omega) (by decide) rfl (by kernel_rfl) (by omega) (fun b _ _ hs => by omega) (fun b _ _ hs => by omega)
  · exact ⟨_, _, dec_bad h hc (by simp only [firstN]; rw [if_neg (by omega), if_neg k1, if_neg k2, if_neg k3, if_neg k4, if_neg k5, if_neg k6, if_neg k7, if_neg k8, if_neg k9]), decP_one h hc⟩

end Go.Gi
