/- bytes.IndexAny of * and ?: its parts. -/
import Derived.Test.YtmehgdpbcafboaaDoorGiGlC
import Derived.Test.YtmehgdpbcafboaaDoorGiGlJ
set_option linter.unusedVariables false
set_option linter.unusedSimpArgs false
namespace Go.Gi
set_option linter.unusedSectionVars false
variable [Mx]
open Go Go.Proofs

def wildb (c : UInt8) : Bool := c == 42 || c == 63
def idxW : List UInt8 → Nat → Int
  | [], _ => -1
  | c :: l, i => if wildb c = true then i else idxW l (i + 1)
def FW (l : List UInt8) (i : Nat) : Prop := ∀ j c, j < i → l[j]? = some c → wildb c = false
theorem FW.zero (l : List UInt8) : FW l 0 := fun j c h => by omega
theorem FW.more {l : List UInt8} {i k : Nat} (h : FW l i) (hk : ∀ j c, i ≤ j → j < k → l[j]? = some c → wildb c = false) : FW l k := fun j c hj hc => by
  by_cases h1 : j < i
  · exact h j c h1 hc
  · exact hk j c (by omega) hj hc
theorem idxW_drop {l : List UInt8} : ∀ {i : Nat}, i ≤ l.length → FW l i → idxW l 0 = idxW (l.drop i) i
  | 0, _, _ => by simp
  | i + 1, hi, h => by
    rw [idxW_drop (i := i) (by omega) (fun j c hj hc => h j c (by omega) hc)]
    have hc : l[i]? = some l[i] := List.getElem?_eq_getElem (by omega)
    rw [drop_at hc, idxW, if_neg (by rw [h i _ (by omega) hc]; simp)]
theorem idxW_at {l : List UInt8} {i : Nat} {c : UInt8} (h : FW l i) (hc : l[i]? = some c) (hw : wildb c = true) : idxW l 0 = i := by
  rw [idxW_drop (Nat.le_of_lt (List.getElem?_eq_some_iff.1 hc).1) h, drop_at hc, idxW, if_pos hw]
theorem idxW_none {l : List UInt8} {i : Nat} (h : FW l i) (hi : l.length ≤ i) : idxW l 0 = -1 := by
  rw [idxW_drop (i := l.length) (Nat.le_refl _) (fun j c hj hc => h j c (by omega) hc), List.drop_length, idxW]
theorem wildb_lo {c : UInt8} (h : 128 ≤ c.toNat) : wildb c = false := by
  have h1 : c ≠ 42 := fun e => by rw [e] at h; exact absurd h (by decide)
  have h2 : c ≠ 63 := fun e => by rw [e] at h; exact absurd h (by decide)
  simp [wildb, h1, h2]

/-- Which of the two bytes it is. -/
def ibI (c : UInt8) : Int := if c = 42 then 0 else if c = 63 then 1 else -1
theorem ibI_ge (c : UInt8) : decide (ibI c ≥ 0) = wildb c := by
  unfold ibI wildb
  by_cases h1 : c = 42
  · subst h1; rfl
  by_cases h2 : c = 63
  · subst h2; rfl
  simp [h1, h2]
theorem ext_ibs (c : UInt8) {hp : HP} : AExt Tryd.prog 42 [.str [42, 63], .int .u8 c.toNat] hp fun r hp' => r = .int .i64 (ibI c) ∧ hp' = hp := by
  have h : idxE hp [.str [42, 63], .int .u8 c.toNat] = some (.int .i64 (ibI c), hp, hp.length) := by
    have hs : srcA hp 1 (.str [42, 63]) = some ([.int .u8 42, .int .u8 63], 2) := rfl
    have hu : unbyte [.int .u8 42, .int .u8 63] = some [42, 63] := rfl
    simp only [idxE, hs, hu]
    rw [show (c.toNat : Int).toNat.toUInt8 = c by simp]
    congr 3
    unfold ibI
    by_cases h1 : c = 42
    · subst h1; rfl
    by_cases h2 : c = 63
    · subst h2; rfl
    have e1 : (42 : UInt8).toNat ≠ c.toNat := fun e => h1 (UInt8.toNat_inj.1 e.symm)
    have e2 : (63 : UInt8).toNat ≠ c.toNat := fun e => h2 (UInt8.toNat_inj.1 e.symm)
    have b1 : Nat.beq (42 : UInt8).toNat c.toNat = false := Bool.eq_false_iff.2 fun h => e1 (Nat.eq_of_beq_eq_true h)
    have b2 : Nat.beq (63 : UInt8).toNat c.toNat = false := Bool.eq_false_iff.2 fun h => e2 (Nat.eq_of_beq_eq_true h)
    simp only [idxB, b1, b2, cond_false, if_neg h1, if_neg h2]
  exact (idx_ext (fn := Tryd.f42) (by kernel_rfl) (by kernel_rfl) (by kernel_rfl) (by kernel_rfl) (by kernel_rfl) h).1

/-- The two bytes as a set. -/
def setC : List AV := (List.range 256).map fun n => .bool (Nat.beq n 42 || Nat.beq n 63)
def setZ : List AV := List.replicate 256 (.bool false)
noncomputable def setT : Bool := match xF FT noO (xC FT noO EXR LT 300) 45 [.str [42, 63]] [] with
  | some (r, h0, _) => match fresh h0 r with
    | some v => AV.eqb v (.tup [.agg setC, .bool true])
    | none => false
  | none => false
set_option maxRecDepth 1000000 in
theorem setT_run : setT = true := by kernel_rfl
theorem pSet : PCF Tryd.prog 45 [.str [42, 63]] (.tup [.agg setC, .bool true]) := by
  have hr := setT_run
  unfold setT at hr
  split at hr
  · rename_i r h0 lo hx
    split at hr
    · rename_i v hf
      exact pcf_run hmR FT_ok (noO_ok _) exr_ok LT_ok rfl hx (by rw [hf, AV.eqb_eq hr])
    · cases hr
  · cases hr
set_option maxRecDepth 100000 in
theorem setC_nid : nidL setC = true := by kernel_rfl
set_option maxRecDepth 100000 in
theorem setZ_nid : nidL setZ = true := by kernel_rfl
theorem setC_len : setC.length = 256 := by unfold setC; rw [List.length_map, List.length_range]
theorem setZ_len : setZ.length = 256 := by unfold setZ; rw [List.length_replicate]
theorem setC_at (c : UInt8) : pickA none setC c.toNat = some (.bool (wildb c)) := by
  have := c.toNat_lt
  simp only [pickA, setC, List.getElem?_map]
  rw [List.getElem?_range (by omega)]
  simp only [Option.map_some, oneA, if_true]
  congr 2
  unfold wildb
  by_cases h1 : c = 42
  · subst h1; rfl
  by_cases h2 : c = 63
  · subst h2; rfl
  have e1 : Nat.beq c.toNat 42 = false := Bool.eq_false_iff.2 fun h => h1 (UInt8.toNat_inj.1 (Nat.eq_of_beq_eq_true h))
  have e2 : Nat.beq c.toNat 63 = false := Bool.eq_false_iff.2 fun h => h2 (UInt8.toNat_inj.1 (Nat.eq_of_beq_eq_true h))
  rw [e1, e2]
  simp [h1, h2]
theorem pShould (n : Int) : PCF Tryd.prog 44 [.int .i64 n] (.bool (decide (8 < n))) := by
  refine pcf_e hmG (TabOk.none _) comp44 (by decide) (by simp) (nidL_ok rfl) ?_
  by_cases h : 8 < n
  · refine vcE.ex (by simp (disch := omega) only [exC, exOps, exOp, evE, evsE, putE, wantedE, Nat.reduceEqDiff, ↓reduceIte, ROp.run, same, binA, intA, strA, eqA, indexSA, byteA, unA, bounds3, Option.map_some, Option.map_none, dec_true, dec_false, Int.toNat_natCast, Int.natCast_nonneg, beq_self_eq_true, List.append_nil, beq_iff_eq, reduceCtorEq, List.getD_cons_zero, List.getD_cons_succ, loadA, rowA, pickA, bslA, storeA_eq, decide_true, flatA, List.length_cons, List.length_nil, Nat.reduceAdd, List.flatMap_cons, List.flatMap_nil, BEq.rfl, List.cons_append, List.nil_append, if_pos, if_neg, ordered, List.getElem?_cons_zero, List.getElem?_cons_succ, frzL, nidL, frz_func, frz_agg, frz_tup, frz_iface, fresh_func, fresh_agg, fresh_tup, fresh_iface, frz_ptr, frz_sl, fresh_sl, Cls.isFree, Cls.makes, callCls, chain, cond_true, tz, ty]; rfl) ?_
    rw [decide_eq_true h]
    exact ⟨_, rfl, rfl⟩
  · refine vcE.ex (by simp (disch := omega) only [exC, exOps, exOp, evE, evsE, putE, wantedE, Nat.reduceEqDiff, ↓reduceIte, ROp.run, same, binA, intA, strA, eqA, indexSA, byteA, unA, bounds3, Option.map_some, Option.map_none, dec_true, dec_false, Int.toNat_natCast, Int.natCast_nonneg, beq_self_eq_true, List.append_nil, beq_iff_eq, reduceCtorEq, List.getD_cons_zero, List.getD_cons_succ, loadA, rowA, pickA, bslA, storeA_eq, decide_true, flatA, List.length_cons, List.length_nil, Nat.reduceAdd, List.flatMap_cons, List.flatMap_nil, BEq.rfl, List.cons_append, List.nil_append, if_pos, if_neg, ordered, List.getElem?_cons_zero, List.getElem?_cons_succ, frzL, nidL, frz_func, frz_agg, frz_tup, frz_iface, fresh_func, fresh_agg, fresh_tup, fresh_iface, frz_ptr, frz_sl, fresh_sl, Cls.isFree, Cls.makes, callCls, chain, cond_true, tz, ty]; rfl) ?_
    rw [decide_eq_false h]
    exact ⟨_, rfl, rfl⟩
theorem pContains (c : UInt8) : PCF Tryd.prog 46 [.fptr setC 0, .int .u8 c.toNat] (.bool (wildb c)) := by
  have hcl := c.toNat_lt
  have ha : aaddrA 256 1 (.fptr setC 0) (.int .u8 c.toNat) = some (.fptr setC c.toNat) := by
    simp only [aaddrA]
    rw [if_pos (by omega)]
    simp [faddrA]
  have hp := setC_at c
  have hn := setC_nid
  generalize setC = S at ha hp hn ⊢
  refine pcf_e hmG (TabOk.none _) comp46 (by decide) (by simp) (nidL_ok (by simp only [nidL, nid, hn]; rfl)) ?_
  refine vcE.ex (by simp (disch := omega) only [exC, exOps, exOp, evE, evsE, putE, wantedE, Nat.reduceEqDiff, ↓reduceIte, ROp.run, same, binA, intA, strA, eqA, indexSA, byteA, unA, bounds3, Option.map_some, Option.map_none, dec_true, dec_false, Int.toNat_natCast, Int.natCast_nonneg, beq_self_eq_true, List.append_nil, beq_iff_eq, reduceCtorEq, List.getD_cons_zero, List.getD_cons_succ, loadA, rowA, pickA, bslA, storeA_eq, decide_true, flatA, List.length_cons, List.length_nil, Nat.reduceAdd, List.flatMap_cons, List.flatMap_nil, BEq.rfl, List.cons_append, List.nil_append, if_pos, if_neg, ordered, List.getElem?_cons_zero, List.getElem?_cons_succ, frzL, nidL, frz_func, frz_agg, frz_tup, frz_iface, fresh_func, fresh_agg, fresh_tup, fresh_iface, frz_ptr, frz_sl, fresh_sl, Cls.isFree, Cls.makes, callCls, chain, cond_true, tz, ty, nilchkA, ha, ↓hp]; rfl) ?_
  exact ⟨_, rfl, rfl⟩

end Go.Gi
