/- outlawkit.LightTexts, light, lives, glob.Least; the law GlobNorm's function. -/
import Derived.Test.YtmehgdpbcafboaaDoorGiGlN
import Derived.Test.YtmehgdpbcafboaaDoorGiGlD
import Derived.Test.YtmehgdpbcafboaaDoorGiGlE
import Derived.Test.YtmehgdpbcafboaaDoorGiON
set_option linter.unusedVariables false
set_option linter.unusedSimpArgs false
namespace Go.Gi
set_option linter.unusedSectionVars false
variable [Mx]
open Go Go.Proofs

def lightB (ts : List (List UInt8)) (n most : Int) : Bool := ts.all (fun s => decide ((s.length : Int) ≤ most)) && decide ((ts.length : Int) ≤ n)

theorem pcLight {ts : List (List UInt8)} (hl : ts.length < 4611686018427387904) (n most : Int) : PC Tryd.prog 20 [.fsl (ts.map .str) ts.length, .int .i64 n, .int .i64 most] (.bool (lightB ts n most)) := by
  have hx : NoIdL (ts.map AV.str) := NoIdL.all (by intro a ha; obtain ⟨s, _, rfl⟩ := List.mem_map.1 ha; exact NoId.str s)
  refine pc_e hmG (TabOk.none _) comp20 (by decide) (by simp) (NoIdL.cons (NoId.fsl hx) (NoIdL.cons (NoId.int _ _) (NoIdL.cons (NoId.int _ _) NoIdL.nil))) ?_
  refine vcE.step (by simp only [exC, exOps, exOp, evE, evsE, putE, wantedE, Nat.reduceEqDiff, ↓reduceIte, ROp.run, same, binA, intA, strA, eqA, indexSA, byteA, unA, bounds3, Option.map_some, Option.map_none, dec_true, dec_false, Int.toNat_natCast, Int.natCast_nonneg, beq_self_eq_true, List.append_nil, beq_iff_eq, reduceCtorEq, List.getD_cons_zero, List.getD_cons_succ, loadA, rowA, pickA, bslA, storeA_eq, decide_true, flatA, List.length_cons, List.length_nil, Nat.reduceAdd, List.flatMap_cons, List.flatMap_nil, BEq.rfl, List.cons_append, List.nil_append, if_pos, if_neg, ordered, List.getElem?_cons_zero, List.getElem?_cons_succ, frzL, nidL, frz_func, frz_agg, frz_tup, frz_iface, fresh_func, fresh_agg, fresh_tup, fresh_iface, frz_ptr, frz_sl, fresh_sl, Cls.isFree, Cls.makes, callCls, chain, cond_true, tz, ty]; rfl) (vcE.then (fun e tm hp => hp = [] ∧ ((e = .ret ∧ tm 6 = .bool false ∧ ts.all (fun s => decide ((s.length : Int) ≤ most)) = false) ∨ (e = .normal ∧ tm 0 = .fsl (ts.map .str) ts.length ∧ tm 1 = .int .i64 n ∧ ts.all (fun s => decide ((s.length : Int) ≤ most)) = true))) ?_ ?_)
  · refine vcE.step (by simp only [exC, exOps, exOp, evE, evsE, putE, wantedE, Nat.reduceEqDiff, ↓reduceIte, ROp.run, same, binA, intA, strA, eqA, indexSA, byteA, unA, bounds3, Option.map_some, Option.map_none, dec_true, dec_false, Int.toNat_natCast, Int.natCast_nonneg, beq_self_eq_true, List.append_nil, beq_iff_eq, reduceCtorEq, List.getD_cons_zero, List.getD_cons_succ, loadA, rowA, pickA, bslA, storeA_eq, decide_true, flatA, List.length_cons, List.length_nil, Nat.reduceAdd, List.flatMap_cons, List.flatMap_nil, BEq.rfl, List.cons_append, List.nil_append, if_pos, if_neg, ordered, List.getElem?_cons_zero, List.getElem?_cons_succ, frzL, nidL, frz_func, frz_agg, frz_tup, frz_iface, fresh_func, fresh_agg, fresh_tup, fresh_iface, frz_ptr, frz_sl, fresh_sl, Cls.isFree, Cls.makes, callCls, chain, cond_true, tz, ty]; rfl) (vcE.block (vcE.loop (by intro l tm hp h; simp at h)
      (fun m tm hp => ∃ i : Nat, hp = [] ∧ tm 0 = .fsl (ts.map .str) ts.length ∧ tm 1 = .int .i64 n ∧ tm 2 = .int .i64 most ∧ tm 7 = .int .i64 i ∧ i ≤ ts.length ∧ m = ts.length - i ∧ (ts.take i).all (fun s => decide ((s.length : Int) ≤ most)) = true) ts.length ⟨0, rfl, ?_, ?_, ?_, ?_, by omega, by omega, by simp⟩ ?_))
    · simp only [upd_app, Nat.reduceEqDiff, ↓reduceIte, start_app, List.getD_cons_zero, List.getD_cons_succ]
    · simp only [upd_app, Nat.reduceEqDiff, ↓reduceIte, start_app, List.getD_cons_zero, List.getD_cons_succ]
    · simp only [upd_app, Nat.reduceEqDiff, ↓reduceIte, start_app, List.getD_cons_zero, List.getD_cons_succ]
    · simp only [upd_app, Nat.reduceEqDiff, ↓reduceIte]; rfl
    rintro m tm hp ⟨i, rfl, e0, e1, e2, e7, hi, hm, hall⟩
    by_cases hlt : i < ts.length
    · have hg : (ts.map AV.str)[i]? = some (.str ts[i]) := by rw [List.getElem?_map, List.getElem?_eq_getElem hlt]; rfl
      have hne : ts.map AV.str ≠ [] := by intro h; rw [h] at hg; cases hg
      have hta : (ts.take (i + 1)).all (fun s => decide ((s.length : Int) ≤ most)) = decide ((ts[i].length : Int) ≤ most) := by
        rw [List.take_add_one, List.all_append, hall, List.getElem?_eq_getElem hlt]
        simp
      by_cases hs : (ts[i].length : Int) ≤ most
      · refine vcE.ex (by simp (disch := first | omega | assumption) only [exC, exOps, exOp, evE, evsE, putE, wantedE, Nat.reduceEqDiff, ↓reduceIte, ROp.run, same, binA, intA, strA, eqA, indexSA, byteA, unA, bounds3, Option.map_some, Option.map_none, dec_true, dec_false, Int.toNat_natCast, Int.natCast_nonneg, beq_self_eq_true, List.append_nil, beq_iff_eq, reduceCtorEq, List.getD_cons_zero, List.getD_cons_succ, loadA, rowA, pickA, bslA, storeA_eq, decide_true, flatA, List.length_cons, List.length_nil, Nat.reduceAdd, List.flatMap_cons, List.flatMap_nil, BEq.rfl, List.cons_append, List.nil_append, if_pos, if_neg, ordered, List.getElem?_cons_zero, List.getElem?_cons_succ, frzL, nidL, frz_func, frz_agg, frz_tup, frz_iface, fresh_func, fresh_agg, fresh_tup, fresh_iface, frz_ptr, frz_sl, fresh_sl, Cls.isFree, Cls.makes, callCls, chain, cond_true, tz, ty, e0, e1, e2, e7, iaddr_fsl, hg]; rfl) ?_
        refine ⟨ts.length - (i + 1), by omega, i + 1, rfl, ?_, ?_, ?_, ?_, hlt, rfl, by rw [hta]; exact decide_eq_true hs⟩
        all_goals simp only [upd_app, Nat.reduceEqDiff, ↓reduceIte, e0, e1, e2, e7]
        rfl
      · refine vcE.ex (by simp (disch := first | omega | assumption) only [exC, exOps, exOp, evE, evsE, putE, wantedE, Nat.reduceEqDiff, ↓reduceIte, ROp.run, same, binA, intA, strA, eqA, indexSA, byteA, unA, bounds3, Option.map_some, Option.map_none, dec_true, dec_false, Int.toNat_natCast, Int.natCast_nonneg, beq_self_eq_true, List.append_nil, beq_iff_eq, reduceCtorEq, List.getD_cons_zero, List.getD_cons_succ, loadA, rowA, pickA, bslA, storeA_eq, decide_true, flatA, List.length_cons, List.length_nil, Nat.reduceAdd, List.flatMap_cons, List.flatMap_nil, BEq.rfl, List.cons_append, List.nil_append, if_pos, if_neg, ordered, List.getElem?_cons_zero, List.getElem?_cons_succ, frzL, nidL, frz_func, frz_agg, frz_tup, frz_iface, fresh_func, fresh_agg, fresh_tup, fresh_iface, frz_ptr, frz_sl, fresh_sl, Cls.isFree, Cls.makes, callCls, chain, cond_true, tz, ty, e0, e1, e2, e7, iaddr_fsl, hg]; rfl) ?_
        refine ⟨rfl, .inl ⟨rfl, ?_, ?_⟩⟩
        · simp only [upd_app, Nat.reduceEqDiff, ↓reduceIte]
        · rw [Bool.eq_false_iff]
          intro h
          rw [List.all_eq_true] at h
          exact hs (by simpa using h _ (List.getElem_mem hlt))
    · refine vcE.ex (by simp (disch := first | omega | assumption) only [exC, exOps, exOp, evE, evsE, putE, wantedE, Nat.reduceEqDiff, ↓reduceIte, ROp.run, same, binA, intA, strA, eqA, indexSA, byteA, unA, bounds3, Option.map_some, Option.map_none, dec_true, dec_false, Int.toNat_natCast, Int.natCast_nonneg, beq_self_eq_true, List.append_nil, beq_iff_eq, reduceCtorEq, List.getD_cons_zero, List.getD_cons_succ, loadA, rowA, pickA, bslA, storeA_eq, decide_true, flatA, List.length_cons, List.length_nil, Nat.reduceAdd, List.flatMap_cons, List.flatMap_nil, BEq.rfl, List.cons_append, List.nil_append, if_pos, if_neg, ordered, List.getElem?_cons_zero, List.getElem?_cons_succ, frzL, nidL, frz_func, frz_agg, frz_tup, frz_iface, fresh_func, fresh_agg, fresh_tup, fresh_iface, frz_ptr, frz_sl, fresh_sl, Cls.isFree, Cls.makes, callCls, chain, cond_true, tz, ty, e0, e1, e2, e7]; rfl) ?_
      refine ⟨rfl, .inr ⟨rfl, ?_, ?_, ?_⟩⟩
      · simp only [upd_app, Nat.reduceEqDiff, ↓reduceIte, e0]
      · simp only [upd_app, Nat.reduceEqDiff, ↓reduceIte, e1]
      · rw [List.take_of_length_le (by omega)] at hall
        exact hall
  · rintro e tm hp ⟨rfl, ⟨rfl, h6, hall⟩ | ⟨rfl, h0, h1, hall⟩⟩
    · refine ⟨_, rfl, ?_⟩
      rw [h6, lightB, hall]
      rfl
    · refine vcE.ex (by simp only [exC, exOps, exOp, evE, evsE, putE, wantedE, Nat.reduceEqDiff, ↓reduceIte, ROp.run, same, binA, intA, strA, eqA, indexSA, byteA, unA, bounds3, Option.map_some, Option.map_none, dec_true, dec_false, Int.toNat_natCast, Int.natCast_nonneg, beq_self_eq_true, List.append_nil, beq_iff_eq, reduceCtorEq, List.getD_cons_zero, List.getD_cons_succ, loadA, rowA, pickA, bslA, storeA_eq, decide_true, flatA, List.length_cons, List.length_nil, Nat.reduceAdd, List.flatMap_cons, List.flatMap_nil, BEq.rfl, List.cons_append, List.nil_append, if_pos, if_neg, ordered, List.getElem?_cons_zero, List.getElem?_cons_succ, frzL, nidL, frz_func, frz_agg, frz_tup, frz_iface, fresh_func, fresh_agg, fresh_tup, fresh_iface, frz_ptr, frz_sl, fresh_sl, Cls.isFree, Cls.makes, callCls, chain, cond_true, tz, ty, h0, h1]; rfl) ?_
      refine ⟨_, rfl, ?_⟩
      simp only [upd_app, Nat.reduceEqDiff, ↓reduceIte]
      rw [lightB, hall]
      rfl


def lightG (p t : List UInt8) : Bool := decide (p.length ≤ 300) && decide (t.length ≤ 300)
theorem lightB_two (p t : List UInt8) : lightB [p, t] 4 300 = lightG p t := by
  simp only [lightB, lightG, List.all_cons, List.all_nil, List.length_cons, List.length_nil, Bool.and_true]
  rw [show decide (((0 + 1 + 1 : Nat) : Int) ≤ 4) = true by decide, Bool.and_true]
  congr 1
  · exact decide_eq_decide.2 (by omega)
  · exact decide_eq_decide.2 (by omega)
theorem pLightTexts (p t : List UInt8) : PCF Tryd.prog 20 [.fsl [.str p, .str t] 2, .int .i64 4, .int .i64 300] (.bool (lightG p t)) := by
  have := (pcLight (ts := [p, t]) (by simp) 4 300).fresh rfl
  rw [lightB_two] at this
  exact this
theorem pLight (p t : List UInt8) : PCF Tryd.prog 7 [.fsl [.str p, .str t] 2] (.bool (lightG p t)) := by
  have hT : TabOk Tryd.prog (Tab.none.add 20 fun xs => match xs with
    | [.fsl [.str p, .str t] 2, .int .i64 4, .int .i64 300] => some (.rd true (.bool (lightG p t)))
    | _ => none) := by
    refine TabOk.add (TabOk.none _) fun xs r h => ?_
    split at h
    · cases h
      exact pLightTexts _ _
    · cases h
  have hcall : (Tab.none.add 20 fun xs => match xs with
    | [.fsl [.str p, .str t] 2, .int .i64 4, .int .i64 300] => some (.rd true (.bool (lightG p t)))
    | _ => none) 20 [.fsl [.str p, .str t] 2, .int .i64 4, .int .i64 300] = some (.rd true (.bool (lightG p t))) := rfl
  generalize (Tab.none.add 20 fun xs => match xs with
    | [.fsl [.str p, .str t] 2, .int .i64 4, .int .i64 300] => some (.rd true (.bool (lightG p t)))
    | _ => none) = T at hT hcall
  refine pcf_e hmG hT comp7 (by decide) (by simp) (nidL_ok rfl) ?_
  refine vcE.ex (by simp only [exC, exOps, exOp, evE, evsE, putE, wantedE, Nat.reduceEqDiff, ↓reduceIte, ROp.run, same, binA, intA, strA, eqA, indexSA, byteA, unA, bounds3, Option.map_some, Option.map_none, dec_true, dec_false, Int.toNat_natCast, Int.natCast_nonneg, beq_self_eq_true, List.append_nil, beq_iff_eq, reduceCtorEq, List.getD_cons_zero, List.getD_cons_succ, loadA, rowA, pickA, bslA, storeA_eq, decide_true, flatA, List.length_cons, List.length_nil, Nat.reduceAdd, List.flatMap_cons, List.flatMap_nil, BEq.rfl, List.cons_append, List.nil_append, if_pos, if_neg, ordered, List.getElem?_cons_zero, List.getElem?_cons_succ, frzL, nidL, frz_func, frz_agg, frz_tup, frz_iface, fresh_func, fresh_agg, fresh_tup, fresh_iface, frz_ptr, frz_sl, fresh_sl, Cls.isFree, Cls.makes, callCls, chain, cond_true, tz, ty, hcall]; rfl) ?_
  exact ⟨_, rfl, rfl⟩

theorem leastB_count : ∀ p : List UInt8, leastB p + p.count 42 = p.length
  | [] => rfl
  | c :: p => by
    have := leastB_count p
    rw [leastB, List.count_cons, List.length_cons]
    by_cases h : c = 42
    · subst h; simp; omega
    · simp [h]; omega
theorem pLeast (p : List UInt8) (hl : p.length ≤ 1000000) : PCF Tryd.prog 10 [.str p] (.int .i64 (leastB p)) := by
  have hc := leastB_count p
  have hcall := G1_count p 42
  have c42 : AV.int .u8 42 = .int .u8 (42 : UInt8).toNat := rfl
  have hfr : frz ([some (.row 5 (encB.cs p))] ++ [some (.row 5 [.int .u8 (42 : UInt8).toNat])]) (.sl 0 0 p.length 1 p.length false) = some (encB.S p) := encB.sl_frz (id := 0) (e := 5) (l := p) (lo := p.length) (ex := false) rfl
  have hf1 : frz ([some (.row 5 (encB.cs p))] ++ [some (.row 5 [.int .u8 (42 : UInt8).toNat])]) (.sl 1 0 1 1 1 true) = some (encB.S [42]) := encB.sl_frz (id := 1) (e := 5) (l := [42]) (lo := 1) (ex := true) rfl
  simp only [List.cons_append, List.nil_append] at hfr hf1
  have hsub : IntKind.wrap .i64 ((p.length : Int) - (p.count 42 : Nat)) = leastB p := by
    rw [wrap_i64 (by omega) (by omega)]
    omega
  refine pcf_e hmG G1_ok comp10 (by decide) (by simp) (nidL_ok rfl) ?_
  refine vcE.ex (by simp (disch := omega) only [exC, exOps, exOp, evE, evsE, putE, wantedE, Nat.reduceEqDiff, ↓reduceIte, ROp.run, same, binA, intA, strA, eqA, indexSA, byteA, unA, bounds3, Option.map_some, Option.map_none, dec_true, dec_false, Int.toNat_natCast, Int.natCast_nonneg, beq_self_eq_true, List.append_nil, beq_iff_eq, reduceCtorEq, List.getD_cons_zero, List.getD_cons_succ, loadA, rowA, pickA, bslA, storeA_eq, decide_true, flatA, List.length_cons, List.length_nil, Nat.reduceAdd, List.flatMap_cons, List.flatMap_nil, BEq.rfl, List.cons_append, List.nil_append, if_pos, if_neg, ordered, List.getElem?_cons_zero, List.getElem?_cons_succ, frzL, nidL, frz_func, frz_agg, frz_tup, frz_iface, fresh_func, fresh_agg, fresh_tup, fresh_iface, frz_ptr, frz_sl, fresh_sl, Cls.isFree, Cls.makes, callCls, chain, cond_true, tz, ty, s2b_encB, c42, convA, ↓hfr, ↓hf1, hcall, Enc.S_nid, nid_sl, hsub]; rfl) ?_
  exact ⟨_, rfl, rfl⟩

end Go.Gi
