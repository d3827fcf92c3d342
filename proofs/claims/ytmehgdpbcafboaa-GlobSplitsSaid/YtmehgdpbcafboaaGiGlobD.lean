/- What else the laws of globs call: outlawkit.LightTexts, light, lives. -/
import Derived.Test.YtmehgdpbcafboaaGiGlobC
set_option linter.unusedVariables false
set_option linter.unusedSimpArgs false
namespace Go.Gi
open Go Go.Proofs

def lightB (ts : List (List UInt8)) (n most : Int) : Bool := ts.all (fun s => decide ((s.length : Int) ≤ most)) && decide ((ts.length : Int) ≤ n)

theorem pc67 {ts : List (List UInt8)} (hl : ts.length < 4611686018427387904) (n most : Int) : PC Try.prog 67 [.fsl (ts.map .str) ts.length, .int .i64 n, .int .i64 most] (.bool (lightB ts n most)) := by
  have hx : NoIdL (ts.map AV.str) := NoIdL.all (by intro a ha; obtain ⟨s, _, rfl⟩ := List.mem_map.1 ha; exact NoId.str s)
  refine pc_e hmT (TabOk.none _) comp67 (by decide) (by simp) (NoIdL.cons (NoId.fsl hx) (NoIdL.cons (NoId.int _ _) (NoIdL.cons (NoId.int _ _) NoIdL.nil))) ?_
  refine vcE.step (by simp only [exC, exOps, exOp, evE, evsE, putE, wantedE, upd_app, Nat.reduceEqDiff, ↓reduceIte, ROp.run, same, binA, intA, strA, eqA, lenA, lenFits, indexSA, byteA, unA, isStrA, bounds3, Option.map_some, Option.map_none, dec_true, dec_false, wrap_i64, Int.toNat_natCast, Int.natCast_nonneg, beq_self_eq_true, List.append_nil, Bool.false_eq_true, beq_iff_eq, reduceCtorEq, Bool.true_eq_false, Bool.not_false, Bool.not_true, start_app, List.getD_cons_zero, List.getD_cons_succ, loadA, rowA, pickA, oneA, Nat.mul_one]; rfl) (vcE.then (fun e tm hp => hp = [] ∧ ((e = .ret ∧ tm 6 = .bool false ∧ ts.all (fun s => decide ((s.length : Int) ≤ most)) = false) ∨ (e = .normal ∧ tm 0 = .fsl (ts.map .str) ts.length ∧ tm 1 = .int .i64 n ∧ ts.all (fun s => decide ((s.length : Int) ≤ most)) = true))) ?_ ?_)
  · refine vcE.step (by simp only [exC, exOps, exOp, evE, evsE, putE, wantedE, upd_app, Nat.reduceEqDiff, ↓reduceIte, ROp.run, same, binA, intA, strA, eqA, lenA, lenFits, indexSA, byteA, unA, isStrA, bounds3, Option.map_some, Option.map_none, dec_true, dec_false, wrap_i64, Int.toNat_natCast, Int.natCast_nonneg, beq_self_eq_true, List.append_nil, Bool.false_eq_true, beq_iff_eq, reduceCtorEq, Bool.true_eq_false, Bool.not_false, Bool.not_true, start_app, List.getD_cons_zero, List.getD_cons_succ, loadA, rowA, pickA, oneA, Nat.mul_one]; rfl) (vcE.block (vcE.loop (by intro l tm hp h; simp at h)
      (fun m tm hp => ∃ i : Nat, hp = [] ∧ tm 0 = .fsl (ts.map .str) ts.length ∧ tm 1 = .int .i64 n ∧ tm 2 = .int .i64 most ∧ tm 7 = .int .i64 i ∧ i ≤ ts.length ∧ m = ts.length - i ∧ (ts.take i).all (fun s => decide ((s.length : Int) ≤ most)) = true) ts.length ⟨0, rfl, ?_, ?_, ?_, ?_, by omega, by omega, by simp⟩ ?_))
    · simp only [upd_app, Nat.reduceEqDiff, ↓reduceIte, start_app, List.getD_cons_zero, List.getD_cons_succ]
    · simp only [upd_app, Nat.reduceEqDiff, ↓reduceIte, start_app, List.getD_cons_zero, List.getD_cons_succ]
    · simp only [upd_app, Nat.reduceEqDiff, ↓reduceIte, start_app, List.getD_cons_zero, List.getD_cons_succ]
    · simp only [upd_app, Nat.reduceEqDiff, ↓reduceIte]; rfl
    rintro m tm hp ⟨i, rfl, e0, e1, e2, e7, hi, hm, hall⟩
    by_cases hlt : i < ts.length
    · have hg : (ts.map AV.str)[i]? = some (.str ts[i]) := by rw [List.getElem?_map, List.getElem?_eq_getElem hlt]; rfl
      have hne : ts.map AV.str ≠ [] := by intro h; rw [h] at hg; cases hg
      have hta : (ts.take (i + 1)).all (fun s => decide ((s.length : Int) ≤ most)) = decide ((ts[i].length : Int) ≤ most) := by
        rw [List.take_add_one, List.all_append, hall, List.getElem?_eq_getElem hlt]
        simp
      by_cases hs : (ts[i].length : Int) ≤ most
      · refine vcE.ex (by simp (disch := first | omega | assumption) only [exC, exOps, exOp, evE, evsE, putE, wantedE, upd_app, Nat.reduceEqDiff, ↓reduceIte, ROp.run, same, binA, intA, strA, eqA, lenA, lenFits, indexSA, byteA, unA, isStrA, bounds3, Option.map_some, Option.map_none, dec_true, dec_false, wrap_i64, Int.toNat_natCast, Int.natCast_nonneg, beq_self_eq_true, List.append_nil, Bool.false_eq_true, beq_iff_eq, reduceCtorEq, Bool.true_eq_false, Bool.not_false, Bool.not_true, start_app, List.getD_cons_zero, List.getD_cons_succ, loadA, rowA, pickA, oneA, Nat.mul_one, e0, e1, e2, e7, iaddr_fsl, hg]; rfl) ?_
        refine ⟨ts.length - (i + 1), by omega, i + 1, rfl, ?_, ?_, ?_, ?_, hlt, rfl, by rw [hta]; exact decide_eq_true hs⟩
        all_goals simp only [upd_app, Nat.reduceEqDiff, ↓reduceIte, e0, e1, e2, e7]
        rfl
      · refine vcE.ex (by simp (disch := first | omega | assumption) only [exC, exOps, exOp, evE, evsE, putE, wantedE, upd_app, Nat.reduceEqDiff, ↓reduceIte, ROp.run, same, binA, intA, strA, eqA, lenA, lenFits, indexSA, byteA, unA, isStrA, bounds3, Option.map_some, Option.map_none, dec_true, dec_false, wrap_i64, Int.toNat_natCast, Int.natCast_nonneg, beq_self_eq_true, List.append_nil, Bool.false_eq_true, beq_iff_eq, reduceCtorEq, Bool.true_eq_false, Bool.not_false, Bool.not_true, start_app, List.getD_cons_zero, List.getD_cons_succ, loadA, rowA, pickA, oneA, Nat.mul_one, e0, e1, e2, e7, iaddr_fsl, hg]; rfl) ?_
        refine ⟨rfl, .inl ⟨rfl, ?_, ?_⟩⟩
        · simp only [upd_app, Nat.reduceEqDiff, ↓reduceIte]
        · rw [Bool.eq_false_iff]
          intro h
          rw [List.all_eq_true] at h
          exact hs (by simpa using h _ (List.getElem_mem hlt))
    · refine vcE.ex (by simp (disch := first | omega | assumption) only [exC, exOps, exOp, evE, evsE, putE, wantedE, upd_app, Nat.reduceEqDiff, ↓reduceIte, ROp.run, same, binA, intA, strA, eqA, lenA, lenFits, indexSA, byteA, unA, isStrA, bounds3, Option.map_some, Option.map_none, dec_true, dec_false, wrap_i64, Int.toNat_natCast, Int.natCast_nonneg, beq_self_eq_true, List.append_nil, Bool.false_eq_true, beq_iff_eq, reduceCtorEq, Bool.true_eq_false, Bool.not_false, Bool.not_true, start_app, List.getD_cons_zero, List.getD_cons_succ, loadA, rowA, pickA, oneA, Nat.mul_one, e0, e1, e2, e7]; rfl) ?_
      refine ⟨rfl, .inr ⟨rfl, ?_, ?_, ?_⟩⟩
      · simp only [upd_app, Nat.reduceEqDiff, ↓reduceIte, e0]
      · simp only [upd_app, Nat.reduceEqDiff, ↓reduceIte, e1]
      · rw [List.take_of_length_le (by omega)] at hall
        exact hall
  · rintro e tm hp ⟨rfl, ⟨rfl, h6, hall⟩ | ⟨rfl, h0, h1, hall⟩⟩
    · refine ⟨_, rfl, ?_⟩
      rw [h6, lightB, hall]
      exact Frz.bool _ _
    · refine vcE.ex (by simp only [exC, exOps, exOp, evE, evsE, putE, wantedE, upd_app, Nat.reduceEqDiff, ↓reduceIte, ROp.run, same, binA, intA, strA, eqA, lenA, lenFits, indexSA, byteA, unA, isStrA, bounds3, Option.map_some, Option.map_none, dec_true, dec_false, wrap_i64, Int.toNat_natCast, Int.natCast_nonneg, beq_self_eq_true, List.append_nil, Bool.false_eq_true, beq_iff_eq, reduceCtorEq, Bool.true_eq_false, Bool.not_false, Bool.not_true, start_app, List.getD_cons_zero, List.getD_cons_succ, loadA, rowA, pickA, oneA, Nat.mul_one, h0, h1]; rfl) ?_
      refine ⟨_, rfl, ?_⟩
      simp only [upd_app, Nat.reduceEqDiff, ↓reduceIte]
      rw [lightB, hall]
      exact Frz.bool _ _

end Go.Gi
