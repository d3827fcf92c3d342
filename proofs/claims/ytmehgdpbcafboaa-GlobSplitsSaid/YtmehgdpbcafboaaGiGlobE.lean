/- light, lives, GlobJoins: what they give. -/
import Derived.Test.YtmehgdpbcafboaaGiGlobD
set_option linter.unusedVariables false
set_option linter.unusedSimpArgs false
namespace Go.Gi
open Go Go.Proofs

def strsOf : List AV → Option (List (List UInt8))
  | [] => some []
  | .str s :: r => (strsOf r).map (s :: ·)
  | _ :: _ => none
theorem strsOf_some : ∀ {cs : List AV} {ts : List (List UInt8)}, strsOf cs = some ts → cs = ts.map .str
  | [], ts, h => by cases h; rfl
  | c :: cs, ts, h => by
    cases c <;> simp only [strsOf, reduceCtorEq] at h
    rename_i s
    cases hr : strsOf cs with
    | none => simp [hr] at h
    | some r =>
      rw [hr] at h
      cases h
      rw [strsOf_some hr]
      rfl

def TL : Tab := (TM.add 17 fun xs => match xs with
  | [.str p, .str t, .bool f] => if p.length < 4611686018427387904 ∧ t.length < 4611686018427387904 then some (.bool (gm (sameB f) p t)) else none
  | _ => none).add 67 fun xs => match xs with
  | [.fsl cs len, .int .i64 n, .int .i64 most] => match strsOf cs with
    | some ts => if len = ts.length ∧ ts.length < 4611686018427387904 then some (.bool (lightB ts n most)) else none
    | none => none
  | _ => none
theorem TL_ok : TabOk Try.prog TL := (TM_ok.add fun xs r h => by
  split at h
  · split at h
    · rename_i h0
      cases h
      exact pc17 h0.1 h0.2 _
    · cases h
  · cases h).add fun xs r h => by
  split at h
  · split at h
    · rename_i ts hts
      split at h
      · rename_i h0
        cases h
        obtain ⟨rfl, h0⟩ := h0
        rw [strsOf_some hts]
        exact pc67 h0 _ _
      · cases h
    · cases h
  · cases h

theorem TL_17 {p t : List UInt8} (hp : p.length < 4611686018427387904) (ht : t.length < 4611686018427387904) (f : Bool) : TL 17 [.str p, .str t, .bool f] = some (.bool (gm (sameB f) p t)) := by
  simp only [TL, Tab.add_app, Nat.reduceEqDiff, if_false, if_true, if_pos (And.intro hp ht)]
theorem TL_67 (a b c d : List UInt8) (n most : Int) : TL 67 [.fsl [.str a, .str b, .str c, .str d] 4, .int .i64 n, .int .i64 most] = some (.bool (lightB [a, b, c, d] n most)) := rfl

theorem pc16 (a b c d : List UInt8) : PC Try.prog 16 [.fsl [.str a, .str b, .str c, .str d] 4] (.bool (lightB [a, b, c, d] 4 300)) := by
  refine pc_e hmT TL_ok comp16 (by decide) (by simp) (NoIdL.cons (NoId.fsl (NoIdL.cons (NoId.str _) (NoIdL.cons (NoId.str _) (NoIdL.cons (NoId.str _) (NoIdL.cons (NoId.str _) NoIdL.nil))))) NoIdL.nil) ?_
  refine vcE.ex (by simp only [exC, exOps, exOp, evE, evsE, putE, wantedE, upd_app, Nat.reduceEqDiff, ↓reduceIte, ROp.run, same, binA, intA, strA, eqA, lenA, lenFits, indexSA, byteA, unA, isStrA, bounds3, Option.map_some, Option.map_none, dec_true, dec_false, wrap_i64, Int.toNat_natCast, Int.natCast_nonneg, beq_self_eq_true, List.append_nil, Bool.false_eq_true, beq_iff_eq, reduceCtorEq, Bool.true_eq_false, Bool.not_false, Bool.not_true, start_app, List.getD_cons_zero, List.getD_cons_succ, loadA, rowA, pickA, oneA, Nat.mul_one, bslA, partsOk, flatA, cellsA, List.length_cons, List.length_nil, Nat.reduceAdd, Nat.zero_add, List.flatMap_cons, List.flatMap_nil, Bool.and_self, Bool.and_true, BEq.rfl, List.cons_append, List.nil_append, if_pos, if_neg, TL_67]; rfl) ?_
  exact ⟨_, rfl, Frz.bool _ _⟩

theorem pc15 : PC Try.prog 15 [] (.bool true) := by
  refine pc_e hmT TL_ok comp15 (by decide) (by simp) NoIdL.nil ?_
  have h1 : TL 17 [.str [64, 42, 58, 120, 46, 111, 114, 103], .str [64, 97, 58, 120, 46, 111, 114, 103], .bool false] = some (.bool true) := by kernel_rfl
  have h2 : TL 17 [.str [97, 63, 99], .str [97, 99], .bool false] = some (.bool false) := by kernel_rfl
  have h3 : TL 17 [.str [63, 42, 63], .str [97, 98], .bool false] = some (.bool true) := by kernel_rfl
  refine vcE.ex (by simp only [exC, exOps, exOp, evE, evsE, putE, wantedE, upd_app, Nat.reduceEqDiff, ↓reduceIte, ROp.run, same, binA, intA, strA, eqA, lenA, lenFits, indexSA, byteA, unA, isStrA, bounds3, Option.map_some, Option.map_none, dec_true, dec_false, wrap_i64, Int.toNat_natCast, Int.natCast_nonneg, beq_self_eq_true, List.append_nil, Bool.false_eq_true, beq_iff_eq, reduceCtorEq, Bool.true_eq_false, Bool.not_false, Bool.not_true, start_app, List.getD_cons_zero, List.getD_cons_succ, loadA, rowA, pickA, oneA, Nat.mul_one, bslA, partsOk, flatA, cellsA, List.length_cons, List.length_nil, Nat.reduceAdd, Nat.zero_add, List.flatMap_cons, List.flatMap_nil, Bool.and_self, Bool.and_true, BEq.rfl, List.cons_append, List.nil_append, if_pos, if_neg, h1, h2, h3]; rfl) ?_
  exact ⟨_, rfl, Frz.bool _ _⟩

def TJ : Tab := (TL.add 15 fun xs => match xs with
  | [] => some (.bool true)
  | _ => none).add 16 fun xs => match xs with
  | [.fsl [.str a, .str b, .str c, .str d] 4] => some (.bool (lightB [a, b, c, d] 4 300))
  | _ => none
theorem TJ_ok : TabOk Try.prog TJ := (TL_ok.add fun xs r h => by
  split at h
  · cases h
    exact pc15
  · cases h).add fun xs r h => by
  split at h
  · cases h
    exact pc16 _ _ _ _
  · cases h
theorem TJ_17 {p t : List UInt8} (hp : p.length < 4611686018427387904) (ht : t.length < 4611686018427387904) (f : Bool) : TJ 17 [.str p, .str t, .bool f] = some (.bool (gm (sameB f) p t)) := TL_17 hp ht f
theorem TJ_15 : TJ 15 [] = some (.bool true) := rfl
theorem TJ_16 (a b c d : List UInt8) : TJ 16 [.fsl [.str a, .str b, .str c, .str d] 4] = some (.bool (lightB [a, b, c, d] 4 300)) := rfl

theorem lightB_iff {ts : List (List UInt8)} {n most : Int} (h : lightB ts n most = true) : ∀ s ∈ ts, (s.length : Int) ≤ most := by
  simp only [lightB, Bool.and_eq_true, List.all_eq_true, decide_eq_true_eq] at h
  exact h.1

theorem pc3 (p q t u x : List UInt8) (f : Bool) : PC Try.prog 3 [.str p, .str q, .str t, .str u, .str x, .bool f] (.bool true) := by
  refine pc_e hmT TJ_ok comp3 (by decide) (by simp) (NoIdL.cons (NoId.str _) (NoIdL.cons (NoId.str _) (NoIdL.cons (NoId.str _) (NoIdL.cons (NoId.str _) (NoIdL.cons (NoId.str _) (NoIdL.cons (NoId.bool _) NoIdL.nil)))))) ?_
  cases hl : lightB [p, q, t, u] 4 300
  · refine vcE.ex (by simp (disch := omega) only [exC, exOps, exOp, evE, evsE, putE, wantedE, upd_app, Nat.reduceEqDiff, ↓reduceIte, ROp.run, same, binA, intA, strA, eqA, lenA, lenFits, indexSA, byteA, unA, isStrA, bounds3, Option.map_some, Option.map_none, dec_true, dec_false, wrap_i64, Int.toNat_natCast, Int.natCast_nonneg, beq_self_eq_true, List.append_nil, Bool.false_eq_true, beq_iff_eq, reduceCtorEq, Bool.true_eq_false, Bool.not_false, Bool.not_true, start_app, List.getD_cons_zero, List.getD_cons_succ, loadA, rowA, pickA, oneA, Nat.mul_one, bslA, partsOk, flatA, cellsA, List.length_cons, List.length_nil, Nat.reduceAdd, Nat.zero_add, List.flatMap_cons, List.flatMap_nil, Bool.and_self, Bool.and_true, BEq.rfl, List.cons_append, List.nil_append, if_pos, if_neg, TJ_15, TJ_16, hl]; rfl) ?_
    refine ⟨_, rfl, ?_⟩
    simp only [upd_app, Nat.reduceEqDiff, ↓reduceIte]
    exact Frz.bool _ _
  · have h0 := lightB_iff hl
    simp only [List.forall_mem_cons] at h0
    obtain ⟨hp, hq, ht, hu, _⟩ := h0
    by_cases hx : x.length ≤ 300
    · have T17 : ∀ {p t : List UInt8}, p.length ≤ 2000 → t.length ≤ 2000 → TJ 17 [.str p, .str t, .bool f] = some (.bool (gm (sameB f) p t)) := fun h1 h2 => TJ_17 (by omega) (by omega) f
      have star : ∀ t, gm (sameB f) [42] t = true := gm_any _
      cases h1 : gm (sameB f) p t
      · refine vcE.ex (by simp (disch := (try simp only [List.length_append, List.length_cons, List.length_nil]); omega) only [exC, exOps, exOp, evE, evsE, putE, wantedE, upd_app, Nat.reduceEqDiff, ↓reduceIte, ROp.run, same, binA, intA, strA, eqA, lenA, lenFits, indexSA, byteA, unA, isStrA, bounds3, Option.map_some, Option.map_none, dec_true, dec_false, wrap_i64, Int.toNat_natCast, Int.natCast_nonneg, beq_self_eq_true, List.append_nil, Bool.false_eq_true, beq_iff_eq, reduceCtorEq, Bool.true_eq_false, Bool.not_false, Bool.not_true, start_app, List.getD_cons_zero, List.getD_cons_succ, loadA, rowA, pickA, oneA, Nat.mul_one, bslA, partsOk, flatA, cellsA, List.length_cons, List.length_nil, Nat.reduceAdd, Nat.zero_add, List.flatMap_cons, List.flatMap_nil, Bool.and_self, Bool.and_true, BEq.rfl, List.cons_append, List.nil_append, if_pos, if_neg, TJ_15, TJ_16, hl, T17, h1]; rfl) ?_
        refine ⟨_, rfl, ?_⟩
        simp only [upd_app, Nat.reduceEqDiff, ↓reduceIte]
        exact Frz.bool _ _
      · have h5 : gm (sameB f) (42 :: (p ++ [42])) (x ++ t ++ u) = true := gm_join (t := x ++ t) (gm_join (p := [42]) (star x) h1) (star u)
        cases h2 : gm (sameB f) q u
        · refine vcE.ex (by simp (disch := (try simp only [List.length_append, List.length_cons, List.length_nil]); omega) only [exC, exOps, exOp, evE, evsE, putE, wantedE, upd_app, Nat.reduceEqDiff, ↓reduceIte, ROp.run, same, binA, intA, strA, eqA, lenA, lenFits, indexSA, byteA, unA, isStrA, bounds3, Option.map_some, Option.map_none, dec_true, dec_false, wrap_i64, Int.toNat_natCast, Int.natCast_nonneg, beq_self_eq_true, List.append_nil, Bool.false_eq_true, beq_iff_eq, reduceCtorEq, Bool.true_eq_false, Bool.not_false, Bool.not_true, start_app, List.getD_cons_zero, List.getD_cons_succ, loadA, rowA, pickA, oneA, Nat.mul_one, bslA, partsOk, flatA, cellsA, List.length_cons, List.length_nil, Nat.reduceAdd, Nat.zero_add, List.flatMap_cons, List.flatMap_nil, Bool.and_self, Bool.and_true, BEq.rfl, List.cons_append, List.nil_append, if_pos, if_neg, TJ_15, TJ_16, hl, T17, h1, h2, h5]; rfl) ?_
          refine ⟨_, rfl, ?_⟩
          simp only [upd_app, Nat.reduceEqDiff, ↓reduceIte]
          exact Frz.bool _ _
        · have h3 : gm (sameB f) (p ++ q) (t ++ u) = true := gm_join h1 h2
          have h4 : gm (sameB f) (p ++ [42] ++ q) (t ++ x ++ u) = true := gm_join (gm_join h1 (star x)) h2
          refine vcE.ex (by simp (disch := (try simp only [List.length_append, List.length_cons, List.length_nil]); omega) only [exC, exOps, exOp, evE, evsE, putE, wantedE, upd_app, Nat.reduceEqDiff, ↓reduceIte, ROp.run, same, binA, intA, strA, eqA, lenA, lenFits, indexSA, byteA, unA, isStrA, bounds3, Option.map_some, Option.map_none, dec_true, dec_false, wrap_i64, Int.toNat_natCast, Int.natCast_nonneg, beq_self_eq_true, List.append_nil, Bool.false_eq_true, beq_iff_eq, reduceCtorEq, Bool.true_eq_false, Bool.not_false, Bool.not_true, start_app, List.getD_cons_zero, List.getD_cons_succ, loadA, rowA, pickA, oneA, Nat.mul_one, bslA, partsOk, flatA, cellsA, List.length_cons, List.length_nil, Nat.reduceAdd, Nat.zero_add, List.flatMap_cons, List.flatMap_nil, Bool.and_self, Bool.and_true, BEq.rfl, List.cons_append, List.nil_append, if_pos, if_neg, TJ_15, TJ_16, hl, T17, h1, h2, h3, h4, h5]; rfl) ?_
          refine ⟨_, rfl, ?_⟩
          simp only [upd_app, Nat.reduceEqDiff, ↓reduceIte]
          exact Frz.bool _ _
    · refine vcE.ex (by simp (disch := omega) only [exC, exOps, exOp, evE, evsE, putE, wantedE, upd_app, Nat.reduceEqDiff, ↓reduceIte, ROp.run, same, binA, intA, strA, eqA, lenA, lenFits, indexSA, byteA, unA, isStrA, bounds3, Option.map_some, Option.map_none, dec_true, dec_false, wrap_i64, Int.toNat_natCast, Int.natCast_nonneg, beq_self_eq_true, List.append_nil, Bool.false_eq_true, beq_iff_eq, reduceCtorEq, Bool.true_eq_false, Bool.not_false, Bool.not_true, start_app, List.getD_cons_zero, List.getD_cons_succ, loadA, rowA, pickA, oneA, Nat.mul_one, bslA, partsOk, flatA, cellsA, List.length_cons, List.length_nil, Nat.reduceAdd, Nat.zero_add, List.flatMap_cons, List.flatMap_nil, Bool.and_self, Bool.and_true, BEq.rfl, List.cons_append, List.nil_append, if_pos, if_neg, TJ_15, TJ_16, hl]; rfl) ?_
      refine ⟨_, rfl, ?_⟩
      simp only [upd_app, Nat.reduceEqDiff, ↓reduceIte]
      exact Frz.bool _ _

end Go.Gi
