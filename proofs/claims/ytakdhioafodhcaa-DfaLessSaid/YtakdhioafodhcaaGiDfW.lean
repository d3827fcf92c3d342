/- Tables built: the bound does not matter, if it allows the table. -/
/- Tables: the chapter's example, by contracts. -/
/- Tables: all the same; the law of bounds. -/
/- Tables: the law of bounds. -/
/- Tables: the law of bounds. -/
import Derived.Test.YtakdhioafodhcaaGiDfS
import Derived.Test.YtakdhioafodhcaaGiDfC
import Derived.Test.YtakdhioafodhcaaGiSL
set_option linter.unusedVariables false
set_option linter.unusedSimpArgs false
namespace Go.Gi
section
open Go Go.Proofs

theorem nextF_len (st : List Int → Int → List Int) (row : List Int) : ∀ (sm : List Int) (s : List Int × List (List Int)), s.2.length ≤ (sm.foldl (nxF st row) s).2.length
  | [], s => Nat.le_refl _
  | c :: sm, s => by
    refine Nat.le_trans ?_ (nextF_len st row sm (nxF st row s c))
    unfold nxF
    split
    · exact Nat.le_refl _
    · exact (numF_len _ _).2
section
variable {st : List Int → Int → List Int} {ac : List Int → Bool} {sm : List Int}
theorem bldF_le {most : Nat} : ∀ {k i : Nat} {rows nx : List (List Int)} {acs : List Bool} {r : List (List Int) × List Bool}, bldF st ac sm most k i rows nx acs = some r → nx.length = i → acs.length = i → i ≤ rows.length → i ≤ most → r.1.length ≤ most ∧ rows.length ≤ r.1.length ∧ r.2.length = r.1.length
  | 0, i, rows, nx, acs, r, h, _, _, _, _ => by cases h
  | k + 1, i, rows, nx, acs, r, h, hn, ha, hi, hm => by
    rw [bldF] at h
    cases hg : rows[i]? with
    | none =>
      rw [hg] at h
      cases h
      have := List.getElem?_eq_none_iff.1 hg
      simp only
      omega
    | some row =>
      rw [hg] at h
      have hlt := (List.getElem?_eq_some_iff.1 hg).1
      by_cases hc : rows.length > most
      · simp only [if_pos hc] at h
        cases h
      · simp only [if_neg hc] at h
        have hl := nextF_len st row sm ([], rows)
        have := bldF_le h (by simp [hn]) (by simp [ha]) (by simp only [nextF]; simp only at hl; omega) (by omega)
        simp only [nextF] at this
        simp only at hl
        exact ⟨this.1, by omega, this.2.2⟩
theorem bldF_more {most : Nat} : ∀ {k i : Nat} {rows nx : List (List Int)} {acs : List Bool} {r : List (List Int) × List Bool}, bldF st ac sm most k i rows nx acs = some r → nx.length = i → acs.length = i → i ≤ rows.length → i ≤ most → ∀ (m k' : Nat), r.1.length ≤ m → r.1.length + 1 - i ≤ k' → bldF st ac sm m k' i rows nx acs = some r
  | 0, i, rows, nx, acs, r, h, _, _, _, _, _, _, _, _ => by cases h
  | k + 1, i, rows, nx, acs, r, h, hn, ha, hi, hm, m, k', hrm, hk' => by
    have hle := bldF_le h hn ha hi hm
    obtain ⟨k', rfl⟩ : ∃ k2, k' = k2 + 1 := ⟨k' - 1, by omega⟩
    rw [bldF] at h ⊢
    cases hg : rows[i]? with
    | none =>
      rw [hg] at h
      exact h
    | some row =>
      rw [hg] at h
      have hlt := (List.getElem?_eq_some_iff.1 hg).1
      by_cases hc : rows.length > most
      · simp only [if_pos hc] at h
        cases h
      · simp only [if_neg hc] at h
        simp only [if_neg (show ¬ rows.length > m by omega)]
        have hl := nextF_len st row sm ([], rows)
        exact bldF_more h (by simp [hn]) (by simp [ha]) (by simp only [nextF]; simp only at hl; omega) (by omega) m k' hrm (by omega)
end
theorem buildF_yes {p : List UInt8} {f : Bool} {most : Int} (h : (buildF p f most).2 = true) : ∃ r, checkG p = 0 ∧ 1 ≤ most ∧ most ≤ 256 ∧ buildR p f most.toNat = some r ∧ (buildF p f most).1 = ⟨clsL (patP (newV p f)) f, r.1, r.2⟩ := by
  unfold buildF at h ⊢
  by_cases hb : checkG p ≠ 0 ∨ most < 1 ∨ 256 < most
  · rw [if_pos hb] at h
    cases h
  · rw [if_neg hb] at h ⊢
    cases hr : buildR p f most.toNat with
    | none =>
      rw [hr] at h
      cases h
    | some r =>
      refine ⟨r, Decidable.byContradiction fun h => hb (.inl h), ?_, ?_, rfl, rfl⟩
      · have : ¬ most < 1 := fun h => hb (.inr (.inl h))
        omega
      · have : ¬ 256 < most := fun h => hb (.inr (.inr h))
        omega
theorem buildF_no {p : List UInt8} {f : Bool} {most : Int} (h : (buildF p f most).2 = false) : (buildF p f most).1 = noDfa := by
  unfold buildF at h ⊢
  by_cases hb : checkG p ≠ 0 ∨ most < 1 ∨ 256 < most
  · rw [if_pos hb]
  · rw [if_neg hb] at h ⊢
    cases hr : buildR p f most.toNat with
    | none => rfl
    | some r =>
      rw [hr] at h
      cases h
theorem build_less {p : List UInt8} {f : Bool} {most : Int} (h : (buildF p f most).2 = true) : 1 ≤ ((buildF p f most).1.nxt.length : Int) ∧ ((buildF p f most).1.nxt.length : Int) ≤ most ∧ (∀ m : Int, ((buildF p f most).1.nxt.length : Int) ≤ m → m ≤ 256 → buildF p f m = buildF p f most) ∧ (buildF p f (((buildF p f most).1.nxt.length : Int) - 1)).2 = false := by
  obtain ⟨r, h1, h2, h3, h4, h5⟩ := buildF_yes h
  have hle := bldF_le h4 rfl rfl (Nat.zero_le _) (Nat.zero_le _)
  have hsame : ∀ m : Int, (r.1.length : Int) ≤ m → m ≤ 256 → buildF p f m = (⟨clsL (patP (newV p f)) f, r.1, r.2⟩, true) := by
    intro m hm1 hm2
    have hl1 := hle.2.1
    simp only [List.length_singleton] at hl1
    have : buildR p f m.toNat = some r := bldF_more h4 rfl rfl (Nat.zero_le _) (Nat.zero_le _) _ _ (by omega) (by omega)
    unfold buildF
    rw [if_neg (by rintro (h | h | h) <;> omega), this]
  have hl1 := hle.2.1
  simp only [List.length_singleton] at hl1
  have he : buildF p f most = (⟨clsL (patP (newV p f)) f, r.1, r.2⟩, true) := hsame most (by omega) h3
  rw [h5]
  simp only
  refine ⟨by omega, by omega, fun m a b => by rw [hsame m a b, he], ?_⟩
  cases hb : (buildF p f ((r.1.length : Int) - 1)).2 with
  | false => rfl
  | true =>
    exfalso
    obtain ⟨r', g1, g2, g3, g4, g5⟩ := buildF_yes hb
    have hle' := bldF_le g4 rfl rfl (Nat.zero_le _) (Nat.zero_le _)
    have e1 := bldF_more h4 rfl rfl (Nat.zero_le _) (Nat.zero_le _) 300 300 (by omega) (by omega)
    have e2 := bldF_more g4 rfl rfl (Nat.zero_le _) (Nat.zero_le _) 300 300 (by omega) (by omega)
    rw [e1] at e2
    cases e2
    omega
end
section
open Go Go.Proofs

theorem keysAB : keysB [97, 98] false = [97, 98] := by
  have h1 : namedB [97, 98] false = [97, 98] := by decide
  have h2 : sortB [97, 98] = [97, 98] := List.mergeSort_of_pairwise (by decide)
  rw [keysB, h1, h2]
  decide +kernel
def dAB : Dfa := ⟨clsTo [97, 98] false 256, [[1, 2, 1], [1, 1, 1], [1, 1, 3], [1, 1, 1]], [false, false, false, true]⟩
theorem buildAB : buildF [97, 98] false 10 = (dAB, true) := by
  have hn : newV [97, 98] false = some ([97, 98], false) := by decide +kernel
  have hz : zeroTo [97, 98] false 256 = 255 := by decide +kernel
  have hs : someL [97, 98] false = [255, 97, 98] := by
    rw [someL, keysAB, hz]
    rfl
  have hr : bldF (stepI (some ([97, 98], false))) (accI (some ([97, 98], false))) [255, 97, 98] 10 11 0 [startI (some ([97, 98], false))] [] [] = some ([[1, 2, 1], [1, 1, 1], [1, 1, 3], [1, 1, 1]], [false, false, false, true]) := by decide +kernel
  have hb : buildR [97, 98] false 10 = some ([[1, 2, 1], [1, 1, 1], [1, 1, 3], [1, 1, 1]], [false, false, false, true]) := by
    unfold buildR
    rw [hn]
    simp only [patP]
    rw [hs]
    exact hr
  unfold buildF
  rw [if_neg (by decide +kernel), show (10 : Int).toNat = 10 from rfl, hb, hn]
  simp only [patP, clsL, keysAB]
  rfl
theorem runAB : dAB.run [97, 98] = true ∧ dAB.run [97] = false := by
  constructor <;> decide +kernel
theorem fitsAB : dAB.fits = true := by decide +kernel
def X0 : Tab := (Tab.none.addO 45 (.cons .str (.cons .bool (.cons .i64 .nil))) fun p => if p.1.length ≤ 300 ∧ (patP (newV p.1 p.2.1)).length ≤ 1000 then some (.rd true (.tup [.agg (buildF p.1 p.2.1 p.2.2.1).1.c, .bool (buildF p.1 p.2.1 p.2.2.1).2])) else none).addO 43 (.cons .dfa (.cons .str .nil)) fun p => if p.1.fits = true ∧ p.2.1.length ≤ roomy then some (.rd true (.bool (p.1.run p.2.1))) else none
theorem X0_ok : TabOk Try.prog X0 := by
  refine TabOk.addO (TabOk.addO (TabOk.none _) ?_) ?_
  · intro p r h
    split at h
    · rename_i hv; cases h; exact pBuild p.1 p.2.1 p.2.2.1 hv.1 hv.2
    · cases h
  · intro p r h
    split at h
    · rename_i hv; cases h; exact pDRun p.1 hv.1 p.2.1 hv.2
    · cases h
theorem pLivesS : PCF Try.prog 40 [] (.bool true) := by
  refine pcf_e hmG X0_ok comp40 (by decide) (by simp) (nidL_ok rfl) ?_
  have e1 : X0 45 [.str [97, 98], .bool false, .int .i64 10] = some (.rd true (.tup [.agg dAB.c, .bool true])) := by
    have this : X0 45 [.str [97, 98], .bool false, .int .i64 10] = some (.rd true (.tup [.agg (buildF [97, 98] false 10).1.c, .bool (buildF [97, 98] false 10).2])) := (Tab.addO_ne _ _ _ _ rfl _).trans ((Tab.addO_self _ _ (.cons .str (.cons .bool (.cons .i64 .nil))) _ ([97, 98], false, 10, ())).trans (if_pos ⟨by decide, by decide +kernel⟩))
    rw [buildAB] at this
    exact this
  have e2 : X0 43 [.agg dAB.c, .str [97, 98]] = some (.rd true (.bool true)) := by
    have this : X0 43 [.agg dAB.c, .str [97, 98]] = some (.rd true (.bool (dAB.run [97, 98]))) := (Tab.addO_self _ _ (.cons .dfa (.cons .str .nil)) _ (dAB, [97, 98], ())).trans (if_pos ⟨fitsAB, by decide⟩)
    rw [runAB.1] at this
    exact this
  have e3 : X0 43 [.agg dAB.c, .str [97]] = some (.rd true (.bool false)) := by
    have this : X0 43 [.agg dAB.c, .str [97]] = some (.rd true (.bool (dAB.run [97]))) := (Tab.addO_self _ _ (.cons .dfa (.cons .str .nil)) _ (dAB, [97], ())).trans (if_pos ⟨fitsAB, by decide⟩)
    rw [runAB.2] at this
    exact this
  have hlen : ∀ hp, lenA hp (encR.S dAB.nxt) = some (.int .i64 4) := fun hp => rfl
  have hlf : lenFits .slice (encR.S dAB.nxt) = true := rfl
  have cf : ∀ hp, frz hp (.agg dAB.c) = some (.agg dAB.c) := fun hp => by simp only [frz, dAB.c_frz]
  have cp : pickA (some 3) dAB.c 0 = some (.agg dAB.c) := rfl
  have cp1 : pickA none dAB.c 1 = some (encR.S dAB.nxt) := rfl
  have hst : storeA [some (.row 69 [.nils, .nils, .nils])] 3 (.ptr 0 0) (.agg dAB.c) = some [some (.row 69 dAB.c)] := rfl
  generalize dAB.c = dc at *
  generalize encR.S dAB.nxt = dn at *
  refine vcE.step (by simp (disch := first | assumption | omega) only [exC, exOps, exOp, wantedE, ↓reduceIte, ROp.run, evsE, evE, putE]; rfl) (vcE.step (by simp (disch := first | assumption | omega) only [exC, exOps, exOp, wantedE, ↓reduceIte, evsE, evE, List.append_nil, frzL, tz, e1, Cls.isFree, callCls, ty, nidL, putE, ROp.run, same, List.getElem?_cons_zero, Option.map_some, Nat.reduceEqDiff, List.getElem?_cons_succ, allocA, List.length_nil, List.nil_append, ↓hst]; rfl) ?_)
  refine vcE.ex (by simp (disch := first | assumption | omega) only [exC, exOps, exOp, wantedE, ↓reduceIte, ROp.run, evsE, evE, ty, putE, beq_self_eq_true, Nat.reduceEqDiff, same, faddrA, Option.map_some, loadA, rowA, List.getElem?_cons_zero, ↓cp1, hlf, ↓hlen, binA, intA, decide_true, ↓cp, List.append_nil, frzL, ↓cf, tz, e2, Cls.isFree, callCls, nidL, e3, unA]; rfl) ?_
  exact ⟨_, rfl, rfl⟩
end
section
open Go Go.Proofs

def elT : El Bool where
  E := encT
  v n := .bool n
  sh := none
  K := .bool
  pk := fun {l i a} h => by
    have := encT.pick1 (l := l) rfl h (v := .bool a) rfl rfl
    simpa [encT] using this
  nt _ := rfl
  ce _ := rfl
  nv _ := rfl
  fz _ _ := rfl
  eq a b := by cases a <;> cases b <;> rfl
  ne a b := by cases a <;> cases b <;> rfl
theorem pEqI (l m : List Int) (hl : l.length ≤ 4611686018427387904) (hm : m.length ≤ 4611686018427387904) : PCF Try.prog 98 [encI.S l, encI.S m] (.bool (decide (l = m))) := equal_pc hmG elI true comp98 hl hm
theorem pEqT (l m : List Bool) (hl : l.length ≤ 4611686018427387904) (hm : m.length ≤ 4611686018427387904) : PCF Try.prog 100 [encT.S l, encT.S m] (.bool (decide (l = m))) := equal_pc hmG elT true comp100 hl hm
def S0 : Tab := (Tab.none.addO 98 (.cons (.S encI) (.cons (.S encI) .nil)) fun p => if p.1.length ≤ 4611686018427387904 ∧ p.2.1.length ≤ 4611686018427387904 then some (.rd true (.bool (decide (p.1 = p.2.1)))) else none).addO 100 (.cons (.S encT) (.cons (.S encT) .nil)) fun p => if p.1.length ≤ 4611686018427387904 ∧ p.2.1.length ≤ 4611686018427387904 then some (.rd true (.bool (decide (p.1 = p.2.1)))) else none
theorem S0_ok : TabOk Try.prog S0 := by
  refine TabOk.addO (TabOk.addO (TabOk.none _) ?_) ?_
  · intro p r h
    split at h
    · rename_i hv; cases h; exact pEqI p.1 p.2.1 hv.1 hv.2
    · cases h
  · intro p r h
    split at h
    · rename_i hv; cases h; exact pEqT p.1 p.2.1 hv.1 hv.2
    · cases h
theorem S0_i {l m : List Int} (hl : l.length ≤ 4611686018427387904) (hm : m.length ≤ 4611686018427387904) : S0 98 [encI.S l, encI.S m] = some (.rd true (.bool (decide (l = m)))) :=
  (Tab.addO_ne _ _ _ _ rfl _).trans ((Tab.addO_self _ _ (.cons (.S encI) (.cons (.S encI) .nil)) _ (l, m, ())).trans (if_pos ⟨hl, hm⟩))
theorem S0_t {l m : List Bool} (hl : l.length ≤ 4611686018427387904) (hm : m.length ≤ 4611686018427387904) : S0 100 [encT.S l, encT.S m] = some (.rd true (.bool (decide (l = m)))) :=
  (Tab.addO_self _ _ (.cons (.S encT) (.cons (.S encT) .nil)) _ (l, m, ())).trans (if_pos ⟨hl, hm⟩)
theorem pEqF (l m : List (List Int)) (hl : l.length ≤ 1000000) (hm : m.length ≤ 1000000) (h1 : ∀ r ∈ l, r.length ≤ 1000000) (h2 : ∀ r ∈ m, r.length ≤ 1000000) : PCF Try.prog 99 [encR.S l, encR.S m, .func 98 []] (.bool (decide (l = m))) := by
  refine pcf_e hmG S0_ok comp99 (by decide) (by simp) (nidL_ok (by simp only [nidL, nid, Enc.S_nid, Bool.and_self])) ?_
  have hat : ∀ (l : List (List Int)) (i : Nat) (r : List Int), l[i]? = some r → iaddrA 1 (encR.S l) (.int .i64 (i : Int)) = some (.fptr (encR.cs l) i) ∧ pickA none (encR.cs l) i = some (encI.S r) := by
    intro l i r h
    have hlt := (List.getElem?_eq_some_iff.1 h).1
    have hne : encR.cs l ≠ [] := by
      intro h0
      have := encR_len l
      rw [h0, List.length_nil] at this
      omega
    refine ⟨?_, encR_at h⟩
    simp only [iaddrA, Enc.S]
    rw [if_pos ⟨hne, by omega, by omega⟩, Int.toNat_natCast, Nat.mul_one]
  refine vcE.step (by simp (disch := first | assumption | omega) only [exC, exOps, exOp, wantedE, ↓reduceIte, ROp.run, evsE, evE, putE]; rfl) ?_
  by_cases hlm : l.length = m.length
  rotate_left
  · have hne : l ≠ m := fun e => hlm (by rw [e])
    have hlm' : ¬ (l.length : Int) = (m.length : Int) := by omega
    rw [decide_eq_false hne]
    refine vcE.ex (by simp (disch := first | assumption | omega) only [exC, exOps, exOp, wantedE, ↓reduceIte, ROp.run, evsE, evE, ty, reduceCtorEq, List.getD_cons_zero, putE, same, Option.map_some, Nat.reduceEqDiff, List.getD_cons_succ, binA, intA, hlm', decide_false]; rfl) ?_
    exact ⟨_, rfl, rfl⟩
  have hlm' : (l.length : Int) = (m.length : Int) := by omega
  refine vcE.step (by simp (disch := first | assumption | omega) only [exC, exOps, exOp, wantedE, ↓reduceIte, ROp.run, evsE, evE, ty, reduceCtorEq, List.getD_cons_zero, putE, same, hlm', Option.map_some, Nat.reduceEqDiff, List.getD_cons_succ, binA, intA, decide_true]; rfl) ?_
  refine vcE.then (fun e' tm' hp' => (e' = .normal ∧ l = m) ∨ (e' = .ret ∧ hp' = [] ∧ tm' 6 = .bool false ∧ l ≠ m)) ?_ ?_
  rotate_left
  · rintro e' tm' hp' (⟨rfl, h⟩ | ⟨rfl, rfl, t6, h⟩)
    · rw [decide_eq_true h]
      refine vcE.ex (by simp (disch := first | assumption | omega) only [exC, exOps, exOp, wantedE, ↓reduceIte, ROp.run, evsE, evE, putE]; rfl) ?_
      exact ⟨_, rfl, rfl⟩
    · rw [decide_eq_false h]
      refine ⟨.bool false, ?_, rfl⟩
      simp only [resE, resEL, resE1, t6]
  refine vcE.step (by simp (disch := first | assumption | omega) only [exC, exOps, exOp, wantedE, ↓reduceIte, ROp.run, evsE, evE, ty, reduceCtorEq, List.getD_cons_zero, putE, same, Option.map_some]; rfl) (vcE.block (vcE.loop (by intro l tm hp h; simp at h) (fun k tm' hp' => ∃ i : Nat, k = l.length - i ∧ i ≤ l.length ∧ hp' = [] ∧ l.take i = m.take i ∧ tm' 1 = encR.S m ∧ tm' 2 = .func 98 [] ∧ tm' 15 = encR.S l ∧ tm' 16 = .int .i64 (l.length : Int) ∧ tm' 17 = .int .i64 (i : Int)) l.length ⟨0, rfl, Nat.zero_le _, rfl, rfl, ?_, ?_, ?_, ?_, ?_⟩ ?_))
  · first | (simp only [upd_app, Nat.reduceEqDiff, ↓reduceIte]; done) | (simp only [upd_app, Nat.reduceEqDiff, ↓reduceIte]; rfl)
  · first | (simp only [upd_app, Nat.reduceEqDiff, ↓reduceIte]; done) | (simp only [upd_app, Nat.reduceEqDiff, ↓reduceIte]; rfl)
  · first | (simp only [upd_app, Nat.reduceEqDiff, ↓reduceIte]; done) | (simp only [upd_app, Nat.reduceEqDiff, ↓reduceIte]; rfl)
  · first | (simp only [upd_app, Nat.reduceEqDiff, ↓reduceIte, hlm]; done) | (simp only [upd_app, Nat.reduceEqDiff, ↓reduceIte, hlm]; rfl)
  · first | (simp only [upd_app, Nat.reduceEqDiff, ↓reduceIte]; done) | (simp only [upd_app, Nat.reduceEqDiff, ↓reduceIte]; rfl)
  rintro k tm hp ⟨i, rfl, hi, rfl, htk, t1, t2, t15, t16, t17⟩
  by_cases hlt : i < l.length
  rotate_left
  · have : i = l.length := by omega
    subst this
    rw [List.take_length, hlm, List.take_length] at htk
    refine vcE.ex (by simp (disch := first | assumption | omega) only [exC, exOps, exOp, wantedE, ↓reduceIte, ROp.run, evsE, evE, t17, t16, same, binA, intA, Int.ofNat_lt, hlt, decide_false, Option.map_some, putE, ty]; rfl) ?_
    exact .inl ⟨rfl, htk⟩
  have hlt2 : i < m.length := by omega
  have ga := List.getElem?_eq_getElem hlt
  have gb := List.getElem?_eq_getElem hlt2
  generalize l[i] = a at ga
  generalize m[i] = b at gb
  obtain ⟨y1, p1⟩ := hat l i a ga
  obtain ⟨y2, p2⟩ := hat m i b gb
  have hla := h1 a (List.mem_of_getElem? ga)
  have hlb := h2 b (List.mem_of_getElem? gb)
  have he := S0_i (l := a) (m := b) (by omega) (by omega)
  have w1 := natW (x := (i : Int) + 1) (i + 1) (by omega) (by omega)
  by_cases hab : a = b
  · rw [decide_eq_true hab] at he
    refine vcE.ex (by simp (disch := first | assumption | omega) only [exC, exOps, exOp, wantedE, ↓reduceIte, ROp.run, evsE, evE, t17, t16, same, binA, intA, Int.ofNat_lt, hlt, decide_true, Option.map_some, putE, ty, Nat.reduceEqDiff, t15, ↓y1, loadA, rowA, ↓p1, t1, ↓y2, ↓p2, t2, List.append_nil, frzL, he, Cls.isFree, callCls, nidL, unA, w1]; rfl) ?_
    refine ⟨l.length - (i + 1), by omega, i + 1, rfl, by omega, rfl, ?_, ?_, ?_, ?_, ?_, ?_⟩
    · rw [List.take_add_one, List.take_add_one, ga, gb, hab, htk]
    all_goals simp only [upd_app, Nat.reduceEqDiff, ↓reduceIte, t1, t2, t15, t16]
  · rw [decide_eq_false hab] at he
    refine vcE.ex (by simp (disch := first | assumption | omega) only [exC, exOps, exOp, wantedE, ↓reduceIte, ROp.run, evsE, evE, t17, t16, same, binA, intA, Int.ofNat_lt, hlt, decide_true, Option.map_some, putE, ty, Nat.reduceEqDiff, t15, ↓y1, loadA, rowA, ↓p1, t1, ↓y2, ↓p2, t2, List.append_nil, frzL, he, Cls.isFree, callCls, nidL, unA]; rfl) ?_
    refine .inr ⟨rfl, rfl, ?_, ?_⟩
    · simp only [upd_app, Nat.reduceEqDiff, ↓reduceIte]
    · intro e
      rw [e, gb] at ga
      cases ga
      exact hab rfl
def Dfa.small (d : Dfa) : Prop := d.cls.length ≤ 1000000 ∧ d.nxt.length ≤ 1000000 ∧ d.acc.length ≤ 1000000 ∧ ∀ r ∈ d.nxt, r.length ≤ 1000000
instance (d : Dfa) : Decidable d.small := inferInstanceAs (Decidable (_ ∧ _))
def S1 : Tab := S0.addO 99 (.cons (.S encR) (.cons (.S encR) (.cons (.fn 98 .nil) .nil))) fun p => if (p.1.length ≤ 1000000 ∧ p.2.1.length ≤ 1000000) ∧ (∀ r ∈ p.1, r.length ≤ 1000000) ∧ ∀ r ∈ p.2.1, r.length ≤ 1000000 then some (.rd true (.bool (decide (p.1 = p.2.1)))) else none
theorem S1_ok : TabOk Try.prog S1 := by
  refine TabOk.addO S0_ok ?_
  intro p r h
  split at h
  · rename_i hv; cases h; exact pEqF p.1 p.2.1 hv.1.1 hv.1.2 hv.2.1 hv.2.2
  · cases h
theorem S1_f {l m : List (List Int)} (hl : l.length ≤ 1000000) (hm : m.length ≤ 1000000) (h1 : ∀ r ∈ l, r.length ≤ 1000000) (h2 : ∀ r ∈ m, r.length ≤ 1000000) : S1 99 [encR.S l, encR.S m, .func 98 []] = some (.rd true (.bool (decide (l = m)))) :=
  (Tab.addO_self _ _ (.cons (.S encR) (.cons (.S encR) (.cons (.fn 98 .nil) .nil))) _ (l, m, (), ())).trans (if_pos ⟨⟨hl, hm⟩, h1, h2⟩)
theorem pSame (a b : Dfa) (ha : a.small) (hb : b.small) : PCF Try.prog 46 [.agg a.c, .agg b.c] (.bool (decide (a = b))) := by
  refine pcf_e hmG S1_ok comp46 (by decide) (by simp) (nidL_ok (by simp only [nidL, nid, Dfa.c_nid, Bool.and_self])) ?_
  obtain ⟨a1, a2, a3, a4⟩ := ha
  obtain ⟨b1, b2, b3, b4⟩ := hb
  have e1 : S1 98 [encI.S a.cls, encI.S b.cls] = _ := (Tab.addO_ne _ _ _ _ rfl _).trans (S0_i (by omega) (by omega))
  have e2 := S1_f a2 b2 a4 b4
  have e3 : S1 100 [encT.S a.acc, encT.S b.acc] = _ := (Tab.addO_ne _ _ _ _ rfl _).trans (S0_t (by omega) (by omega))
  obtain ⟨x1, x2, x3⟩ := a
  obtain ⟨y1, y2, y3⟩ := b
  simp only at *
  have hd : decide ((⟨x1, x2, x3⟩ : Dfa) = ⟨y1, y2, y3⟩) = (decide (x1 = y1) && (decide (x2 = y2) && decide (x3 = y3))) := by
    rw [Bool.eq_iff_iff]
    simp only [decide_eq_true_eq, Bool.and_eq_true, Dfa.mk.injEq]
  rw [hd]
  simp only [Dfa.c]
  by_cases h1 : x1 = y1
  · by_cases h2 : x2 = y2
    · rw [decide_eq_true h1] at e1
      rw [decide_eq_true h2] at e2
      rw [decide_eq_true h1, decide_eq_true h2, Bool.true_and, Bool.true_and]
      refine vcE.ex (by simp (disch := first | assumption | omega) only [exC, exOps, exOp, wantedE, ↓reduceIte, ROp.run, evsE, evE, ty, List.getD_cons_zero, boxA, List.length_nil, tz, List.nil_append, putE, Nat.reduceEqDiff, List.getD_cons_succ, List.length_cons, List.cons_append, same, faddrA, Option.map_some, loadA, rowA, List.getElem?_cons_zero, pickA, List.getElem?_cons_succ, List.append_nil, frzL, e1, Cls.isFree, callCls, nidL, beq_self_eq_true, frz_func, e2, e3]; rfl) ?_
      exact ⟨_, rfl, rfl⟩
    · rw [decide_eq_true h1] at e1
      rw [decide_eq_false h2] at e2
      rw [decide_eq_true h1, decide_eq_false h2, Bool.true_and, Bool.false_and]
      refine vcE.ex (by simp (disch := first | assumption | omega) only [exC, exOps, exOp, wantedE, ↓reduceIte, ROp.run, evsE, evE, ty, List.getD_cons_zero, boxA, List.length_nil, tz, List.nil_append, putE, Nat.reduceEqDiff, List.getD_cons_succ, List.length_cons, List.cons_append, same, faddrA, Option.map_some, loadA, rowA, List.getElem?_cons_zero, pickA, List.getElem?_cons_succ, List.append_nil, frzL, e1, Cls.isFree, callCls, nidL, beq_self_eq_true, frz_func, e2, beq_iff_eq]; rfl) ?_
      exact ⟨_, rfl, rfl⟩
  · rw [decide_eq_false h1] at e1
    rw [decide_eq_false h1, Bool.false_and]
    refine vcE.ex (by simp (disch := first | assumption | omega) only [exC, exOps, exOp, wantedE, ↓reduceIte, ROp.run, evsE, evE, ty, List.getD_cons_zero, boxA, List.length_nil, tz, List.nil_append, putE, Nat.reduceEqDiff, List.getD_cons_succ, List.length_cons, List.cons_append, same, faddrA, Option.map_some, loadA, rowA, List.getElem?_cons_zero, pickA, List.getElem?_cons_succ, List.append_nil, frzL, e1, Cls.isFree, callCls, nidL, beq_iff_eq]; rfl) ?_
    exact ⟨_, rfl, rfl⟩
end
section
open Go Go.Proofs

theorem nextF_one (st : List Int → Int → List Int) (row : List Int) : ∀ (sm : List Int) (s : List Int × List (List Int)), (sm.foldl (nxF st row) s).1.length = s.1.length + sm.length
  | [], s => rfl
  | c :: sm, s => by
    rw [List.foldl_cons, nextF_one st row sm, List.length_cons]
    unfold nxF
    split <;> simp only [List.length_append, List.length_singleton] <;> omega
theorem bldF_rows {st : List Int → Int → List Int} {ac : List Int → Bool} {sm : List Int} {most B : Nat} (hB : sm.length ≤ B) : ∀ {k i : Nat} {rows nx : List (List Int)} {acs : List Bool} {r : List (List Int) × List Bool}, bldF st ac sm most k i rows nx acs = some r → (∀ x ∈ nx, x.length ≤ B) → ∀ x ∈ r.1, x.length ≤ B
  | 0, i, rows, nx, acs, r, h, _ => by cases h
  | k + 1, i, rows, nx, acs, r, h, hx => by
    rw [bldF] at h
    cases hg : rows[i]? with
    | none =>
      rw [hg] at h
      cases h
      exact hx
    | some row =>
      rw [hg] at h
      by_cases hc : rows.length > most
      · simp only [if_pos hc] at h
        cases h
      · simp only [if_neg hc] at h
        refine bldF_rows hB h ?_
        intro x hxx
        rcases List.mem_append.1 hxx with h1 | h1
        · exact hx x h1
        · rw [List.mem_singleton] at h1
          have := nextF_one st row sm ([], rows)
          rw [h1, nextF, this]
          simpa using hB
theorem build_small {p : List UInt8} {f : Bool} {most : Int} (hp : (patP (newV p f)).length ≤ 1000) : (buildF p f most).1.small := by
  cases h : (buildF p f most).2 with
  | false =>
    rw [buildF_no h]
    exact ⟨Nat.zero_le _, Nat.zero_le _, Nat.zero_le _, fun r hr => by cases hr⟩
  | true =>
    obtain ⟨r, h1, h2, h3, h4, h5⟩ := buildF_yes h
    have hle := bldF_le h4 rfl rfl (Nat.zero_le _) (Nat.zero_le _)
    have hsm := someL_len (patP (newV p f)) f
    have hr := bldF_rows (B := 1000000) (by omega) h4 (fun x hx => by cases hx)
    rw [h5]
    refine ⟨?_, ?_, ?_, hr⟩
    · simp only
      rw [clsL_len]
      omega
    · simp only
      omega
    · simp only
      omega
def pickN (n m : Int) : Int := if m < 1 then 0 else if n.tmod m < 0 then n.tmod m + m else n.tmod m
theorem pickN_range (n m : Int) (hm : 0 < m) : 0 ≤ pickN n m ∧ pickN n m < m := by
  have h2 := Int.tmod_lt_of_pos n hm
  have h3 := Int.lt_tmod_of_pos n hm
  unfold pickN
  rw [if_neg (by omega)]
  split <;> omega
theorem pPickN (n m : Int) (hm : m ≤ 9223372036854775807) : PCF Try.prog 18 [.int .i64 n, .int .i64 m] (.int .i64 (pickN n m)) := by
  refine pcf_e hmG (TabOk.none _) comp18 (by decide) (by simp) (nidL_ok rfl) ?_
  unfold pickN
  by_cases h1 : m < 1
  · refine vcE.ex (by simp (disch := first | assumption | omega) only [exC, exOps, exOp, wantedE, ↓reduceIte, ROp.run, evsE, evE, putE, ty, Nat.reduceEqDiff, List.getD_cons_succ, List.getD_cons_zero, same, binA, intA, dec_true, Option.map_some]; rfl) ?_
    refine ⟨_, rfl, ?_⟩
    simp only [upd_app, Nat.reduceEqDiff, ↓reduceIte, fresh_int, h1]
  · have hb : -m < n.tmod m ∧ n.tmod m < m := ⟨Int.lt_tmod_of_pos n (by omega), Int.tmod_lt_of_pos n (by omega)⟩
    have h0 : ¬ m = 0 := by omega
    by_cases h2 : n.tmod m < 0
    all_goals refine vcE.ex (by simp (disch := first | assumption | omega) only [exC, exOps, exOp, wantedE, ↓reduceIte, ROp.run, evsE, evE, putE, ty, Nat.reduceEqDiff, List.getD_cons_succ, List.getD_cons_zero, same, binA, intA, dec_false, Option.map_some, reduceCtorEq, h0, dec_true]; rfl) ?_
    all_goals refine ⟨_, rfl, ?_⟩
    all_goals simp only [upd_app, Nat.reduceEqDiff, ↓reduceIte, fresh_int, h1, h2]
theorem pTexts0 : PCF Try.prog 47 [.fsl [] 0, .int .i64 20, .int .i64 200] (.bool true) := by
  refine pcf_e hmG (TabOk.none _) comp47 (by decide) (by simp) (nidL_ok rfl) ?_
  refine vcE.step (by simp (disch := first | assumption | omega) only [exC, exOps, exOp, wantedE, ↓reduceIte, ROp.run, evsE, evE, putE]; rfl) (vcE.then (fun e' tm' hp' => e' = .normal ∧ hp' = [] ∧ tm' 0 = .fsl [] 0 ∧ tm' 1 = .int .i64 20) ?_ ?_)
  · refine vcE.step (by simp (disch := first | assumption | omega) only [exC, exOps, exOp, wantedE, ↓reduceIte, ROp.run, evsE, evE, putE]; rfl) (vcE.block (vcE.loop (by intro l tm hp h; simp at h) (fun k tm' hp' => hp' = [] ∧ tm' 0 = .fsl [] 0 ∧ tm' 1 = .int .i64 20 ∧ tm' 7 = .int .i64 0) 0 ⟨rfl, ?_, ?_, ?_⟩ ?_))
    · first | (simp only [upd_app, Nat.reduceEqDiff, ↓reduceIte]; done) | (simp only [upd_app, Nat.reduceEqDiff, ↓reduceIte]; rfl)
    · first | (simp only [upd_app, Nat.reduceEqDiff, ↓reduceIte]; done) | (simp only [upd_app, Nat.reduceEqDiff, ↓reduceIte]; rfl)
    · first | (simp only [upd_app, Nat.reduceEqDiff, ↓reduceIte]; done) | (simp only [upd_app, Nat.reduceEqDiff, ↓reduceIte]; rfl)
    rintro k tm hp ⟨rfl, t0, t1, t7⟩
    refine vcE.ex (by simp (disch := first | assumption | omega) only [exC, exOps, exOp, wantedE, ↓reduceIte, ROp.run, evsE, evE, t7, putE, ty, reduceCtorEq, t0, tz, same, Option.map_some, Nat.reduceEqDiff, binA, intA, dec_false]; rfl) ?_
    refine ⟨rfl, rfl, ?_, ?_⟩
    all_goals simp only [upd_app, Nat.reduceEqDiff, ↓reduceIte, t0, t1]
  · rintro e' tm hp ⟨rfl, rfl, t0, t1⟩
    refine vcE.ex (by simp (disch := first | assumption | omega) only [exC, exOps, exOp, wantedE, ↓reduceIte, ROp.run, evsE, evE, t0, putE, ty, tz, same, Option.map_some, Nat.reduceEqDiff, t1, binA, intA, dec_true]; rfl) ?_
    exact ⟨_, rfl, rfl⟩
def L0 : Tab := Tab.none.add 47 fun
  | [.fsl [] 0, .int .i64 20, .int .i64 200] => some (.rd true (.bool true))
  | _ => none
theorem L0_ok : TabOk Try.prog L0 := by
  refine TabOk.add (TabOk.none _) ?_
  intro xs r h
  split at h
  · cases h
    exact pTexts0
  · cases h
theorem pLight0 (p : List UInt8) : PCF Try.prog 44 [.str p, encI.S []] (.bool (decide (p.length ≤ 60))) := by
  refine pcf_e hmG L0_ok comp44 (by decide) (by simp) (nidL_ok rfl) ?_
  have h0 : L0 47 [.fsl [] 0, .int .i64 20, .int .i64 200] = some (.rd true (.bool true)) := rfl
  have hs : encI.S [] = .fsl [] 0 := rfl
  have hf : ∀ hp, frz hp (.fsl [] 0) = some (.fsl [] 0) := fun _ => rfl
  rw [hs]
  by_cases h : p.length ≤ 60
  · have h' : (p.length : Int) ≤ 60 := by omega
    rw [decide_eq_true h]
    refine vcE.ex (by simp (disch := first | assumption | omega) only [exC, exOps, exOp, wantedE, ↓reduceIte, ROp.run, evsE, evE, putE, ty, reduceCtorEq, List.getD_cons_zero, tz, same, Option.map_some, binA, intA, h', decide_true, beq_self_eq_true, Nat.reduceEqDiff, List.getD_cons_succ, List.append_nil, frzL, hf, h0, Cls.isFree, callCls, nidL]; rfl) ?_
    exact ⟨_, rfl, rfl⟩
  · have h' : ¬ (p.length : Int) ≤ 60 := by omega
    rw [decide_eq_false h]
    refine vcE.ex (by simp (disch := first | assumption | omega) only [exC, exOps, exOp, wantedE, ↓reduceIte, ROp.run, evsE, evE, putE, ty, reduceCtorEq, List.getD_cons_zero, tz, same, Option.map_some, binA, intA, h', decide_false, beq_iff_eq, Nat.reduceEqDiff]; rfl) ?_
    exact ⟨_, rfl, rfl⟩
def V0 : Tab := ((((Tab.none.addR 40 .nil fun _ => .rd true (.bool true)).addO 44 (.cons .str (.cons (.S encI) .nil)) fun p => if p.2.1 = [] then some (.rd true (.bool (decide (p.1.length ≤ 60)))) else none).addO 45 (.cons .str (.cons .bool (.cons .i64 .nil))) fun p => if p.1.length ≤ 60 then some (.rd true (.tup [.agg (buildF p.1 p.2.1 p.2.2.1).1.c, .bool (buildF p.1 p.2.1 p.2.2.1).2])) else none).addO 46 (.cons .dfa (.cons .dfa .nil)) fun p => if p.1.small ∧ p.2.1.small then some (.rd true (.bool (decide (p.1 = p.2.1)))) else none).addO 18 (.cons .i64 (.cons .i64 .nil)) fun p => if p.2.1 ≤ 1000 then some (.rd true (.int .i64 (pickN p.1 p.2.1))) else none
theorem pat_le {p : List UInt8} {f : Bool} (h : p.length ≤ 300) : (patP (newV p f)).length ≤ 1000 := by
  unfold newV
  split
  · have := normB_len p
    simp only [patP]
    omega
  · exact Nat.zero_le _
theorem V0_ok : TabOk Try.prog V0 := by
  refine TabOk.addO (TabOk.addO (TabOk.addO (TabOk.addO (TabOk.addR (TabOk.none _) ?_) ?_) ?_) ?_) ?_
  · exact fun _ => pLivesS
  · intro p r h
    split at h
    · rename_i hv
      cases h
      obtain ⟨a, b, u⟩ := p
      simp only at hv
      subst hv
      exact pLight0 a
    · cases h
  · intro p r h
    split at h
    · rename_i hv; cases h; exact pBuild p.1 p.2.1 p.2.2.1 (by omega) (pat_le (by omega))
    · cases h
  · intro p r h
    split at h
    · rename_i hv; cases h; exact pSame p.1 p.2.1 hv.1 hv.2
    · cases h
  · intro p r h
    split at h
    · rename_i hv; cases h; exact pPickN p.1 p.2.1 (by omega)
    · cases h
theorem V0_pick (n m : Int) (h : m ≤ 1000) : V0 18 [.int .i64 n, .int .i64 m] = some (.rd true (.int .i64 (pickN n m))) :=
  (Tab.addO_self _ _ (.cons .i64 (.cons .i64 .nil)) _ (n, m, ())).trans (if_pos h)
theorem V0_same {a b : Dfa} (ha : a.small) (hb : b.small) : V0 46 [.agg a.c, .agg b.c] = some (.rd true (.bool (decide (a = b)))) :=
  (Tab.addO_ne _ _ _ _ rfl _).trans ((Tab.addO_self _ _ (.cons .dfa (.cons .dfa .nil)) _ (a, b, ())).trans (if_pos ⟨ha, hb⟩))
theorem V0_build {p : List UInt8} (f : Bool) (most : Int) (h : p.length ≤ 60) : V0 45 [.str p, .bool f, .int .i64 most] = some (.rd true (.tup [.agg (buildF p f most).1.c, .bool (buildF p f most).2])) :=
  (Tab.addO_ne _ _ _ _ rfl _).trans ((Tab.addO_ne _ _ _ _ rfl _).trans ((Tab.addO_self _ _ (.cons .str (.cons .bool (.cons .i64 .nil))) _ (p, f, most, ())).trans (if_pos h)))
theorem V0_light (p : List UInt8) : V0 44 [.str p, encI.S []] = some (.rd true (.bool (decide (p.length ≤ 60)))) :=
  (Tab.addO_ne _ _ _ _ rfl _).trans ((Tab.addO_ne _ _ _ _ rfl _).trans ((Tab.addO_ne _ _ _ _ rfl _).trans ((Tab.addO_self _ _ (.cons .str (.cons (.S encI) .nil)) _ (p, [], ())).trans (if_pos rfl))))
theorem V0_lives : V0 40 [] = some (.rd true (.bool true)) :=
  (Tab.addO_ne _ _ _ _ rfl _).trans ((Tab.addO_ne _ _ _ _ rfl _).trans ((Tab.addO_ne _ _ _ _ rfl _).trans ((Tab.addO_ne _ _ _ _ rfl _).trans (Tab.addR_self _ _ .nil _ ()))))
end
section
open Go Go.Proofs

theorem c_store {H : HP} {k : Nat} {d : Dfa} (hk : H.length = k) : storeA (H ++ [some (.row 69 [.nils, .nils, .nils])]) 3 (.ptr k 0) (.agg d.c) = some (H ++ [some (.row 69 d.c)]) := by
  subst hk
  have hl : d.c.length = 3 := rfl
  have ho : over [.nils, .nils, .nils] 0 d.c = d.c := rfl
  simp only [storeA, cellsA, List.getElem?_append_right (Nat.le_refl _), Nat.sub_self, List.getElem?_cons_zero, hl, ho, List.length_cons, List.length_nil, Nat.zero_add, Nat.reduceAdd, Nat.le_refl, and_self, if_true]
  rw [List.set_append_right _ _ (Nat.le_refl _), Nat.sub_self]
  rfl
theorem c_pick (d : Dfa) : pickA (some 3) d.c 0 = some (.agg d.c) := rfl
theorem c_frz (d : Dfa) (hp : HP) : frz hp (.agg d.c) = some (.agg d.c) := by
  simp only [frz, d.c_frz]
theorem noDfa_small : noDfa.small := ⟨Nat.zero_le _, Nat.zero_le _, Nat.zero_le _, fun r hr => by cases hr⟩
theorem lawLess (p : List UInt8) (f : Bool) (most more : Int) : PC Try.prog 8 [.str p, .bool f, .int .i64 most, .int .i64 more] (.bool true) := by
  refine PCF.pc (pcf_e hmG V0_ok comp8 (by decide) (by simp) (nidL_ok rfl) ?_)
  have e1 := V0_lives
  have e2 := V0_light p
  have hs : encI.S [] = .fsl [] 0 := rfl
  have hf : ∀ hp, frz hp .nils = some (.fsl [] 0) := fun _ => rfl
  rw [hs] at e2
  refine vcE.step (by simp (disch := first | assumption | omega) only [exC, exOps, exOp, wantedE, ↓reduceIte, ROp.run, evsE, evE, putE]; rfl) (vcE.step (by simp (disch := first | assumption | omega) only [exC, exOps, exOp, wantedE, ↓reduceIte, evsE, evE, List.append_nil, frzL, e1, Cls.isFree, callCls, ty, nidL, putE, ROp.run, same, unA, Option.map_some]; rfl) ?_)
  by_cases hp : p.length ≤ 60
  rotate_left
  · rw [decide_eq_false hp] at e2
    refine vcE.ex (by simp (disch := first | assumption | omega) only [exC, exOps, exOp, wantedE, ↓reduceIte, ROp.run, evsE, evE, ty, reduceCtorEq, List.getD_cons_zero, putE, List.append_nil, frzL, tz, hf, e2, Cls.isFree, callCls, nidL, same, unA, Option.map_some]; rfl) ?_
    exact ⟨_, rfl, rfl⟩
  rw [decide_eq_true hp] at e2
  refine vcE.step (by simp (disch := first | assumption | omega) only [exC, exOps, exOp, wantedE, ↓reduceIte, ROp.run, evsE, evE, ty, reduceCtorEq, List.getD_cons_zero, putE, List.append_nil, frzL, tz, hf, e2, Cls.isFree, callCls, nidL, same, unA, Option.map_some]; rfl) ?_
  have e3 := V0_build f most hp
  have sm1 := build_small (f := f) (most := most) (pat_le (f := f) (p := p) (by omega))
  have st1 : storeA [some (.row 69 [.nils, .nils, .nils])] 3 (.ptr 0 0) (.agg (buildF p f most).1.c) = some [some (.row 69 (buildF p f most).1.c)] := c_store (H := []) rfl
  have cf := c_frz
  cases his : (buildF p f most).2 with
  | false =>
    have hno := buildF_no his
    rw [his, hno] at e3
    rw [hno] at st1
    have e4 := V0_same noDfa_small noDfa_small
    rw [decide_eq_true rfl] at e4
    have hb : fillA [(0, 1), (1, 1), (2, 1)] [.nils, .nils, .nils] (([] : List Nat).zip ([] : List AV)) = some [.nils, .nils, .nils] := rfl
    have hz : ∀ hp, frz hp (.agg [.nils, .nils, .nils]) = some (.agg noDfa.c) := fun _ => rfl
    have cp := c_pick noDfa
    refine vcE.step (by simp (disch := first | assumption | omega) only [exC, exOps, exOp, wantedE, ↓reduceIte, ROp.run, evsE, evE, ty, reduceCtorEq, List.getD_cons_zero, putE, Nat.reduceEqDiff, List.getD_cons_succ, List.append_nil, frzL, tz, e3, Cls.isFree, callCls, nidL, same, List.getElem?_cons_zero, Option.map_some, List.getElem?_cons_succ, allocA, List.length_nil, List.nil_append, ↓st1]; rfl) ?_
    refine vcE.ex (by simp (disch := first | assumption | omega) only [exC, exOps, exOp, wantedE, ↓reduceIte, ROp.run, evsE, evE, ty, putE, same, unA, Option.map_some, Nat.reduceEqDiff, loadA, rowA, List.getElem?_cons_zero, ↓cp, List.length_nil, ↓hb, List.append_nil, frzL, ↓cf, ↓hz, e4, Cls.isFree, callCls, nidL, tz]; rfl) ?_
    exact ⟨_, rfl, rfl⟩
  | true =>
    obtain ⟨l1, l2, l3, l4⟩ := build_less his
    obtain ⟨r, g1, g2, g3, g4, g5⟩ := buildF_yes his
    rw [his] at e3
    have e4 : V0 46 [.agg (buildF p f most).1.c, .agg (buildF p f most).1.c] = some (.rd true (.bool true)) := by
      have := V0_same sm1 sm1
      rw [decide_eq_true rfl] at this
      exact this
    have hn4 : (buildF p f (((buildF p f most).1.nxt.length : Int) - 1)).1 = noDfa := buildF_no l4
    have e6 := V0_build f (((buildF p f most).1.nxt.length : Int) - 1) hp
    rw [l4, hn4] at e6
    have ePick := V0_pick more (256 - ((buildF p f most).1.nxt.length : Int) + 1) (by omega)
    have hpr := pickN_range more (256 - ((buildF p f most).1.nxt.length : Int) + 1) (by omega)
    have hsame := l3 (((buildF p f most).1.nxt.length : Int) + pickN more (256 - ((buildF p f most).1.nxt.length : Int) + 1)) (by omega) (by omega)
    have e5 := V0_build f (((buildF p f most).1.nxt.length : Int) + pickN more (256 - ((buildF p f most).1.nxt.length : Int) + 1)) hp
    rw [hsame, his] at e5
    clear g4 g5 hsame l3 l4 hn4 his
    generalize pickN more (256 - ((buildF p f most).1.nxt.length : Int) + 1) = pk at *
    generalize (buildF p f most).1 = d at *
    generalize hnn : d.nxt.length = n at *
    have w1 : IntKind.wrap .i64 (256 - (n : Int)) = 256 - (n : Int) := wrap_i64 (by omega) (by omega)
    have w2 : IntKind.wrap .i64 (256 - (n : Int) + 1) = 256 - (n : Int) + 1 := wrap_i64 (by omega) (by omega)
    have w3 : IntKind.wrap .i64 ((n : Int) + pk) = (n : Int) + pk := wrap_i64 (by omega) (by omega)
    have w4 : IntKind.wrap .i64 ((n : Int) - 1) = (n : Int) - 1 := wrap_i64 (by omega) (by omega)
    have cp := c_pick d
    have cp1 : pickA none d.c 1 = some (encR.S d.nxt) := rfl
    have hlen : ∀ hp, lenA hp (encR.S d.nxt) = some (.int .i64 (n : Int)) := fun hp => by rw [← hnn]; exact Enc.S_len _ _ _
    have hlf : lenFits .slice (encR.S d.nxt) = true := rfl
    have st2 : storeA [some (.row 69 d.c), some (.row 69 [.nils, .nils, .nils])] 3 (.ptr 1 0) (.agg d.c) = some [some (.row 69 d.c), some (.row 69 d.c)] := c_store (H := [some (.row 69 d.c)]) rfl
    have st3 : storeA [some (.row 69 d.c), some (.row 69 d.c), some (.row 69 [.nils, .nils, .nils])] 3 (.ptr 2 0) (.agg noDfa.c) = some [some (.row 69 d.c), some (.row 69 d.c), some (.row 69 noDfa.c)] := c_store (H := [some (.row 69 d.c), some (.row 69 d.c)]) rfl
    refine vcE.step (by simp (disch := first | assumption | omega) only [exC, exOps, exOp, wantedE, ↓reduceIte, ROp.run, evsE, evE, ty, reduceCtorEq, List.getD_cons_zero, putE, Nat.reduceEqDiff, List.getD_cons_succ, List.append_nil, frzL, tz, e3, Cls.isFree, callCls, nidL, same, List.getElem?_cons_zero, Option.map_some, List.getElem?_cons_succ, allocA, List.length_nil, List.nil_append, ↓st1]; rfl) (vcE.step (by simp (disch := first | assumption | omega) only [exC, exOps, exOp, wantedE, ↓reduceIte, ROp.run, evsE, evE, ty, putE, same, unA, Option.map_some]; rfl) (vcE.step (by simp (disch := first | assumption | omega) only [exC, exOps, exOp, wantedE, ↓reduceIte, ROp.run, evsE, evE, ty, Nat.reduceEqDiff, same, faddrA, Option.map_some, putE, loadA, rowA, List.getElem?_cons_zero, ↓cp1, hlf, ↓hlen]; rfl) (vcE.step (by simp (disch := first | assumption | omega) only [exC, exOps, exOp, wantedE, ↓reduceIte, ROp.run, evsE, evE, ty, reduceCtorEq, List.getD_cons_zero, putE, Nat.reduceEqDiff, List.getD_cons_succ, same, binA, intA, w1, Option.map_some, w2, List.append_nil, frzL, tz, ePick, Cls.isFree, callCls, nidL, w3, e5, List.getElem?_cons_zero, List.getElem?_cons_succ, allocA, List.length_cons, List.length_nil, List.cons_append, List.nil_append, ↓st2]; rfl) (vcE.step (by simp (disch := first | assumption | omega) only [exC, exOps, exOp, wantedE, ↓reduceIte, ROp.run, evsE, evE, ty, reduceCtorEq, List.getD_cons_zero, putE, Nat.reduceEqDiff, List.getD_cons_succ, same, binA, intA, w4, Option.map_some, List.append_nil, frzL, tz, e6, Cls.isFree, callCls, nidL, List.getElem?_cons_zero, List.getElem?_cons_succ, allocA, List.length_cons, List.length_nil, Nat.reduceAdd, List.cons_append, List.nil_append, ↓st3]; rfl) ?_))))
    refine vcE.ex (by simp (disch := first | assumption | omega) only [exC, exOps, exOp, wantedE, ↓reduceIte, ROp.run, evsE, evE, ty, Nat.reduceEqDiff, putE, same, binA, intA, ge_iff_le, l1, decide_true, Option.map_some, beq_self_eq_true, List.getD_cons_succ, List.getD_cons_zero, l2, loadA, rowA, List.getElem?_cons_succ, List.getElem?_cons_zero, ↓cp, List.append_nil, frzL, ↓cf, e4, Cls.isFree, callCls, nidL, tz, unA]; rfl) ?_
    exact ⟨_, rfl, rfl⟩
end
end Go.Gi
