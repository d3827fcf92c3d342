/- Tables built: the bound does not matter, if it allows the table. -/
/- Tables: the chapter's example, by contracts. -/
/- Tables: all the same; the law of bounds. -/
/- Tables: the law of bounds. -/
/- Tables built run as the states do: the plain law. -/
/- Automata: a table, or states: what their methods give. -/
/- Lists of texts: outlawkit.LightTexts. -/
/- With a table or without one it matches what the glob matches: the law. -/
import Derived.Test.YtakdhioafodhcaaGiDfS
import Derived.Test.YtakdhioafodhcaaGiDfC
import Derived.Test.YtakdhioafodhcaaGiSL
import Derived.Test.YtakdhioafodhcaaGiGlH
import Derived.Test.YtakdhioafodhcaaGiGlD
set_option linter.unusedVariables false
set_option linter.unusedSimpArgs false
set_option maxRecDepth 100000
namespace Go.Gi
section
open Go Go.Proofs

theorem nextF_len (st : List Int → Int → List Int) (row : List Int) : ∀ (sm : List Int) (s : List Int × List (List Int)), s.2.length ≤ (sm.foldl (nxF st row) s).2.length
  | [], s => Nat.le_refl _
  | c :: sm, s => by
    refine Nat.le_trans ?_ (nextF_len st row sm (nxF st row s c))
    unfold nxF
    split
    · exact Nat.le_refl _
    · exact (numF_len _ _).2
section
variable {st : List Int → Int → List Int} {ac : List Int → Bool} {sm : List Int}
theorem bldF_le {most : Nat} : ∀ {k i : Nat} {rows nx : List (List Int)} {acs : List Bool} {r : List (List Int) × List Bool}, bldF st ac sm most k i rows nx acs = some r → nx.length = i → acs.length = i → i ≤ rows.length → i ≤ most → r.1.length ≤ most ∧ rows.length ≤ r.1.length ∧ r.2.length = r.1.length
  | 0, i, rows, nx, acs, r, h, _, _, _, _ => by cases h
  | k + 1, i, rows, nx, acs, r, h, hn, ha, hi, hm => by
    rw [bldF] at h
    cases hg : rows[i]? with
    | none =>
      rw [hg] at h
      cases h
      have := List.getElem?_eq_none_iff.1 hg
      simp only
      omega
    | some row =>
      rw [hg] at h
      have hlt := (List.getElem?_eq_some_iff.1 hg).1
      by_cases hc : rows.length > most
      · simp only [if_pos hc] at h
        cases h
      · simp only [if_neg hc] at h
        have hl := nextF_len st row sm ([], rows)
        have := bldF_le h (by simp [hn]) (by simp [ha]) (by simp only [nextF]; simp only at hl; omega) (by omega)
        simp only [nextF] at this
        simp only at hl
        exact ⟨this.1, by omega, this.2.2⟩
theorem bldF_more {most : Nat} : ∀ {k i : Nat} {rows nx : List (List Int)} {acs : List Bool} {r : List (List Int) × List Bool}, bldF st ac sm most k i rows nx acs = some r → nx.length = i → acs.length = i → i ≤ rows.length → i ≤ most → ∀ (m k' : Nat), r.1.length ≤ m → r.1.length + 1 - i ≤ k' → bldF st ac sm m k' i rows nx acs = some r
  | 0, i, rows, nx, acs, r, h, _, _, _, _, _, _, _, _ => by cases h
  | k + 1, i, rows, nx, acs, r, h, hn, ha, hi, hm, m, k', hrm, hk' => by
    have hle := bldF_le h hn ha hi hm
    obtain ⟨k', rfl⟩ : ∃ k2, k' = k2 + 1 := ⟨k' - 1, by omega⟩
    rw [bldF] at h ⊢
    cases hg : rows[i]? with
    | none =>
      rw [hg] at h
      exact h
    | some row =>
      rw [hg] at h
      have hlt := (List.getElem?_eq_some_iff.1 hg).1
      by_cases hc : rows.length > most
      · simp only [if_pos hc] at h
        cases h
      · simp only [if_neg hc] at h
        simp only [if_neg (show ¬ rows.length > m by omega)]
        have hl := nextF_len st row sm ([], rows)
        exact bldF_more h (by simp [hn]) (by simp [ha]) (by simp only [nextF]; simp only at hl; omega) (by omega) m k' hrm (by omega)
end
theorem buildF_yes {p : List UInt8} {f : Bool} {most : Int} (h : (buildF p f most).2 = true) : ∃ r, checkG p = 0 ∧ 1 ≤ most ∧ most ≤ 256 ∧ buildR p f most.toNat = some r ∧ (buildF p f most).1 = ⟨clsL (patP (newV p f)) f, r.1, r.2⟩ := by
  unfold buildF at h ⊢
  by_cases hb : checkG p ≠ 0 ∨ most < 1 ∨ 256 < most
  · rw [if_pos hb] at h
    cases h
  · rw [if_neg hb] at h ⊢
    cases hr : buildR p f most.toNat with
    | none =>
      rw [hr] at h
      cases h
    | some r =>
      refine ⟨r, Decidable.byContradiction fun h => hb (.inl h), ?_, ?_, rfl, rfl⟩
      · have : ¬ most < 1 := fun h => hb (.inr (.inl h))
        omega
      · have : ¬ 256 < most := fun h => hb (.inr (.inr h))
        omega
theorem buildF_no {p : List UInt8} {f : Bool} {most : Int} (h : (buildF p f most).2 = false) : (buildF p f most).1 = noDfa := by
  unfold buildF at h ⊢
  by_cases hb : checkG p ≠ 0 ∨ most < 1 ∨ 256 < most
  · rw [if_pos hb]
  · rw [if_neg hb] at h ⊢
    cases hr : buildR p f most.toNat with
    | none => rfl
    | some r =>
      rw [hr] at h
      cases h
theorem build_less {p : List UInt8} {f : Bool} {most : Int} (h : (buildF p f most).2 = true) : 1 ≤ ((buildF p f most).1.nxt.length : Int) ∧ ((buildF p f most).1.nxt.length : Int) ≤ most ∧ (∀ m : Int, ((buildF p f most).1.nxt.length : Int) ≤ m → m ≤ 256 → buildF p f m = buildF p f most) ∧ (buildF p f (((buildF p f most).1.nxt.length : Int) - 1)).2 = false := by
  obtain ⟨r, h1, h2, h3, h4, h5⟩ := buildF_yes h
  have hle := bldF_le h4 rfl rfl (Nat.zero_le _) (Nat.zero_le _)
  have hsame : ∀ m : Int, (r.1.length : Int) ≤ m → m ≤ 256 → buildF p f m = (⟨clsL (patP (newV p f)) f, r.1, r.2⟩, true) := by
    intro m hm1 hm2
    have hl1 := hle.2.1
    simp only [List.length_singleton] at hl1
    have : buildR p f m.toNat = some r := bldF_more h4 rfl rfl (Nat.zero_le _) (Nat.zero_le _) _ _ (by omega) (by omega)
    unfold buildF
    rw [if_neg (by rintro (h | h | h) <;> omega), this]
  have hl1 := hle.2.1
  simp only [List.length_singleton] at hl1
  have he : buildF p f most = (⟨clsL (patP (newV p f)) f, r.1, r.2⟩, true) := hsame most (by omega) h3
  rw [h5]
  simp only
  refine ⟨by omega, by omega, fun m a b => by rw [hsame m a b, he], ?_⟩
  cases hb : (buildF p f ((r.1.length : Int) - 1)).2 with
  | false => rfl
  | true =>
    exfalso
    obtain ⟨r', g1, g2, g3, g4, g5⟩ := buildF_yes hb
    have hle' := bldF_le g4 rfl rfl (Nat.zero_le _) (Nat.zero_le _)
    have e1 := bldF_more h4 rfl rfl (Nat.zero_le _) (Nat.zero_le _) 300 300 (by omega) (by omega)
    have e2 := bldF_more g4 rfl rfl (Nat.zero_le _) (Nat.zero_le _) 300 300 (by omega) (by omega)
    rw [e1] at e2
    cases e2
    omega
end
section
open Go Go.Proofs

theorem keysAB : keysB [97, 98] false = [97, 98] := by
  have h1 : namedB [97, 98] false = [97, 98] := by decide
  have h2 : sortB [97, 98] = [97, 98] := List.mergeSort_of_pairwise (by decide)
  rw [keysB, h1, h2]
  decide +kernel
def dAB : Dfa := ⟨clsTo [97, 98] false 256, [[1, 2, 1], [1, 1, 1], [1, 1, 3], [1, 1, 1]], [false, false, false, true]⟩
theorem buildAB : buildF [97, 98] false 10 = (dAB, true) := by
  have hn : newV [97, 98] false = some ([97, 98], false) := by decide +kernel
  have hz : zeroTo [97, 98] false 256 = 255 := by decide +kernel
  have hs : someL [97, 98] false = [255, 97, 98] := by
    rw [someL, keysAB, hz]
    rfl
  have hr : bldF (stepI (some ([97, 98], false))) (accI (some ([97, 98], false))) [255, 97, 98] 10 11 0 [startI (some ([97, 98], false))] [] [] = some ([[1, 2, 1], [1, 1, 1], [1, 1, 3], [1, 1, 1]], [false, false, false, true]) := by decide +kernel
  have hb : buildR [97, 98] false 10 = some ([[1, 2, 1], [1, 1, 1], [1, 1, 3], [1, 1, 1]], [false, false, false, true]) := by
    unfold buildR
    rw [hn]
    simp only [patP]
    rw [hs]
    exact hr
  unfold buildF
  rw [if_neg (by decide +kernel), show (10 : Int).toNat = 10 from rfl, hb, hn]
  simp only [patP, clsL, keysAB]
  rfl
theorem runAB : dAB.run [97, 98] = true ∧ dAB.run [97] = false := by
  constructor <;> decide +kernel
theorem fitsAB : dAB.fits = true := by decide +kernel
def X0 : Tab := (Tab.none.addO 45 (.cons .str (.cons .bool (.cons .i64 .nil))) fun p => if p.1.length ≤ 300 ∧ (patP (newV p.1 p.2.1)).length ≤ 1000 then some (.rd true (.tup [.agg (buildF p.1 p.2.1 p.2.2.1).1.c, .bool (buildF p.1 p.2.1 p.2.2.1).2])) else none).addO 43 (.cons .dfa (.cons .str .nil)) fun p => if p.1.fits = true ∧ p.2.1.length ≤ roomy then some (.rd true (.bool (p.1.run p.2.1))) else none
theorem X0_ok : TabOk Try.prog X0 := by
  refine TabOk.addO (TabOk.addO (TabOk.none _) ?_) ?_
  · intro p r h
    split at h
    · rename_i hv; cases h; exact pBuild p.1 p.2.1 p.2.2.1 hv.1 hv.2
    · cases h
  · intro p r h
    split at h
    · rename_i hv; cases h; exact pDRun p.1 hv.1 p.2.1 hv.2
    · cases h
theorem pLivesS : PCF Try.prog 40 [] (.bool true) := by
  refine pcf_e hmG X0_ok comp40 (by decide) (by simp) (nidL_ok rfl) ?_
  have e1 : X0 45 [.str [97, 98], .bool false, .int .i64 10] = some (.rd true (.tup [.agg dAB.c, .bool true])) := by
    have this : X0 45 [.str [97, 98], .bool false, .int .i64 10] = some (.rd true (.tup [.agg (buildF [97, 98] false 10).1.c, .bool (buildF [97, 98] false 10).2])) := (Tab.addO_ne _ _ _ _ rfl _).trans ((Tab.addO_self _ _ (.cons .str (.cons .bool (.cons .i64 .nil))) _ ([97, 98], false, 10, ())).trans (if_pos ⟨by decide, by decide +kernel⟩))
    rw [buildAB] at this
    exact this
  have e2 : X0 43 [.agg dAB.c, .str [97, 98]] = some (.rd true (.bool true)) := by
    have this : X0 43 [.agg dAB.c, .str [97, 98]] = some (.rd true (.bool (dAB.run [97, 98]))) := (Tab.addO_self _ _ (.cons .dfa (.cons .str .nil)) _ (dAB, [97, 98], ())).trans (if_pos ⟨fitsAB, by decide⟩)
    rw [runAB.1] at this
    exact this
  have e3 : X0 43 [.agg dAB.c, .str [97]] = some (.rd true (.bool false)) := by
    have this : X0 43 [.agg dAB.c, .str [97]] = some (.rd true (.bool (dAB.run [97]))) := (Tab.addO_self _ _ (.cons .dfa (.cons .str .nil)) _ (dAB, [97], ())).trans (if_pos ⟨fitsAB, by decide⟩)
    rw [runAB.2] at this
    exact this
  have hlen : ∀ hp, lenA hp (encR.S dAB.nxt) = some (.int .i64 4) := fun hp => rfl
  have hlf : lenFits .slice (encR.S dAB.nxt) = true := rfl
  have cf : ∀ hp, frz hp (.agg dAB.c) = some (.agg dAB.c) := fun hp => by simp only [frz, dAB.c_frz]
  have cp : pickA (some 3) dAB.c 0 = some (.agg dAB.c) := rfl
  have cp1 : pickA none dAB.c 1 = some (encR.S dAB.nxt) := rfl
  have hst : storeA [some (.row 69 [.nils, .nils, .nils])] 3 (.ptr 0 0) (.agg dAB.c) = some [some (.row 69 dAB.c)] := rfl
  generalize dAB.c = dc at *
  generalize encR.S dAB.nxt = dn at *
  refine vcE.step (by simp (disch := first | assumption | omega) only [exC, exOps, exOp, wantedE, ↓reduceIte, ROp.run, evsE, evE, putE]; rfl) (vcE.step (by simp (disch := first | assumption | omega) only [exC, exOps, exOp, wantedE, ↓reduceIte, evsE, evE, List.append_nil, frzL, tz, e1, Cls.isFree, callCls, ty, nidL, putE, ROp.run, same, List.getElem?_cons_zero, Option.map_some, Nat.reduceEqDiff, List.getElem?_cons_succ, allocA, List.length_nil, List.nil_append, ↓hst]; rfl) ?_)
  refine vcE.ex (by simp (disch := first | assumption | omega) only [exC, exOps, exOp, wantedE, ↓reduceIte, ROp.run, evsE, evE, ty, putE, beq_self_eq_true, Nat.reduceEqDiff, same, faddrA, Option.map_some, loadA, rowA, List.getElem?_cons_zero, ↓cp1, hlf, ↓hlen, binA, intA, decide_true, ↓cp, List.append_nil, frzL, ↓cf, tz, e2, Cls.isFree, callCls, nidL, e3, unA]; rfl) ?_
  exact ⟨_, rfl, rfl⟩
end
section
open Go Go.Proofs

def Dfa.small (d : Dfa) : Prop := d.cls.length ≤ 1000000 ∧ d.nxt.length ≤ 1000000 ∧ d.acc.length ≤ 1000000 ∧ ∀ r ∈ d.nxt, r.length ≤ 1000000
instance (d : Dfa) : Decidable d.small := inferInstanceAs (Decidable (_ ∧ _))
end
section
open Go Go.Proofs

theorem nextF_one (st : List Int → Int → List Int) (row : List Int) : ∀ (sm : List Int) (s : List Int × List (List Int)), (sm.foldl (nxF st row) s).1.length = s.1.length + sm.length
  | [], s => rfl
  | c :: sm, s => by
    rw [List.foldl_cons, nextF_one st row sm, List.length_cons]
    unfold nxF
    split <;> simp only [List.length_append, List.length_singleton] <;> omega
theorem bldF_rows {st : List Int → Int → List Int} {ac : List Int → Bool} {sm : List Int} {most B : Nat} (hB : sm.length ≤ B) : ∀ {k i : Nat} {rows nx : List (List Int)} {acs : List Bool} {r : List (List Int) × List Bool}, bldF st ac sm most k i rows nx acs = some r → (∀ x ∈ nx, x.length ≤ B) → ∀ x ∈ r.1, x.length ≤ B
  | 0, i, rows, nx, acs, r, h, _ => by cases h
  | k + 1, i, rows, nx, acs, r, h, hx => by
    rw [bldF] at h
    cases hg : rows[i]? with
    | none =>
      rw [hg] at h
      cases h
      exact hx
    | some row =>
      rw [hg] at h
      by_cases hc : rows.length > most
      · simp only [if_pos hc] at h
        cases h
      · simp only [if_neg hc] at h
        refine bldF_rows hB h ?_
        intro x hxx
        rcases List.mem_append.1 hxx with h1 | h1
        · exact hx x h1
        · rw [List.mem_singleton] at h1
          have := nextF_one st row sm ([], rows)
          rw [h1, nextF, this]
          simpa using hB
theorem build_small {p : List UInt8} {f : Bool} {most : Int} (hp : (patP (newV p f)).length ≤ 1000) : (buildF p f most).1.small := by
  cases h : (buildF p f most).2 with
  | false =>
    rw [buildF_no h]
    exact ⟨Nat.zero_le _, Nat.zero_le _, Nat.zero_le _, fun r hr => by cases hr⟩
  | true =>
    obtain ⟨r, h1, h2, h3, h4, h5⟩ := buildF_yes h
    have hle := bldF_le h4 rfl rfl (Nat.zero_le _) (Nat.zero_le _)
    have hsm := someL_len (patP (newV p f)) f
    have hr := bldF_rows (B := 1000000) (by omega) h4 (fun x hx => by cases hx)
    rw [h5]
    refine ⟨?_, ?_, ?_, hr⟩
    · simp only
      rw [clsL_len]
      omega
    · simp only
      omega
    · simp only
      omega
theorem pat_le {p : List UInt8} {f : Bool} (h : p.length ≤ 300) : (patP (newV p f)).length ≤ 1000 := by
  unfold newV
  split
  · have := normB_len p
    simp only [patP]
    omega
  · exact Nat.zero_le _
end
section
open Go Go.Proofs

theorem lst_eq (N : Nat) (b : Nat → Bool) : lst N b = ((List.range N).filter b).map fun (i : Nat) => (i : Int) := by
  unfold lst listB listTo
  rw [rowB_len]
  congr 1
  refine List.filter_congr fun i hi => ?_
  rw [rowB_get (List.mem_range.1 hi)]
  cases b i <;> simp
theorem lst_mem {N : Nat} {b : Nat → Bool} {v : Int} : v ∈ lst N b ↔ ∃ i : Nat, i < N ∧ b i = true ∧ v = i := by
  rw [lst_eq, List.mem_map]
  constructor
  · rintro ⟨i, hi, rfl⟩
    rw [List.mem_filter, List.mem_range] at hi
    exact ⟨i, hi.1, hi.2, rfl⟩
  · rintro ⟨i, h1, h2, rfl⟩
    exact ⟨i, List.mem_filter.2 ⟨List.mem_range.2 h1, h2⟩, rfl⟩
theorem ofS_lst {N : Nat} {b : Nat → Bool} {j : Nat} (h : j < N) : ofS (lst N b) j = b j := by
  rw [Bool.eq_iff_iff, ofS, decide_eq_true_eq, lst_mem]
  constructor
  · rintro ⟨i, _, h2, h3⟩
    have : j = i := by omega
    subst this
    exact h2
  · exact fun h2 => ⟨j, h, h2, rfl⟩
theorem lst_step {x : Option (List UInt8 × Bool)} (h : okV x) {r : Nat → Bool} {c : UInt8} : lst (nN x) (stepV x (ofS (lst (nN x) r)) c) = lst (nN x) (stepV x r c) := by
  have := stepV_congr h (c := c) (ofS (lst (nN x) r)) r fun i hi => ofS_lst hi
  show listB _ = listB _
  rw [this]
theorem acc_lst {x : Option (List UInt8 × Bool)} (h : okV x) {r : Nat → Bool} : accV x (ofS (lst (nN x) r)) = accV x r := by
  cases x with
  | none => rfl
  | some a =>
    obtain ⟨p, f⟩ := a
    simp only [accV]
    rw [nN_some h.1]
    exact ofS_lst (by omega)
theorem acc_run {p : List UInt8} {f : Bool} (h : checkG p = 0) (t : List UInt8) : accV (newV p f) (runV (newV p f) t (startV (newV p f))) = gm (sameB f) p t := by
  unfold newV
  rw [if_pos h]
  simp only [accV, runV_some, startV]
  rw [run_at t (t := []) (fun i hi => start_at hi) _ (Nat.le_refl _), List.nil_append, at_end, gm_norm]

def row8 (l : List Int) : Prop := ∀ v ∈ l, 0 ≤ v ∧ v < 256
theorem ofI8 {n : Int} (h : 0 ≤ n ∧ n < 256) : ((UInt8.ofNat (n % 256).toNat).toNat : Int) = n := by
  rw [UInt8.toNat_ofNat']
  omega
theorem keyI_inj : ∀ {l m : List Int}, row8 l → row8 m → keyI l = keyI m → l = m
  | [], [], _, _, _ => rfl
  | [], b :: m, _, _, h => by cases h
  | a :: l, [], _, _, h => by cases h
  | a :: l, b :: m, hl, hm, h => by
    rw [keyI, keyI, List.map_cons, List.map_cons, List.cons.injEq] at h
    have h1 := ofI8 (hl a (List.mem_cons_self ..))
    have h2 := ofI8 (hm b (List.mem_cons_self ..))
    rw [h.1, h2] at h1
    rw [h1, keyI_inj (fun v hv => hl v (List.mem_cons_of_mem _ hv)) (fun v hv => hm v (List.mem_cons_of_mem _ hv)) h.2]
theorem findK_some {s : List UInt8} : ∀ {rows : List (List Int)} {j : Nat}, findK s rows = some j → ∃ r, rows[j]? = some r ∧ s = keyI r
  | [], j, h => by cases h
  | r :: rs, j, h => by
    rw [findK] at h
    by_cases hs : s = keyI r
    · rw [if_pos hs] at h
      cases h
      exact ⟨r, rfl, hs⟩
    · rw [if_neg hs] at h
      cases hf : findK s rs with
      | none =>
        rw [hf] at h
        cases h
      | some i =>
        rw [hf] at h
        cases h
        obtain ⟨r', h1, h2⟩ := findK_some hf
        exact ⟨r', by simpa using h1, h2⟩
theorem numF_at {rows : List (List Int)} {l : List Int} (hg : ∀ r ∈ rows, row8 r) (hl : row8 l) : ∃ (v : Nat) (tl : List (List Int)), numF rows l = (v, rows ++ tl) ∧ (rows ++ tl)[v]? = some l ∧ ∀ r ∈ rows ++ tl, row8 r := by
  unfold numF
  cases hf : findK (keyI l) rows with
  | some j =>
    obtain ⟨r, h1, h2⟩ := findK_some hf
    have hr := List.mem_of_getElem? h1
    refine ⟨j, [], by simp, ?_, by simpa using hg⟩
    rw [List.append_nil, h1, keyI_inj hl (hg r hr) h2]
  | none =>
    refine ⟨rows.length, [l], rfl, by simp, ?_⟩
    intro r hr
    rcases List.mem_append.1 hr with h | h
    · exact hg r h
    · rw [List.mem_singleton] at h
      rw [h]
      exact hl

section
variable {st : List Int → Int → List Int} {ac : List Int → Bool} {sm : List Int}
def leadsTo (st : List Int → Int → List Int) (sm : List Int) (R : List (List Int)) (row nr : List Int) : Prop :=
  nr.length = sm.length ∧ ∀ (k : Nat) (c : Int), sm[k]? = some c → ∃ v : Nat, nr[k]? = some (v : Int) ∧ v < R.length ∧ (0 ≤ c → R[v]? = some (st row c))
theorem get_more {α : Type} {l m : List α} {i : Nat} {a : α} (h : l[i]? = some a) : (l ++ m)[i]? = some a := by
  rw [List.getElem?_append_left (List.getElem?_eq_some_iff.1 h).1]
  exact h
theorem leadsTo.more {R tl : List (List Int)} {row nr : List Int} (h : leadsTo st sm R row nr) : leadsTo st sm (R ++ tl) row nr := by
  refine ⟨h.1, fun k c hk => ?_⟩
  obtain ⟨v, h1, h2, h3⟩ := h.2 k c hk
  refine ⟨v, h1, by rw [List.length_append]; omega, fun hc => get_more (h3 hc)⟩
theorem next_at {row : List Int} (hst : ∀ c, row8 (st row c)) : ∀ (sm acc : List Int) (rows : List (List Int)), rows ≠ [] → (∀ r ∈ rows, row8 r) → ∃ (nr : List Int) (tl : List (List Int)), sm.foldl (nxF st row) (acc, rows) = (acc ++ nr, rows ++ tl) ∧ (∀ r ∈ rows ++ tl, row8 r) ∧ leadsTo st sm (rows ++ tl) row nr
  | [], acc, rows, hne, hg => ⟨[], [], by simp, by simpa using hg, rfl, fun k c h => by simp at h⟩
  | c :: sm, acc, rows, hne, hg => by
    rw [List.foldl_cons]
    have hpos : 0 < rows.length := List.length_pos_iff.2 hne
    by_cases hc : c < 0
    · have hn : nxF st row (acc, rows) c = (acc ++ [0], rows) := by simp only [nxF, if_pos hc]
      obtain ⟨nr, tl, h1, h2, h3⟩ := next_at hst sm (acc ++ [0]) rows hne hg
      refine ⟨0 :: nr, tl, by rw [hn, h1, List.append_assoc]; rfl, h2, by rw [List.length_cons, List.length_cons, h3.1], ?_⟩
      intro k d hk
      cases k with
      | zero =>
        simp only [List.getElem?_cons_zero, Option.some.injEq] at hk
        subst hk
        exact ⟨0, rfl, by rw [List.length_append]; omega, fun h => by omega⟩
      | succ k => exact h3.2 k d (by simpa using hk)
    · obtain ⟨v, t1, e1, e2, e3⟩ := numF_at hg (hst c)
      have hn : nxF st row (acc, rows) c = (acc ++ [(v : Int)], rows ++ t1) := by simp only [nxF, if_neg hc, e1]
      obtain ⟨nr, tl, h1, h2, h3⟩ := next_at hst sm (acc ++ [(v : Int)]) (rows ++ t1) (by simp [hne]) e3
      refine ⟨(v : Int) :: nr, t1 ++ tl, by rw [hn, h1, List.append_assoc, List.append_assoc]; rfl, by rw [← List.append_assoc]; exact h2, by rw [List.length_cons, List.length_cons, h3.1], ?_⟩
      rw [← List.append_assoc]
      intro k d hk
      cases k with
      | zero =>
        simp only [List.getElem?_cons_zero, Option.some.injEq] at hk
        subst hk
        have hv := (List.getElem?_eq_some_iff.1 e2).1
        exact ⟨v, rfl, by rw [List.length_append]; omega, fun _ => get_more e2⟩
      | succ k => exact h3.2 k d (by simpa using hk)
def BInv (st : List Int → Int → List Int) (ac : List Int → Bool) (sm : List Int) (i : Nat) (R nx : List (List Int)) (acs : List Bool) : Prop :=
  ∀ j, j < i → ∃ row nr, R[j]? = some row ∧ nx[j]? = some nr ∧ acs[j]? = some (ac row) ∧ leadsTo st sm R row nr
theorem bldF_inv (hst : ∀ row c, row8 (st row c)) {most : Nat} : ∀ {k i : Nat} {rows nx : List (List Int)} {acs : List Bool} {r : List (List Int) × List Bool}, bldF st ac sm most k i rows nx acs = some r → rows ≠ [] → (∀ x ∈ rows, row8 x) → nx.length = i → acs.length = i → i ≤ rows.length → BInv st ac sm i rows nx acs → ∃ tl, BInv st ac sm r.1.length (rows ++ tl) r.1 r.2 ∧ (rows ++ tl).length = r.1.length
  | 0, i, rows, nx, acs, r, h, _, _, _, _, _, _ => by cases h
  | k + 1, i, rows, nx, acs, r, h, hne, hg, hn, ha, hi, hb => by
    rw [bldF] at h
    cases hr : rows[i]? with
    | none =>
      rw [hr] at h
      cases h
      have := List.getElem?_eq_none_iff.1 hr
      refine ⟨[], ?_, ?_⟩
      · rw [List.append_nil]
        simp only [hn]
        exact hb
      · rw [List.append_nil]
        simp only
        omega
    | some row =>
      rw [hr] at h
      have hlt := (List.getElem?_eq_some_iff.1 hr).1
      by_cases hc : rows.length > most
      · simp only [if_pos hc] at h
        cases h
      · simp only [if_neg hc] at h
        obtain ⟨nr, tl, h1, h2, h3⟩ := next_at (hst row) sm [] rows hne hg
        rw [nextF, h1, List.nil_append] at h
        simp only at h
        obtain ⟨tl', g1, g2⟩ := bldF_inv hst h (by simp [hne]) h2 (by simp [hn]) (by simp [ha]) (by rw [List.length_append]; omega) (by
          intro j hj
          by_cases hji : j < i
          · obtain ⟨row', nr', i1, i2, i3, i4⟩ := hb j hji
            exact ⟨row', nr', get_more i1, get_more i2, get_more i3, i4.more⟩
          · have : j = i := by omega
            subst this
            refine ⟨row, nr, get_more hr, ?_, ?_, h3⟩
            · rw [← hn, List.getElem?_append_right (Nat.le_refl _), Nat.sub_self]
              rfl
            · rw [← ha, List.getElem?_append_right (Nat.le_refl _), Nat.sub_self]
              rfl)
        rw [List.append_assoc] at g1 g2
        exact ⟨tl ++ tl', g1, g2⟩
end

theorem foldB_two (c : UInt8) : foldB (foldB c) = foldB c := by
  by_cases h : 65 ≤ c.toNat ∧ c.toNat ≤ 90
  · have := foldB_up h.1 h.2
    exact foldB_lo (by omega)
  · have : c.toNat < 65 ∨ 90 < c.toNat := by omega
    rw [foldB_lo this, foldB_lo this]
theorem ofB_two (f : Bool) (c : UInt8) : ofB f (ofB f c) = ofB f c := by
  cases f
  · rfl
  · exact foldB_two c
theorem sameB_of (f : Bool) (a b : UInt8) : sameB f a b = decide (ofB f a = ofB f b) := by cases f <;> rfl
theorem isB_mem {ks : List UInt8} (hr : Rise ks) {x : UInt8} (h : x ∈ ks) : isB ks x = true := by
  obtain ⟨i, hi⟩ := List.mem_iff_getElem?.1 h
  have hl := (List.getElem?_eq_some_iff.1 hi).1
  have : lowB ks x = i := by
    refine low_eq (by omega) (fun k y hk hy => rise_at hr hy hi hk) fun k y hk hy => ?_
    by_cases hki : k = i
    · subst hki
      rw [hi] at hy
      cases hy
      simp [ltB]
    · have := rise_at hr hi hy (by omega)
      simp only [ltB, decide_eq_true_eq, decide_eq_false_iff_not] at *
      omega
  rw [isB, this, hi]
  simp
theorem zeroTo_at {ks : List UInt8} {f : Bool} {c : UInt8} (h : isB ks (ofB f c) = false) : ∀ {n : Nat}, c.toNat < n → n ≤ 256 → ∃ b : UInt8, zeroTo ks f n = (b.toNat : Int) ∧ isB ks (ofB f b) = false
  | 0, hn, _ => by omega
  | n + 1, hn, h2 => by
    rw [zeroTo]
    cases hb : isB ks (ofB f (UInt8.ofNat n)) with
    | false =>
      refine ⟨UInt8.ofNat n, ?_, hb⟩
      rw [if_neg (by simp), UInt8.toNat_ofNat']
      omega
    | true =>
      rw [if_pos rfl]
      refine zeroTo_at h ?_ (by omega)
      rcases Nat.lt_or_ge c.toNat n with h1 | h1
      · exact h1
      · have : c.toNat = n := by omega
        rw [← this, UInt8.ofNat_toNat, h] at hb
        cases hb
theorem takes_of {f : Bool} {q : List UInt8} {b c : UInt8} (h : ∀ a ∈ q, keepB a = true → (ofB f a = ofB f b ↔ ofB f a = ofB f c)) (i : Nat) : Gi.takes (sameB f) q i b = Gi.takes (sameB f) q i c := by
  unfold Gi.takes
  cases hq : q[i]? with
  | none => rfl
  | some a =>
    have ha := List.mem_of_getElem? hq
    simp only
    by_cases h42 : a = 42
    · simp [h42]
    by_cases h63 : a = 63
    · simp [h63]
    have := h a ha (by simp [keepB, h42, h63])
    rw [sameB_of, sameB_of]
    simp only [this]
theorem class_rep (q : List UInt8) (f : Bool) (c : UInt8) : ∃ b : UInt8, (someL q f)[clsOf (keysB q f) f c]? = some (b.toNat : Int) ∧ ∀ i, Gi.takes (sameB f) q i b = Gi.takes (sameB f) q i c := by
  have hr := keysB_rise q f
  have hin : ∀ a ∈ q, keepB a = true → isB (keysB q f) (ofB f a) = true := fun a ha hk => isB_mem hr ((keysB_mem q f _).2 (List.mem_map.2 ⟨a, List.mem_filter.2 ⟨ha, hk⟩, rfl⟩))
  cases hc : isB (keysB q f) (ofB f c) with
  | true =>
    refine ⟨ofB f c, ?_, takes_of fun a _ _ => by rw [ofB_two]⟩
    rw [clsOf, if_pos hc, someL, List.getElem?_cons_succ, List.getElem?_map]
    have := of_decide_eq_true hc
    rw [this]
    rfl
  | false =>
    obtain ⟨b, h1, h2⟩ := zeroTo_at hc c.toNat_lt (Nat.le_refl 256)
    refine ⟨b, ?_, takes_of fun a ha hk => ?_⟩
    · rw [clsOf, if_neg (by simp [hc]), someL, List.getElem?_cons_zero, h1]
    · have h3 := hin a ha hk
      constructor
      · intro e
        rw [e, h2] at h3
        cases h3
      · intro e
        rw [e, hc] at h3
        cases h3
theorem clsL_at (q : List UInt8) (f : Bool) (c : UInt8) : (clsL q f).getD c.toNat 0 = ((clsOf (keysB q f) f c : Nat) : Int) := by
  have := c.toNat_lt
  rw [List.getD_eq_getElem?_getD, clsL, clsTo, List.getElem?_map, List.getElem?_range this]
  simp only [Option.map_some, Option.getD_some]
  rw [if_pos this, UInt8.ofNat_toNat]
theorem leads_takes {s : UInt8 → UInt8 → Bool} {q : List UInt8} {r : Nat → Bool} {b c : UInt8} (h : ∀ i, Gi.takes s q i b = Gi.takes s q i c) : stepS s q r b = stepS s q r c := by
  unfold stepS
  congr 1
  funext j
  cases j with
  | zero => rfl
  | succ j => simp only [leads, h]
theorem clsOf_lt (q : List UInt8) (f : Bool) (c : UInt8) : clsOf (keysB q f) f c < (someL q f).length := by
  obtain ⟨b, h, _⟩ := class_rep q f c
  exact (List.getElem?_eq_some_iff.1 h).1

theorem checkG_len {p : List UInt8} (h : checkG p = 0) : p.length ≤ 255 ∧ p ≠ [] := by
  unfold checkG at h
  split at h
  · omega
  · split at h
    · omega
    · exact ⟨by omega, by assumption⟩
theorem lst8 {N : Nat} {b : Nat → Bool} (h : N ≤ 256) : row8 (lst N b) := by
  intro v hv
  obtain ⟨i, h1, _, rfl⟩ := lst_mem.1 hv
  omega
theorem newV_yes {p : List UInt8} {f : Bool} (h : checkG p = 0) : newV p f = some (normB p, f) := if_pos h
theorem newV_n {p : List UInt8} {f : Bool} (h : checkG p = 0) : nN (newV p f) ≤ 256 := by
  have h1 := checkG_len h
  have h2 := normB_len p
  rw [newV_yes h, nN_some (normB_ne h1.2)]
  omega
theorem build_inv {p : List UInt8} {f : Bool} {most : Int} (h : (buildF p f most).2 = true) : ∃ R, R[0]? = some (startI (newV p f)) ∧ R.length = (buildF p f most).1.nxt.length ∧ BInv (stepI (newV p f)) (accI (newV p f)) (someL (patP (newV p f)) f) R.length R (buildF p f most).1.nxt (buildF p f most).1.acc ∧ (buildF p f most).1.cls = clsL (patP (newV p f)) f := by
  obtain ⟨r, h1, h2, h3, h4, h5⟩ := buildF_yes h
  have hn := newV_n (f := f) h1
  obtain ⟨tl, g1, g2⟩ := bldF_inv (fun row c => lst8 hn) h4 (by simp) (by
    intro x hx
    rw [List.mem_singleton] at hx
    rw [hx]
    exact lst8 hn) rfl rfl (Nat.zero_le _) (fun j hj => by omega)
  rw [h5]
  refine ⟨_, ?_, g2, ?_, rfl⟩
  · rfl
  · rw [g2]
    exact g1
theorem build_isok {p : List UInt8} {f : Bool} {most : Int} (h : (buildF p f most).2 = true) : (buildF p f most).1.ok = true := by
  obtain ⟨R, h1, h2, h3, h4⟩ := build_inv h
  obtain ⟨r, g1, g2, g3, g4, g5⟩ := buildF_yes h
  have hle := bldF_le g4 rfl rfl (Nat.zero_le _) (Nat.zero_le _)
  have hn : (buildF p f most).1.nxt.length = r.1.length := by rw [g5]
  have ha : (buildF p f most).1.acc.length = r.2.length := by rw [g5]
  have hl1 := hle.2.1
  simp only [List.length_singleton] at hl1
  have hrow : ∀ nr ∈ (buildF p f most).1.nxt, nr.length = (someL (patP (newV p f)) f).length ∧ ∀ s ∈ nr, 0 ≤ s ∧ s < ((buildF p f most).1.nxt.length : Int) := by
    intro nr hnr
    obtain ⟨j, hj⟩ := List.mem_iff_getElem?.1 hnr
    have hjl := (List.getElem?_eq_some_iff.1 hj).1
    obtain ⟨row, nr', i1, i2, i3, i4⟩ := h3 j (by omega)
    rw [hj] at i2
    cases i2
    refine ⟨i4.1, fun s hs => ?_⟩
    obtain ⟨k, hk⟩ := List.mem_iff_getElem?.1 hs
    have hkl := (List.getElem?_eq_some_iff.1 hk).1
    rw [i4.1] at hkl
    obtain ⟨v, j1, j2, _⟩ := i4.2 k _ (List.getElem?_eq_getElem hkl)
    rw [hk] at j1
    cases j1
    omega
  have hw : (buildF p f most).1.wide = (someL (patP (newV p f)) f).length := (hrow _ (getD_mem (by omega))).1
  rw [Dfa.ok_iff]
  refine ⟨?_, by omega, by omega, by omega, ?_, ?_, ?_⟩
  · rw [h4]
    exact clsTo_len _ _ _
  · rw [hw]
    simp [someL]
  · intro x hx
    rw [h4, clsL, clsTo, List.mem_map] at hx
    obtain ⟨c, hc, rfl⟩ := hx
    rw [List.mem_range] at hc
    rw [if_pos hc, hw]
    have := clsOf_lt (patP (newV p f)) f (UInt8.ofNat c)
    omega
  · intro nr hnr
    rw [hw]
    exact hrow nr hnr
theorem build_takes {p : List UInt8} {f : Bool} {most : Int} (h : (buildF p f most).2 = true) (t : List UInt8) : (buildF p f most).1.takes t = gm (sameB f) p t := by
  obtain ⟨R, h1, h2, h3, h4⟩ := build_inv h
  obtain ⟨r, g1, g2, g3, g4, g5⟩ := buildF_yes h
  have hx : okV (newV p f) := by
    have h1 := checkG_len g1
    have h2 := normB_len p
    rw [newV_yes g1]
    exact ⟨normB_ne h1.2, by omega⟩
  have hpat : patP (newV p f) = normB p := by rw [newV_yes g1]; rfl
  have hrun : ∀ (t : List UInt8) (s : Nat) (b : Nat → Bool), R[s]? = some (lst (nN (newV p f)) b) → R[t.foldl (buildF p f most).1.go s]? = some (lst (nN (newV p f)) (runV (newV p f) t b)) := by
    intro t
    induction t with
    | nil => exact fun s b hs => hs
    | cons c t ih =>
      intro s b hs
      have hsl := (List.getElem?_eq_some_iff.1 hs).1
      obtain ⟨row, nr, i1, i2, i3, i4⟩ := h3 s hsl
      rw [hs] at i1
      cases i1
      obtain ⟨b0, e1, e2⟩ := class_rep (patP (newV p f)) f c
      obtain ⟨v, j1, j2, j3⟩ := i4.2 _ _ e1
      have hgo : (buildF p f most).1.go s c = v := by
        unfold Dfa.go
        rw [h4, clsL_at, List.getD_eq_getElem?_getD, List.getD_eq_getElem?_getD, i2, Option.getD_some, Int.toNat_natCast, j1]
        rfl
      rw [List.foldl_cons, hgo, runV]
      refine ih v _ ?_
      rw [j3 (by omega), stepI]
      have hb0 : UInt8.ofNat (((b0.toNat : Int) % 256).toNat) = b0 := by
        have := b0.toNat_lt
        rw [show (((b0.toNat : Int) % 256).toNat) = b0.toNat by omega, UInt8.ofNat_toNat]
      rw [hb0, lst_step hx]
      congr 2
      rw [newV_yes g1]
      simp only [stepV]
      rw [← hpat]
      exact leads_takes e2
  have hend := hrun t 0 _ h1
  have hfl := (List.getElem?_eq_some_iff.1 hend).1
  obtain ⟨row, nr, i1, i2, i3, i4⟩ := h3 _ hfl
  rw [hend] at i1
  cases i1
  unfold Dfa.takes Dfa.fin
  rw [List.getD_eq_getElem?_getD, i3, Option.getD_some, accI, acc_lst hx, acc_run g1]
theorem build_no {p : List UInt8} {f : Bool} {most : Int} (h : checkG p ≠ 0 ∨ most < 1 ∨ 256 < most) : (buildF p f most).2 = false := by
  unfold buildF
  rw [if_pos h]
end
section
open Go Go.Proofs

theorem vcE.callM {P : Program} {hint : Nat → Nat} {T : Tab} {n : Nat} {d : Option Nat} {xs : List Opd} {g : Option (Nat × Bool)} {tm : Env} {hp : HP} {Q : Exit → Env → HP → Prop} {ms : List (Nat × Nat)} {t : TypeId} {v : AV} {f : FuncId} {ys : List AV} {K : AV → HP → Prop} (hw : wantedE tm g = true) (he : evsE tm xs = .iface t v :: ys) (hf : mfind ms t = some f) (hc : ACalls P f (v :: ys) hp K) (hk : ∀ r hp', K r hp' → Q .normal (putE tm d r) hp') : vcE P hint T n (.reg [⟨d, .call (some ms), xs, g⟩]) tm hp Q := by
  intro hm hT hs l Q' hl hq
  simp only [okS, List.all_cons, List.all_nil, Bool.and_true, IOp.inR, Bool.and_eq_true] at hs
  obtain ⟨⟨h1, h2⟩, h3⟩ := hs
  show vop P _ _ _
  unfold vop
  rw [if_pos (by rw [hl.wanted h3]; exact hw)]
  simp only
  rw [hl.evs h1, he]
  simp only [meth, hf]
  exact hc.mono fun r hp' hr => hq _ _ _ _ hl.put (hk r hp' hr)

inductive Aut where
  | no
  | tab (d : Dfa)
  | st (x : Option (List UInt8 × Bool))
def Aut.v : Aut → AV
  | .no => .nilp
  | .tab d => .fptr [.iface 127 (.agg d.c)] 0
  | .st x => .fptr [.iface 133 (.agg [nV x])] 0
def R1.aut : R1 Aut where
  v := Aut.v
  un := fun
    | .nilp => some .no
    | .fptr [.iface t a] 0 => if t = 127 then (R1.dfa.un a).map .tab else if t = 133 then (match a with
      | .agg [y] => (R1.nfa.un y).map .st
      | _ => none) else none
    | _ => none
  un_v a := by
    cases a with
    | no => rfl
    | tab d =>
      have := R1.dfa.un_v d
      show (R1.dfa.un (.agg d.c)).map Aut.tab = _
      rw [show R1.dfa.un (.agg d.c) = some d from this]
      rfl
    | st x =>
      have := R1.nfa.un_v x
      show (R1.nfa.un (nV x)).map Aut.st = _
      rw [show R1.nfa.un (nV x) = some x from this]
      rfl
  un_some x a h := by
    split at h
    · cases h; rfl
    · split at h
      · rename_i ht
        obtain ⟨d, h1, rfl⟩ := Option.map_eq_some_iff.1 h
        rw [R1.dfa.un_some _ _ h1, ht]
        rfl
      · split at h
        · rename_i ht
          split at h
          · obtain ⟨d, h1, rfl⟩ := Option.map_eq_some_iff.1 h
            rw [R1.nfa.un_some _ _ h1, ht]
            rfl
          · cases h
        · cases h
    · cases h
theorem Aut.v_nid (a : Aut) : nid a.v = true := by
  cases a with
  | no => rfl
  | tab d => simp only [Aut.v, nid, nidL, d.c_nid, Bool.and_self]
  | st x => simp only [Aut.v, nid, nidL, nV_nid, Bool.and_self]
theorem Aut.v_frz (a : Aut) (hp : HP) : frz hp a.v = some a.v := by
  cases a with
  | no => rfl
  | tab d => simp only [Aut.v, frz, nid, nidL, d.c_nid, Bool.and_self, if_true]
  | st x => simp only [Aut.v, frz, nid, nidL, nV_nid, Bool.and_self, if_true]

theorem pTabMatch (d : Dfa) (h : d.ok = true) (t : List UInt8) (ht : t.length ≤ roomy) : PCF Try.prog 188 [.agg d.c, .str t] (.bool (d.takes t)) := by
  refine pcf_e hmM D3_ok comp188 (by decide) (by simp) (nidL_ok (by simp only [nidL, nid, d.c_nid, Bool.and_self])) ?_
  have q0 : pickA (some 3) d.c 0 = some (.agg d.c) := rfl
  have qc : cellsA (.agg d.c) = d.c := rfl
  have k2 := D3_through h ht
  refine vcE.ex (by simp (disch := first | assumption | omega) only [exC, exOps, exOp, wantedE, ↓reduceIte, ROp.run, evsE, evE, ty, List.getD_cons_zero, tz, List.length_nil, qc, List.nil_append, putE, Nat.reduceEqDiff, same, faddrA, Option.map_some, loadA, rowA, List.getElem?_cons_zero, ↓q0, List.getD_cons_succ, List.append_nil, frzL, frz_agg, Dfa.c_frz, k2, Cls.isFree, callCls, nidL, Dfa.c_nid]; rfl) ?_
  exact ⟨_, rfl, rfl⟩
theorem pTabStates (d : Dfa) : PCF Try.prog 189 [.agg d.c] (.int .i64 (d.nxt.length : Int)) := by
  refine pcf_e hmM D3_ok comp189 (by decide) (by simp) (nidL_ok (by simp only [nidL, nid, d.c_nid, Bool.and_self])) ?_
  have q1 : pickA none d.c 1 = some (encR.S d.nxt) := rfl
  have qc : cellsA (.agg d.c) = d.c := rfl
  have hlen : ∀ hp, lenA hp (encR.S d.nxt) = some (.int .i64 (d.nxt.length : Int)) := fun hp => Enc.S_len _ _ _
  have hlf : lenFits .slice (encR.S d.nxt) = true := rfl
  refine vcE.ex (by simp (disch := first | assumption | omega) only [exC, exOps, exOp, wantedE, ↓reduceIte, ROp.run, evsE, evE, ty, List.getD_cons_zero, tz, List.length_nil, qc, List.nil_append, putE, Nat.reduceEqDiff, same, faddrA, Option.map_some, loadA, rowA, List.getElem?_cons_zero, ↓q1, hlf, ↓hlen]; rfl) ?_
  exact ⟨_, rfl, rfl⟩
def Y0 : Tab := Tab.none.addO 192 (.cons .nfa (.cons .str .nil)) fun p => if okW p.1 ∧ p.2.1.length ≤ 1000000 then some (.rd true (.bool (accV p.1 (runV p.1 p.2.1 (startV p.1))))) else none
theorem Y0_ok : TabOk Try.prog Y0 := by
  refine TabOk.addO (TabOk.none _) ?_
  intro p r h
  split at h
  · rename_i hv; cases h; exact pRun p.1 hv.1 p.2.1 hv.2
  · cases h
theorem Y0_run {x : Option (List UInt8 × Bool)} (h : okW x) {t : List UInt8} (ht : t.length ≤ 1000000) : Y0 192 [nV x, .str t] = some (.rd true (.bool (accV x (runV x t (startV x))))) :=
  (Tab.addO_self _ _ (.cons .nfa (.cons .str .nil)) _ (x, t, ())).trans (if_pos ⟨h, ht⟩)
theorem pRowsMatch (x : Option (List UInt8 × Bool)) (h : okW x) (t : List UInt8) (ht : t.length ≤ 1000000) : PCF Try.prog 190 [.agg [nV x], .str t] (.bool (accV x (runV x t (startV x)))) := by
  refine pcf_e hmM Y0_ok comp190 (by decide) (by simp) (nidL_ok (by simp only [nidL, nid, nV_nid, Bool.and_self])) ?_
  have k2 := Y0_run h ht
  have q0 : pickA none [nV x] 0 = some (nV x) := by cases x <;> rfl
  have qc : cellsA (.agg [nV x]) = [nV x] := rfl
  refine vcE.ex (by simp (disch := first | assumption | omega) only [exC, exOps, exOp, wantedE, ↓reduceIte, ROp.run, evsE, evE, ty, List.getD_cons_zero, tz, List.length_nil, qc, List.nil_append, putE, Nat.reduceEqDiff, same, faddrA, Option.map_some, loadA, rowA, List.getElem?_cons_zero, ↓q0, List.getD_cons_succ, List.append_nil, frzL, nV_frz, k2, Cls.isFree, callCls, nidL, nV_nid]; rfl) ?_
  exact ⟨_, rfl, rfl⟩
theorem pRowsStates (x : Option (List UInt8 × Bool)) : PCF Try.prog 191 [.agg [nV x]] (.int .i64 0) := by
  refine pcf_e hmM Y0_ok comp191 (by decide) (by simp) (nidL_ok (by simp only [nidL, nid, nV_nid, Bool.and_self])) ?_
  have qc : cellsA (.agg [nV x]) = [nV x] := rfl
  refine vcE.ex (by simp (disch := first | assumption | omega) only [exC, exOps, exOp, wantedE, ↓reduceIte, ROp.run, evsE, evE, ty, List.getD_cons_zero, tz, List.length_nil, qc, List.nil_append, putE]; rfl) ?_
  exact ⟨_, rfl, rfl⟩

def Aut.states : Aut → Nat
  | .tab d => d.nxt.length
  | _ => 0
def Aut.full : Aut → Bool
  | .no => false
  | .tab d => decide ((d.nxt.length : Int) = 0)
  | .st _ => true
def Aut.ok : Aut → Prop
  | .no => False
  | .tab d => d.ok = true
  | .st x => okW x
instance (a : Aut) : Decidable a.ok := by
  cases a with
  | no => exact isFalse id
  | tab d => exact inferInstanceAs (Decidable (d.ok = true))
  | st x => exact inferInstanceAs (Decidable (okW x))
def Aut.takes (a : Aut) (t : List UInt8) : Bool := match a with
  | .no => false
  | .tab d => d.takes t
  | .st x => accV x (runV x t (startV x))
theorem pAStates (a : Aut) : PCF Try.prog 51 [a.v] (.int .i64 (a.states : Int)) := by
  refine pcf_e hmM (TabOk.none _) comp51 (by decide) (by simp) (nidL_ok (by simp only [nidL, a.v_nid, Bool.and_self])) ?_
  cases a with
  | no =>
    refine vcE.ex (by simp (disch := first | assumption | omega) only [exC, exOps, exOp, wantedE, ↓reduceIte, ROp.run, evsE, evE, putE, Aut.v, ty, reduceCtorEq, List.getD_cons_zero, same, binA, eqA, isNilA, Option.map_some, beq_iff_eq, Nat.reduceEqDiff]; rfl) ?_
    exact ⟨_, rfl, rfl⟩
  | tab d =>
    refine vcE.step (by simp (disch := first | assumption | omega) only [exC, exOps, exOp, wantedE, ↓reduceIte, ROp.run, evsE, evE, putE, Aut.v]; rfl) (vcE.step (by simp (disch := first | assumption | omega) only [exC, exOps, exOp, wantedE, ↓reduceIte, ROp.run, evsE, evE, ty, reduceCtorEq, List.getD_cons_zero, putE, same, binA, eqA, isNilA, Option.map_some, beq_self_eq_true, Nat.reduceEqDiff, faddrA, loadA, rowA, pickA, intA, strA]; rfl) ?_)
    rw [show r51_3 = r51_3.take 4 ++ ((r51_3.drop 4).take 1 ++ r51_3.drop 5) from rfl]
    refine vcE.seq (vcE.app (vcE.ex (by simp (disch := first | assumption | omega) only [exC, List.take_succ_cons, List.take_zero, ty, ↓reduceIte, exOps, exOp, wantedE, ROp.run, evsE, evE, reduceCtorEq, List.getD_cons_zero, putE, same, faddrA, loadA, rowA, pickA]; rfl) ⟨rfl, vcE.app (vcE.callM (t := 127) (v := .agg d.c) (f := 189) (ys := []) rfl rfl rfl ((pTabStates d).pc _) ?_)⟩))
    rintro rv hp' ⟨rfl, rfl⟩
    refine ⟨rfl, vcE.ex (by simp (disch := first | assumption | omega) only [exC, List.drop_succ_cons, List.drop_zero, putE, ty, exOps, exOp, wantedE, ↓reduceIte, ROp.run, evsE, evE]; rfl) ?_⟩
    refine vcE.ex (by simp (disch := first | assumption | omega) only [exC]; rfl) ?_
    exact ⟨_, rfl, rfl⟩
  | st x =>
    refine vcE.step (by simp (disch := first | assumption | omega) only [exC, exOps, exOp, wantedE, ↓reduceIte, ROp.run, evsE, evE, putE, Aut.v]; rfl) (vcE.step (by simp (disch := first | assumption | omega) only [exC, exOps, exOp, wantedE, ↓reduceIte, ROp.run, evsE, evE, ty, reduceCtorEq, List.getD_cons_zero, putE, same, binA, eqA, isNilA, Option.map_some, beq_self_eq_true, Nat.reduceEqDiff, faddrA, loadA, rowA, pickA, intA, strA]; rfl) ?_)
    rw [show r51_3 = r51_3.take 4 ++ ((r51_3.drop 4).take 1 ++ r51_3.drop 5) from rfl]
    refine vcE.seq (vcE.app (vcE.ex (by simp (disch := first | assumption | omega) only [exC, List.take_succ_cons, List.take_zero, ty, ↓reduceIte, exOps, exOp, wantedE, ROp.run, evsE, evE, reduceCtorEq, List.getD_cons_zero, putE, same, faddrA, loadA, rowA, pickA]; rfl) ⟨rfl, vcE.app (vcE.callM (t := 133) (v := .agg [nV x]) (f := 191) (ys := []) rfl rfl rfl ((pRowsStates x).pc _) ?_)⟩))
    rintro rv hp' ⟨rfl, rfl⟩
    refine ⟨rfl, vcE.ex (by simp (disch := first | assumption | omega) only [exC, List.drop_succ_cons, List.drop_zero, putE, ty, exOps, exOp, wantedE, ↓reduceIte, ROp.run, evsE, evE]; rfl) ?_⟩
    refine vcE.ex (by simp (disch := first | assumption | omega) only [exC]; rfl) ?_
    exact ⟨_, rfl, rfl⟩
theorem pAFull (a : Aut) (h : a.ok) : PCF Try.prog 50 [a.v] (.bool a.full) := by
  refine pcf_e hmM (TabOk.none _) comp50 (by decide) (by simp) (nidL_ok (by simp only [nidL, a.v_nid, Bool.and_self])) ?_
  cases a with
  | no => cases h
  | tab d =>
    refine vcE.step (by simp (disch := first | assumption | omega) only [exC, exOps, exOp, wantedE, ↓reduceIte, ROp.run, evsE, evE, putE, Aut.v]; rfl) ?_
    rw [show r50_1 = r50_1.take 14 ++ ((r50_1.drop 14).take 1 ++ r50_1.drop 15) from rfl]
    refine vcE.seq (vcE.app (vcE.ex (by simp (disch := first | assumption | omega) only [exC, List.take_succ_cons, List.take_zero, exOps, exOp, wantedE, ↓reduceIte, ROp.run, evsE, evE, ty, reduceCtorEq, List.getD_cons_zero, putE, same, binA, eqA, isNilA, Option.map_some, beq_self_eq_true, Nat.reduceEqDiff, faddrA, loadA, rowA, pickA, intA, strA]; rfl) ⟨rfl, vcE.app (vcE.callM (t := 127) (v := .agg d.c) (f := 189) (ys := []) rfl rfl rfl ((pTabStates d).pc _) ?_)⟩))
    rintro rv hp' ⟨rfl, rfl⟩
    refine ⟨rfl, vcE.ex (by simp (disch := first | assumption | omega) only [exC, List.drop_succ_cons, List.drop_zero, putE, ty, ↓reduceIte, reduceCtorEq, List.getD_cons_zero, exOps, exOp, wantedE, Nat.reduceEqDiff, beq_self_eq_true, ROp.run, evsE, evE, same, binA, intA, Option.map_some]; rfl) ?_⟩
    refine vcE.ex (by simp (disch := first | assumption | omega) only [exC]; rfl) ?_
    exact ⟨_, rfl, rfl⟩
  | st x =>
    refine vcE.step (by simp (disch := first | assumption | omega) only [exC, exOps, exOp, wantedE, ↓reduceIte, ROp.run, evsE, evE, putE, Aut.v]; rfl) ?_
    rw [show r50_1 = r50_1.take 14 ++ ((r50_1.drop 14).take 1 ++ r50_1.drop 15) from rfl]
    refine vcE.seq (vcE.app (vcE.ex (by simp (disch := first | assumption | omega) only [exC, List.take_succ_cons, List.take_zero, exOps, exOp, wantedE, ↓reduceIte, ROp.run, evsE, evE, ty, reduceCtorEq, List.getD_cons_zero, putE, same, binA, eqA, isNilA, Option.map_some, beq_self_eq_true, Nat.reduceEqDiff, faddrA, loadA, rowA, pickA, intA, strA]; rfl) ⟨rfl, vcE.app (vcE.callM (t := 133) (v := .agg [nV x]) (f := 191) (ys := []) rfl rfl rfl ((pRowsStates x).pc _) ?_)⟩))
    rintro rv hp' ⟨rfl, rfl⟩
    refine ⟨rfl, vcE.ex (by simp (disch := first | assumption | omega) only [exC, List.drop_succ_cons, List.drop_zero, putE, ty, ↓reduceIte, reduceCtorEq, List.getD_cons_zero, exOps, exOp, wantedE, Nat.reduceEqDiff, beq_self_eq_true, ROp.run, evsE, evE, same, binA, intA, decide_true, Option.map_some]; rfl) ?_⟩
    refine vcE.ex (by simp (disch := first | assumption | omega) only [exC]; rfl) ?_
    exact ⟨_, rfl, rfl⟩
theorem pAMatch (a : Aut) (h : a.ok) (t : List UInt8) (ht : t.length ≤ 1000) : PCF Try.prog 53 [a.v, .str t] (.bool (a.takes t)) := by
  refine pcf_e hmM (TabOk.none _) comp53 (by decide) (by simp) (nidL_ok (by simp only [nidL, a.v_nid, nid, Bool.and_self])) ?_
  cases a with
  | no => cases h
  | tab d =>
    refine vcE.step (by simp (disch := first | assumption | omega) only [exC, exOps, exOp, wantedE, ↓reduceIte, ROp.run, evsE, evE, putE, Aut.v]; rfl) ?_
    rw [show r53_1 = r53_1.take 15 ++ ((r53_1.drop 15).take 1 ++ r53_1.drop 16) from rfl]
    refine vcE.seq (vcE.app (vcE.ex (by simp (disch := first | assumption | omega) only [exC, List.take_succ_cons, List.take_zero, exOps, exOp, wantedE, ↓reduceIte, ROp.run, evsE, evE, ty, reduceCtorEq, List.getD_cons_zero, putE, same, binA, eqA, isNilA, Option.map_some, beq_self_eq_true, Nat.reduceEqDiff, faddrA, loadA, rowA, pickA, intA, strA]; rfl) ⟨rfl, vcE.app (vcE.callM (t := 127) (v := .agg d.c) (f := 188) (ys := [.str t]) rfl rfl rfl ((pTabMatch d h t (by simp only [roomy]; omega)).pc _) ?_)⟩))
    rintro rv hp' ⟨rfl, rfl⟩
    refine ⟨rfl, vcE.ex (by simp (disch := first | assumption | omega) only [exC, List.drop_succ_cons, List.drop_zero, putE, ty, ↓reduceIte, reduceCtorEq, List.getD_cons_zero, Nat.reduceEqDiff, List.getD_cons_succ, exOps, exOp, wantedE, ROp.run, evsE, evE]; rfl) ?_⟩
    refine vcE.ex (by simp (disch := first | assumption | omega) only [exC]; rfl) ?_
    exact ⟨_, rfl, rfl⟩
  | st x =>
    refine vcE.step (by simp (disch := first | assumption | omega) only [exC, exOps, exOp, wantedE, ↓reduceIte, ROp.run, evsE, evE, putE, Aut.v]; rfl) ?_
    rw [show r53_1 = r53_1.take 15 ++ ((r53_1.drop 15).take 1 ++ r53_1.drop 16) from rfl]
    refine vcE.seq (vcE.app (vcE.ex (by simp (disch := first | assumption | omega) only [exC, List.take_succ_cons, List.take_zero, exOps, exOp, wantedE, ↓reduceIte, ROp.run, evsE, evE, ty, reduceCtorEq, List.getD_cons_zero, putE, same, binA, eqA, isNilA, Option.map_some, beq_self_eq_true, Nat.reduceEqDiff, faddrA, loadA, rowA, pickA, intA, strA]; rfl) ⟨rfl, vcE.app (vcE.callM (t := 133) (v := .agg [nV x]) (f := 190) (ys := [.str t]) rfl rfl rfl ((pRowsMatch x h t (by omega)).pc _) ?_)⟩))
    rintro rv hp' ⟨rfl, rfl⟩
    refine ⟨rfl, vcE.ex (by simp (disch := first | assumption | omega) only [exC, List.drop_succ_cons, List.drop_zero, putE, ty, ↓reduceIte, reduceCtorEq, List.getD_cons_zero, Nat.reduceEqDiff, List.getD_cons_succ, exOps, exOp, wantedE, ROp.run, evsE, evE]; rfl) ?_⟩
    refine vcE.ex (by simp (disch := first | assumption | omega) only [exC]; rfl) ?_
    exact ⟨_, rfl, rfl⟩

def errA (p : List UInt8) (most : Int) : Int := if checkG p ≠ 0 then checkG p else if most < 1 ∨ 256 < most then 2 else 0
def newA (p : List UInt8) (f : Bool) (most : Int) : Aut := if errA p most ≠ 0 then .no else if (buildF p f most).2 then .tab (buildF p f most).1 else .st (newV p f)
def Z0 : Tab := (Tab.none.addO 90 (.cons .str (.cons .bool .nil)) fun p => if p.1.length ≤ 300 then some (.rd true (.tup [nV (newV p.1 p.2.1), .int .i64 (checkG p.1)])) else none).addO 45 (.cons .str (.cons .bool (.cons .i64 .nil))) fun p => if p.1.length ≤ 300 then some (.rd true (.tup [.agg (buildF p.1 p.2.1 p.2.2.1).1.c, .bool (buildF p.1 p.2.1 p.2.2.1).2])) else none
theorem Z0_ok : TabOk Try.prog Z0 := by
  refine TabOk.addO (TabOk.addO (TabOk.none _) ?_) ?_
  · intro p r h
    split at h
    · rename_i hv; cases h; exact pNew p.1 p.2.1 hv
    · cases h
  · intro p r h
    split at h
    · rename_i hv; cases h; exact pBuild p.1 p.2.1 p.2.2.1 hv (pat_le hv)
    · cases h
theorem Z0_build {p : List UInt8} (f : Bool) (most : Int) (h : p.length ≤ 300) : Z0 45 [.str p, .bool f, .int .i64 most] = some (.rd true (.tup [.agg (buildF p f most).1.c, .bool (buildF p f most).2])) :=
  (Tab.addO_self _ _ (.cons .str (.cons .bool (.cons .i64 .nil))) _ (p, f, most, ())).trans (if_pos h)
theorem Z0_new {p : List UInt8} (f : Bool) (h : p.length ≤ 300) : Z0 90 [.str p, .bool f] = some (.rd true (.tup [nV (newV p f), .int .i64 (checkG p)])) :=
  (Tab.addO_ne _ _ _ _ rfl _).trans ((Tab.addO_self _ _ (.cons .str (.cons .bool .nil)) _ (p, f, ())).trans (if_pos h))
theorem cA_store {H : HP} {k : Nat} {d : Dfa} (hk : H.length = k) : storeA (H ++ [some (.row 69 [.nils, .nils, .nils])]) 3 (.ptr k 0) (.agg d.c) = some (H ++ [some (.row 69 d.c)]) := by
  subst hk
  have hl : d.c.length = 3 := rfl
  have ho : over [.nils, .nils, .nils] 0 d.c = d.c := rfl
  simp only [storeA, List.getElem?_append_right (Nat.le_refl _), Nat.sub_self, List.getElem?_cons_zero, cellsA, hl, Nat.zero_add, List.length_cons, List.length_nil, Nat.reduceAdd, Nat.le_refl, and_self, ho, if_true]
  rw [List.set_append_right _ _ (Nat.le_refl _), Nat.sub_self]
  rfl
theorem pNewA (p : List UInt8) (f : Bool) (most : Int) (hl : p.length ≤ 300) : PC Try.prog 48 [.str p, .bool f, .int .i64 most] (.tup [(newA p f most).v, .int .i64 (errA p most)]) := by
  refine pc_e hmG Z0_ok comp48 (by decide) (by simp) (nidL_ok rfl) ?_
  have e1 := Z0_new f hl
  have e2 := Z0_build f most hl
  by_cases hc : checkG p = 0
  rotate_left
  · refine vcE.ex (by simp (disch := first | assumption | omega) only [exC, exOps, exOp, wantedE, ↓reduceIte, ROp.run, evsE, evE, putE, ty, reduceCtorEq, List.getD_cons_zero, Nat.reduceEqDiff, List.getD_cons_succ, List.append_nil, frzL, tz, e1, Cls.isFree, callCls, nidL, same, List.getElem?_cons_zero, Option.map_some, List.getElem?_cons_succ, binA, intA, hc, strA, Cls.makes, allocA, storeA_eq, over, List.take_zero, List.nil_append, loadA, rowA, pickA, List.length_cons, List.length_nil]; rfl) ?_
    refine ⟨_, rfl, ?_⟩
    have : errA p most = checkG p := if_pos hc
    rw [newA, if_pos (by rw [this]; exact hc), this]
    rfl
  by_cases h1 : most < 1
  · refine vcE.ex (by simp (disch := first | assumption | omega) only [exC, exOps, exOp, wantedE, ↓reduceIte, ROp.run, evsE, evE, putE, ty, reduceCtorEq, List.getD_cons_zero, Nat.reduceEqDiff, List.getD_cons_succ, List.append_nil, frzL, tz, e1, hc, Cls.isFree, callCls, nidL, same, List.getElem?_cons_zero, Option.map_some, List.getElem?_cons_succ, binA, intA, decide_true, h1, beq_iff_eq]; rfl) ?_
    refine ⟨_, rfl, ?_⟩
    have : errA p most = 2 := by rw [errA, if_neg (by simp [hc]), if_pos (.inl h1)]
    rw [newA, if_pos (by rw [this]; decide), this]
    rfl
  by_cases h2 : most > 256
  · refine vcE.ex (by simp (disch := first | assumption | omega) only [exC, exOps, exOp, wantedE, ↓reduceIte, ROp.run, evsE, evE, putE, ty, reduceCtorEq, List.getD_cons_zero, Nat.reduceEqDiff, List.getD_cons_succ, List.append_nil, frzL, tz, e1, hc, Cls.isFree, callCls, nidL, same, List.getElem?_cons_zero, Option.map_some, List.getElem?_cons_succ, binA, intA, decide_true, h1, decide_false, beq_self_eq_true, h2]; rfl) ?_
    refine ⟨_, rfl, ?_⟩
    have : errA p most = 2 := by rw [errA, if_neg (by simp [hc]), if_pos (.inr h2)]
    rw [newA, if_pos (by rw [this]; decide), this]
    rfl
  have he : errA p most = 0 := by rw [errA, if_neg (by simp [hc]), if_neg (by omega)]
  have st1 : storeA [some (.row 69 [.nils, .nils, .nils])] 3 (.ptr 0 0) (.agg (buildF p f most).1.c) = some [some (.row 69 (buildF p f most).1.c)] := cA_store (H := []) rfl
  rw [newA, he, if_neg (by decide)]
  cases his : (buildF p f most).2 with
  | true =>
    rw [his] at e2
    rw [if_pos rfl]
    generalize (buildF p f most).1 = d at *
    have q0 : pickA (some 3) d.c 0 = some (.agg d.c) := rfl
    have hf : fillA [(0, 3)] [.nils, .nils, .nils] (([0] : List Nat).zip [.agg d.c]) = some d.c := rfl
    refine vcE.step (by simp (disch := first | assumption | omega) only [exC, exOps, exOp, wantedE, ↓reduceIte, ROp.run, evsE, evE, putE]; rfl) (vcE.step (by simp (disch := first | assumption | omega) only [exC, exOps, exOp, wantedE, ↓reduceIte, ROp.run, evsE, evE, ty, reduceCtorEq, List.getD_cons_zero, putE, Nat.reduceEqDiff, List.getD_cons_succ, List.append_nil, frzL, tz, e1, Cls.isFree, callCls, nidL, same, List.getElem?_cons_zero, Option.map_some, List.getElem?_cons_succ]; rfl) (vcE.step (by simp (disch := first | assumption | omega) only [exC, exOps, exOp, wantedE, ↓reduceIte, ROp.run, evsE, evE, hc, ty, putE, same, binA, intA, decide_true, Option.map_some]; rfl) (vcE.step (by simp (disch := first | assumption | omega) only [exC, exOps, exOp, wantedE, ↓reduceIte, ROp.run, evsE, evE, ty, Nat.reduceEqDiff, List.getD_cons_succ, List.getD_cons_zero, putE, same, binA, intA, h1, decide_false, Option.map_some, beq_self_eq_true, h2]; rfl) ?_)))
    refine vcE.ex (by simp (disch := first | assumption | omega) only [exC, exOps, exOp, wantedE, ↓reduceIte, ROp.run, evsE, evE, ty, reduceCtorEq, List.getD_cons_zero, putE, Nat.reduceEqDiff, List.getD_cons_succ, List.append_nil, frzL, tz, e2, Cls.isFree, callCls, nidL, same, List.getElem?_cons_zero, Option.map_some, List.getElem?_cons_succ, allocA, List.length_nil, List.nil_append, ↓st1, loadA, rowA, ↓q0, List.length_cons, ↓hf]; rfl) ?_
    refine ⟨_, rfl, ?_⟩
    have ho : over [AV.nili] 0 [AV.iface 127 (.agg d.c)] = [AV.iface 127 (.agg d.c)] := rfl
    have hn : nidL [.iface 127 (.agg d.c)] = true := by simp only [nidL, nid, d.c_nid, Bool.and_self]
    simp only [frz, frzL, cellsA, ho, upd_app, ↓reduceIte, List.cons_append, List.nil_append, List.length_cons, List.length_nil, Nat.zero_add, Nat.reduceEqDiff, List.getElem?_cons_succ, List.getElem?_cons_zero, hn, Aut.v]
  | false =>
    rw [his] at e2
    rw [if_neg (by decide)]
    generalize (buildF p f most).1 = d at *
    have hf : fillA [(0, 1)] [.nilp] (([0] : List Nat).zip [nV (newV p f)]) = some [nV (newV p f)] := by cases newV p f <;> rfl
    refine vcE.step (by simp (disch := first | assumption | omega) only [exC, exOps, exOp, wantedE, ↓reduceIte, ROp.run, evsE, evE, putE]; rfl) (vcE.step (by simp (disch := first | assumption | omega) only [exC, exOps, exOp, wantedE, ↓reduceIte, ROp.run, evsE, evE, ty, reduceCtorEq, List.getD_cons_zero, putE, Nat.reduceEqDiff, List.getD_cons_succ, List.append_nil, frzL, tz, e1, Cls.isFree, callCls, nidL, same, List.getElem?_cons_zero, Option.map_some, List.getElem?_cons_succ]; rfl) (vcE.step (by simp (disch := first | assumption | omega) only [exC, exOps, exOp, wantedE, ↓reduceIte, ROp.run, evsE, evE, hc, ty, putE, same, binA, intA, decide_true, Option.map_some]; rfl) (vcE.step (by simp (disch := first | assumption | omega) only [exC, exOps, exOp, wantedE, ↓reduceIte, ROp.run, evsE, evE, ty, Nat.reduceEqDiff, List.getD_cons_succ, List.getD_cons_zero, putE, same, binA, intA, h1, decide_false, Option.map_some, beq_self_eq_true, h2]; rfl) ?_)))
    refine vcE.ex (by simp (disch := first | assumption | omega) only [exC, exOps, exOp, wantedE, ↓reduceIte, ROp.run, evsE, evE, ty, reduceCtorEq, List.getD_cons_zero, putE, Nat.reduceEqDiff, List.getD_cons_succ, List.append_nil, frzL, tz, e2, Cls.isFree, callCls, nidL, same, List.getElem?_cons_zero, Option.map_some, List.getElem?_cons_succ, allocA, List.length_nil, List.nil_append, ↓st1, List.length_cons, ↓hf]; rfl) ?_
    refine ⟨_, rfl, ?_⟩
    have ho : over [AV.nili] 0 [AV.iface 133 (.agg [nV (newV p f)])] = [AV.iface 133 (.agg [nV (newV p f)])] := rfl
    have hn : nidL [.iface 133 (.agg [nV (newV p f)])] = true := by simp only [nidL, nid, nV_nid, Bool.and_self]
    simp only [frz, frzL, cellsA, ho, upd_app, ↓reduceIte, List.cons_append, List.nil_append, List.length_cons, List.length_nil, Nat.zero_add, Nat.reduceEqDiff, List.getElem?_cons_succ, List.getElem?_cons_zero, hn, Aut.v]
end
section
open Go Go.Proofs

def encS : Enc (List UInt8) where
  c s := [.str s]
  sz := 1
  pos := by omega
  len _ := rfl
  nd _ := rfl
  ip := true
  pl _ _ := rfl
  fz _ _ := rfl
  dec := fun
    | [.str s] => some s
    | _ => none
  dec_c _ := rfl
  dec_some cs a h := by
    split at h
    · cases h; rfl
    · cases h
def lightB (ts : List (List UInt8)) (n most : Int) : Bool := ts.all (fun s => decide ((s.length : Int) ≤ most)) && decide ((ts.length : Int) ≤ n)
theorem encS_at {l : List (List UInt8)} {i : Nat} {s : List UInt8} (h : l[i]? = some s) : pickA none (encS.cs l) i = some (.str s) :=
  encS.pick1 (l := l) rfl h (v := .str s) rfl rfl
theorem pTexts {ts : List (List UInt8)} (hl : ts.length < 4611686018427387904) (n most : Int) : PCF Try.prog 47 [encS.S ts, .int .i64 n, .int .i64 most] (.bool (lightB ts n most)) := by
  refine pcf_e hmG (TabOk.none _) comp47 (by decide) (by simp) (nidL_ok (by simp only [nidL, nid, Enc.S_nid, Bool.and_self])) ?_
  have hlen : ∀ hp, lenA hp (encS.S ts) = some (.int .i64 (ts.length : Int)) := fun hp => Enc.S_len _ _ _
  have hlf : lenFits .slice (encS.S ts) = true := rfl
  refine vcE.step (by simp (disch := first | assumption | omega) only [exC, exOps, exOp, wantedE, ↓reduceIte, ROp.run, evsE, evE, putE]; rfl) (vcE.then (fun e tm hp => hp = [] ∧ ((e = .ret ∧ tm 6 = .bool false ∧ ts.all (fun s => decide ((s.length : Int) ≤ most)) = false) ∨ (e = .normal ∧ tm 0 = encS.S ts ∧ tm 1 = .int .i64 n ∧ ts.all (fun s => decide ((s.length : Int) ≤ most)) = true))) ?_ ?_)
  · refine vcE.step (by simp (disch := first | assumption | omega) only [exC, exOps, exOp, wantedE, ↓reduceIte, ROp.run, evsE, evE, putE]; rfl) (vcE.block (vcE.count (by intro l tm hp h; simp at h)
      (fun i tm hp => hp = [] ∧ tm 0 = encS.S ts ∧ tm 1 = .int .i64 n ∧ tm 2 = .int .i64 most ∧ tm 7 = .int .i64 i ∧ (ts.take i).all (fun s => decide ((s.length : Int) ≤ most)) = true) ts.length ⟨rfl, ?_, ?_, ?_, ?_, by simp⟩ ?_ ?_))
    · rfl
    · rfl
    · rfl
    · rfl
    · rintro i tm hp hi ⟨rfl, e0, e1, e2, e7, hall⟩
      have hg : ts[i]? = some ts[i] := List.getElem?_eq_getElem hi
      have hia : iaddrA 1 (encS.S ts) (.int .i64 (i : Int)) = some (.fptr (encS.cs ts) (i * 1)) := encS.S_iaddr hi
      rw [Nat.mul_one] at hia
      have hpk := encS_at hg
      have hta : (ts.take (i + 1)).all (fun s => decide ((s.length : Int) ≤ most)) = decide ((ts[i].length : Int) ≤ most) := by
        rw [List.take_add_one, List.all_append, hall, hg]
        simp
      by_cases hs : (ts[i].length : Int) ≤ most
      · refine vcE.ex (by simp (disch := first | assumption | omega) only [exC, exOps, exOp, wantedE, ↓reduceIte, ROp.run, evsE, evE, e7, putE, ty, reduceCtorEq, e0, hlf, same, ↓hlen, Option.map_some, Nat.reduceEqDiff, binA, intA, dec_true, hia, loadA, rowA, ↓hpk, tz, e2, dec_false]; rfl) ?_
        refine ⟨rfl, ?_, ?_, ?_, ?_, by rw [hta]; exact decide_eq_true hs⟩
        all_goals simp only [upd_app, Nat.reduceEqDiff, ↓reduceIte, e0, e1, e2, e7]
        rfl
      · refine vcE.ex (by simp (disch := first | assumption | omega) only [exC, exOps, exOp, wantedE, ↓reduceIte, ROp.run, evsE, evE, e7, putE, ty, reduceCtorEq, e0, hlf, same, ↓hlen, Option.map_some, Nat.reduceEqDiff, binA, intA, dec_true, hia, loadA, rowA, ↓hpk, tz, e2]; rfl) ?_
        refine ⟨rfl, .inl ⟨rfl, ?_, ?_⟩⟩
        · simp only [upd_app, Nat.reduceEqDiff, ↓reduceIte]
        · rw [Bool.eq_false_iff]
          intro h
          rw [List.all_eq_true] at h
          exact hs (by simpa using h _ (List.getElem_mem hi))
    · rintro tm hp ⟨rfl, e0, e1, e2, e7, hall⟩
      refine vcE.ex (by simp (disch := first | assumption | omega) only [exC, exOps, exOp, wantedE, ↓reduceIte, ROp.run, evsE, evE, e7, putE, ty, reduceCtorEq, e0, hlf, same, ↓hlen, Option.map_some, Nat.reduceEqDiff, binA, intA, dec_false]; rfl) ?_
      refine ⟨rfl, .inr ⟨rfl, ?_, ?_, ?_⟩⟩
      · simp only [upd_app, Nat.reduceEqDiff, ↓reduceIte, e0]
      · simp only [upd_app, Nat.reduceEqDiff, ↓reduceIte, e1]
      · rw [List.take_length] at hall
        exact hall
  · rintro e tm hp ⟨rfl, ⟨rfl, h6, hall⟩ | ⟨rfl, h0, h1, hall⟩⟩
    · refine ⟨_, rfl, ?_⟩
      rw [h6, lightB, hall]
      rfl
    · refine vcE.ex (by simp (disch := first | assumption | omega) only [exC, exOps, exOp, wantedE, ↓reduceIte, ROp.run, evsE, evE, h0, putE, ty, hlf, same, ↓hlen, Option.map_some, Nat.reduceEqDiff, h1, binA, intA]; rfl) ?_
      refine ⟨_, rfl, ?_⟩
      simp only [upd_app, Nat.reduceEqDiff, ↓reduceIte]
      rw [lightB, hall]
      rfl
theorem arg_strs {n : Nat} {x : AV} (h : HasV Try.prog (n + 3) 80 x) : ∃ l : List (List UInt8), x = encS.S l ∧ l.length ≤ reachBytes := by
  refine has_slice encS Try.underlying80 (fun bs h => ?_) h
  simp only [HasT, Try.underlying9] at h
  obtain ⟨s, rfl, _⟩ := h
  exact ⟨s, rfl⟩
end
section
open Go Go.Proofs

def W0 : Tab := (((((((((((Tab.none).addR 40 .nil fun _ => .rd true (.bool true)).addO 47 (.cons (.S encS) (.cons .i64 (.cons .i64 .nil))) fun p => if p.1.length < 4611686018427387904 then some (.rd true (.bool (lightB p.1 p.2.1 p.2.2.1))) else none).addO 48 (.cons .str (.cons .bool (.cons .i64 .nil))) fun p => if p.1.length ≤ 300 then some (.rd false (.tup [(newA p.1 p.2.1 p.2.2.1).v, .int .i64 (errA p.1 p.2.2.1)])) else none).addO 45 (.cons .str (.cons .bool (.cons .i64 .nil))) fun p => if p.1.length ≤ 300 then some (.rd true (.tup [.agg (buildF p.1 p.2.1 p.2.2.1).1.c, .bool (buildF p.1 p.2.1 p.2.2.1).2])) else none).addR 49 (.cons .str .nil) fun p => .rd true (.int .i64 (checkG p.1))).addO 50 (.cons .aut .nil) fun p => if p.1.ok then some (.rd true (.bool p.1.full)) else none).addR 51 (.cons .aut .nil) fun p => .rd true (.int .i64 (p.1.states : Int))).addO 42 (.cons .dfa .nil) fun p => if p.1.fits = true then some (.rd true (.int .i64 (if p.1.ok then 0 else 2))) else none).addO 52 (.cons .str (.cons .str (.cons .bool .nil))) fun p => if p.1.length ≤ 300 ∧ p.2.1.length ≤ 1000 then some (.rd true (.bool (gm (sameB p.2.2.1) p.1 p.2.1))) else none).addO 53 (.cons .aut (.cons .str .nil)) fun p => if p.1.ok ∧ p.2.1.length ≤ 1000 then some (.rd true (.bool (p.1.takes p.2.1))) else none).addO 43 (.cons .dfa (.cons .str .nil)) fun p => if p.1.fits = true ∧ p.2.1.length ≤ roomy then some (.rd true (.bool (p.1.run p.2.1))) else none
theorem W0_ok : TabOk Try.prog W0 := by
  refine TabOk.addO (TabOk.addO (TabOk.addO (TabOk.addO (TabOk.addR (TabOk.addO (TabOk.addR (TabOk.addO (TabOk.addO (TabOk.addO (TabOk.addR (TabOk.none _) ?_) ?_) ?_) ?_) ?_) ?_) ?_) ?_) ?_) ?_) ?_
  · exact fun _ => pLivesS
  · intro p r h
    split at h
    · rename_i hv; cases h; exact pTexts hv p.2.1 p.2.2.1
    · cases h
  · intro p r h
    split at h
    · rename_i hv; cases h; exact pNewA p.1 p.2.1 p.2.2.1 hv
    · cases h
  · intro p r h
    split at h
    · rename_i hv; cases h; exact pBuild p.1 p.2.1 p.2.2.1 hv (pat_le hv)
    · cases h
  · exact fun p => pCheck p.1
  · intro p r h
    split at h
    · rename_i hv; cases h; exact pAFull p.1 hv
    · cases h
  · exact fun p => pAStates p.1
  · intro p r h
    split at h
    · rename_i hv; cases h; exact pDCheck p.1 hv
    · cases h
  · intro p r h
    split at h
    · rename_i hv; cases h; exact pMatch (by omega) (by omega) p.2.2.1
    · cases h
  · intro p r h
    split at h
    · rename_i hv; cases h; exact pAMatch p.1 hv.1 p.2.1 hv.2
    · cases h
  · intro p r h
    split at h
    · rename_i hv; cases h; exact pDRun p.1 hv.1 p.2.1 hv.2
    · cases h
theorem W0_lives : W0 40 [] = some (.rd true (.bool true)) :=
  (Tab.addO_ne _ _ _ _ rfl _).trans ((Tab.addO_ne _ _ _ _ rfl _).trans ((Tab.addO_ne _ _ _ _ rfl _).trans ((Tab.addO_ne _ _ _ _ rfl _).trans ((Tab.addR_ne _ _ _ _ rfl _).trans ((Tab.addO_ne _ _ _ _ rfl _).trans ((Tab.addR_ne _ _ _ _ rfl _).trans ((Tab.addO_ne _ _ _ _ rfl _).trans ((Tab.addO_ne _ _ _ _ rfl _).trans ((Tab.addO_ne _ _ _ _ rfl _).trans (Tab.addR_self _ _ .nil _ ()))))))))))
theorem W0_texts {l : List (List UInt8)} (n m : Int) (h : l.length < 4611686018427387904) : W0 47 [encS.S l, .int .i64 n, .int .i64 m] = some (.rd true (.bool (lightB l n m))) :=
  (Tab.addO_ne _ _ _ _ rfl _).trans ((Tab.addO_ne _ _ _ _ rfl _).trans ((Tab.addO_ne _ _ _ _ rfl _).trans ((Tab.addO_ne _ _ _ _ rfl _).trans ((Tab.addR_ne _ _ _ _ rfl _).trans ((Tab.addO_ne _ _ _ _ rfl _).trans ((Tab.addR_ne _ _ _ _ rfl _).trans ((Tab.addO_ne _ _ _ _ rfl _).trans ((Tab.addO_ne _ _ _ _ rfl _).trans ((Tab.addO_self _ _ (.cons (.S encS) (.cons .i64 (.cons .i64 .nil))) _ (l, n, m, ())).trans (if_pos h))))))))))
theorem W0_new {p : List UInt8} (f : Bool) (most : Int) (h : p.length ≤ 300) : W0 48 [.str p, .bool f, .int .i64 most] = some (.rd false (.tup [(newA p f most).v, .int .i64 (errA p most)])) :=
  (Tab.addO_ne _ _ _ _ rfl _).trans ((Tab.addO_ne _ _ _ _ rfl _).trans ((Tab.addO_ne _ _ _ _ rfl _).trans ((Tab.addO_ne _ _ _ _ rfl _).trans ((Tab.addR_ne _ _ _ _ rfl _).trans ((Tab.addO_ne _ _ _ _ rfl _).trans ((Tab.addR_ne _ _ _ _ rfl _).trans ((Tab.addO_ne _ _ _ _ rfl _).trans ((Tab.addO_self _ _ (.cons .str (.cons .bool (.cons .i64 .nil))) _ (p, f, most, ())).trans (if_pos h)))))))))
theorem W0_build {p : List UInt8} (f : Bool) (most : Int) (h : p.length ≤ 300) : W0 45 [.str p, .bool f, .int .i64 most] = some (.rd true (.tup [.agg (buildF p f most).1.c, .bool (buildF p f most).2])) :=
  (Tab.addO_ne _ _ _ _ rfl _).trans ((Tab.addO_ne _ _ _ _ rfl _).trans ((Tab.addO_ne _ _ _ _ rfl _).trans ((Tab.addO_ne _ _ _ _ rfl _).trans ((Tab.addR_ne _ _ _ _ rfl _).trans ((Tab.addO_ne _ _ _ _ rfl _).trans ((Tab.addR_ne _ _ _ _ rfl _).trans ((Tab.addO_self _ _ (.cons .str (.cons .bool (.cons .i64 .nil))) _ (p, f, most, ())).trans (if_pos h))))))))
theorem W0_gcheck (p : List UInt8) : W0 49 [.str p] = some (.rd true (.int .i64 (checkG p))) :=
  (Tab.addO_ne _ _ _ _ rfl _).trans ((Tab.addO_ne _ _ _ _ rfl _).trans ((Tab.addO_ne _ _ _ _ rfl _).trans ((Tab.addO_ne _ _ _ _ rfl _).trans ((Tab.addR_ne _ _ _ _ rfl _).trans ((Tab.addO_ne _ _ _ _ rfl _).trans (Tab.addR_self _ _ (.cons .str .nil) _ (p, ())))))))
theorem W0_full {a : Aut} (h : a.ok) : W0 50 [a.v] = some (.rd true (.bool a.full)) :=
  (Tab.addO_ne _ _ _ _ rfl _).trans ((Tab.addO_ne _ _ _ _ rfl _).trans ((Tab.addO_ne _ _ _ _ rfl _).trans ((Tab.addO_ne _ _ _ _ rfl _).trans ((Tab.addR_ne _ _ _ _ rfl _).trans ((Tab.addO_self _ _ (.cons .aut .nil) _ (a, ())).trans (if_pos h))))))
theorem W0_states (a : Aut) : W0 51 [a.v] = some (.rd true (.int .i64 (a.states : Int))) :=
  (Tab.addO_ne _ _ _ _ rfl _).trans ((Tab.addO_ne _ _ _ _ rfl _).trans ((Tab.addO_ne _ _ _ _ rfl _).trans ((Tab.addO_ne _ _ _ _ rfl _).trans (Tab.addR_self _ _ (.cons .aut .nil) _ (a, ())))))
theorem W0_dcheck {d : Dfa} (h : d.fits = true) : W0 42 [.agg d.c] = some (.rd true (.int .i64 (if d.ok then 0 else 2))) :=
  (Tab.addO_ne _ _ _ _ rfl _).trans ((Tab.addO_ne _ _ _ _ rfl _).trans ((Tab.addO_ne _ _ _ _ rfl _).trans ((Tab.addO_self _ _ (.cons .dfa .nil) _ (d, ())).trans (if_pos h))))
theorem W0_gmatch {p t : List UInt8} (f : Bool) (h : p.length ≤ 300 ∧ t.length ≤ 1000) : W0 52 [.str p, .str t, .bool f] = some (.rd true (.bool (gm (sameB f) p t))) :=
  (Tab.addO_ne _ _ _ _ rfl _).trans ((Tab.addO_ne _ _ _ _ rfl _).trans ((Tab.addO_self _ _ (.cons .str (.cons .str (.cons .bool .nil))) _ (p, t, f, ())).trans (if_pos h)))
theorem W0_amatch {a : Aut} {t : List UInt8} (h : a.ok ∧ t.length ≤ 1000) : W0 53 [a.v, .str t] = some (.rd true (.bool (a.takes t))) :=
  (Tab.addO_ne _ _ _ _ rfl _).trans ((Tab.addO_self _ _ (.cons .aut (.cons .str .nil)) _ (a, t, ())).trans (if_pos h))
theorem W0_run {d : Dfa} {t : List UInt8} (h : d.fits = true ∧ t.length ≤ roomy) : W0 43 [.agg d.c, .str t] = some (.rd true (.bool (d.run t))) :=
  (Tab.addO_self _ _ (.cons .dfa (.cons .str .nil)) _ (d, t, ())).trans (if_pos h)
theorem loop_au (p : List UInt8) (f is : Bool) (l : List (List UInt8)) (a : Aut) (d : Dfa) (hp : p.length ≤ 300) (hl : ∀ t ∈ l, t.length ≤ 260) (hll : l.length ≤ 20) (ha : a.ok) (hm : ∀ t, a.takes t = gm (sameB f) p t) (hd : is = true → d.fits = true ∧ ∀ t, d.run t = gm (sameB f) p t) (hint : Nat → Nat) (n : Nat)
    {tm : Env} (t0 : tm 0 = .str p) (t1 : tm 1 = .bool f) (t3 : tm 3 = encS.S l) (t9 : tm 9 = a.v) (t11 : tm 11 = .ptr 0 0) (t12 : tm 12 = .bool is) (t13 : tm 13 = .int .i64 0) :
    vcE Try.prog hint W0 n (IC.block 0 (IC.loop b9_0)) tm [some (.row 69 d.c)] fun e _ _ => e = .normal := by
  have hlen : ∀ hp, lenA hp (encS.S l) = some (.int .i64 (l.length : Int)) := fun hp => Enc.S_len _ _ _
  have hlf : lenFits .slice (encS.S l) = true := rfl
  refine vcE.block (vcE.count (by intro l tm hp h; simp at h)
    (fun i tm hp => hp = [some (.row 69 d.c)] ∧ tm 0 = .str p ∧ tm 1 = .bool f ∧ tm 3 = encS.S l ∧ tm 9 = a.v ∧ tm 11 = .ptr 0 0 ∧ tm 12 = .bool is ∧ tm 13 = .int .i64 i) l.length ⟨rfl, t0, t1, t3, t9, t11, t12, t13⟩ ?_ ?_)
  · rintro i tm hp hi ⟨rfl, e0, e1, e3, e9, e11, e12, e13⟩
    have hg : l[i]? = some l[i] := List.getElem?_eq_getElem hi
    have ht := hl l[i] (List.getElem_mem hi)
    generalize l[i] = t at hg ht
    have hia : iaddrA 1 (encS.S l) (.int .i64 (i : Int)) = some (.fptr (encS.cs l) (i * 1)) := encS.S_iaddr hi
    rw [Nat.mul_one] at hia
    have hpk := encS_at hg
    have k1 := W0_gmatch (p := p) (t := t) f ⟨hp, by omega⟩
    have k2 := W0_amatch (a := a) (t := t) ⟨ha, by omega⟩
    rw [hm t] at k2
    have k3 : is = true → W0 43 [.agg d.c, .str t] = some (.rd true (.bool (gm (sameB f) p t))) := fun h => by
      rw [← (hd h).2 t]
      exact W0_run ⟨(hd h).1, by simp only [roomy]; omega⟩
    have hv := a.v_nid
    have hvf := fun hp => a.v_frz hp
    have q0 : pickA (some 3) d.c 0 = some (.agg d.c) := rfl
    have cf : ∀ hp, frz hp (.agg d.c) = some (.agg d.c) := fun hp => by simp only [frz, d.c_frz]
    have hn : nid (.agg d.c) = true := by simp only [nid, d.c_nid]
    generalize a.v = av at *
    generalize gm (sameB f) p t = m at *
    cases is with
    | true =>
      have k4 := k3 rfl
      cases m <;> (refine vcE.ex (by simp (disch := first | assumption | omega) only [exC, exOps, exOp, wantedE, ↓reduceIte, ROp.run, evsE, evE, e13, putE, ty, Nat.reduceEqDiff, e3, hlf, same, ↓hlen, Option.map_some, binA, intA, dec_true, reduceCtorEq, e0, hia, loadA, rowA, ↓hpk, e1, List.append_nil, frzL, tz, k1, Cls.isFree, callCls, nidL, chain, ordered, List.getElem?_cons_zero, List.getElem?_cons_succ, e9, hvf, k2, hv, eqA, beq_self_eq_true, e12, e11, ↓q0, ↓cf, k4, hn, cond_true]; rfl) ?_; exact ⟨rfl, by simp only [upd_app, Nat.reduceEqDiff, ↓reduceIte, e0], by simp only [upd_app, Nat.reduceEqDiff, ↓reduceIte, e1], by simp only [upd_app, Nat.reduceEqDiff, ↓reduceIte, e3], by simp only [upd_app, Nat.reduceEqDiff, ↓reduceIte, e9], by simp only [upd_app, Nat.reduceEqDiff, ↓reduceIte, e11], by simp only [upd_app, Nat.reduceEqDiff, ↓reduceIte, e12], by simp only [upd_app, Nat.reduceEqDiff, ↓reduceIte]; rfl⟩)
    | false =>
      cases m <;> (refine vcE.ex (by simp (disch := first | assumption | omega) only [exC, exOps, exOp, wantedE, ↓reduceIte, ROp.run, evsE, evE, e13, putE, ty, Nat.reduceEqDiff, e3, hlf, same, ↓hlen, Option.map_some, binA, intA, dec_true, reduceCtorEq, e0, hia, loadA, rowA, ↓hpk, e1, List.append_nil, frzL, tz, k1, Cls.isFree, callCls, nidL, chain, ordered, List.getElem?_cons_zero, List.getElem?_cons_succ, e9, hvf, k2, hv, eqA, beq_self_eq_true, e12, beq_iff_eq, cond_true]; rfl) ?_; exact ⟨rfl, by simp only [upd_app, Nat.reduceEqDiff, ↓reduceIte, e0], by simp only [upd_app, Nat.reduceEqDiff, ↓reduceIte, e1], by simp only [upd_app, Nat.reduceEqDiff, ↓reduceIte, e3], by simp only [upd_app, Nat.reduceEqDiff, ↓reduceIte, e9], by simp only [upd_app, Nat.reduceEqDiff, ↓reduceIte, e11], by simp only [upd_app, Nat.reduceEqDiff, ↓reduceIte, e12], by simp only [upd_app, Nat.reduceEqDiff, ↓reduceIte]; rfl⟩)
  · rintro tm hp ⟨rfl, e0, e1, e3, e9, e11, e12, e13⟩
    refine vcE.ex (by simp (disch := first | assumption | omega) only [exC, exOps, exOp, wantedE, ↓reduceIte, ROp.run, evsE, evE, e13, putE, ty, Nat.reduceEqDiff, e3, hlf, same, ↓hlen, Option.map_some, binA, intA, dec_false]; rfl) ?_
    rfl
def icA : IC → IC
  | .seq a _ => a
  | c => c
def icB : IC → IC
  | .seq _ b => b
  | c => c
abbrev cAu : IC := icA (icB (icB (icB (icB (icB (icB c9))))))
theorem chk_yes {d : Dfa} {most : Int} (hok : d.ok = true) (hfit : d.fits = true) (hpos : 1 ≤ (d.nxt.length : Int)) (hle0 : (d.nxt.length : Int) ≤ most) (hint : Nat → Nat) (n : Nat)
    {tm : Env} (t2 : tm 2 = .int .i64 most) (t9 : tm 9 = (Aut.tab d).v) (t11 : tm 11 = .ptr 0 0) (t12 : tm 12 = .bool true) :
    vcE Try.prog hint W0 n cAu tm [some (.row 69 d.c)] fun e tm' hp' => e = .normal ∧ hp' = [some (.row 69 d.c)] ∧ tm' 0 = tm 0 ∧ tm' 1 = tm 1 ∧ tm' 3 = tm 3 ∧ tm' 9 = (Aut.tab d).v ∧ tm' 11 = .ptr 0 0 ∧ tm' 12 = .bool true := by
  have k1 : W0 50 [(Aut.tab d).v] = some (.rd true (.bool false)) := by
    have h := W0_full (a := .tab d) hok
    rw [show (Aut.tab d).full = false from decide_eq_false (by omega)] at h
    exact h
  have k2 : W0 51 [(Aut.tab d).v] = some (.rd true (.int .i64 (d.nxt.length : Int))) := W0_states (.tab d)
  have k3 := W0_dcheck hfit
  rw [if_pos hok] at k3
  have h1 := (Aut.tab d).v_nid
  have h2 := fun hp => (Aut.tab d).v_frz hp
  have h3 : ∀ hp, frz hp (.agg d.c) = some (.agg d.c) := fun hp => by simp only [frz, d.c_frz]
  have h4 : nid (.agg d.c) = true := by simp only [nid, d.c_nid]
  have q0 : pickA (some 3) d.c 0 = some (.agg d.c) := rfl
  have q1 : pickA none d.c 1 = some (encR.S d.nxt) := rfl
  have hlen : ∀ hp, lenA hp (encR.S d.nxt) = some (.int .i64 (d.nxt.length : Int)) := fun hp => Enc.S_len _ _ _
  have hlf : lenFits .slice (encR.S d.nxt) = true := rfl
  have hle : ¬ (d.nxt.length : Int) > most := by omega
  generalize (Aut.tab d).v = av at *
  have hb1 : (false == true) = false := rfl
  have hb2 : (true == false) = false := rfl
  dsimp only [cAu, icA, icB, c9]
  refine vcE.ex (by simp (disch := first | assumption | omega) only [exC, chain, ordered, List.getElem?_cons_zero, List.getElem?_cons_succ, exOps, exOp, wantedE, ↓reduceIte, ROp.run, evsE, evE, t9, putE, ty, List.append_nil, frzL, h2, k1, Cls.isFree, callCls, nidL, h1, Nat.reduceEqDiff, t12, same, binA, eqA, hb1, Option.map_some, beq_self_eq_true, t11, faddrA, loadA, rowA, ↓q1, hlf, ↓hlen, k2, intA, decide_true, ↓q0, h3, k3, h4, t2, hle, decide_false, cond_true]; rfl) ?_
  refine ⟨rfl, rfl, ?_, ?_, ?_, ?_, ?_, ?_⟩
  all_goals simp only [upd_app, Nat.reduceEqDiff, ↓reduceIte, t9, t11, t12]
theorem chk_no (x : Option (List UInt8 × Bool)) (hok : okW x) {most : Int} (hint : Nat → Nat) (n : Nat)
    {tm : Env} (t2 : tm 2 = .int .i64 most) (t9 : tm 9 = (Aut.st x).v) (t11 : tm 11 = .ptr 0 0) (t12 : tm 12 = .bool false) :
    vcE Try.prog hint W0 n cAu tm [some (.row 69 noDfa.c)] fun e tm' hp' => e = .normal ∧ hp' = [some (.row 69 noDfa.c)] ∧ tm' 0 = tm 0 ∧ tm' 1 = tm 1 ∧ tm' 3 = tm 3 ∧ tm' 9 = (Aut.st x).v ∧ tm' 11 = .ptr 0 0 ∧ tm' 12 = .bool false := by
  have k1 : W0 50 [(Aut.st x).v] = some (.rd true (.bool true)) := W0_full (a := .st x) hok
  have k2 : W0 51 [(Aut.st x).v] = some (.rd true (.int .i64 0)) := W0_states (.st x)
  have h1 := (Aut.st x).v_nid
  have h2 := fun hp => (Aut.st x).v_frz hp
  have q1 : pickA none noDfa.c 1 = some (encR.S noDfa.nxt) := rfl
  have hlen : ∀ hp, lenA hp (encR.S noDfa.nxt) = some (.int .i64 0) := fun hp => Enc.S_len _ _ _
  have hlf : lenFits .slice (encR.S noDfa.nxt) = true := rfl
  generalize (Aut.st x).v = av at *
  have hb1 : (false == true) = false := rfl
  have hb2 : (true == false) = false := rfl
  dsimp only [cAu, icA, icB, c9]
  refine vcE.ex (by simp (disch := first | assumption | omega) only [exC, chain, ordered, List.getElem?_cons_zero, List.getElem?_cons_succ, exOps, exOp, wantedE, ↓reduceIte, ROp.run, evsE, evE, t9, putE, ty, List.append_nil, frzL, h2, k1, Cls.isFree, callCls, nidL, h1, Nat.reduceEqDiff, t12, same, binA, eqA, hb2, Option.map_some, beq_self_eq_true, t11, faddrA, loadA, rowA, ↓q1, hlf, ↓hlen, k2, intA, decide_true, hb1, cond_true]; rfl) ?_
  refine ⟨rfl, rfl, ?_, ?_, ?_, ?_, ?_, ?_⟩
  all_goals simp only [upd_app, Nat.reduceEqDiff, ↓reduceIte, t9, t11, t12]
theorem lightB_iff {l : List (List UInt8)} : lightB l 20 260 = true ↔ (∀ t ∈ l, t.length ≤ 260) ∧ l.length ≤ 20 := by
  simp only [lightB, Bool.and_eq_true, List.all_eq_true, decide_eq_true_eq]
  constructor
  · rintro ⟨h1, h2⟩
    exact ⟨fun t ht => by have := h1 t ht; omega, by omega⟩
  · rintro ⟨h1, h2⟩
    exact ⟨fun t ht => by have := h1 t ht; omega, by omega⟩
theorem build_fits {p : List UInt8} {f : Bool} {most : Int} (hp : p.length ≤ 300) : (buildF p f most).1.fits = true := by
  have h := (build_small (p := p) (f := f) (most := most) (pat_le hp)).2.2.2
  simp only [Dfa.fits, List.all_eq_true, decide_eq_true_eq]
  exact fun r hr => Nat.le_trans (h r hr) (by decide)
theorem key_au {p : List UInt8} (f : Bool) {most : Int} (hp : p.length ≤ 300) (he : errA p most = 0) : ∃ (a : Aut) (d : Dfa) (is : Bool), newA p f most = a ∧ (buildF p f most).1 = d ∧ (buildF p f most).2 = is ∧ a.ok ∧ (∀ t, a.takes t = gm (sameB f) p t) ∧ (is = true → d.fits = true ∧ ∀ t, d.run t = gm (sameB f) p t) ∧
    ∀ (hint : Nat → Nat) (n : Nat) (tm : Env), tm 2 = .int .i64 most → tm 9 = a.v → tm 11 = .ptr 0 0 → tm 12 = .bool is → vcE Try.prog hint W0 n cAu tm [some (.row 69 d.c)] fun e tm' hp' => e = .normal ∧ hp' = [some (.row 69 d.c)] ∧ tm' 0 = tm 0 ∧ tm' 1 = tm 1 ∧ tm' 3 = tm 3 ∧ tm' 9 = a.v ∧ tm' 11 = .ptr 0 0 ∧ tm' 12 = .bool is := by
  have hck : checkG p = 0 := Decidable.byContradiction fun h => h (by rw [errA, if_pos h] at he; exact he)
  cases his : (buildF p f most).2 with
  | true =>
    have ha : newA p f most = .tab (buildF p f most).1 := by rw [newA, if_neg (by simp [he]), if_pos his]
    have hok := build_isok his
    have hfit := build_fits (f := f) (most := most) hp
    have htk := fun t => build_takes his t
    obtain ⟨l1, l2, _⟩ := build_less his
    exact ⟨_, _, _, ha, rfl, rfl, hok, htk, fun _ => ⟨hfit, fun t => by rw [Dfa.run, hok, Bool.true_and]; exact htk t⟩, fun hint n tm t2 t9 t11 t12 => chk_yes hok hfit l1 l2 hint n t2 t9 t11 t12⟩
  | false =>
    have ha : newA p f most = .st (newV p f) := by rw [newA, if_neg (by simp [he]), if_neg (by simp [his])]
    have hok : okW (newV p f) := newV_ok hp
    exact ⟨_, _, _, ha, buildF_no his, rfl, hok, fun t => acc_run hck t, fun h => absurd h (by decide), fun hint n tm t2 t9 t11 t12 => chk_no _ hok hint n t2 t9 t11 t12⟩
theorem lawAuto (p : List UInt8) (f : Bool) (most : Int) (l : List (List UInt8)) (hl0 : l.length < 4611686018427387904) : PC Try.prog 9 [.str p, .bool f, .int .i64 most, encS.S l] (.bool true) := by
  refine PCF.pc (pcf_e hmG W0_ok comp9 (by decide) (by simp) (nidL_ok (by simp only [nidL, nid, Enc.S_nid, Bool.and_self])) ?_)
  have e1 := W0_lives
  have e2 := W0_texts 20 260 hl0
  have hf : ∀ hp, frz hp (encS.S l) = some (encS.S l) := fun hp => Enc.S_frz _ _ _
  refine vcE.step (by simp (disch := first | assumption | omega) only [exC, exOps, exOp, wantedE, ↓reduceIte, ROp.run, evsE, evE, putE]; rfl) (vcE.step (by simp (disch := first | assumption | omega) only [exC, exOps, exOp, wantedE, ↓reduceIte, evsE, evE, List.append_nil, frzL, e1, Cls.isFree, callCls, ty, nidL, putE, ROp.run, same, unA, Option.map_some]; rfl) ?_)
  by_cases hp : p.length ≤ 300
  rotate_left
  · have h' : (p.length : Int) > 300 := by omega
    refine vcE.ex (by simp (disch := first | assumption | omega) only [exC, exOps, exOp, wantedE, ↓reduceIte, ROp.run, evsE, evE, ty, reduceCtorEq, List.getD_cons_zero, putE, tz, same, Option.map_some, binA, intA, h', decide_true, beq_iff_eq, Nat.reduceEqDiff]; rfl) ?_
    exact ⟨_, rfl, rfl⟩
  have h' : ¬ (p.length : Int) > 300 := by omega
  cases hlt : lightB l 20 260 with
  | false =>
    rw [hlt] at e2
    refine vcE.ex (by simp (disch := first | assumption | omega) only [exC, exOps, exOp, wantedE, ↓reduceIte, ROp.run, evsE, evE, ty, reduceCtorEq, List.getD_cons_zero, putE, tz, same, Option.map_some, binA, intA, h', decide_false, beq_self_eq_true, Nat.reduceEqDiff, List.getD_cons_succ, List.append_nil, frzL, hf, e2, Cls.isFree, callCls, nidL, unA]; rfl) ?_
    exact ⟨_, rfl, rfl⟩
  | true =>
  rw [hlt] at e2
  obtain ⟨hl, hll⟩ := lightB_iff.1 hlt
  refine vcE.step (by simp (disch := first | assumption | omega) only [exC, exOps, exOp, wantedE, ↓reduceIte, ROp.run, evsE, evE, ty, reduceCtorEq, List.getD_cons_zero, putE, tz, same, Option.map_some, binA, intA, h', decide_false, beq_self_eq_true, Nat.reduceEqDiff, List.getD_cons_succ, List.append_nil, frzL, hf, e2, Cls.isFree, callCls, nidL, unA]; rfl) ?_
  have e3 := W0_new f most hp
  have e4 := W0_build f most hp
  have st1 : storeA [some (.row 69 [.nils, .nils, .nils])] 3 (.ptr 0 0) (.agg (buildF p f most).1.c) = some [some (.row 69 (buildF p f most).1.c)] := cA_store (H := []) rfl
  by_cases he : errA p most = 0
  rotate_left
  · have hno : newA p f most = .no := by rw [newA, if_pos he]
    have e5 := W0_gcheck p
    rw [hno] at e3
    have hb : (buildF p f most).2 = false := by
      refine build_no ?_
      by_cases hc : checkG p = 0
      · refine .inr (Decidable.byContradiction fun h => he ?_)
        rw [errA, if_neg (by simp [hc]), if_neg h]
      · exact .inl hc
    rw [hb] at e4
    generalize (buildF p f most).1 = d at *
    refine vcE.step (by simp (disch := first | assumption | omega) only [exC, exOps, exOp, wantedE, ↓reduceIte, ROp.run, evsE, evE, ty, reduceCtorEq, List.getD_cons_zero, putE, Nat.reduceEqDiff, List.getD_cons_succ, List.append_nil, frzL, tz, e3, Aut.v, Cls.isFree, callCls, nidL, same, List.getElem?_cons_zero, Option.map_some, List.getElem?_cons_succ]; rfl) (vcE.step (by simp (disch := first | assumption | omega) only [exC, exOps, exOp, wantedE, ↓reduceIte, ROp.run, evsE, evE, ty, reduceCtorEq, List.getD_cons_zero, putE, Nat.reduceEqDiff, List.getD_cons_succ, List.append_nil, frzL, tz, e4, Cls.isFree, callCls, nidL, same, List.getElem?_cons_zero, Option.map_some, List.getElem?_cons_succ, allocA, List.length_nil, List.nil_append, ↓st1]; rfl) ?_)
    by_cases hc : checkG p = 0
    · have h2 : errA p most = 2 := by
        rw [errA, if_neg (by simp [hc])] at he ⊢
        by_cases hm : most < 1 ∨ 256 < most
        · rw [if_pos hm]
        · rw [if_neg hm] at he
          exact absurd rfl he
      have hm : most < 1 ∨ most > 256 := by
        refine Decidable.byContradiction fun h => he ?_
        rw [errA, if_neg (by simp [hc]), if_neg (by omega)]
      rw [hc] at e5
      rw [h2]
      by_cases h1 : most < 1
      · refine vcE.ex (by simp (disch := first | assumption | omega) only [exC, exOps, exOp, wantedE, ↓reduceIte, ROp.run, evsE, evE, ty, Nat.reduceEqDiff, putE, same, binA, intA, dec_false, Option.map_some, eqA, isNilA, beq_self_eq_true, unA, reduceCtorEq, List.getD_cons_zero, List.append_nil, frzL, tz, e5, Cls.isFree, callCls, nidL, decide_true, List.getD_cons_succ, h1, beq_iff_eq]; rfl) ?_
        exact ⟨_, rfl, rfl⟩
      · have h3 := hm.resolve_left h1
        refine vcE.ex (by simp (disch := first | assumption | omega) only [exC, exOps, exOp, wantedE, ↓reduceIte, ROp.run, evsE, evE, ty, Nat.reduceEqDiff, putE, same, binA, intA, dec_false, Option.map_some, eqA, isNilA, beq_self_eq_true, unA, reduceCtorEq, List.getD_cons_zero, List.append_nil, frzL, tz, e5, Cls.isFree, callCls, nidL, decide_true, List.getD_cons_succ, h1, decide_false, h3]; rfl) ?_
        exact ⟨_, rfl, rfl⟩
    · have h2 : errA p most = checkG p := if_pos hc
      rw [h2]
      refine vcE.ex (by simp (disch := first | assumption | omega) only [exC, exOps, exOp, wantedE, ↓reduceIte, ROp.run, evsE, evE, ty, Nat.reduceEqDiff, putE, same, binA, intA, hc, Option.map_some, eqA, isNilA, beq_self_eq_true, unA, reduceCtorEq, List.getD_cons_zero, List.append_nil, frzL, tz, e5, Cls.isFree, callCls, nidL, decide_true, beq_iff_eq, chain, ordered, List.getElem?_cons_zero, List.getElem?_cons_succ, Cls.makes, strA, faddrA, loadA, rowA, pickA, cond_true]; rfl) ?_
      exact ⟨_, rfl, rfl⟩
  rw [he] at e3
  obtain ⟨a, d, is, ha, hd, his, hok, htk, hdr, hchk⟩ := key_au f hp he
  rw [ha] at e3
  rw [hd] at e4 st1
  rw [his] at e4
  have hloop := fun (tm : Env) => loop_au p f is l a d hp hl hll hok htk hdr (tm := tm)
  generalize a.v = av at *
  clear hdr htk hok ha hd his hlt he
  refine vcE.step (by simp (disch := first | assumption | omega) only [exC, exOps, exOp, wantedE, ↓reduceIte, ROp.run, evsE, evE, ty, reduceCtorEq, List.getD_cons_zero, putE, Nat.reduceEqDiff, List.getD_cons_succ, List.append_nil, frzL, tz, e3, Cls.isFree, callCls, nidL, same, List.getElem?_cons_zero, Option.map_some, List.getElem?_cons_succ]; rfl) (vcE.step (by simp (disch := first | assumption | omega) only [exC, exOps, exOp, wantedE, ↓reduceIte, ROp.run, evsE, evE, ty, reduceCtorEq, List.getD_cons_zero, putE, Nat.reduceEqDiff, List.getD_cons_succ, List.append_nil, frzL, tz, e4, Cls.isFree, callCls, nidL, same, List.getElem?_cons_zero, Option.map_some, List.getElem?_cons_succ, allocA, List.length_nil, List.nil_append, ↓st1]; rfl) (vcE.then (fun e tm hp => e = .normal ∧ hp = [some (.row 69 d.c)] ∧ tm 0 = .str p ∧ tm 1 = .bool f ∧ tm 2 = .int .i64 most ∧ tm 3 = encS.S l ∧ tm 9 = av ∧ tm 11 = .ptr 0 0 ∧ tm 12 = .bool is) (vcE.ex (by simp (disch := first | assumption | omega) only [exC, exOps, exOp, wantedE, ↓reduceIte, ROp.run, evsE, evE, ty, Nat.reduceEqDiff, putE, same, binA, intA, decide_true, Option.map_some]; rfl) ⟨rfl, rfl, rfl, rfl, rfl, rfl, rfl, rfl, rfl⟩) ?_))
  rintro e tm hp ⟨rfl, rfl, t0, t1, t2, t3, t9, t11, t12⟩
  clear e1 e2 e3 e4 st1
  refine vcE.then _ (hchk _ _ _ t2 t9 t11 t12) ?_
  rintro e tm' hp ⟨rfl, rfl, u0, u1, u3, u9, u11, u12⟩
  refine vcE.then (fun e _ _ => e = .normal) (vcE.step (by simp (disch := first | assumption | omega) only [exC, exOps, exOp, wantedE, ↓reduceIte, ROp.run, evsE, evE, putE]; rfl) (hloop _ _ _ ?_ ?_ ?_ ?_ ?_ ?_ ?_)) ?_
  · simp only [upd_app, Nat.reduceEqDiff, ↓reduceIte, u0, t0]
  · simp only [upd_app, Nat.reduceEqDiff, ↓reduceIte, u1, t1]
  · simp only [upd_app, Nat.reduceEqDiff, ↓reduceIte, u3, t3]
  · simp only [upd_app, Nat.reduceEqDiff, ↓reduceIte, u9]
  · simp only [upd_app, Nat.reduceEqDiff, ↓reduceIte, u11]
  · simp only [upd_app, Nat.reduceEqDiff, ↓reduceIte, u12]
  · simp only [upd_app, Nat.reduceEqDiff, ↓reduceIte]
  · rintro e tm hp rfl
    refine vcE.ex (by simp (disch := first | assumption | omega) only [exC, exOps, exOp, wantedE, ↓reduceIte, ROp.run, evsE, evE, putE]; rfl) ?_
    exact ⟨_, rfl, rfl⟩
end
end Go.Gi
