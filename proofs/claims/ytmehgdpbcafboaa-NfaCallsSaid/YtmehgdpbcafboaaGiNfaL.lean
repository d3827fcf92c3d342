/- The states of a glob: rows of places, told by numbers. -/
import Derived.Test.YtmehgdpbcafboaaGiGlobNL
set_option linter.unusedVariables false
namespace Go.Gi

/-- A place's byte; none behind the end. -/
abbrev isStar (p : List UInt8) (i : Nat) : Bool := decide (p[i]? = some 42)
/-- On from places, by stars. -/
def clo (p : List UInt8) (b : Nat → Bool) : Nat → Bool
  | 0 => b 0
  | j + 1 => b (j + 1) || (clo p b j && isStar p j)
/-- Does a place's byte take a byte? -/
def takes (s : UInt8 → UInt8 → Bool) (p : List UInt8) (i : Nat) (c : UInt8) : Bool := match p[i]? with
  | some a => a != 42 && (a == 63 || s a c)
  | none => false
/-- Where a byte leads to at once. -/
def leads (s : UInt8 → UInt8 → Bool) (p : List UInt8) (r : Nat → Bool) (c : UInt8) : Nat → Bool
  | 0 => r 0 && isStar p 0
  | j + 1 => (r (j + 1) && isStar p (j + 1)) || (r j && takes s p j c)
def stepS (s : UInt8 → UInt8 → Bool) (p : List UInt8) (r : Nat → Bool) (c : UInt8) : Nat → Bool := clo p (leads s p r c)
def startS (p : List UInt8) : Nat → Bool := clo p fun j => decide (j = 0)
/-- The places behind a text. -/
def atS (s : UInt8 → UInt8 → Bool) (p t : List UInt8) (i : Nat) : Bool := if isStar p i then gm s (p.take (i + 1)) t else gm s (p.take i) t
def runS (s : UInt8 → UInt8 → Bool) (p : List UInt8) : List UInt8 → (Nat → Bool) → (Nat → Bool)
  | [], r => r
  | c :: t, r => runS s p t (stepS s p r c)
def rowL (n : Nat) (r : Nat → Bool) : List Nat := (List.range n).filter r

theorem clo_congr {p : List UInt8} {b b' : Nat → Bool} : ∀ {j : Nat}, (∀ i, i ≤ j → b i = b' i) → clo p b j = clo p b' j
  | 0, h => h 0 (Nat.le_refl _)
  | j + 1, h => by
    simp only [clo]
    rw [h (j + 1) (Nat.le_refl _), clo_congr fun i hi => h i (by omega)]
theorem leads_congr {s : UInt8 → UInt8 → Bool} {p : List UInt8} {r r' : Nat → Bool} {c : UInt8} {j : Nat} (h : ∀ i, i ≤ j → r i = r' i) : leads s p r c j = leads s p r' c j := by
  cases j with
  | zero => simp only [leads, h 0 (Nat.le_refl _)]
  | succ j => simp only [leads, h (j + 1) (Nat.le_refl _), h j (by omega)]
theorem stepS_congr {s : UInt8 → UInt8 → Bool} {p : List UInt8} {r r' : Nat → Bool} {c : UInt8} {j : Nat} (h : ∀ i, i ≤ j → r i = r' i) : stepS s p r c j = stepS s p r' c j :=
  clo_congr fun i hi => leads_congr fun k hk => h k (by omega)

/-- Reached: from a place, over stars. -/
theorem clo_iff {p : List UInt8} {b : Nat → Bool} : ∀ {j : Nat}, clo p b j = true ↔ ∃ i, i ≤ j ∧ b i = true ∧ ∀ m, i ≤ m → m < j → p[m]? = some 42
  | 0 => by
    simp only [clo]
    constructor
    · exact fun h => ⟨0, Nat.le_refl _, h, fun m _ h2 => by omega⟩
    · rintro ⟨i, h1, h2, _⟩
      obtain rfl : i = 0 := by omega
      exact h2
  | j + 1 => by
    simp only [clo, Bool.or_eq_true, Bool.and_eq_true, clo_iff (j := j), isStar, decide_eq_true_eq]
    constructor
    · rintro (h | ⟨⟨i, h1, h2, h3⟩, h4⟩)
      · exact ⟨j + 1, Nat.le_refl _, h, fun m h5 h6 => by omega⟩
      · refine ⟨i, by omega, h2, fun m h5 h6 => ?_⟩
        by_cases hm : m = j
        · subst hm; exact h4
        · exact h3 m h5 (by omega)
    · rintro ⟨i, h1, h2, h3⟩
      by_cases hi : i = j + 1
      · subst hi; exact .inl h2
      · exact .inr ⟨⟨i, by omega, h2, fun m h5 h6 => h3 m h5 (by omega)⟩, h3 j (by omega) (by omega)⟩

theorem take_succ_some {p : List UInt8} {i : Nat} {a : UInt8} (h : p[i]? = some a) : p.take (i + 1) = p.take i ++ [a] := by
  rw [List.take_add_one, h]
  rfl

theorem start_at {s : UInt8 → UInt8 → Bool} {p : List UInt8} : ∀ {i : Nat}, i ≤ p.length → startS p i = atS s p [] i
  | 0, _ => by
    simp only [startS, clo, decide_true]
    unfold atS
    by_cases h : isStar p 0 = true
    · rw [if_pos h]
      simp only [isStar, decide_eq_true_eq] at h
      rw [take_succ_some h]
      rw [gm_snoc42_nil]
      rfl
    · rw [if_neg h]
      rfl
  | i + 1, hi => by
    have ih := start_at (s := s) (p := p) (i := i) (by omega)
    unfold startS at ih ⊢
    simp only [clo]
    rw [decide_eq_false (by omega), Bool.false_or, ih]
    have hlt : i < p.length := by omega
    obtain ⟨a, ha⟩ : ∃ a, p[i]? = some a := ⟨_, List.getElem?_eq_getElem hlt⟩
    have e : gm s (p.take (i + 1)) [] = (gm s (p.take (i + 1)) [] && isStar p i) := by
      by_cases h42 : a = 42
      · subst h42
        simp [isStar, ha]
      · rw [take_succ_some ha, gm_snoc_nil h42]
        rfl
    have e2 : (atS s p [] i && isStar p i) = gm s (p.take (i + 1)) [] := by
      rw [e]
      unfold atS
      by_cases h : isStar p i = true
      · rw [if_pos h]
      · simp [Bool.eq_false_iff.2 h]
    rw [e2]
    unfold atS
    by_cases h : isStar p (i + 1) = true
    · rw [if_pos h]
      simp only [isStar, decide_eq_true_eq] at h
      rw [take_succ_some h, gm_snoc42_nil]
    · rw [if_neg h]

theorem step_at {s : UInt8 → UInt8 → Bool} {p t : List UInt8} {c : UInt8} {r : Nat → Bool} (hr : ∀ i, i ≤ p.length → r i = atS s p t i) : ∀ {j : Nat}, j ≤ p.length → stepS s p r c j = atS s p (t ++ [c]) j
  | 0, _ => by
    simp only [stepS, clo, leads, hr 0 (Nat.zero_le _)]
    unfold atS
    by_cases h : isStar p 0 = true
    · rw [if_pos h, if_pos h, h]
      simp only [isStar, decide_eq_true_eq] at h
      rw [take_succ_some h]
      simp only [List.take_zero, List.nil_append, Bool.and_true]
      rw [(gm_any s t : gm s [42] t = true), (gm_any s (t ++ [c]) : gm s [42] _ = true)]
    · rw [if_neg h, if_neg h, Bool.eq_false_iff.2 h, Bool.and_false]
      symm
      rw [Bool.eq_false_iff]
      intro hg
      rw [List.take_zero, gm_nil] at hg
      simp at hg
  | j + 1, hj => by
    have ih := step_at (c := c) hr (j := j) (by omega)
    have hlt : j < p.length := by omega
    obtain ⟨a, ha⟩ : ∃ a, p[j]? = some a := ⟨_, List.getElem?_eq_getElem hlt⟩
    have h1 : stepS s p r c (j + 1) = (leads s p r c (j + 1) || (stepS s p r c j && isStar p j)) := rfl
    rw [h1, ih]
    simp only [leads, hr (j + 1) hj, hr j (by omega)]
    -- what is behind place j + 1 without going on
    have key : ((atS s p t j && takes s p j c) || (atS s p (t ++ [c]) j && isStar p j)) = gm s (p.take (j + 1)) (t ++ [c]) := by
      by_cases h42 : a = 42
      · subst h42
        have hs : isStar p j = true := by simp [isStar, ha]
        have ht : takes s p j c = false := by simp [takes, ha]
        rw [ht, hs, Bool.and_false, Bool.false_or, Bool.and_true]
        unfold atS
        rw [if_pos hs]
      · have hs : isStar p j = false := by simp [isStar, ha, h42]
        rw [hs, Bool.and_false, Bool.or_false, take_succ_some ha]
        have : atS s p t j = gm s (p.take j) t := by
          unfold atS
          rw [hs]
          rfl
        rw [this, Bool.eq_iff_iff, gm_snoc h42, Bool.and_eq_true]
        simp only [takes, ha, Bool.and_eq_true, bne_iff_ne, ne_eq, h42, not_false_eq_true, true_and, Bool.or_eq_true, beq_iff_eq]
    rw [Bool.or_assoc, key]
    by_cases h : isStar p (j + 1) = true
    · unfold atS
      rw [if_pos h, if_pos h, h, Bool.and_true]
      simp only [isStar, decide_eq_true_eq] at h
      rw [take_succ_some h, Bool.eq_iff_iff, Bool.or_eq_true, gm_snoc42_snoc]
    · unfold atS
      rw [if_neg h, if_neg h, Bool.eq_false_iff.2 h, Bool.and_false, Bool.false_or]

theorem run_at {s : UInt8 → UInt8 → Bool} {p : List UInt8} : ∀ (u : List UInt8) {t : List UInt8} {r : Nat → Bool}, (∀ i, i ≤ p.length → r i = atS s p t i) → ∀ i, i ≤ p.length → runS s p u r i = atS s p (t ++ u) i
  | [], t, r, hr, i, hi => by rw [List.append_nil]; exact hr i hi
  | c :: u, t, r, hr, i, hi => by
    have := run_at u (t := t ++ [c]) (r := stepS s p r c) (fun j hj => step_at hr hj) i hi
    rw [List.append_assoc] at this
    exact this
theorem at_end {s : UInt8 → UInt8 → Bool} (p t : List UInt8) : atS s p t p.length = gm s p t := by
  unfold atS
  rw [if_neg (by simp [isStar]), List.take_length]
theorem runS_snoc {s : UInt8 → UInt8 → Bool} {p : List UInt8} : ∀ (t : List UInt8) (c : UInt8) (r : Nat → Bool), runS s p (t ++ [c]) r = stepS s p (runS s p t r) c
  | [], c, r => rfl
  | d :: t, c, r => runS_snoc t c _

/-- From two rows together: the union. -/
theorem leads_or {s : UInt8 → UInt8 → Bool} {p : List UInt8} {r r' : Nat → Bool} {c : UInt8} (j : Nat) : leads s p (fun i => r i || r' i) c j = (leads s p r c j || leads s p r' c j) := by
  cases j with
  | zero => simp only [leads]; cases r 0 <;> cases r' 0 <;> simp
  | succ j =>
    simp only [leads]
    cases r (j + 1) <;> cases r' (j + 1) <;> cases r j <;> cases r' j <;> cases isStar p (j + 1) <;> simp
theorem clo_or {p : List UInt8} {b b' : Nat → Bool} : ∀ (j : Nat), clo p (fun i => b i || b' i) j = (clo p b j || clo p b' j)
  | 0 => rfl
  | j + 1 => by
    simp only [clo, clo_or j]
    cases b (j + 1) <;> cases b' (j + 1) <;> cases clo p b j <;> cases clo p b' j <;> simp
theorem stepS_or {s : UInt8 → UInt8 → Bool} {p : List UInt8} {r r' : Nat → Bool} {c : UInt8} (j : Nat) : stepS s p (fun i => r i || r' i) c j = (stepS s p r c j || stepS s p r' c j) := by
  simp only [stepS]
  rw [clo_congr (fun i _ => leads_or i)]
  exact clo_or j

end Go.Gi
