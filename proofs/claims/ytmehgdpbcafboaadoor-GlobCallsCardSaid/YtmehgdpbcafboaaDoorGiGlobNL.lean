/- Plain forms of globs, by plain lists: what they match, how long they are. -/
import Derived.Test.YtmehgdpbcafboaaDoorGiGlobL
set_option linter.unusedVariables false
namespace Go.Gi

/-- A glob's plain form; 'b': a star is to come. -/
def normS : Bool → List UInt8 → List UInt8
  | b, [] => if b then [42] else []
  | b, c :: p => if c = 42 then normS true p else if c = 63 then 63 :: normS b p else (if b then [42] else []) ++ c :: normS false p
def normB (p : List UInt8) : List UInt8 := normS false p
def leastB : List UInt8 → Nat
  | [] => 0
  | c :: p => (if c = 42 then 0 else 1) + leastB p
def litB (p : List UInt8) : Bool := p.all fun c => c != 42 && c != 63

theorem gm_star2 {s : UInt8 → UInt8 → Bool} {p t : List UInt8} : gm s (42 :: 42 :: p) t = true ↔ gm s (42 :: p) t = true := by
  constructor
  · intro h
    obtain ⟨k, h1, h2⟩ := gm_star.1 h
    obtain ⟨j, h3, h4⟩ := gm_star.1 h2
    rw [List.length_drop] at h3
    rw [List.drop_drop] at h4
    exact gm_star.2 ⟨k + j, by omega, h4⟩
  · intro h
    exact gm_star.2 ⟨0, by omega, by simpa using h⟩
theorem gm_star63 {s : UInt8 → UInt8 → Bool} {p t : List UInt8} : gm s (42 :: 63 :: p) t = true ↔ gm s (63 :: 42 :: p) t = true := by
  have h63 : (63 : UInt8) ≠ 42 := by decide
  constructor
  · intro h
    obtain ⟨k, h1, h2⟩ := gm_star.1 h
    obtain ⟨b, t', h3, _, h4⟩ := (gm_one h63).1 h2
    cases t with
    | nil => simp at h3
    | cons x t =>
      refine (gm_one h63).2 ⟨x, t, rfl, .inl rfl, gm_star.2 ⟨k, ?_, ?_⟩⟩
      · have := congrArg List.length h3
        simp only [List.length_drop, List.length_cons] at this
        omega
      · have : (x :: t).drop (k + 1) = t' := by rw [← List.drop_drop, h3]; rfl
        rw [List.drop_succ_cons] at this
        rw [this]
        exact h4
  · intro h
    obtain ⟨b, t', rfl, _, h2⟩ := (gm_one h63).1 h
    obtain ⟨k, h3, h4⟩ := gm_star.1 h2
    refine gm_star.2 ⟨k, by simp only [List.length_cons]; omega, (gm_one h63).2 ?_⟩
    have hk : k < (b :: t').length := by simp only [List.length_cons]; omega
    refine ⟨(b :: t')[k], t'.drop k, ?_, .inl rfl, h4⟩
    rw [List.drop_eq_getElem_cons hk]
    rfl
theorem gm_cons_congr {s : UInt8 → UInt8 → Bool} {c : UInt8} {p q : List UInt8} (h : ∀ t, gm s p t = true ↔ gm s q t = true) (t : List UInt8) : gm s (c :: p) t = true ↔ gm s (c :: q) t = true := by
  by_cases hc : c = 42
  · subst hc
    simp only [gm_star, h]
  · simp only [gm_one hc, h]
theorem gm_normS {s : UInt8 → UInt8 → Bool} : ∀ (p : List UInt8) (b : Bool) (t : List UInt8), gm s (normS b p) t = true ↔ gm s (if b then 42 :: p else p) t = true
  | [], b, t => by cases b <;> simp [normS]
  | c :: p, b, t => by
    by_cases h42 : c = 42
    · subst h42
      simp only [normS, if_true]
      rw [gm_normS p true t]
      cases b
      · simp
      · simpa using gm_star2.symm
    · by_cases h63 : c = 63
      · subst h63
        simp only [normS, if_neg h42, if_true]
        rw [gm_cons_congr (gm_normS p b) t]
        cases b
        · simp
        · simpa using gm_star63.symm
      · simp only [normS, if_neg h42, if_neg h63]
        have ih := gm_normS (s := s) p false
        cases b
        · simpa using gm_cons_congr ih t
        · simpa using gm_cons_congr (gm_cons_congr (c := c) ih) t
theorem gm_norm {s : UInt8 → UInt8 → Bool} (p t : List UInt8) : gm s (normB p) t = gm s p t := by
  have := gm_normS (s := s) p false t
  simp only [Bool.false_eq_true, if_false] at this
  exact Bool.eq_iff_iff.2 this

theorem norm_idem : ∀ (p : List UInt8) (b : Bool), normS false (normS b p) = normS b p
  | [], b => by cases b <;> simp [normS]
  | c :: p, b => by
    by_cases h42 : c = 42
    · subst h42
      simp only [normS, if_true]
      exact norm_idem p true
    · by_cases h63 : c = 63
      · subst h63
        simp only [normS, if_neg h42, if_true]
        rw [norm_idem p b]
      · cases b
        · simp only [normS, if_neg h42, if_neg h63, Bool.false_eq_true, if_false, List.nil_append, norm_idem p false]
        · simp only [normS, if_neg h42, if_neg h63, if_true, List.cons_append, List.nil_append, norm_idem p false]
theorem normB_idem (p : List UInt8) : normB (normB p) = normB p := norm_idem p false
theorem norm_len : ∀ (p : List UInt8) (b : Bool), (normS b p).length ≤ p.length + if b then 1 else 0
  | [], b => by cases b <;> simp [normS]
  | c :: p, b => by
    have h1 := norm_len p true
    have h2 := norm_len p b
    have h3 := norm_len p false
    simp only [if_true, Bool.false_eq_true, if_false] at h1 h3
    by_cases h42 : c = 42
    · subst h42
      simp only [normS, if_true, List.length_cons]
      omega
    · by_cases h63 : c = 63
      · subst h63
        simp only [normS, if_neg h42, if_true, List.length_cons]
        omega
      · cases b
        · simp only [normS, if_neg h42, if_neg h63, Bool.false_eq_true, if_false, List.nil_append, List.length_cons]
          omega
        · simp only [normS, if_neg h42, if_neg h63, if_true, List.cons_append, List.nil_append, List.length_cons]
          omega
theorem normB_len (p : List UInt8) : (normB p).length ≤ p.length := by simpa [normB] using norm_len p false
theorem norm_least : ∀ (p : List UInt8) (b : Bool), leastB (normS b p) = leastB p
  | [], b => by cases b <;> simp [normS, leastB]
  | c :: p, b => by
    by_cases h42 : c = 42
    · subst h42
      simp only [normS, if_true, leastB, norm_least p true, Nat.zero_add]
    · by_cases h63 : c = 63
      · subst h63
        simp only [normS, if_neg h42, if_true, leastB, norm_least p b]
      · cases b
        · simp only [normS, if_neg h42, if_neg h63, Bool.false_eq_true, if_false, List.nil_append, leastB, norm_least p false]
        · simp only [normS, if_neg h42, if_neg h63, if_true, List.cons_append, List.nil_append, leastB, norm_least p false, Nat.zero_add]
theorem normB_least (p : List UInt8) : leastB (normB p) = leastB p := norm_least p false
theorem gm_least {s : UInt8 → UInt8 → Bool} : ∀ {p t : List UInt8}, gm s p t = true → leastB p ≤ t.length
  | [], t, _ => by simp [leastB]
  | c :: p, t, h => by
    by_cases h42 : c = 42
    · subst h42
      obtain ⟨k, h1, h2⟩ := gm_star.1 h
      have := gm_least h2
      rw [List.length_drop] at this
      simp only [leastB, if_true]
      omega
    · obtain ⟨b, t', rfl, _, h2⟩ := (gm_one h42).1 h
      have := gm_least h2
      simp only [leastB, if_neg h42, List.length_cons]
      omega

/-- A literal matches what is alike, byte by byte. -/
theorem gm_lit {s : UInt8 → UInt8 → Bool} {α : Type} {f : UInt8 → α} (hs : ∀ a b, s a b = true ↔ f a = f b) : ∀ {p t : List UInt8}, litB p = true → (gm s p t = true ↔ p.map f = t.map f)
  | [], t, _ => by
    cases t <;> simp [gm]
  | c :: p, t, h => by
    simp only [litB, List.all_cons, Bool.and_eq_true, bne_iff_ne, ne_eq] at h
    obtain ⟨⟨h42, h63⟩, hp⟩ := h
    rw [gm_one h42]
    have ih := fun t => gm_lit hs (p := p) (t := t) hp
    constructor
    · rintro ⟨b, t', rfl, h1 | h1, h2⟩
      · exact absurd h1 h63
      · simp only [List.map_cons, (hs c b).1 h1, (ih t').1 h2]
    · intro h
      cases t with
      | nil => simp at h
      | cons b t =>
        simp only [List.map_cons, List.cons.injEq] at h
        exact ⟨b, t, rfl, .inr ((hs c b).2 h.1), (ih t).2 h.2⟩

/-- Wild bytes at the front. -/
theorem normS_wild : ∀ (w : List UInt8) (rest : List UInt8) (b : Bool), (∀ c ∈ w, c = 42 ∨ c = 63) → normS b (w ++ rest) = List.replicate (w.count 63) 63 ++ normS (b || decide (42 ∈ w)) rest
  | [], rest, b, _ => by simp
  | c :: w, rest, b, h => by
    have hw : ∀ c ∈ w, c = 42 ∨ c = 63 := fun x hx => h x (List.mem_cons_of_mem _ hx)
    rcases h c List.mem_cons_self with rfl | rfl
    · simp only [List.cons_append, normS, if_true]
      rw [normS_wild w rest true hw]
      simp
    · simp only [List.cons_append, normS, if_neg (show ¬ (63 : UInt8) = 42 by decide), if_true]
      rw [normS_wild w rest b hw]
      simp [List.replicate_succ]
theorem normS_plain {c : UInt8} (h42 : c ≠ 42) (h63 : c ≠ 63) (b : Bool) (p : List UInt8) : normS b (c :: p) = (if b then [42] else []) ++ c :: normS false p := by
  simp only [normS, if_neg h42, if_neg h63]
theorem normS_end (b : Bool) (rest : List UInt8) (h : rest = [] ∨ ∃ c p, rest = c :: p ∧ c ≠ 42 ∧ c ≠ 63) : normS b rest = (if b then [42] else []) ++ normS false rest := by
  rcases h with rfl | ⟨c, p, rfl, h1, h2⟩
  · cases b <;> simp [normS]
  · rw [normS_plain h1 h2, normS_plain h1 h2]
    simp
theorem count_wild {w : List UInt8} (h : ∀ c ∈ w, c = 42 ∨ c = 63) : w.count 63 < w.length ↔ 42 ∈ w := by
  induction w with
  | nil => simp
  | cons c w ih =>
    have hw : ∀ c ∈ w, c = 42 ∨ c = 63 := fun x hx => h x (List.mem_cons_of_mem _ hx)
    have ih := ih hw
    have hle : w.count 63 ≤ w.length := List.count_le_length
    rcases h c List.mem_cons_self with rfl | rfl
    · simp
      omega
    · simp
      simpa using ih

/-! ### Byte by byte of the glob -/
theorem gm_snoc42 {s : UInt8 → UInt8 → Bool} {p t : List UInt8} : gm s (p ++ [42]) t = true ↔ ∃ k, k ≤ t.length ∧ gm s p (t.take k) = true := by
  rw [gm_append]
  constructor
  · rintro ⟨k, h1, h2, _⟩
    exact ⟨k, h1, h2⟩
  · rintro ⟨k, h1, h2⟩
    exact ⟨k, h1, h2, gm_any _ _⟩
theorem gm_nil {s : UInt8 → UInt8 → Bool} {t : List UInt8} : gm s [] t = true ↔ t = [] := by simp [gm]
theorem gm_snoc {s : UInt8 → UInt8 → Bool} {p t : List UInt8} {c b : UInt8} (hc : c ≠ 42) : gm s (p ++ [c]) (t ++ [b]) = true ↔ gm s p t = true ∧ (c = 63 ∨ s c b = true) := by
  rw [gm_append]
  constructor
  · rintro ⟨k, h1, h2, h3⟩
    obtain ⟨x, t', h4, h5, h6⟩ := (gm_one hc).1 h3
    rw [gm_nil] at h6
    subst h6
    have hk : k = t.length := by
      have := congrArg List.length h4
      simp only [List.length_drop, List.length_append, List.length_cons, List.length_nil] at this h1
      omega
    subst hk
    rw [List.drop_left] at h4
    rw [List.take_left] at h2
    cases h4
    exact ⟨h2, h5⟩
  · rintro ⟨h1, h2⟩
    refine ⟨t.length, by simp, by rw [List.take_left]; exact h1, ?_⟩
    rw [List.drop_left]
    exact (gm_one hc).2 ⟨b, [], rfl, h2, gm_nil.2 rfl⟩
theorem gm_snoc_nil {s : UInt8 → UInt8 → Bool} {p : List UInt8} {c : UInt8} (hc : c ≠ 42) : gm s (p ++ [c]) [] = false := by
  rw [Bool.eq_false_iff]
  intro h
  obtain ⟨k, _, _, h3⟩ := gm_append.1 h
  obtain ⟨x, t', h4, _, _⟩ := (gm_one hc).1 h3
  simp at h4
theorem gm_snoc42_snoc {s : UInt8 → UInt8 → Bool} {p t : List UInt8} {b : UInt8} : gm s (p ++ [42]) (t ++ [b]) = true ↔ gm s (p ++ [42]) t = true ∨ gm s p (t ++ [b]) = true := by
  rw [gm_snoc42, gm_snoc42]
  constructor
  · rintro ⟨k, h1, h2⟩
    by_cases hk : k ≤ t.length
    · rw [List.take_append_of_le_length hk] at h2
      exact .inl ⟨k, hk, h2⟩
    · rw [List.take_of_length_le (by simp; omega)] at h2
      exact .inr h2
  · rintro (⟨k, h1, h2⟩ | h)
    · exact ⟨k, by simp; omega, by rw [List.take_append_of_le_length h1]; exact h2⟩
    · exact ⟨(t ++ [b]).length, Nat.le_refl _, by rw [List.take_length]; exact h⟩
theorem gm_snoc42_nil {s : UInt8 → UInt8 → Bool} {p : List UInt8} : gm s (p ++ [42]) [] = gm s p [] := by
  rw [Bool.eq_iff_iff, gm_snoc42]
  constructor
  · rintro ⟨k, _, h⟩
    simpa using h
  · exact fun h => ⟨0, by simp, by simpa using h⟩

/-! ### Folded globs and texts -/
theorem gm_map {f : UInt8 → UInt8} {s : UInt8 → UInt8 → Bool} (h42 : ∀ c, f c = 42 ↔ c = 42) (h63 : ∀ c, f c = 63 ↔ c = 63) (hs : ∀ a b, s a b = true ↔ f a = f b) : ∀ {p t : List UInt8}, gm s p t = true ↔ gm (fun a b => decide (a = b)) (p.map f) (t.map f) = true
  | [], t => by cases t <;> simp [gm]
  | c :: p, t => by
    have ih := fun t => gm_map h42 h63 hs (p := p) (t := t)
    rw [List.map_cons]
    by_cases hc : c = 42
    · subst hc
      rw [(h42 42).2 rfl, gm_star, gm_star, List.length_map]
      constructor
      · rintro ⟨k, h1, h2⟩
        exact ⟨k, h1, by rw [← List.map_drop]; exact (ih _).1 h2⟩
      · rintro ⟨k, h1, h2⟩
        rw [← List.map_drop] at h2
        exact ⟨k, h1, (ih _).2 h2⟩
    · rw [gm_one hc, gm_one (fun h => hc ((h42 c).1 h))]
      constructor
      · rintro ⟨b, t', rfl, h1, h2⟩
        exact ⟨f b, t'.map f, rfl, h1.imp (h63 c).2 (fun h => by simpa using (hs c b).1 h), (ih _).1 h2⟩
      · rintro ⟨b, t', h0, h1, h2⟩
        cases t with
        | nil => simp at h0
        | cons x t =>
          simp only [List.map_cons, List.cons.injEq] at h0
          obtain ⟨rfl, rfl⟩ := h0
          exact ⟨x, t, rfl, h1.imp (h63 c).1 (fun h => (hs c x).2 (by simpa using h)), (ih _).2 h2⟩

end Go.Gi
