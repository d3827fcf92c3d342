/- What a glob matches: plain lists. -/
set_option linter.unusedVariables false
namespace Go.Gi

def anyTail (f : List UInt8 → Bool) : List UInt8 → Bool
  | [] => f []
  | b :: t => f (b :: t) || anyTail f t

/-- Whether a glob matches a text; 's': which bytes are taken for alike. -/
def gm (s : UInt8 → UInt8 → Bool) : List UInt8 → List UInt8 → Bool
  | [], t => t.isEmpty
  | c :: p, t => if c = 42 then anyTail (gm s p) t else match t with
    | [] => false
    | b :: t' => (c == 63 || s c b) && gm s p t'

theorem anyTail_iff {f : List UInt8 → Bool} : ∀ {t : List UInt8}, anyTail f t = true ↔ ∃ k, k ≤ t.length ∧ f (t.drop k) = true
  | [] => by
    simp only [anyTail, List.length_nil, Nat.le_zero_eq, List.drop_nil]
    exact ⟨fun h => ⟨0, rfl, h⟩, fun ⟨_, _, h⟩ => h⟩
  | b :: t => by
    simp only [anyTail, Bool.or_eq_true, anyTail_iff (t := t), List.length_cons]
    constructor
    · rintro (h | ⟨k, h1, h2⟩)
      · exact ⟨0, by omega, h⟩
      · exact ⟨k + 1, by omega, by simpa using h2⟩
    · rintro ⟨k, h1, h2⟩
      cases k with
      | zero => exact .inl h2
      | succ k => exact .inr ⟨k, by omega, by simpa using h2⟩

theorem gm_star {s : UInt8 → UInt8 → Bool} {p t : List UInt8} : gm s (42 :: p) t = true ↔ ∃ k, k ≤ t.length ∧ gm s p (t.drop k) = true := by
  have e : gm s (42 :: p) t = anyTail (gm s p) t := by
    rw [gm.eq_def]
    simp only [if_true]
  rw [e]
  exact anyTail_iff
theorem gm_one {s : UInt8 → UInt8 → Bool} {c : UInt8} {p t : List UInt8} (hc : c ≠ 42) : gm s (c :: p) t = true ↔ ∃ b t', t = b :: t' ∧ (c = 63 ∨ s c b = true) ∧ gm s p t' = true := by
  rw [gm.eq_def]
  simp only [if_neg hc]
  cases t with
  | nil => simp
  | cons b t' =>
    simp only [Bool.and_eq_true, Bool.or_eq_true, beq_iff_eq]
    constructor
    · exact fun h => ⟨b, t', rfl, h⟩
    · rintro ⟨b', t'', h1, h2⟩
      cases h1
      exact h2

/-- A glob of two parts: the text falls into two. -/
theorem gm_append {s : UInt8 → UInt8 → Bool} {q : List UInt8} : ∀ {p t : List UInt8}, gm s (p ++ q) t = true ↔ ∃ k, k ≤ t.length ∧ gm s p (t.take k) = true ∧ gm s q (t.drop k) = true
  | [], t => by
    simp only [List.nil_append, gm, List.isEmpty_iff, List.take_eq_nil_iff]
    constructor
    · exact fun h => ⟨0, by omega, .inl rfl, h⟩
    · rintro ⟨k, h1, rfl | rfl, h2⟩
      · simpa using h2
      · simpa using h2
  | c :: p, t => by
    by_cases hc : c = 42
    · subst hc
      simp only [List.cons_append, gm_star]
      constructor
      · rintro ⟨k, h1, h2⟩
        obtain ⟨j, h3, h4, h5⟩ := gm_append.1 h2
        rw [List.length_drop] at h3
        refine ⟨k + j, by omega, ⟨k, by rw [List.length_take]; omega, ?_⟩, by rw [← List.drop_drop]; exact h5⟩
        rw [List.take_drop] at h4
        rw [show k + j = j + k by omega] at *
        simpa [Nat.add_comm] using h4
      · rintro ⟨k, h1, ⟨j, h2, h3⟩, h4⟩
        rw [List.length_take] at h2
        refine ⟨j, by omega, gm_append.2 ⟨k - j, by rw [List.length_drop]; omega, ?_, ?_⟩⟩
        · rw [List.drop_take] at h3
          exact h3
        · rw [List.drop_drop, show j + (k - j) = k by omega]
          exact h4
    · simp only [List.cons_append, gm_one hc]
      constructor
      · rintro ⟨b, t', rfl, h1, h2⟩
        obtain ⟨k, h3, h4, h5⟩ := gm_append.1 h2
        exact ⟨k + 1, by simp only [List.length_cons]; omega, ⟨b, t'.take k, rfl, h1, h4⟩, h5⟩
      · rintro ⟨k, h1, ⟨b, t', h2, h3, h4⟩, h5⟩
        cases k with
        | zero => simp at h2
        | succ k => cases t with
          | nil => simp at h2
          | cons b' t =>
            simp only [List.take_succ_cons, List.cons.injEq] at h2
            obtain ⟨rfl, rfl⟩ := h2
            simp only [List.length_cons] at h1
            exact ⟨b', t, rfl, h3, gm_append.2 ⟨k, by omega, h4, h5⟩⟩

theorem gm_join {s : UInt8 → UInt8 → Bool} {p q t u : List UInt8} (h : gm s p t = true) (k : gm s q u = true) : gm s (p ++ q) (t ++ u) = true :=
  gm_append.2 ⟨t.length, by simp, by simpa using h, by simpa using k⟩
theorem gm_any (s : UInt8 → UInt8 → Bool) (t : List UInt8) : gm s [42] t = true :=
  gm_star.2 ⟨t.length, Nat.le_refl _, by simp [gm]⟩

/-! ### The search with one star remembered -/
def noStar (q : List UInt8) : Prop := ∀ c ∈ q, c ≠ 42

theorem gm_noStar {s : UInt8 → UInt8 → Bool} {r : List UInt8} : ∀ {q u : List UInt8}, noStar q → gm s (q ++ r) u = true → q.length ≤ u.length ∧ gm s r (u.drop q.length) = true
  | [], u, _, h => ⟨by simp, by simpa using h⟩
  | c :: q, u, hn, h => by
    rw [List.cons_append, gm_one (hn c (by simp))] at h
    obtain ⟨b, t', rfl, _, h2⟩ := h
    obtain ⟨h3, h4⟩ := gm_noStar (fun c hc => hn c (by simp [hc])) h2
    exact ⟨by simp only [List.length_cons]; omega, by simpa using h4⟩

/-- What holds at the head of each round. 'a': one more than the place of the last star; 0: none. -/
structure GInv (s : UInt8 → UInt8 → Bool) (p t : List UInt8) (i k a f : Nat) : Prop where
  ip : i ≤ p.length
  kt : k ≤ t.length
  none : a = 0 → (gm s p t = true ↔ gm s (p.drop i) (t.drop k) = true)
  ai : a ≠ 0 → a ≤ i ∧ f ≤ k ∧ i - a = k - f
  ns : a ≠ 0 → ∀ m, a ≤ m → m < i → p[m]? ≠ some 42
  all : a ≠ 0 → (gm s p t = true ↔ ∃ j, f ≤ j ∧ j ≤ t.length ∧ gm s (p.drop a) (t.drop j) = true)
  cur : a ≠ 0 → (gm s (p.drop a) (t.drop f) = true ↔ gm s (p.drop i) (t.drop k) = true)

theorem GInv.start (s : UInt8 → UInt8 → Bool) (p t : List UInt8) : GInv s p t 0 0 0 0 :=
  ⟨by simp, by simp, fun _ => by simp, by simp, by simp, by simp, by simp⟩

theorem drop_at {l : List UInt8} {i : Nat} {c : UInt8} (h : l[i]? = some c) : l.drop i = c :: l.drop (i + 1) := by
  obtain ⟨h1, h2⟩ := List.getElem?_eq_some_iff.1 h
  rw [List.drop_eq_getElem_cons h1, h2]

/-- The part between the last star and the place. -/
theorem GInv.mid {s : UInt8 → UInt8 → Bool} {p t : List UInt8} {i k a f : Nat} (h : GInv s p t i k a f) (ha : a ≠ 0) {j : Nat} (hj : j ≤ t.length) (hg : gm s (p.drop a) (t.drop j) = true) : i - a ≤ t.length - j ∧ gm s (p.drop i) (t.drop (j + (i - a))) = true := by
  obtain ⟨h1, h2, h3⟩ := h.ai ha
  have hip := h.ip
  have e : p.drop a = (p.drop a).take (i - a) ++ p.drop i := by
    conv => lhs; rw [← List.take_append_drop (i - a) (p.drop a)]
    rw [List.drop_drop, show a + (i - a) = i by omega]
  rw [e] at hg
  have hl : ((p.drop a).take (i - a)).length = i - a := by rw [List.length_take, List.length_drop]; omega
  obtain ⟨h4, h5⟩ := gm_noStar (q := (p.drop a).take (i - a)) (by
    intro c hc he
    subst he
    obtain ⟨m, hm, hx⟩ := List.mem_iff_getElem.1 hc
    rw [hl] at hm
    rw [List.getElem_take, List.getElem_drop] at hx
    exact h.ns ha (a + m) (by omega) (by omega) (by rw [← hx]; exact List.getElem?_eq_getElem (by omega))) hg
  rw [hl, List.length_drop] at h4
  rw [hl, List.drop_drop] at h5
  exact ⟨h4, h5⟩

theorem GInv.star {s : UInt8 → UInt8 → Bool} {p t : List UInt8} {i k a f : Nat} (h : GInv s p t i k a f) (hc : p[i]? = some 42) : GInv s p t (i + 1) k (i + 1) k := by
  have hlt : i < p.length := (List.getElem?_eq_some_iff.1 hc).1
  have hkt := h.kt
  have e : gm s (p.drop i) (t.drop k) = true ↔ ∃ j, k ≤ j ∧ j ≤ t.length ∧ gm s (p.drop (i + 1)) (t.drop j) = true := by
    rw [drop_at hc, gm_star]
    constructor
    · rintro ⟨j, h1, h2⟩
      rw [List.length_drop] at h1
      rw [List.drop_drop] at h2
      exact ⟨k + j, by omega, by omega, h2⟩
    · rintro ⟨j, h1, h2, h3⟩
      refine ⟨j - k, by rw [List.length_drop]; omega, ?_⟩
      rw [List.drop_drop, show k + (j - k) = j by omega]
      exact h3
  refine ⟨hlt, h.kt, by simp, fun _ => ⟨by omega, by omega, by omega⟩, fun _ m h1 h2 => by omega, fun _ => ?_, fun _ => Iff.rfl⟩
  by_cases ha : a = 0
  · rw [h.none ha]
    exact e
  · rw [h.all ha]
    obtain ⟨h1, h2, h3⟩ := h.ai ha
    constructor
    · rintro ⟨j, h4, h5, h6⟩
      obtain ⟨h7, h8⟩ := h.mid ha h5 h6
      rw [drop_at hc, gm_star] at h8
      obtain ⟨m, h9, h10⟩ := h8
      rw [List.length_drop] at h9
      rw [List.drop_drop] at h10
      exact ⟨j + (i - a) + m, by omega, by omega, h10⟩
    · intro h4
      exact ⟨f, Nat.le_refl _, by omega, (h.cur ha).2 (e.2 h4)⟩

theorem GInv.one {s : UInt8 → UInt8 → Bool} {p t : List UInt8} {i k a f : Nat} (h : GInv s p t i k a f) {c b : UInt8} (hc : p[i]? = some c) (hb : t[k]? = some b) (hn : c ≠ 42) (hm : c = 63 ∨ s c b = true) : GInv s p t (i + 1) (k + 1) a f := by
  have hlt : i < p.length := (List.getElem?_eq_some_iff.1 hc).1
  have hlk : k < t.length := (List.getElem?_eq_some_iff.1 hb).1
  have e : gm s (p.drop i) (t.drop k) = true ↔ gm s (p.drop (i + 1)) (t.drop (k + 1)) = true := by
    rw [drop_at hc, drop_at hb, gm_one hn]
    constructor
    · rintro ⟨b', t', h1, _, h2⟩
      cases h1
      exact h2
    · exact fun h1 => ⟨b, _, rfl, hm, h1⟩
  refine ⟨hlt, hlk, fun ha => (h.none ha).trans e, fun ha => ?_, fun ha m h1 h2 => ?_, h.all, fun ha => (h.cur ha).trans e⟩
  · obtain ⟨h1, h2, h3⟩ := h.ai ha
    exact ⟨by omega, by omega, by omega⟩
  · by_cases hm' : m = i
    · subst hm'
      rw [hc]
      simpa using hn
    · exact h.ns ha m h1 (by omega)

/-- No step from here. -/
theorem gm_miss {s : UInt8 → UInt8 → Bool} {p t : List UInt8} {i k : Nat} {b : UInt8} (hb : t[k]? = some b) (hm : ∀ c, p[i]? = some c → c ≠ 42 ∧ c ≠ 63 ∧ s c b = false) : ¬ gm s (p.drop i) (t.drop k) = true := by
  rw [drop_at hb]
  cases hc : p[i]? with
  | none =>
    rw [List.drop_eq_nil_iff.2 (List.getElem?_eq_none_iff.1 hc)]
    simp [gm]
  | some c =>
    obtain ⟨h1, h2, h3⟩ := hm c hc
    rw [drop_at hc, gm_one h1]
    rintro ⟨b', t', h4, h5, _⟩
    cases h4
    simp [h2, h3] at h5

theorem GInv.back {s : UInt8 → UInt8 → Bool} {p t : List UInt8} {i k a f : Nat} (h : GInv s p t i k a f) (ha : a ≠ 0) (hk : k < t.length) (hm : ¬ gm s (p.drop i) (t.drop k) = true) : GInv s p t a (f + 1) a (f + 1) := by
  obtain ⟨h1, h2, h3⟩ := h.ai ha
  have hip := h.ip
  refine ⟨by omega, by omega, fun h0 => absurd h0 ha, fun _ => ⟨by omega, by omega, by omega⟩, fun _ m h4 h5 => by omega, fun _ => ?_, fun _ => Iff.rfl⟩
  rw [h.all ha]
  constructor
  · rintro ⟨j, h4, h5, h6⟩
    by_cases hj : j = f
    · subst hj
      exact absurd ((h.cur ha).1 h6) hm
    · exact ⟨j, by omega, h5, h6⟩
  · rintro ⟨j, h4, h5, h6⟩
    exact ⟨j, by omega, h5, h6⟩

theorem GInv.last {s : UInt8 → UInt8 → Bool} {p t : List UInt8} {i k a f : Nat} (h : GInv s p t i k a f) (hk : k = t.length) : gm s p t = true ↔ gm s (p.drop i) [] = true := by
  subst hk
  by_cases ha : a = 0
  · rw [h.none ha, List.drop_length]
  · obtain ⟨h1, h2, h3⟩ := h.ai ha
    rw [h.all ha]
    constructor
    · rintro ⟨j, h4, h5, h6⟩
      obtain ⟨h7, h8⟩ := h.mid ha h5 h6
      rw [List.drop_eq_nil_iff.2 (show t.length ≤ j + (i - a) by omega)] at h8
      exact h8
    · intro h4
      refine ⟨f, Nat.le_refl _, h2, (h.cur ha).2 ?_⟩
      rw [List.drop_length]
      exact h4

theorem gm_stars {s : UInt8 → UInt8 → Bool} {p : List UInt8} {i : Nat} (hc : p[i]? = some 42) : gm s (p.drop i) [] = true ↔ gm s (p.drop (i + 1)) [] = true := by
  rw [drop_at hc, gm_star]
  constructor
  · rintro ⟨k, _, h⟩
    simpa using h
  · exact fun h => ⟨0, by simp, by simpa using h⟩
theorem gm_end {s : UInt8 → UInt8 → Bool} {p : List UInt8} {i : Nat} (hi : i ≤ p.length) (hc : p[i]? ≠ some 42) : gm s (p.drop i) [] = decide (i = p.length) := by
  cases h : p[i]? with
  | none =>
    have := List.getElem?_eq_none_iff.1 h
    rw [List.drop_eq_nil_iff.2 this, decide_eq_true (by omega)]
    rfl
  | some c =>
    have h1 := (List.getElem?_eq_some_iff.1 h).1
    rw [decide_eq_false (by omega), Bool.eq_false_iff, drop_at h]
    rw [h] at hc
    intro hg
    rw [gm_one (by simpa using hc)] at hg
    obtain ⟨_, _, h2, _⟩ := hg
    cases h2

end Go.Gi
