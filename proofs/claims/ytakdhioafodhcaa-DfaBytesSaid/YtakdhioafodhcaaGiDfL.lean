/- Tables as plain data: which may be, where a text leads; bytes of one class lead to the same state. No condition. -/
set_option linter.unusedVariables false
set_option linter.unusedSimpArgs false
namespace Go.Gi

/-- A table: each byte's class, each state's next ones, which states accept. -/
structure Dfa where
  cls : List Int
  nxt : List (List Int)
  acc : List Bool
  deriving DecidableEq

def inI (n : Nat) (c : Int) : Bool := decide (0 ≤ c) && decide (c < n)
/-- How many classes there are. -/
def Dfa.wide (d : Dfa) : Nat := (d.nxt.getD 0 []).length
def Dfa.sized (d : Dfa) : Bool := decide (d.cls.length = 256) && (decide (1 ≤ d.nxt.length) && (decide (d.nxt.length ≤ 256) && (decide (d.acc.length = d.nxt.length) && decide (1 ≤ d.wide))))
def okRow (w n : Nat) (r : List Int) : Bool := decide (r.length = w) && r.all (inI n)
/-- May a table be? -/
def Dfa.ok (d : Dfa) : Bool := d.sized && (d.cls.all (inI d.wide) && d.nxt.all (okRow d.wide d.nxt.length))
/-- Where a byte leads to. -/
def Dfa.go (d : Dfa) (s : Nat) (c : UInt8) : Nat := ((d.nxt.getD s []).getD (d.cls.getD c.toNat 0).toNat 0).toNat
def Dfa.fin (d : Dfa) (t : List UInt8) : Nat := t.foldl d.go 0
/-- Is a text accepted? -/
def Dfa.takes (d : Dfa) (t : List UInt8) : Bool := d.acc.getD (d.fin t) false
def Dfa.run (d : Dfa) (t : List UInt8) : Bool := d.ok && d.takes t

theorem inI_iff {n : Nat} {c : Int} : inI n c = true ↔ 0 ≤ c ∧ c < n := by simp [inI]
/-- What a table that may be has. -/
structure Dfa.Ok (d : Dfa) : Prop where
  c : d.cls.length = 256
  n1 : 1 ≤ d.nxt.length
  n2 : d.nxt.length ≤ 256
  a : d.acc.length = d.nxt.length
  w : 1 ≤ d.wide
  cl : ∀ x ∈ d.cls, 0 ≤ x ∧ x < d.wide
  row : ∀ r ∈ d.nxt, r.length = d.wide ∧ ∀ s ∈ r, 0 ≤ s ∧ s < d.nxt.length
theorem Dfa.ok_iff (d : Dfa) : d.ok = true ↔ d.Ok := by
  constructor
  · intro h
    simp only [Dfa.ok, Dfa.sized, Bool.and_eq_true, decide_eq_true_eq, List.all_eq_true, okRow, inI_iff] at h
    obtain ⟨⟨h1, h2, h3, h4, h5⟩, h6, h7⟩ := h
    exact ⟨h1, h2, h3, h4, h5, h6, h7⟩
  · rintro ⟨h1, h2, h3, h4, h5, h6, h7⟩
    simp only [Dfa.ok, Dfa.sized, Bool.and_eq_true, decide_eq_true_eq, List.all_eq_true, okRow, inI_iff]
    exact ⟨⟨h1, h2, h3, h4, h5⟩, h6, h7⟩
theorem getD_mem {α : Type} {l : List α} {i : Nat} {z : α} (h : i < l.length) : l.getD i z ∈ l := by
  rw [List.getD_eq_getElem?_getD, List.getElem?_eq_getElem h]
  exact List.getElem_mem h
theorem Dfa.Ok.cls_lt {d : Dfa} (h : d.Ok) (c : UInt8) : 0 ≤ d.cls.getD c.toNat 0 ∧ d.cls.getD c.toNat 0 < d.wide := h.cl _ (getD_mem (by rw [h.c]; exact c.toNat_lt))
theorem Dfa.Ok.go_at {d : Dfa} (h : d.Ok) {s : Nat} (hs : s < d.nxt.length) (c : UInt8) : 0 ≤ (d.nxt.getD s []).getD (d.cls.getD c.toNat 0).toNat 0 ∧ (d.nxt.getD s []).getD (d.cls.getD c.toNat 0).toNat 0 < d.nxt.length := by
  obtain ⟨h1, h2⟩ := h.row (d.nxt.getD s []) (getD_mem hs)
  have h3 := h.cls_lt c
  exact h2 _ (getD_mem (by omega))
theorem Dfa.Ok.go_lt {d : Dfa} (h : d.Ok) {s : Nat} (hs : s < d.nxt.length) (c : UInt8) : d.go s c < d.nxt.length := by
  have := h.go_at hs c
  unfold Dfa.go
  omega
theorem Dfa.Ok.fold_lt {d : Dfa} (h : d.Ok) : ∀ (t : List UInt8) {s : Nat}, s < d.nxt.length → t.foldl d.go s < d.nxt.length
  | [], s, hs => hs
  | c :: t, s, hs => h.fold_lt t (h.go_lt hs c)
theorem Dfa.Ok.fin_lt {d : Dfa} (h : d.Ok) (t : List UInt8) : d.fin t < d.nxt.length := h.fold_lt t h.n1

/-- A byte of the one text, or of the other, if that is of its class. -/
def Dfa.mixed (d : Dfa) (a b : List UInt8) (i : Nat) : Option UInt8 := match a[i]?, b[i]? with
  | some x, some y => if d.cls.getD x.toNat 0 = d.cls.getD y.toNat 0 then some y else some x
  | x, _ => x
/-- What the law's loop leaves behind so many rounds. -/
def Dfa.mix (d : Dfa) : List UInt8 → List UInt8 → List UInt8
  | x :: a, y :: b => (if d.cls.getD x.toNat 0 = d.cls.getD y.toNat 0 then y else x) :: d.mix a b
  | a, _ => a
theorem Dfa.mix_len (d : Dfa) : ∀ a b : List UInt8, (d.mix a b).length = a.length
  | [], _ => by simp [Dfa.mix]
  | x :: a, [] => by simp [Dfa.mix]
  | x :: a, y :: b => by simp only [Dfa.mix, List.length_cons, d.mix_len a b]
theorem Dfa.mix_nil (d : Dfa) : ∀ a : List UInt8, d.mix a [] = a
  | [] => rfl
  | _ :: _ => rfl
theorem Dfa.mix_end (d : Dfa) : ∀ {a b : List UInt8} {i : Nat}, min a.length b.length ≤ i → d.mix (a.take i) (b.take i) ++ a.drop i = d.mix a b
  | [], b, i, _ => by simp [Dfa.mix]
  | x :: a, [], i, _ => by simp [Dfa.mix_nil]
  | x :: a, y :: b, 0, h => by simp at h
  | x :: a, y :: b, i + 1, h => by
    simp only [List.take_succ_cons, List.drop_succ_cons, Dfa.mix, List.cons_append]
    rw [d.mix_end (by simp only [List.length_cons] at h; omega)]
theorem Dfa.mix_step (d : Dfa) : ∀ {a b : List UInt8} {i : Nat} {x y : UInt8}, a[i]? = some x → b[i]? = some y →
    d.mix (a.take (i + 1)) (b.take (i + 1)) ++ a.drop (i + 1) = (d.mix (a.take i) (b.take i) ++ a.drop i).set i (if d.cls.getD x.toNat 0 = d.cls.getD y.toNat 0 then y else x)
  | [], b, i, x, y, h, _ => by simp at h
  | x' :: a, [], i, x, y, _, h => by simp at h
  | x' :: a, y' :: b, 0, x, y, h, k => by
    simp only [List.getElem?_cons_zero, Option.some.injEq] at h k
    subst h; subst k
    simp [Dfa.mix]
  | x' :: a, y' :: b, i + 1, x, y, h, k => by
    simp only [List.getElem?_cons_succ] at h k
    simp only [List.take_succ_cons, List.drop_succ_cons, Dfa.mix, List.cons_append, List.set_cons_succ]
    rw [d.mix_step h k]
theorem Dfa.mix_at (d : Dfa) : ∀ {a b : List UInt8} {i : Nat} {x : UInt8}, a[i]? = some x → i ≤ b.length → (d.mix (a.take i) (b.take i) ++ a.drop i)[i]? = some x
  | a, b, i, x, h, hb => by
    have hi := (List.getElem?_eq_some_iff.1 h).1
    rw [List.getElem?_append_right (by rw [d.mix_len, List.length_take]; omega), d.mix_len, List.length_take, List.getElem?_drop]
    rw [show i + (i - min i a.length) = i by omega]
    exact h
theorem Dfa.go_cls {d : Dfa} {s : Nat} {x y : UInt8} (h : d.cls.getD x.toNat 0 = d.cls.getD y.toNat 0) : d.go s x = d.go s y := by
  unfold Dfa.go
  rw [h]
theorem Dfa.mix_fold (d : Dfa) : ∀ (a b : List UInt8) (s : Nat), (d.mix a b).foldl d.go s = a.foldl d.go s
  | [], b, s => by simp [Dfa.mix]
  | x :: a, [], s => by simp [Dfa.mix_nil]
  | x :: a, y :: b, s => by
    simp only [Dfa.mix, List.foldl_cons]
    rw [d.mix_fold a b]
    split
    · rename_i h
      rw [d.go_cls h]
    · rfl
theorem Dfa.mix_run (d : Dfa) (a b : List UInt8) : d.run (d.mix a b) = d.run a := by
  unfold Dfa.run Dfa.takes Dfa.fin
  rw [d.mix_fold]

end Go.Gi
