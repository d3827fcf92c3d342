/- Functions of package slices that write, as compiled, for elements of any one kind: Delete, IndexFunc and DeleteFunc with a function that may write, Grow and Concat. -/
import Derived.Test.YtakdhioafodhcaaGreatDoorGiSL
set_option linter.unusedVariables false
set_option linter.unusedSimpArgs false
set_option linter.unusedSectionVars false
namespace Go.Gi
open Go

variable {α : Type}

theorem slice_hi {sz id off len cap h : Nat} {ex : Bool} {k : IntKind} (hh : h ≤ cap) : sliceA sz (.sl id off len sz cap ex) none (some (.int k (h : Int))) none = some (.sl id off h sz cap ex) := by
  simp only [sliceA, bndA, Option.isSome_none, cutA, Bool.false_eq_true, Option.getD_none, Option.getD_some, Option.isNone_some, if_true]
  rw [if_pos ⟨fun h => h.elim, by omega, by omega, .inr (by omega), by omega, by omega⟩]
  simp
theorem slice_lo {sz id off len cap l : Nat} {ex : Bool} {k : IntKind} (hh : l ≤ len) (hc : len ≤ cap) : sliceA sz (.sl id off len sz cap ex) (some (.int k (l : Int))) none none = some (.sl id (off + l * sz) (len - l) sz (cap - l) ex) := by
  simp only [sliceA, bndA, Option.isSome_none, cutA, Bool.false_eq_true, Option.getD_none, Option.isNone_none, Option.getD_some, if_true]
  rw [if_pos ⟨fun h => h.elim, by omega, by omega, .inl trivial, by omega, by omega⟩]
  simp
section
variable (E : Enc α)
theorem Enc.over_mid {l m : List α} {i : Nat} (h : i + m.length ≤ l.length) : over (E.cs l) (i * E.sz) (E.cs m) = E.cs (l.take i ++ m ++ l.drop (i + m.length)) := by
  simp only [over, E.cs_app, E.cs_len]
  rw [E.cs_take, ← Nat.add_mul, E.cs_drop]
theorem Enc.zeros {z : α} {n : Nat} : zerosA (E.c z) n = E.cs (List.replicate n z) := by
  rw [zerosA_eq]
  induction n with
  | zero => rfl
  | succ n ih => simp only [List.replicate_succ, List.flatten_cons, ih, Enc.cs]
theorem Enc.part {l : List α} {i n : Nat} : ((E.cs l).drop (i * E.sz)).take (n * E.sz) = E.cs ((l.drop i).take n) := by
  rw [E.cs_drop, E.cs_take]
variable {hp : HP} {id : Nat} {e : TypeId} {l : List α} {k lo : Nat} {ex : Bool}
theorem Enc.sl_clear {z : α} {i n m : Nat} (h : hp[id]? = some (some (.row e (E.cs l)))) (hn : i + n ≤ l.length) : clearA hp (E.c z) (.sl id (i * E.sz) n E.sz m ex) = some (hp.set id (some (.row e (E.cs (l.take i ++ List.replicate n z ++ l.drop (i + n)))))) := by
  by_cases h0 : n = 0
  · subst h0
    have hlt := get_lt h
    simp only [clearA, if_true, List.replicate_zero, List.append_nil, Nat.add_zero, List.take_append_drop, Option.some.injEq]
    apply List.ext_getElem?
    intro j
    rw [List.getElem?_set]
    split
    · rename_i hj; subst hj; first | rw [if_pos hlt, h] | exact h
    · rfl
  · have hm : (i + n) * E.sz ≤ l.length * E.sz := Nat.mul_le_mul_right _ hn
    rw [Nat.add_mul] at hm
    simp only [clearA, h]
    rw [if_neg h0, if_pos ⟨(E.len z).symm, by rw [E.cs_len]; exact hm⟩, E.zeros, E.over_mid (by simpa using hn)]
    simp
theorem set_same {hp : HP} {id : Nat} {x : Option Blk} (h : hp[id]? = some x) : hp.set id x = hp := by
  apply List.ext_getElem?
  intro j
  rw [List.getElem?_set]
  split
  · rename_i hj; subst hj; first | rw [if_pos (get_lt h), h] | exact h
  · rfl
end

/-! ### A function that may write -/
/-- What is left of the first elements. -/
def kept (p : α → Bool) (l : List α) (j : Nat) : List α := (l.take j).filter fun a => !p a
theorem kept_le (p : α → Bool) (l : List α) (j : Nat) : (kept p l j).length ≤ j ∧ (kept p l j).length ≤ l.length := by
  have h1 : (kept p l j).length ≤ (l.take j).length := List.length_filter_le _ _
  rw [List.length_take] at h1
  omega
theorem kept_step {p : α → Bool} {l : List α} {j : Nat} {a : α} (h : l[j]? = some a) : kept p l (j + 1) = kept p l j ++ if p a then [] else [a] := by
  simp only [kept, List.take_add_one, h, Option.toList_some, List.filter_append, List.filter_cons, List.filter_nil]
  cases p a <;> rfl
theorem kept_all (p : α → Bool) (l : List α) : kept p l l.length = l.filter fun a => !p a := by
  simp [kept]
/-- The row then: what is left, and behind it the old elements. -/
def rowed (p : α → Bool) (l : List α) (j : Nat) : List α := kept p l j ++ l.drop (kept p l j).length
theorem rowed_len (p : α → Bool) (l : List α) (j : Nat) : (rowed p l j).length = l.length := by
  have := kept_le p l j
  simp only [rowed, List.length_append, List.length_drop]
  omega
theorem rowed_get {p : α → Bool} {l : List α} {j : Nat} {a : α} (h : l[j]? = some a) : (rowed p l j)[j]? = some a := by
  have := kept_le p l j
  rw [rowed, List.getElem?_append_right (by omega), List.getElem?_drop, ← h]
  congr 1
  omega
theorem rowed_keep {p : α → Bool} {l : List α} {j : Nat} {a : α} (h : l[j]? = some a) (hp : p a = false) : (rowed p l j).set (kept p l j).length a = rowed p l (j + 1) := by
  have hk := kept_le p l j
  have hj := (List.getElem?_eq_some_iff.1 h).1
  rw [rowed, rowed, kept_step h, hp, List.set_append_right _ _ (Nat.le_refl _), Nat.sub_self]
  simp only [Bool.false_eq_true, if_false, List.length_append, List.length_cons, List.length_nil, List.append_assoc, List.cons_append, List.nil_append]
  congr 1
  rw [List.drop_eq_getElem_cons (by omega)]
  rfl
theorem rowed_drop {p : α → Bool} {l : List α} {j : Nat} {a : α} (h : l[j]? = some a) (hp : p a = true) : rowed p l (j + 1) = rowed p l j := by
  rw [rowed, rowed, kept_step h, hp]
  simp
theorem rowed_first {p : α → Bool} {l : List α} {i : Nat} (h : idx p l = i) : i < l.length ∧ rowed p l (i + 1) = l ∧ (kept p l (i + 1)).length = i := by
  unfold idx at h
  split at h
  · rename_i k hk
    obtain rfl : k = i := by omega
    rw [List.findIdx?_eq_some_iff_getElem] at hk
    obtain ⟨h1, h2, h3⟩ := hk
    have e : kept p l (k + 1) = l.take k := by
      rw [kept_step (List.getElem?_eq_getElem h1), h2, if_pos rfl, List.append_nil, kept]
      refine List.filter_eq_self.2 fun a ha => ?_
      obtain ⟨j, hj, rfl⟩ := List.mem_iff_getElem.1 ha
      rw [List.length_take] at hj
      have := h3 j (by omega)
      rw [List.getElem_take]
      simpa using this
    have e2 : (l.take k).length = k := by rw [List.length_take]; omega
    refine ⟨h1, ?_, by rw [e, e2]⟩
    rw [rowed, e, e2, List.take_append_drop]
  · omega
theorem idx_neg {p : α → Bool} {l : List α} (h : idx p l < 0) : l.filter (fun a => !p a) = l := by
  unfold idx at h
  split at h
  · omega
  · rename_i hk
    rw [List.findIdx?_eq_none_iff] at hk
    exact List.filter_eq_self.2 fun a ha => by simp [hk a ha]
end Go.Gi
