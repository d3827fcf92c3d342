/- slices.IndexFunc, as compiled. -/
import Derived.Test.YtakdhioafodhcaaGreatDoorGiAU
set_option linter.unusedVariables false
set_option linter.unusedSimpArgs false
namespace Go.Gi
open Go

variable {α : Type}

/-- The place of the first that fits; -1. -/
def idx (p : α → Bool) (l : List α) : Int := match l.findIdx? p with
  | some i => i
  | none => -1

theorem idx_some {p : α → Bool} {l : List α} {i : Nat} {a : α} (h : l[i]? = some a) (ha : p a = true) (hb : ∀ j, j < i → ∀ b, l[j]? = some b → p b = false) : idx p l = i := by
  obtain ⟨h1, h2⟩ := List.getElem?_eq_some_iff.1 h
  have : l.findIdx? p = some i := by
    rw [List.findIdx?_eq_some_iff_getElem]
    refine ⟨h1, by rw [h2]; exact ha, fun j hj => ?_⟩
    have := hb j hj l[j] (List.getElem?_eq_getElem (by omega))
    simp [this]
  simp only [idx, this]
theorem idx_none {p : α → Bool} {l : List α} (hb : ∀ j, j < l.length → ∀ b, l[j]? = some b → p b = false) : idx p l = -1 := by
  have : l.findIdx? p = none := by
    rw [List.findIdx?_eq_none_iff]
    intro x hx
    obtain ⟨j, hj, he⟩ := List.mem_iff_getElem.1 hx
    exact hb j hj x (by rw [List.getElem?_eq_getElem hj, he])
  simp only [idx, this]

end Go.Gi
