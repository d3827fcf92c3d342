/- outlawkit.Own, as compiled: a list in memory of its own; what is appended to it. -/
import Derived.Test.YtakdhioafodhcaaGreatDoorGiOW
set_option linter.unusedVariables false
set_option linter.unusedSimpArgs false
namespace Go.Gi
open Go

variable {α : Type}

/-- A slice of our own with these elements, whole. -/
def OwnS (E : Enc α) (hp : HP) (v : AV) (e : TypeId) (l : List α) : Prop := ∃ id ex, v = .sl id 0 l.length E.sz l.length ex ∧ hp[id]? = some (some (.row e (E.cs l)))
section
variable {E : Enc α} {hp : HP} {v : AV} {e : TypeId} {l : List α}
theorem OwnS.frz (h : OwnS E hp v e l) : Gi.frz hp v = some (E.S l) := by
  obtain ⟨id, ex, rfl, h⟩ := h
  exact E.sl_frz h
theorem OwnS.fresh (h : OwnS E hp v e l) (hi : E.ip = true := by rfl) : Gi.fresh hp v = some (E.S l) := by
  obtain ⟨id, ex, rfl, h⟩ := h
  exact E.sl_fresh h hi
theorem OwnS.src (h : OwnS E hp v e l) : srcA hp E.sz v = some (E.cs l, l.length) := by
  obtain ⟨id, ex, rfl, h⟩ := h
  exact E.sl_src h
theorem OwnS.len (h : OwnS E hp v e l) (hp2 : HP) : lenA hp2 v = some (.int .i64 l.length) := by
  obtain ⟨id, ex, rfl, h⟩ := h
  rfl
theorem OwnS.fits (h : OwnS E hp v e l) : lenFits .slice v = true := by
  obtain ⟨id, ex, rfl, h⟩ := h
  rfl
theorem OwnS.one (h : OwnS E hp v e l) : oneA v = true := by
  obtain ⟨id, ex, rfl, h⟩ := h
  rfl
theorem OwnS.cells (h : OwnS E hp v e l) : cellsA v = [v] := by
  obtain ⟨id, ex, rfl, h⟩ := h
  rfl
theorem OwnS.notTup (h : OwnS E hp v e l) : Gi.notTup v = true := by
  obtain ⟨id, ex, rfl, h⟩ := h
  rfl
end
end Go.Gi
