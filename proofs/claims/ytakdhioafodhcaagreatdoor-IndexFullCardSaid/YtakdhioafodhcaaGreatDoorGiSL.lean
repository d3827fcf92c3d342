/- Functions of package slices, as compiled, for elements of any one kind: Equal, Index, Contains, ContainsFunc; outlawkit.Same. -/
import Derived.Test.YtakdhioafodhcaaGreatDoorGiON
import Derived.Test.YtakdhioafodhcaaGreatDoorGiU
set_option linter.unusedVariables false
set_option linter.unusedSimpArgs false
set_option linter.unusedSectionVars false
namespace Go.Gi
open Go

variable {α : Type} [DecidableEq α]

/-- Elements that are compared, as values. -/
structure El (α : Type) [DecidableEq α] where
  E : Enc α
  v : α → AV
  sh : Option Nat
  K : EqK
  pk : ∀ {l : List α} {i : Nat} {a : α}, l[i]? = some a → pickA sh (E.cs l) (i * E.sz) = some (v a)
  nt : ∀ a, notTup (v a) = true
  ce : ∀ a, cellsA (v a) = E.c a
  nv : ∀ a, nid (v a) = true
  fz : ∀ hp a, frz hp (v a) = some (v a)
  eq : ∀ a b, binA .eql K (v a) (v b) = some (.bool (decide (a = b)))
  ne : ∀ a b, binA .neq K (v a) (v b) = some (.bool (!decide (a = b)))
theorem frz_aggE (E : Enc α) (hp : HP) (a : α) : frz hp (.agg (E.c a)) = some (.agg (E.c a)) := by
  simp only [frz, E.fz]
/-- Structs of plain fields. -/
def El.st (E : Enc α) (ls : List Leaf) (h : ∀ a b, eqA (.st ls) (.agg (E.c a)) (.agg (E.c b)) = some (decide (a = b))) : El α where
  E := E
  v a := .agg (E.c a)
  sh := some E.sz
  K := .st ls
  pk h := E.pick h
  nt _ := rfl
  ce _ := rfl
  nv a := by simp only [nid, E.nd]
  fz hp a := frz_aggE E hp a
  eq a b := by simp only [binA, h, Option.map_some]
  ne a b := by simp only [binA, h, Option.map_some]

/-! ### slices.Index, of elements of one cell and of structs; Contains; ContainsFunc -/
end Go.Gi
