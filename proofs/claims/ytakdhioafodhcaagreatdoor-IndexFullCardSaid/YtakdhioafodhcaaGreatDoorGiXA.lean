/- What printed functions need of the machine: hints as a list, the numbers of loops over functions. -/
import Derived.Test.YtakdhioafodhcaaGreatDoorGiS
import Derived.Test.YtakdhioafodhcaaGreatDoorGiY
set_option linter.unusedVariables false
set_option linter.unusedSimpArgs false
namespace Go.Gi
open Go

/-- Hints as a list. -/
def hintL (l : List (Nat × Nat)) (i : Nat) : Nat := (l.lookup i).getD 0

/-- The function's loops over functions, by the text: their numbers are right. -/
def keysL (P : Program) (hint : Nat → Nat) (f : FuncId) : List LC := match (P.funcs[f]?).bind (·.body) with
  | some c => (keysOf hint c).map fun x => lcP P x.1
  | none => []
def keysR (P : Program) (hint : Nat → Nat) (f : FuncId) : List LC := match (P.funcs[f]?).bind (·.body) with
  | some c => (keysOf hint c).map (·.2)
  | none => []
theorem keysF_of {P : Program} {hint : Nat → Nat} {f : FuncId} (h : keysL P hint f = keysR P hint f) : KeysF P hint f := fun fn c h1 h2 x hx => by
  unfold keysL keysR at h
  rw [h1] at h
  simp only [Option.bind_some, h2] at h
  exact (List.map_inj_left.1 h) x hx

/-- A loop over a function, compiled: how many temporaries, the round's parameters, the assignment, the body. -/
structure LI where
  nt : Nat
  ps : List Nat
  a : IC
  b : IC
def LOk (P : Program) (key : Nat) (li : LI) : Prop := ∃ hint, (lcP P key).params.toList = li.ps ∧ (plainC (lcP P key).assign && plainC (lcP P key).body) = true ∧ compC P hint (lcP P key).assign = some li.a ∧ compC P hint (lcP P key).body = some li.b ∧ (okS li.nt li.a && okS li.nt li.b) = true
theorem plain_keys {hint : Nat → Nat} : ∀ {c : Code}, plainC c = true → keysOf hint c = []
  | .skip, _ | .label _, _ | .region _ _ _, _ | .exit _, _ | .ret, _ | .goto _, _ | .refuse _, _ => by simp only [keysOf]
  | .seq a b, h | .cond _ a b, h => by
    simp only [plainC, Bool.and_eq_true] at h
    simp only [keysOf, plain_keys h.1, plain_keys h.2, List.append_nil]
  | .block _ c, h | .loop c, h | .scope c, h => by
    simp only [plainC] at h
    simp only [keysOf, plain_keys h]
  | .rangeFunc .., h => by simp [plainC] at h

def exitOf : Option (Option Nat) → Exit
  | none => .normal
  | some none => .ret
  | some (some i) => .exit i

end Go.Gi
