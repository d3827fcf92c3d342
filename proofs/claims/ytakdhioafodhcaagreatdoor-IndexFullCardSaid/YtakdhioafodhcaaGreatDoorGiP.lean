/- From a law's function, told over plain values, to its call in the model. -/
import Derived.Test.YtakdhioafodhcaaGreatDoorGiO
import Derived.Below
set_option linter.unusedVariables false
set_option linter.unusedSimpArgs false
namespace Go.Gi
open Go

/-- All that is there is taken for frozen. -/
def base (L : Nat → LC) (W : World) : Cx := ⟨W, 0, fun _ => (0, 0), fun b => b < W.heap.size, L, 0⟩
theorem base_sim (L : Nat → LC) (W : World) (hg : GOk (base L W)) : HSim (base L W) [] where
  len := rfl
  blk i x h := by simp at h
  inj i j x y h := by simp at h
  fz b h := h
  gl := hg

theorem law_of_calls {P : Program} {n : FuncId} {xs : List AV} {args : List Value} (h : ACalls P n xs [] fun r _ => r = .bool true) (W : World) (hargs : VRels (base (lcP P) W) xs args) (hg : GOk (base (lcP P) W) := by exact ⟨fun x hx => by simp [Go.Gi.globals] at hx, fun x hx => by simp [Go.Gi.globalsI] at hx⟩) : Calls P n ⟨args⟩ W fun e W' => e = .returned (.bool true) ∧ RowKit.Below W.heap.size W W' :=
  Calls.mono (h.2 (base (lcP P) W) args (base_sim _ W hg) rfl hargs) fun e W' ⟨v, r, hp', Δ, h1, h2, h3, h4, h5, h6⟩ => by
    subst h6
    simp only [VRel] at h3
    subst h3
    subst h2
    exact ⟨h1, h5.os, h5.tape, h5.output, h5.size, fun k hk => h5.frame k hk (by rintro ⟨i, x, hx, _⟩; simp at hx)⟩

theorem law_of_pc {P : Program} {n : FuncId} {xs : List AV} {args : List Value} (h : PC P n xs (.bool true)) (W : World) (hargs : VRels (base (lcP P) W) xs args) (hg : GOk (base (lcP P) W) := by exact ⟨fun x hx => by simp [Go.Gi.globals] at hx, fun x hx => by simp [Go.Gi.globalsI] at hx⟩) : Calls P n ⟨args⟩ W fun e W' => e = .returned (.bool true) ∧ RowKit.Below W.heap.size W W' :=
  law_of_calls ((h []).mono fun _ _ h => h.1) W hargs hg

end Go.Gi
