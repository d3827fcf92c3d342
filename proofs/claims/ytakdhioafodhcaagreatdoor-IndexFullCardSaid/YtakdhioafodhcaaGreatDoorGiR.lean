/- Copies in memory of their own: slices.Clone. -/
import Derived.Test.YtakdhioafodhcaaGreatDoorGiT
set_option linter.unusedVariables false
set_option linter.unusedSimpArgs false
namespace Go.Gi
open Go

variable {α : Type}

/-- The same state, told with less. -/
def Weak (r : AV) (hp : HP) (r' : AV) (hp' : HP) : Prop := ∀ (Δ : Cx) (v : Value), HSim Δ hp → VRel Δ r v → ∃ Δ' : Cx, Δ'.w = Δ.w ∧ HSim Δ' hp' ∧ VRel Δ' r' v ∧ Ev Δ hp Δ' hp'

theorem Weak.trans {r r' r'' : AV} {hp hp' hp'' : HP} (h : Weak r hp r' hp') (k : Weak r' hp' r'' hp'') : Weak r hp r'' hp'' := fun Δ v h1 h2 => by
  obtain ⟨Δ', e1, h3, h4, h5⟩ := h Δ v h1 h2
  obtain ⟨Δ'', e2, h6, h7, h8⟩ := k Δ' v h3 h4
  exact ⟨Δ'', e2.trans e1, h6, h7, h5.trans h8⟩
/-- Blocks that are not told of any more. -/
theorem Weak.forget {r r' : AV} {hp hp' : HP} (hl : hp'.length = hp.length) (hg : ∀ (i : Nat) (x : Blk), hp'[i]? = some (some x) → hp[i]? = some (some x)) (hr : ∀ Δ v, HSim Δ hp → VRel Δ r v → VRel Δ r' v) : Weak r hp r' hp' := fun Δ v h1 h2 =>
  ⟨Δ, rfl, (h1.forget hp' hl hg).1, hr Δ v h1 h2, (h1.forget hp' hl hg).2⟩
/-- A frozen slice without elements: nil, or not. -/
theorem ACalls.empty {P : Program} {f : FuncId} {hp : HP} {K : AV → HP → Prop} (h : ACalls P f [.nils] hp K) (k : ACalls P f [.enn] hp K) : ACalls P f [.fsl [] 0] hp K :=
  ⟨h.1, fun Γ vs hh hl hv => by
    simp only [VRels, VRel] at hv
    obtain ⟨v, vs', rfl, hv, rfl⟩ := hv
    rcases hv with ⟨hv | ⟨a, hv⟩, _⟩ | ⟨b, o, c, hv, _⟩
    · exact h.2 Γ _ hh hl (by simp only [VRels, VRel]; exact ⟨_, _, rfl, hv, rfl⟩)
    · exact k.2 Γ _ hh hl (by simp only [VRels, VRel]; exact ⟨_, _, rfl, ⟨a, 0, hv, .inl rfl⟩, rfl⟩)
    · exact k.2 Γ _ hh hl (by simp only [VRels, VRel]; exact ⟨_, _, rfl, ⟨_, c, hv, .inr rfl⟩, rfl⟩)⟩

end Go.Gi
