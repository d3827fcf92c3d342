/- Arguments of laws: tables. -/
import Derived.Test.YtakdhioafodhcaaGreatGiDfC
import Derived.Test.YtakdhioafodhcaaGreatGiGlH
set_option linter.unusedVariables false
set_option linter.unusedSimpArgs false
set_option linter.unusedSectionVars false
set_option maxRecDepth 100000
namespace Go.Gi
open Go Go.Proofs
theorem arg_dfa {n : Nat} {x : AV} (h : HasV Tryz.prog (n + 5) 26 x) : ∃ d : Dfa, x = .agg d.c ∧ d.nxt.length ≤ reachBytes := by
 simp only [HasV, Tryz.underlying26] at h
 obtain ⟨bs, rfl, h⟩ := h
 rw [HasT] at h
 simp only [Tryz.underlying26, hasFs] at h
 obtain ⟨_, _, rfl, h1, _, _, rfl, h2, _, _, rfl, h3, rfl⟩ := h
 have i1 : ∀ {m : Nat} (bs : List AV), HasT Tryz.prog (m + 1) 3 bs → ∃ x, bs = encI.c x := by
  intro m bs h
  simp only [HasT, Tryz.underlying3] at h
  obtain ⟨m, rfl, _⟩ := h
  exact ⟨m, rfl⟩
 obtain ⟨cs, rfl, l1⟩ := hasT_slice encI Tryz.underlying22 i1 h1
 obtain ⟨ns, rfl, l2⟩ := hasT_slice encR Tryz.underlying23 (fun bs h => by
  obtain ⟨l, rfl, _⟩ := hasT_slice encI Tryz.underlying22 i1 h
  exact ⟨l, rfl⟩) h2
 obtain ⟨bs, rfl, l3⟩ := hasT_slice encT Tryz.underlying24 (fun bs h => by
  simp only [HasT, Tryz.underlying4] at h
  obtain ⟨m, rfl⟩ := h
  exact ⟨m, rfl⟩) h3
 exact ⟨⟨cs, ns, bs⟩, rfl, l2⟩
end Go.Gi
