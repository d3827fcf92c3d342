/- Arguments of laws: bytes, lists of numbers. -/
import Derived.Test.YtakdhioafodhcaaGiGlB
import Derived.Test.YtakdhioafodhcaaGiGE
set_option linter.unusedVariables false
namespace Go.Gi
open Go
theorem has_u8 {P : Program} {n : Nat} {t : TypeId} {a : AV} (hu : P.underlying t = some (.int .u8)) (h : HasV P (n + 1) t a) : ∃ c : UInt8, a = .int .u8 c.toNat := by
  obtain ⟨m, rfl, h1, h2⟩ := has_int hu h
  have h1' : 0 ≤ m := h1
  have h2' : m ≤ 255 := h2
  refine ⟨UInt8.ofNat m.toNat, ?_⟩
  rw [UInt8.toNat_ofNat_of_lt' (show m.toNat < 256 by omega), Int.toNat_of_nonneg h1']
theorem has_ints {P : Program} {n : Nat} {t e : TypeId} {a : AV} (hu : P.underlying t = some (.slice e)) (he : P.underlying e = some (.int .i64)) (h : HasV P (n + 2) t a) : ∃ l : List Int, a = encI.S l ∧ l.length ≤ reachBytes :=
  has_slice encI hu (fun bs h => by
    simp only [HasT, he] at h
    obtain ⟨m, rfl, _⟩ := h
    exact ⟨m, rfl⟩) h
end Go.Gi
