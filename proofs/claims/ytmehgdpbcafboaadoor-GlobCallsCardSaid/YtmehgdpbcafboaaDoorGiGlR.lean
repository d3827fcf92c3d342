/- bytes.Repeat of one ?, run for each number of times up to 300. -/
import Derived.Test.YtmehgdpbcafboaaDoorGoG
import Derived.Test.YtmehgdpbcafboaaDoorGiXK
set_option linter.unusedVariables false
set_option linter.unusedSimpArgs false
namespace Go.Gi
set_option linter.unusedSectionVars false
variable [Mx]
open Go Go.Proofs
theorem hmR : Tryd.prog.follows .mixedOrders = true := by kernel_rfl
abbrev EXR : XCall := extOr (extI 49) (extE 29 32 5)
theorem exr_ok : EOk Tryd.prog EXR := extOr_ok (extI_ok (fn := Tryd.f49) (by kernel_rfl) (by kernel_rfl) (by kernel_rfl) (by kernel_rfl) (by kernel_rfl)) (extE_ok (fc := Tryd.f29) (fm := Tryd.f32) (t := 33) (by kernel_rfl) (by kernel_rfl) (by kernel_rfl) (by kernel_rfl) (by kernel_rfl) (by kernel_rfl) (by kernel_rfl) (by kernel_rfl) (by kernel_rfl) (by kernel_rfl) (by kernel_rfl) (by kernel_rfl))
noncomputable def repT (n : Nat) : Bool := match xF FT noO (xC FT noO EXR LT 60) 22 [.fsl [.int .u8 63] 1, .int .i64 n] [] with
  | some (r, h0, _) => match fresh h0 r with
    | some v => AV.eqb v (.fsl (List.replicate n (.int .u8 63)) n)
    | none => false
  | none => false
noncomputable def repFrom (k : Nat) : Nat → Bool
  | 0 => true
  | n + 1 => cond (repT (k + n)) (repFrom k n) false
theorem repFrom_get {k : Nat} : ∀ {n : Nat}, repFrom k n = true → ∀ i, k ≤ i → i < k + n → repT i = true
  | 0, _, i, h1, h2 => by omega
  | n + 1, h, i, h1, h2 => by
    simp only [repFrom] at h
    cases hb : repT (k + n) <;> rw [hb] at h
    · cases h
    · by_cases hi : i = k + n
      · subst hi; exact hb
      · exact repFrom_get h i h1 (by omega)
set_option maxRecDepth 1000000
theorem rep_run0 : repFrom 0 43 = true := by kernel_rfl
theorem rep_run1 : repFrom 43 43 = true := by kernel_rfl
theorem rep_run2 : repFrom 86 43 = true := by kernel_rfl
theorem rep_run3 : repFrom 129 43 = true := by kernel_rfl
theorem rep_run4 : repFrom 172 43 = true := by kernel_rfl
theorem rep_run5 : repFrom 215 43 = true := by kernel_rfl
theorem rep_run6 : repFrom 258 43 = true := by kernel_rfl
theorem rep_all (i : Nat) (h : i ≤ 300) : repT i = true := by
  by_cases h0 : i < 43
  · exact repFrom_get rep_run0 i (by omega) (by omega)
  by_cases h1 : i < 86
  · exact repFrom_get rep_run1 i (by omega) (by omega)
  by_cases h2 : i < 129
  · exact repFrom_get rep_run2 i (by omega) (by omega)
  by_cases h3 : i < 172
  · exact repFrom_get rep_run3 i (by omega) (by omega)
  by_cases h4 : i < 215
  · exact repFrom_get rep_run4 i (by omega) (by omega)
  by_cases h5 : i < 258
  · exact repFrom_get rep_run5 i (by omega) (by omega)
  exact repFrom_get rep_run6 i (by omega) (by omega)
theorem pRepeat (n : Nat) (h : n ≤ 300) : PCF Tryd.prog 22 [.fsl [.int .u8 63] 1, .int .i64 n] (.fsl (List.replicate n (.int .u8 63)) n) := by
  have hr := rep_all n h
  unfold repT at hr
  split at hr
  · rename_i r h0 lo hx
    split at hr
    · rename_i v hf
      exact pcf_run hmR FT_ok (noO_ok _) exr_ok LT_ok rfl hx (by rw [hf, AV.eqb_eq hr])
    · cases hr
  · cases hr
end Go.Gi
