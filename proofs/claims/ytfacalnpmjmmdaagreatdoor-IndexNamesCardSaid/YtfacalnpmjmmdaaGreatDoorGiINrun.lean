/- IndexNames, run on the abstract machine, gives true. No condition. -/
import Derived.Test.YtfacalnpmjmmdaaGreatDoorGoIN
set_option linter.unusedVariables false
namespace Go.Gi
open Go Go.Proofs
theorem hmT : Tryz.prog.follows .mixedOrders = true := by kernel_rfl
abbrev EX : XCall := extOr (extI 119) (extE 173 176 5)
theorem ext_ok : EOk Tryz.prog EX := extOr_ok (extI_ok (fn := Tryz.f119) (by kernel_rfl) (by kernel_rfl) (by kernel_rfl) (by kernel_rfl) (by kernel_rfl)) (extE_ok (fc := Tryz.f173) (fm := Tryz.f176) (t := 96) (by kernel_rfl) (by kernel_rfl) (by kernel_rfl) (by kernel_rfl) (by kernel_rfl) (by kernel_rfl) (by kernel_rfl) (by kernel_rfl) (by kernel_rfl) (by kernel_rfl) (by kernel_rfl) (by kernel_rfl))
set_option maxRecDepth 1000000 in
theorem run3 : xF FT noO (xC FT noO EX LT 1500) 3 [] [] = some (.bool true, [], 0) := by kernel_rfl
theorem names_true : ACalls Tryz.prog 3 [] [] fun r _ => r = .bool true := (run_ok hmT FT_ok (noO_ok _) ext_ok LT_ok run3).mono fun _ _ h => h.1
end Go.Gi
