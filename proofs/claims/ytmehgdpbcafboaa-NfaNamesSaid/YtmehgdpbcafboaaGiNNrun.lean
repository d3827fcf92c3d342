/- NfaNames, run on the abstract machine, gives true. No condition. -/
import Derived.Test.YtmehgdpbcafboaaGoNN
set_option linter.unusedVariables false
namespace Go.Gi
open Go Go.Proofs
theorem hmT : Try.prog.follows .mixedOrders = true := by kernel_rfl
theorem ext_ok : EOk Try.prog (extE 133 136 5) := extE_ok (fc := Try.f133) (fm := Try.f136) (t := 131) (by kernel_rfl) (by kernel_rfl) (by kernel_rfl) (by kernel_rfl) (by kernel_rfl) (by kernel_rfl) (by kernel_rfl) (by kernel_rfl) (by kernel_rfl) (by kernel_rfl) (by kernel_rfl) (by kernel_rfl)
set_option maxRecDepth 1000000 in
theorem run11 : xF FT noO (xC FT noO (extE 133 136 5) LT 1000) 11 [] [] = some (.bool true, [], 0) := by kernel_rfl
theorem names_true : ACalls Try.prog 11 [] [] fun r _ => r = .bool true := (run_ok hmT FT_ok (noO_ok _) ext_ok LT_ok run11).mono fun _ _ h => h.1
end Go.Gi
