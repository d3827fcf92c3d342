/- QueueNames, run on the abstract machine, gives true. No condition. -/
import Derived.Test.YtmehgdpbcafboaaGoQN
set_option linter.unusedVariables false
namespace Go.Gi
open Go Go.Proofs
theorem hmT : Try.prog.follows .mixedOrders = true := by kernel_rfl
set_option maxRecDepth 1000000 in
theorem run7 : xF FT noO (xC FT noO 1000) 7 [] [] = some (.bool true, [], 0) := by kernel_rfl
theorem names_true : ACalls Try.prog 7 [] [] fun r _ => r = .bool true := (run_ok hmT FT_ok (noO_ok _) run7).mono fun _ _ h => h.1
end Go.Gi
