/- GlobNames, run on the abstract machine, gives true. No condition. -/
import Derived.Test.YtmehgdpbcafboaaDoorGoGN
set_option linter.unusedVariables false
namespace Go.Gi
open Go Go.Proofs
theorem hmT : Tryd.prog.follows .mixedOrders = true := by kernel_rfl
abbrev EX : XCall := extOr (extI 42) (extE 29 32 5)
theorem ext_ok : EOk Tryd.prog EX := extOr_ok (extI_ok (fn := Tryd.f42) (by kernel_rfl) (by kernel_rfl) (by kernel_rfl) (by kernel_rfl) (by kernel_rfl)) (extE_ok (fc := Tryd.f29) (fm := Tryd.f32) (t := 33) (by kernel_rfl) (by kernel_rfl) (by kernel_rfl) (by kernel_rfl) (by kernel_rfl) (by kernel_rfl) (by kernel_rfl) (by kernel_rfl) (by kernel_rfl) (by kernel_rfl) (by kernel_rfl) (by kernel_rfl))
set_option maxRecDepth 1000000 in
theorem run4 : xF FT noO (xC FT noO EX LT 1000) 4 [] [] = some (.bool true, [], 0) := by kernel_rfl
theorem names_true : ACalls Tryd.prog 4 [] [] fun r _ => r = .bool true := (run_ok hmT FT_ok (noO_ok _) ext_ok LT_ok run4).mono fun _ _ h => h.1
end Go.Gi
