/- The chapter's examples of indexes, run. -/
import Derived.Test.YtakdhioafodhcaaGreatDoorGoI
import Derived.Test.YtakdhioafodhcaaGreatDoorGiXK
set_option linter.unusedVariables false
namespace Go.Gi
open Go Go.Proofs

theorem hmT : Tryz.prog.follows .mixedOrders = true := by kernel_rfl
abbrev EX : XCall := extOr (extI 119) (extOr (extI 77) (extE 108 111 5))
theorem ext_ok : EOk Tryz.prog EX := extOr_ok (extI_ok (fn := Tryz.f119) (by kernel_rfl) (by kernel_rfl) (by kernel_rfl) (by kernel_rfl) (by kernel_rfl)) (extOr_ok (extI_ok (fn := Tryz.f77) (by kernel_rfl) (by kernel_rfl) (by kernel_rfl) (by kernel_rfl) (by kernel_rfl)) (extE_ok (fc := Tryz.f108) (fm := Tryz.f111) (t := 83) (by kernel_rfl) (by kernel_rfl) (by kernel_rfl) (by kernel_rfl) (by kernel_rfl) (by kernel_rfl) (by kernel_rfl) (by kernel_rfl) (by kernel_rfl) (by kernel_rfl) (by kernel_rfl) (by kernel_rfl)))
set_option maxRecDepth 1000000 in
theorem runLives : xF FT noO (xC FT noO EX LT 1500) 8 [] [] = some (.bool true, [], 0) := by kernel_rfl
theorem pLives : PCF Tryz.prog 8 [] (.bool true) := pcf_run hmT FT_ok (noO_ok _) ext_ok LT_ok rfl runLives rfl

end Go.Gi
