/- Arguments of laws: bytes, lists of numbers. -/
import Derived.Test.YtakdhioafodhcaaGreatGiGlB
import Derived.Test.YtakdhioafodhcaaGreatGiGE
set_option linter.unusedVariables false
set_option linter.unusedSimpArgs false
set_option linter.unusedSectionVars false
namespace Go.Gi
open Go
end Go.Gi
