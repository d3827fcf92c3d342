/- Arguments of laws: bytes, lists of numbers. -/
import Derived.Test.YtakdhioafodhcaaGiGlB
import Derived.Test.YtakdhioafodhcaaGiGE
set_option linter.unusedVariables false
namespace Go.Gi
open Go
end Go.Gi
