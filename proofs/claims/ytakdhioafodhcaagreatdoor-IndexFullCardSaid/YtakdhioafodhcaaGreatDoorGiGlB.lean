/- glob.Fold, bytes.Count of one byte, bytes.Repeat of one: what they give. -/
import Derived.Test.YtakdhioafodhcaaGreatDoorGiGlA
import Derived.Test.YtakdhioafodhcaaGreatDoorGiOW
import Derived.Test.YtakdhioafodhcaaGreatDoorGiXB
set_option linter.unusedVariables false
set_option linter.unusedSimpArgs false
namespace Go.Gi
open Go Go.Proofs

end Go.Gi
