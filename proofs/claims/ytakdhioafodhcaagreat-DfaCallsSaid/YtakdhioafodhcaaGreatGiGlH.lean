/- Arguments of laws: bytes, lists of numbers. -/
import Derived.Test.YtakdhioafodhcaaGreatGiGlB
import Derived.Test.YtakdhioafodhcaaGreatGiGE
namespace Go.Gi
open Go
end Go.Gi
