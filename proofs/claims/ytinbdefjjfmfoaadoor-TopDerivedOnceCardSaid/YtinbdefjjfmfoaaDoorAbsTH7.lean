/- Multiples of multiples. -/
import Derived.Test.YtinbdefjjfmfoaaDoorAbsTHM
set_option linter.unusedSimpArgs false
set_option linter.unusedVariables false
namespace Go.Abs
namespace T
set_option maxRecDepth 100000
set_option maxHeartbeats 0
end T
end Go.Abs
