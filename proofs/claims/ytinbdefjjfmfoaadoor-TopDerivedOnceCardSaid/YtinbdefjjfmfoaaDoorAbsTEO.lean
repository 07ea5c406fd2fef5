/- Fifths in a row. -/
import Derived.Test.YtinbdefjjfmfoaaDoorAbsTN
set_option linter.unusedSimpArgs false
set_option linter.unusedVariables false
/- Fifths in a row. -/
namespace Go.Abs
namespace T
set_option maxRecDepth 100000
set_option maxHeartbeats 0
end T
end Go.Abs
/- Fifths and thirds: bounds, and the sums as they are computed. -/
namespace Go.Abs
namespace T
set_option maxRecDepth 100000
set_option maxHeartbeats 0
end T
end Go.Abs
