/- Both searches find the same three dots. -/
import Derived.Test.YtjalhpdmdiimoaaDoorAbsNL4
set_option linter.unusedSimpArgs false
set_option linter.unusedVariables false
namespace Go.Abs.N
open Go Go.Abs
set_option maxRecDepth 100000
set_option maxHeartbeats 0
end Go.Abs.N
