/- Chapter 7: soundings. -/
import Derived.Test.YtfbelnhibipndaaAbsUJM
set_option linter.unusedSimpArgs false
set_option linter.unusedVariables false
namespace Go.Abs
namespace U
set_option maxRecDepth 100000
set_option maxHeartbeats 0
end U
end Go.Abs
