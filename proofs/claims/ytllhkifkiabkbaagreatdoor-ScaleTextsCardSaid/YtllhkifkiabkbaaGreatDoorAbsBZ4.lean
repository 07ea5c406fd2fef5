--
import Derived.Test.YtllhkifkiabkbaaGreatDoorAbsBZ1
set_option linter.unusedSimpArgs false
set_option linter.unusedVariables false
namespace Go.Abs
namespace B
set_option maxRecDepth 100000
set_option maxHeartbeats 0
end B
end Go.Abs
