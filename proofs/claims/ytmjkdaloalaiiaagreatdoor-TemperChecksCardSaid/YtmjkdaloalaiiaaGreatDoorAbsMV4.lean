--
import Derived.Test.YtmjkdaloalaiiaaGreatDoorAbsMVM
set_option linter.unusedSimpArgs false
set_option linter.unusedVariables false
namespace Go.Abs
namespace M
set_option maxRecDepth 100000
set_option maxHeartbeats 0
end M
end Go.Abs
