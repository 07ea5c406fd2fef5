/- Fifth, Third, ClassOf. -/
import Derived.Test.YtinbdefjjfmfoaaDoorAbsTEO
set_option linter.unusedSimpArgs false
set_option linter.unusedVariables false
/- Fifth, Third, ClassOf. -/
namespace Go.Abs
namespace T
set_option maxRecDepth 100000
set_option maxHeartbeats 0
end T
end Go.Abs
/- ClassOf, Third. -/
namespace Go.Abs
namespace T
set_option maxRecDepth 100000
set_option maxHeartbeats 0
end T
end Go.Abs
/- Nothing of this text is needed here. -/
