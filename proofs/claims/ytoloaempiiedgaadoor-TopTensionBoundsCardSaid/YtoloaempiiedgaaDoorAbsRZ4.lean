--
import Derived.Test.YtoloaempiiedgaaDoorAbsRZ1
set_option linter.unusedSimpArgs false
set_option linter.unusedVariables false
namespace Go.Abs
namespace R
set_option maxRecDepth 100000
set_option maxHeartbeats 0
theorem cR_plain (l : List XR) : (cS encR l).all plainV = true := by simp [cS, List.all_flatMap, encR, plainV]
end R
end Go.Abs
