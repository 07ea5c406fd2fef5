/- The examples, behind three blocks. -/
import Derived.Test.YtfbelnhibipndaaGreatDoorAbsZ
set_option linter.unusedSimpArgs false
set_option linter.unusedVariables false
namespace Go.Abs.Z
open Go Go.Abs
set_option maxRecDepth 1000000
set_option maxHeartbeats 0
theorem awake3 (lim : Nat) (a b c : Option Blk) : E.call 30 lim 8 [] [a, b, c] = some (.bool true, [a, b, c]) := by kernel_rfl
end Go.Abs.Z
