/- The examples, behind some blocks. -/
import Derived.Test.YtfbelnhibipndaaAbsU
set_option linter.unusedSimpArgs false
set_option linter.unusedVariables false
namespace Go.Abs.U
open Go Go.Abs
set_option maxRecDepth 1000000
set_option maxHeartbeats 0
theorem awake1 (lim : Nat) (a : Option Blk) : E.call 30 lim 14 [] [a] = some (.bool true, [a]) := by kernel_rfl
end Go.Abs.U
