/- The examples, behind four blocks. -/
import Derived.Test.YtfbelnhibipndaaAbsU
set_option linter.unusedSimpArgs false
set_option linter.unusedVariables false
namespace Go.Abs.U
open Go Go.Abs
set_option maxRecDepth 1000000
set_option maxHeartbeats 0
theorem awake3 (lim : Nat) (a b c : Option Blk) : E.call 30 lim 14 [] [a, b, c] = some (.bool true, [a, b, c]) := by kernel_rfl
theorem awake4 (lim : Nat) (a b c d : Option Blk) : E.call 30 lim 14 [] [a, b, c, d] = some (.bool true, [a, b, c, d]) := by kernel_rfl
end Go.Abs.U
