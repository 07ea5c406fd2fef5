/- The functions, compiled for the abstract evaluator. Written by wip/abs/Print.lean. -/
import Derived.Test.YtfbelnhibipndaaAbsWpM
set_option linter.unusedSimpArgs false
set_option linter.unusedVariables false
set_option maxRecDepth 100000
set_option maxHeartbeats 0
namespace Go.Abs.U
open Go Go.Abs
/-- The package variables. -/
def glob : List Nat := []

end Go.Abs.U
