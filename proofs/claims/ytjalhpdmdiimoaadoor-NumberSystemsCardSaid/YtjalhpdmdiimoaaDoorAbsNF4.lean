/- Sums, products, quotients of fractions, and the law NumberFracs. -/
import Derived.Test.YtjalhpdmdiimoaaDoorAbsNF3
set_option linter.unusedSimpArgs false
set_option linter.unusedVariables false
namespace Go.Abs.N
open Go Go.Abs
set_option maxRecDepth 100000
set_option maxHeartbeats 0
abbrev w (n : Int) : Int := IntKind.wrap .i64 n
end Go.Abs.N
