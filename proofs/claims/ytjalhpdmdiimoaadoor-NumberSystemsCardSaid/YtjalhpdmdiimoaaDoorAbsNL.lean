/- Dots. -/
import Derived.Test.YtjalhpdmdiimoaaDoorAbsNF2
import Derived.Test.YtjalhpdmdiimoaaDoorAbsNT
import Derived.Test.YtjalhpdmdiimoaaDoorAbsArgs
import Derived.Test.YtjalhpdmdiimoaaDoorAbsWpM
set_option linter.unusedSimpArgs false
set_option linter.unusedVariables false
namespace Go.Abs.N
open Go Go.Abs
set_option maxRecDepth 100000
set_option maxHeartbeats 0
abbrev D2 := List (Int × Int)
def dx (l : D2) (i : Nat) : Int := (l[i]?.getD (0, 0)).1
def dy (l : D2) (i : Nat) : Int := (l[i]?.getD (0, 0)).2
end Go.Abs.N
