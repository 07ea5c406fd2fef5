/- The best line: the reference's search. -/
import Derived.Test.YtjalhpdmdiimoaaDoorAbsNL3
import Derived.Test.YtjalhpdmdiimoaaDoorAbsNF4
set_option linter.unusedSimpArgs false
set_option linter.unusedVariables false
namespace Go.Abs.N
open Go Go.Abs
set_option maxRecDepth 100000
set_option maxHeartbeats 0
def q1 : Option T3 → Int
  | none => 0
  | some b => b.1
def q2 : Option T3 → Int
  | none => 0
  | some b => b.2.1
def q3 : Option T3 → Int
  | none => 0
  | some b => b.2.2
end Go.Abs.N
