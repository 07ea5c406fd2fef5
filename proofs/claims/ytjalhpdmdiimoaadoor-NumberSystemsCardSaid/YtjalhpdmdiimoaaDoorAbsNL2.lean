/- Triples of dots. -/
import Derived.Test.YtjalhpdmdiimoaaDoorAbsNL
import Derived.Test.YtjalhpdmdiimoaaDoorAbsNF3
import Derived.Test.YtjalhpdmdiimoaaDoorAbsWpM
set_option linter.unusedSimpArgs false
set_option linter.unusedVariables false
namespace Go.Abs.N
open Go Go.Abs
set_option maxRecDepth 100000
set_option maxHeartbeats 0
/-- Dots in order. -/
structure DotsOk (l : D2) : Prop where
  n3 : 3 ≤ l.length
  n60 : l.length ≤ 60
  bx : ∀ i, i < l.length → -10000 ≤ dx l i ∧ dx l i ≤ 10000
  by_ : ∀ i, i < l.length → -10000 ≤ dy l i ∧ dy l i ≤ 10000
  up : ∀ i j, i < j → j < l.length → dx l i < dx l j
def wid (l : D2) (i k : Nat) : Int := dx l k - dx l i
def bent (l : D2) (i j k : Nat) : Int := (dy l i - dy l j) * wid l i k + (dy l k - dy l i) * (dx l j - dx l i)
/-- How far a triple is bent. -/
def sz (l : D2) (i j k : Nat) : Int := max (bent l i j k) (-bent l i j k)
end Go.Abs.N
