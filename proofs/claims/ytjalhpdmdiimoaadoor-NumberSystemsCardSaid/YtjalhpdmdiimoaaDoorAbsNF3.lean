/- Fractions in lowest terms: the functions of the program and of the reference. -/
import Derived.Test.YtjalhpdmdiimoaaDoorAbsNF2
set_option linter.unusedSimpArgs false
set_option linter.unusedVariables false
namespace Go.Abs.N
open Go Go.Abs
set_option maxRecDepth 100000
set_option maxHeartbeats 0
/-- The divisor of fit. -/
def lowG (n m : Int) : Int := if m < 0 then IntKind.wrap .i64 (-gcdL n m) else gcdL n m
def lowN (n m : Int) : Int := IntKind.wrap .i64 (qdiv n (lowG n m))
def lowD (n m : Int) : Int := IntKind.wrap .i64 (qdiv m (lowG n m))
@[simp] theorem R64_lowD (n m : Int) : R64 (lowD n m) := by simp [lowD]
@[simp] theorem R64_lowN (n m : Int) : R64 (lowN n m) := by simp [lowN]
end Go.Abs.N
