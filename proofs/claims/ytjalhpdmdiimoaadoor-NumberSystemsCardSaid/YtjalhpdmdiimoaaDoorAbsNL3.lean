/- The best line: the program's search. -/
import Derived.Test.YtjalhpdmdiimoaaDoorAbsNL2
set_option linter.unusedSimpArgs false
set_option linter.unusedVariables false
namespace Go.Abs.N
open Go Go.Abs
set_option maxRecDepth 100000
set_option maxHeartbeats 0
abbrev T3 := Nat × Nat × Nat
section
variable {σ : Type}
variable {up : σ → T3 → σ} {n : Nat} {b : σ} {i j k : Nat}
end
end Go.Abs.N
