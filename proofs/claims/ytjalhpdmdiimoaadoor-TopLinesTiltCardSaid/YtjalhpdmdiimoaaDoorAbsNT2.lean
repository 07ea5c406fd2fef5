/- The examples of the top statements of chapter 1. -/
import Derived.Test.YtjalhpdmdiimoaaDoorAbsNG
set_option linter.unusedSimpArgs false
set_option linter.unusedVariables false
namespace Go.Abs.N
open Go Go.Abs
set_option maxRecDepth 1000000
set_option maxHeartbeats 0
theorem counts1 (lim : Nat) (a : Option Blk) : E.call 20 lim 59 [] [some ⟨[.int .u64 2, .int .u64 3, .int .u64 5], false⟩, a] = some (.bool true, [some ⟨[.int .u64 2, .int .u64 3, .int .u64 5], false⟩, a]) := by kernel_rfl
end Go.Abs.N
