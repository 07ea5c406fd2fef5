/- The examples, behind some boxes. -/
import Derived.Test.YtjalhpdmdiimoaaDoorAbsNG
set_option linter.unusedSimpArgs false
set_option linter.unusedVariables false
namespace Go.Abs.N
open Go Go.Abs
abbrev primesB : Option Blk := some ⟨[.int .u64 2, .int .u64 3, .int .u64 5], false⟩
set_option maxRecDepth 1000000
set_option maxHeartbeats 0
theorem awake1 (lim : Nat) (a : Option Blk) : E.call 20 lim 18 [] [primesB, a] = some (.bool true, [primesB, a]) := by kernel_rfl
theorem awake2 (lim : Nat) (a b : Option Blk) : E.call 20 lim 18 [] [primesB, a, b] = some (.bool true, [primesB, a, b]) := by kernel_rfl
theorem awake3 (lim : Nat) (a b c : Option Blk) : E.call 20 lim 18 [] [primesB, a, b, c] = some (.bool true, [primesB, a, b, c]) := by kernel_rfl
end Go.Abs.N
