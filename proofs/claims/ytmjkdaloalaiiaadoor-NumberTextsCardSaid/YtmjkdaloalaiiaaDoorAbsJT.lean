--
import Derived.Test.YtmjkdaloalaiiaaDoorAbsJ
set_option linter.unusedSimpArgs false
set_option linter.unusedVariables false
namespace Go.Abs.J
open Go Go.Abs
abbrev primesB : Option Blk := some ⟨[.int .u64 2, .int .u64 3, .int .u64 5], false⟩
set_option maxRecDepth 1000000
set_option maxHeartbeats 0
theorem awake6 (lim : Nat) (a b c d e f : Option Blk) : E.call 20 lim 4 [] [primesB, a, b, c, d, e, f] = some (.bool true, [primesB, a, b, c, d, e, f]) := by kernel_rfl
end Go.Abs.J
