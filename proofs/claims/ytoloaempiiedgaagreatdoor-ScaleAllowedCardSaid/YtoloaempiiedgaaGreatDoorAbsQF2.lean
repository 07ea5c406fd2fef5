/- Fractions: the functions of the program and of the reference. -/
import Derived.Test.YtoloaempiiedgaaGreatDoorAbsQG
set_option linter.unusedSimpArgs false
set_option linter.unusedVariables false
namespace Go.Abs.Q
open Go Go.Abs
set_option maxRecDepth 100000
set_option maxHeartbeats 0
def within (a b c : Int) : Bool := decide (b ≤ a ∧ a ≤ c)
theorem c74 {d lim : Nat} {h : Heap} {a b c : Int} : E.call (d + 1) lim 74 [.int .i64 a, .int .i64 b, .int .i64 c] h = some (.bool (within a b c), h) := by
  refine call1 fn74 rfl (by simp [ef74]) ?_
  simp [ef74, within]
  grind
theorem c241 {d lim : Nat} {h : Heap} {a b c : Int} : E.call (d + 1) lim 241 [.int .i64 a, .int .i64 b, .int .i64 c] h = some (.bool (within a b c), h) := by
  refine call1 fn241 rfl (by simp [ef241]) ?_
  simp [ef241, within]
  grind
def checkFrac (n m : Int) : Int := if m < 1 ∨ gcdL n m ≠ 1 then 3 else if within n (-1000000000) 1000000000 = false ∨ m > 1000000000 then 2 else 0
def two (a b c e : Int) : Int := if checkFrac a b = 0 then checkFrac c e else checkFrac a b
end Go.Abs.Q
