--
import Derived.Test.YtmjkdaloalaiiaaDoorAbsJG
set_option linter.unusedSimpArgs false
set_option linter.unusedVariables false
namespace Go.Abs.J
open Go Go.Abs
set_option maxRecDepth 100000
set_option maxHeartbeats 0
abbrev fr (n m : Int) : Value := .agg #[.int .i64 n, .int .i64 m]
def within (a b c : Int) : Bool := decide (b ≤ a ∧ a ≤ c)
theorem c23 {d lim : Nat} {h : Heap} {a b c : Int} : E.call (d + 1) lim 23 [.int .i64 a, .int .i64 b, .int .i64 c] h = some (.bool (within a b c), h) := by
 refine call1 fn23 rfl (by simp [ef23]) ?_
 simp [ef23, within]
 grind
theorem c25 {d lim : Nat} {h : Heap} {a b c : Int} : E.call (d + 1) lim 25 [.int .i64 a, .int .i64 b, .int .i64 c] h = some (.bool (within a b c), h) := by
 refine call1 fn25 rfl (by simp [ef25]) ?_
 simp [ef25, within]
 grind
def checkFrac (n m : Int) : Int := if m < 1 ∨ gcdL n m ≠ 1 then 3 else if within n (-1000000000) 1000000000 = false ∨ m > 1000000000 then 2 else 0
theorem c17 {d lim : Nat} {h : Heap} {n m : Int} (hm : R64 m) : E.call (d + 2) lim 17 [fr n m] h = some (.int .i64 (checkFrac n m), h) := by
 refine call1 fn17 rfl (by simp [ef17]) ?_
 simp [ef17, c44 hm, c25]
 grind [checkFrac]
theorem c22 {d lim : Nat} {h : Heap} {n m : Int} (hm : R64 m) : E.call (d + 3) lim 22 [fr n m] h = some (.bool (decide (m > 0 ∧ gcdL n m = 1)), h) := by
 refine call1 fn22 rfl (by simp [ef22]) ?_
 simp [ef22, c48 hm]
 grind
theorem c9 {d lim : Nat} {h : Heap} {n m : Int} (hm : R64 m) : E.call (d + 4) lim 9 [fr n m] h = some (.int .i64 (checkFrac n m), h) := by
 refine call1 fn9 rfl (by simp [ef9]) ?_
 simp [ef9, c22 hm, c23]
 grind [checkFrac]
def two (a b c e : Int) : Int := if checkFrac a b = 0 then checkFrac c e else checkFrac a b
end Go.Abs.J
