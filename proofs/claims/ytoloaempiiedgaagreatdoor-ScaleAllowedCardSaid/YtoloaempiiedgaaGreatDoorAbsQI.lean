/- Ranges: the law NumberRanges. -/
import Derived.Test.YtoloaempiiedgaaGreatDoorAbsQF2
set_option linter.unusedSimpArgs false
set_option linter.unusedVariables false
namespace Go.Abs.Q
open Go Go.Abs
abbrev rg (lo hi : Int) : Value := .agg #[.int .i64 lo, .int .i64 hi]
abbrev rge (lo hi e : Int) : Value := .tuple #[rg lo hi, i64 e]
set_option maxRecDepth 100000
set_option maxHeartbeats 0
/-- CheckRange -/
def checkRange (lo hi : Int) : Int := if within lo (-1000000000000000) 1000000000000000 = true ∧ within hi (-1000000000000000) 1000000000000000 = true then (if hi < lo then 9 else 0) else 2
theorem c291 {d lim : Nat} {h : Heap} {a b : Int} : E.call (d + 2) lim 291 [rg a b] h = some (.int .i64 (checkRange a b), h) := by
  refine call1 fn291 rfl (by simp [ef291]) ?_
  simp [ef291, c241]
  repeat' (first | refine And.intro ?_ ?_ | intro _)
  all_goals grind [checkRange]
def smallE (a b : Int) : Int := if checkRange a b = 0 then 0 else 8
def smallL (a b : Int) : Int := if checkRange a b = 0 then a else 0
def smallH (a b : Int) : Int := if checkRange a b = 0 then b else 0
theorem c248 {d lim : Nat} {h : Heap} {a b : Int} : E.call (d + 3) lim 248 [rg a b] h = some (rge (smallL a b) (smallH a b) (smallE a b), h) := by
  refine call1 fn248 rfl (by simp [ef248]) ?_
  by_cases h1 : checkRange a b = 0 <;> simp [ef248, c291, h1, smallE, smallL, smallH]
end Go.Abs.Q
