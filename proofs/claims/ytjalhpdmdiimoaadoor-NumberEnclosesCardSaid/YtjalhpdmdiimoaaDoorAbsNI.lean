/- Ranges: the law NumberRanges. -/
import Derived.Test.YtjalhpdmdiimoaaDoorAbsNH
set_option linter.unusedSimpArgs false
set_option linter.unusedVariables false
namespace Go.Abs.N
open Go Go.Abs
set_option maxRecDepth 100000
set_option maxHeartbeats 0
/-- CheckRange -/
def checkRange (lo hi : Int) : Int := if within lo (-1000000000000000) 1000000000000000 = true ∧ within hi (-1000000000000000) 1000000000000000 = true then (if hi < lo then 9 else 0) else 2
theorem c29 {d lim : Nat} {h : Heap} {a b : Int} : E.call (d + 2) lim 29 [rg a b] h = some (.int .i64 (checkRange a b), h) := by
  refine call1 fn29 rfl (by simp [ef29]) ?_
  simp [ef29, c77]
  repeat' (first | refine And.intro ?_ ?_ | intro _)
  all_goals grind [checkRange]
theorem c30 {d lim : Nat} {h : Heap} {a b : Int} : E.call (d + 2) lim 30 [rg a b] h = some (.int .i64 (checkRange a b), h) := by
  refine call1 fn30 rfl (by simp [ef30]) ?_
  simp [ef30, c22]
  repeat' (first | refine And.intro ?_ ?_ | intro _)
  all_goals grind [checkRange]
def ranges2 (a b c e : Int) : Int := if checkRange a b = 0 then checkRange c e else checkRange a b
theorem c96 {d lim : Nat} {h : Heap} {a b c e : Int} : E.call (d + 3) lim 96 [rg a b, rg c e] h = some (.int .i64 (ranges2 a b c e), h) := by
  refine call1 fn96 rfl (by simp [ef96]) ?_
  simp [ef96, c29]
  grind [ranges2]
theorem c31 {d lim : Nat} {h : Heap} {a b c e : Int} : E.call (d + 3) lim 31 [rg a b, rg c e] h = some (.int .i64 (ranges2 a b c e), h) := by
  refine call1 fn31 rfl (by simp [ef31]) ?_
  simp [ef31, c30]
  grind [ranges2]
def smallE (a b : Int) : Int := if checkRange a b = 0 then 0 else 8
def smallL (a b : Int) : Int := if checkRange a b = 0 then a else 0
def smallH (a b : Int) : Int := if checkRange a b = 0 then b else 0
theorem c84 {d lim : Nat} {h : Heap} {a b : Int} : E.call (d + 3) lim 84 [rg a b] h = some (rge (smallL a b) (smallH a b) (smallE a b), h) := by
  refine call1 fn84 rfl (by simp [ef84]) ?_
  by_cases h1 : checkRange a b = 0 <;> simp [ef84, c29, h1, smallE, smallL, smallH]
abbrev plus0 (a b c e : Int) : Value := rge (smallL (IntKind.wrap .i64 (a + c)) (IntKind.wrap .i64 (b + e))) (smallH (IntKind.wrap .i64 (a + c)) (IntKind.wrap .i64 (b + e))) (smallE (IntKind.wrap .i64 (a + c)) (IntKind.wrap .i64 (b + e)))
theorem c27 {d lim : Nat} {h : Heap} {a b c e : Int} (h2 : ranges2 a b c e = 0) : E.call (d + 4) lim 27 [rg a b, rg c e] h = some (plus0 a b c e, h) := by
  refine call1 fn27 rfl (by simp [ef27]) ?_
  simp [ef27, c96, c84, h2]
theorem c27b {d lim : Nat} {h : Heap} {a b c e : Int} (h2 : ranges2 a b c e ≠ 0) : E.call (d + 4) lim 27 [rg a b, rg c e] h = some (rge 0 0 (ranges2 a b c e), h) := by
  refine call1 fn27 rfl (by simp [ef27]) ?_
  simp [ef27, c96, h2]
theorem c28 {d lim : Nat} {h : Heap} {a b c e : Int} (h2 : ranges2 a b c e = 0) : E.call (d + 4) lim 28 [rg a b, rg c e] h = some (if min b e < max a c then rge 0 0 12 else rge (max a c) (min b e) 0, h) := by
  refine call1 fn28 rfl (by simp [ef28]) ?_
  by_cases h3 : min b e < max a c <;> simp [ef28, c96, h2, h3]
theorem c28b {d lim : Nat} {h : Heap} {a b c e : Int} (h2 : ranges2 a b c e ≠ 0) : E.call (d + 4) lim 28 [rg a b, rg c e] h = some (rge 0 0 (ranges2 a b c e), h) := by
  refine call1 fn28 rfl (by simp [ef28]) ?_
  simp [ef28, c96, h2]
theorem c32 {d lim : Nat} {h : Heap} {a b c e : Int} : E.call (d + 4) lim 32 [rg a b, rg c e] h = some (plus0 a b c e, h) := by
  refine call1 fn32 rfl (by simp [ef32]) ?_
  by_cases h1 : checkRange (IntKind.wrap .i64 (a + c)) (IntKind.wrap .i64 (b + e)) = 0 <;> simp [ef32, c30, h1, smallE, smallL, smallH]
theorem c33 {d lim : Nat} {h : Heap} {a b c e : Int} : E.call (d + 4) lim 33 [rg a b, rg c e] h = some (if min b e < max a c then rge 0 0 12 else rge (max a c) (min b e) 0, h) := by
  refine call1 fn33 rfl (by simp [ef33]) ?_
  by_cases h3 : min b e < max a c <;> simp [ef33, h3]
theorem law5 (lim : Nat) (a b c e : Int) : E.call 21 lim 5 [rg a b, rg c e] [primesB] = some (.bool true, [primesB]) := by
  refine call1 fn5 rfl (by simp [ef5]) ?_
  have hf : Heap.freeze [primesB] = [primesB] := rfl
  by_cases hr : ranges2 a b c e = 0
  · by_cases hm : min b e < max a c
    · simp [ef5, hf, Heap.push, Heap.get, Heap.put, Heap.part, awake2, c27 hr, c28 hr, c29, c30, c31, c32, c33, hr, hm]
    · simp [ef5, hf, Heap.push, Heap.get, Heap.put, Heap.part, awake2, c27 hr, c28 hr, c29, c30, c31, c32, c33, hr, hm]
  · simp [ef5, hf, Heap.push, Heap.get, Heap.put, Heap.part, awake2, c27b hr, c28b hr, c29, c30, c31, hr]
theorem numberRanges_law : ∀ (bs : List (Option Blk)) us, Heap.freeze ([primesB] ++ bs) = [primesB] ++ bs → (∀ n, ctBlocks (([(true, [ctI, ctI]), (true, [ctI, ctI])] : List (Bool × List CT)).flatMap (·.2)) = some n → bs.length = n) →
    ArgsV 6 ([primesB] ++ bs) [(true, [ctI, ctI]), (true, [ctI, ctI])] us → ∃ h', E.call 21 (([primesB] : Heap) ++ bs).length 5 us ([primesB] ++ bs) = some (.bool true, h') := by
  intro bs us _ k a
  obtain rfl := none_of k rfl
  obtain ⟨u, v, rfl, a1, a2⟩ := args2 a
  obtain ⟨x, y, rfl, _, _⟩ := arg_agg2 a1
  obtain ⟨z, w, rfl, _, _⟩ := arg_agg2 a2
  exact ⟨_, law5 _ _ _ _ _⟩
end Go.Abs.N
