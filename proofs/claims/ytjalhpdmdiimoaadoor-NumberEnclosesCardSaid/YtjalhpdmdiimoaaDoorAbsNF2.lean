/- Fractions: the functions of the program and of the reference. -/
import Derived.Test.YtjalhpdmdiimoaaDoorAbsNG
set_option linter.unusedSimpArgs false
set_option linter.unusedVariables false
namespace Go.Abs.N
open Go Go.Abs
set_option maxRecDepth 100000
set_option maxHeartbeats 0
abbrev fr (n m : Int) : Value := .agg #[.int .i64 n, .int .i64 m]
abbrev fre (n m e : Int) : Value := .tuple #[fr n m, i64 e]
def within (a b c : Int) : Bool := decide (b ≤ a ∧ a ≤ c)
theorem c22 {d lim : Nat} {h : Heap} {a b c : Int} : E.call (d + 1) lim 22 [.int .i64 a, .int .i64 b, .int .i64 c] h = some (.bool (within a b c), h) := by
  refine call1 fn22 rfl (by simp [ef22]) ?_
  simp [ef22, within]
  grind
theorem c77 {d lim : Nat} {h : Heap} {a b c : Int} : E.call (d + 1) lim 77 [.int .i64 a, .int .i64 b, .int .i64 c] h = some (.bool (within a b c), h) := by
  refine call1 fn77 rfl (by simp [ef77]) ?_
  simp [ef77, within]
  grind
def checkFrac (n m : Int) : Int := if m < 1 ∨ gcdL n m ≠ 1 then 3 else if within n (-1000000000) 1000000000 = false ∨ m > 1000000000 then 2 else 0
theorem c64 {d lim : Nat} {h : Heap} {n m : Int} (hm : R64 m) : E.call (d + 2) lim 64 [fr n m] h = some (.int .i64 (checkFrac n m), h) := by
  refine call1 fn64 rfl (by simp [ef64]) ?_
  simp [ef64, c120 hm, c77]
  grind [checkFrac]
theorem c101 {d lim : Nat} {h : Heap} {n m : Int} (hm : R64 m) : E.call (d + 3) lim 101 [fr n m] h = some (.bool (decide (m > 0 ∧ gcdL n m = 1)), h) := by
  refine call1 fn101 rfl (by simp [ef101]) ?_
  simp [ef101, c111 hm]
  grind
theorem c43 {d lim : Nat} {h : Heap} {n m : Int} (hm : R64 m) : E.call (d + 4) lim 43 [fr n m] h = some (.int .i64 (checkFrac n m), h) := by
  refine call1 fn43 rfl (by simp [ef43]) ?_
  simp [ef43, c101 hm, c22]
  grind [checkFrac]
def two (a b c e : Int) : Int := if checkFrac a b = 0 then checkFrac c e else checkFrac a b
theorem c118 {d lim : Nat} {h : Heap} {a b c e : Int} (hb : R64 b) (he : R64 e) : E.call (d + 3) lim 118 [fr a b, fr c e] h = some (.int .i64 (two a b c e), h) := by
  refine call1 fn118 rfl (by simp [ef118]) ?_
  simp [ef118, c64 hb, c64 he]
  grind [two]
theorem c65 {d lim : Nat} {h : Heap} {a b c e : Int} (hb : R64 b) (he : R64 e) : E.call (d + 5) lim 65 [fr a b, fr c e] h = some (.int .i64 (two a b c e), h) := by
  refine call1 fn65 rfl (by simp [ef65]) ?_
  simp [ef65, c43 hb, c43 he]
  grind [two]
end Go.Abs.N
