/- Fractions in lowest terms: the functions of the program and of the reference. -/
import Derived.Test.YtjalhpdmdiimoaaDoorAbsNF2
set_option linter.unusedSimpArgs false
set_option linter.unusedVariables false
namespace Go.Abs.N
open Go Go.Abs
set_option maxRecDepth 100000
set_option maxHeartbeats 0
/-- The divisor of fit. -/
def lowG (n m : Int) : Int := if m < 0 then IntKind.wrap .i64 (-gcdL n m) else gcdL n m
def lowN (n m : Int) : Int := IntKind.wrap .i64 (qdiv n (lowG n m))
def lowD (n m : Int) : Int := IntKind.wrap .i64 (qdiv m (lowG n m))
@[simp] theorem R64_lowD (n m : Int) : R64 (lowD n m) := by simp [lowD]
@[simp] theorem R64_lowN (n m : Int) : R64 (lowN n m) := by simp [lowN]
def fitE (n m : Int) : Int := if checkFrac (lowN n m) (lowD n m) = 0 then 0 else 8
def fitN (n m : Int) : Int := if checkFrac (lowN n m) (lowD n m) = 0 then lowN n m else 0
def fitD (n m : Int) : Int := if checkFrac (lowN n m) (lowD n m) = 0 then lowD n m else 0
theorem c119 {d lim : Nat} {h : Heap} {n m : Int} (hn : R64 n) (hm : R64 m) (h0 : m ≠ 0) : E.call (d + 3) lim 119 [.int .i64 n, .int .i64 m] h = some (fre (fitN n m) (fitD n m) (fitE n m), h) := by
  have g1 := gcdL_ne hn hm h0
  have g2 := wrap_neg_ne (a := gcdL n m) (by rw [gcdL_eq hn hm]; simp) g1
  refine call1 fn119 rfl (by simp [ef119]) ?_
  simp [ef119, c120 hm, g1, g2, c64]
  repeat' (first | refine And.intro ?_ ?_ | intro _)
  all_goals grind [fitN, fitD, fitE, lowN, lowD, lowG]
theorem c114 {d lim : Nat} {h : Heap} {n m : Int} (hn : R64 n) (hm : R64 m) (h0 : m ≠ 0) : E.call (d + 3) lim 114 [.int .i64 n, .int .i64 m] h = some (fr (lowN n m) (lowD n m), h) := by
  have g1 := gcdL_ne hn hm h0
  have g2 := wrap_neg_ne (a := gcdL n m) (by rw [gcdL_eq hn hm]; simp) g1
  refine call1 fn114 rfl (by simp [ef114]) ?_
  simp [ef114, c111 hm, g1, g2]
  repeat' (first | refine And.intro ?_ ?_ | intro _)
  all_goals grind [fitN, fitD, fitE, lowN, lowD, lowG]
theorem c121 {d lim : Nat} {h : Heap} {n m : Int} (hn : R64 n) (hm : R64 m) (h0 : m ≠ 0) : E.call (d + 5) lim 121 [.int .i64 n, .int .i64 m] h = some (fre (fitN n m) (fitD n m) (fitE n m), h) := by
  refine call1 fn121 rfl (by simp [ef121]) ?_
  simp [ef121, c114 hn hm h0, c43]
  repeat' (first | refine And.intro ?_ ?_ | intro _)
  all_goals grind [fitN, fitD, fitE]
end Go.Abs.N
