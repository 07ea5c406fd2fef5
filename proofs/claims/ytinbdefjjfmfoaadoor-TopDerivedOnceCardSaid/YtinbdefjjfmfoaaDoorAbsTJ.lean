/- Pitches: what the functions give. -/
import Derived.Test.YtinbdefjjfmfoaaDoorAbsTF2
import Derived.Test.YtinbdefjjfmfoaaDoorAbsTArgs
import Derived.Test.YtinbdefjjfmfoaaDoorAbsWpM
set_option linter.unusedSimpArgs false
set_option linter.unusedVariables false

namespace Go.Abs.T
open Go Go.Abs
abbrev primesB : Option Blk := some ⟨[.int .u64 2, .int .u64 3, .int .u64 5], false⟩
set_option maxRecDepth 100000
set_option maxHeartbeats 0
abbrev pt (a b c d : Int) : Value := .agg #[.int .i64 a, .int .i64 b, .int .i64 c, .int .i64 d]
abbrev pte (a b c d e : Int) : Value := .tuple #[pt a b c d, i64 e]
theorem E_fuel : E.fuel = 18446744073709551616 := rfl
def isPitch (a b c d : Int) : Bool := within a (-400) 400 && within b (-400) 400 && within c (-400) 400 && within d 1 12
def checkPitch (a b c d : Int) : Int := if isPitch a b c d = true then 0 else 2
theorem c133 {d lim : Nat} {h : Heap} {a b c e : Int} : E.call (d + 1) lim 133 [pt a b c e] h = some (.agg #[i64 a, i64 b, i64 c], h) := by
  refine call1 fn133 rfl (by simp [ef133]) ?_
  simp [ef133]
theorem c129 {d lim : Nat} {h : Heap} {a b c e : Int} : E.call (d + 2) lim 129 [pt a b c e] h = some (i64 (checkPitch a b c e), h) := by
  refine call1 fn129 rfl (by simp [ef129]) ?_
  simp [ef129, wpC_unroll, wpI_step, E_fuel, c133, c130, St.tidy]
  grind [checkPitch, isPitch]
/-- The divisor of a pitch. -/
def redG (a b c e : Int) : Int := gcdL (gcdL a b) (gcdL c e)
theorem R64_gcdL {a b : Int} (ha : R64 a) (hb : R64 b) : R64 (gcdL a b) := by rw [gcdL_eq ha hb]; simp
theorem redG_ne {a b c e : Int} (ha : R64 a) (hb : R64 b) (hc : R64 c) (he : R64 e) (h : e ≠ 0) : redG a b c e ≠ 0 := gcdL_ne (R64_gcdL ha hb) (R64_gcdL hc he) (gcdL_ne hc he h)
def red (a b c e x : Int) : Int := IntKind.wrap .i64 (qdiv x (redG a b c e))
@[simp] theorem R64_red (a b c e x : Int) : R64 (red a b c e x) := by simp [red]
abbrev redV (a b c e : Int) : Value := pt (red a b c e a) (red a b c e b) (red a b c e c) (red a b c e e)
theorem c131 {d lim : Nat} {h : Heap} {a b c e : Int} (ha : R64 a) (hb : R64 b) (hc : R64 c) (he : R64 e) (h0 : e ≠ 0) : E.call (d + 2) lim 131 [pt a b c e] h = some (redV a b c e, h) := by
  have g := redG_ne ha hb hc he h0
  refine call1 fn131 rfl (by simp [ef131]) ?_
  simp only [redG] at g
  simp [ef131, c150, hb, he, R64_gcdL hc he, g, red, redG]
theorem c90 {d lim : Nat} {h : Heap} {a b c e : Int} (ha : R64 a) (hb : R64 b) (hc : R64 c) (he : R64 e) (h0 : e ≠ 0) : E.call (d + 3) lim 90 [pt a b c e] h = some (redV a b c e, h) := by
  have g := redG_ne ha hb hc he h0
  refine call1 fn90 rfl (by simp [ef90]) ?_
  simp only [redG] at g
  simp [ef90, c143, hb, he, R64_gcdL hc he, g, red, redG]
def pit2 (a b c e f g i j : Int) : Int := if checkPitch a b c e = 0 then checkPitch f g i j else checkPitch a b c e
theorem c114 {d lim : Nat} {h : Heap} {a b c e f g i j : Int} : E.call (d + 3) lim 114 [pt a b c e, pt f g i j] h = some (i64 (pit2 a b c e f g i j), h) := by
  refine call1 fn114 rfl (by simp [ef114]) ?_
  simp [ef114, c129]
  grind [pit2]
def jn (x y k e j : Int) : Int := IntKind.wrap .i64 (IntKind.wrap .i64 (x * j) + IntKind.wrap .i64 (IntKind.wrap .i64 (k * y) * e))
abbrev joinV (k a b c e f g i j : Int) : Value := pt (jn a f k e j) (jn b g k e j) (jn c i k e j) (IntKind.wrap .i64 (e * j))
theorem c116 {d lim : Nat} {h : Heap} {k a b c e f g i j : Int} : E.call (d + 1) lim 116 [pt a b c e, pt f g i j, i64 k] h = some (joinV k a b c e f g i j, h) := by
  refine call1 fn116 rfl (by simp [ef116]) ?_
  simp [ef116, jn]
def fitP (a b c e : Int) : Bool := decide (checkPitch (red a b c e a) (red a b c e b) (red a b c e c) (red a b c e e) = 0)
abbrev fitV (a b c e : Int) : Value := pte (if fitP a b c e = true then red a b c e a else 0) (if fitP a b c e = true then red a b c e b else 0) (if fitP a b c e = true then red a b c e c else 0) (if fitP a b c e = true then red a b c e e else 0) (if fitP a b c e = true then 0 else 8)
theorem c115 {d lim : Nat} {h : Heap} {a b c e : Int} (ha : R64 a) (hb : R64 b) (hc : R64 c) (he : R64 e) (h0 : e ≠ 0) : E.call (d + 3) lim 115 [pt a b c e] h = some (fitV a b c e, h) := by
  refine call1 fn115 rfl (by simp [ef115]) ?_
  by_cases h1 : checkPitch (red a b c e a) (red a b c e b) (red a b c e c) (red a b c e e) = 0 <;> simp [ef115, c131 ha hb hc he h0, c129, h1, fitP]
theorem isPitch_R {a b c e : Int} (h : isPitch a b c e = true) : (-400 ≤ a ∧ a ≤ 400) ∧ (-400 ≤ b ∧ b ≤ 400) ∧ (-400 ≤ c ∧ c ≤ 400) ∧ 1 ≤ e ∧ e ≤ 12 := by
  simp [isPitch, within] at h; omega
theorem check0 {a b c e : Int} : checkPitch a b c e = 0 ↔ isPitch a b c e = true := by
  unfold checkPitch; split <;> simp_all
theorem R64s {n : Int} (h : -400 ≤ n ∧ n ≤ 400) : R64 n := ⟨by omega, by omega⟩
theorem c140 {d lim : Nat} {h : Heap} {a b c e : Int} (h1 : isPitch a b c e = true) : E.call (d + 3) lim 140 [pt a b c e] h = some (.tuple #[redV a b c e, i64 0], h) := by
  obtain ⟨r1, r2, r3, r4⟩ := isPitch_R h1
  refine call1 fn140 rfl (by simp [ef140]) ?_
  simp [ef140, c129, check0.2 h1, c131 (R64s r1) (R64s r2) (R64s r3) (R64s (n := e) (by omega)) (by omega)]
theorem join_ne {e j : Int} (he : 1 ≤ e ∧ e ≤ 12) (hj : 1 ≤ j ∧ j ≤ 12) : IntKind.wrap .i64 (e * j) ≠ 0 := by
  have l : e * 1 ≤ e * j := Int.mul_le_mul_of_nonneg_left (by omega) (by omega)
  have u : e * j ≤ 12 * 12 := Int.mul_le_mul (by omega) (by omega) (by omega) (by omega)
  rw [wrap_eq (by omega) (by omega)]; omega
@[simp] theorem R64_jn (x y k e j : Int) : R64 (jn x y k e j) := by simp [jn]
abbrev joinF (k a b c e f g i j : Int) : Value := fitV (jn a f k e j) (jn b g k e j) (jn c i k e j) (IntKind.wrap .i64 (e * j))
theorem c52 {d lim : Nat} {h : Heap} {a b c e f g i j : Int} (h1 : isPitch a b c e = true) (h2 : isPitch f g i j = true) : E.call (d + 4) lim 52 [pt a b c e, pt f g i j] h = some (joinF 1 a b c e f g i j, h) := by
  obtain ⟨r1, r2, r3, r4⟩ := isPitch_R h1
  obtain ⟨s1, s2, s3, s4⟩ := isPitch_R h2
  have hne := join_ne r4 s4
  refine call1 fn52 rfl (by simp [ef52]) ?_
  simp [ef52, c114, pit2, check0.2 h1, check0.2 h2, c116, c115, hne]
end Go.Abs.T
