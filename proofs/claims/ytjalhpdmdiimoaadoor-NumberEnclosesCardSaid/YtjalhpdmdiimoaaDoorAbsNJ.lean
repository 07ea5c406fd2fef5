/- Pitches: what the functions give. -/
import Derived.Test.YtjalhpdmdiimoaaDoorAbsNF2
import Derived.Test.YtjalhpdmdiimoaaDoorAbsNT
import Derived.Test.YtjalhpdmdiimoaaDoorAbsArgs
import Derived.Test.YtjalhpdmdiimoaaDoorAbsWpM
set_option linter.unusedSimpArgs false
set_option linter.unusedVariables false
namespace Go.Abs.N
open Go Go.Abs
set_option maxRecDepth 100000
set_option maxHeartbeats 0
abbrev pt (a b c d : Int) : Value := .agg #[.int .i64 a, .int .i64 b, .int .i64 c, .int .i64 d]
abbrev pte (a b c d e : Int) : Value := .tuple #[pt a b c d, i64 e]
theorem E_fuel : E.fuel = 18446744073709551616 := rfl
def isPitch (a b c d : Int) : Bool := within a (-400) 400 && within b (-400) 400 && within c (-400) 400 && within d 1 12
def checkPitch (a b c d : Int) : Int := if isPitch a b c d = true then 0 else 2
theorem c80 {d lim : Nat} {h : Heap} {a b c e : Int} : E.call (d + 1) lim 80 [pt a b c e] h = some (.agg #[i64 a, i64 b, i64 c], h) := by
  refine call1 fn80 rfl (by simp [ef80]) ?_
  simp [ef80]
theorem c51 {d lim : Nat} {h : Heap} {a b c e : Int} : E.call (d + 2) lim 51 [pt a b c e] h = some (i64 (checkPitch a b c e), h) := by
  refine call1 fn51 rfl (by simp [ef51]) ?_
  simp [ef51, wpC_unroll, wpI_step, E_fuel, c80, c77, St.tidy]
  grind [checkPitch, isPitch]
theorem c85 {d lim : Nat} {h : Heap} {a b c e : Int} : E.call (d + 2) lim 85 [pt a b c e] h = some (.bool (isPitch a b c e), h) := by
  refine call1 fn85 rfl (by simp [ef85]) ?_
  simp [ef85, wpC_unroll, wpI_step, E_fuel, c22, St.tidy]
  grind [isPitch]
/-- The divisor of a pitch. -/
def redG (a b c e : Int) : Int := gcdL (gcdL a b) (gcdL c e)
theorem R64_gcdL {a b : Int} (ha : R64 a) (hb : R64 b) : R64 (gcdL a b) := by rw [gcdL_eq ha hb]; simp
theorem redG_ne {a b c e : Int} (ha : R64 a) (hb : R64 b) (hc : R64 c) (he : R64 e) (h : e ≠ 0) : redG a b c e ≠ 0 := gcdL_ne (R64_gcdL ha hb) (R64_gcdL hc he) (gcdL_ne hc he h)
def red (a b c e x : Int) : Int := IntKind.wrap .i64 (qdiv x (redG a b c e))
@[simp] theorem R64_red (a b c e x : Int) : R64 (red a b c e x) := by simp [red]
abbrev redV (a b c e : Int) : Value := pt (red a b c e a) (red a b c e b) (red a b c e c) (red a b c e e)
theorem c78 {d lim : Nat} {h : Heap} {a b c e : Int} (ha : R64 a) (hb : R64 b) (hc : R64 c) (he : R64 e) (h0 : e ≠ 0) : E.call (d + 2) lim 78 [pt a b c e] h = some (redV a b c e, h) := by
  have g := redG_ne ha hb hc he h0
  refine call1 fn78 rfl (by simp [ef78]) ?_
  simp only [redG] at g
  simp [ef78, c120, hb, he, R64_gcdL hc he, g, red, redG]
theorem c52 {d lim : Nat} {h : Heap} {a b c e : Int} (ha : R64 a) (hb : R64 b) (hc : R64 c) (he : R64 e) (h0 : e ≠ 0) : E.call (d + 3) lim 52 [pt a b c e] h = some (redV a b c e, h) := by
  have g := redG_ne ha hb hc he h0
  refine call1 fn52 rfl (by simp [ef52]) ?_
  simp only [redG] at g
  simp [ef52, c111, hb, he, R64_gcdL hc he, g, red, redG]
def pit2 (a b c e f g i j : Int) : Int := if checkPitch a b c e = 0 then checkPitch f g i j else checkPitch a b c e
theorem c109 {d lim : Nat} {h : Heap} {a b c e f g i j : Int} : E.call (d + 3) lim 109 [pt a b c e, pt f g i j] h = some (i64 (pit2 a b c e f g i j), h) := by
  refine call1 fn109 rfl (by simp [ef109]) ?_
  simp [ef109, c51]
  grind [pit2]
def jn (x y k e j : Int) : Int := IntKind.wrap .i64 (IntKind.wrap .i64 (x * j) + IntKind.wrap .i64 (IntKind.wrap .i64 (k * y) * e))
abbrev joinV (k a b c e f g i j : Int) : Value := pt (jn a f k e j) (jn b g k e j) (jn c i k e j) (IntKind.wrap .i64 (e * j))
theorem c110 {d lim : Nat} {h : Heap} {k a b c e f g i j : Int} : E.call (d + 1) lim 110 [pt a b c e, pt f g i j, i64 k] h = some (joinV k a b c e f g i j, h) := by
  refine call1 fn110 rfl (by simp [ef110]) ?_
  simp [ef110, jn]
theorem c112 {d lim : Nat} {h : Heap} {k a b c e f g i j : Int} : E.call (d + 1) lim 112 [pt a b c e, pt f g i j, i64 k] h = some (joinV k a b c e f g i j, h) := by
  refine call1 fn112 rfl (by simp [ef112]) ?_
  simp [ef112, jn]
def fitP (a b c e : Int) : Bool := decide (checkPitch (red a b c e a) (red a b c e b) (red a b c e c) (red a b c e e) = 0)
abbrev fitV (a b c e : Int) : Value := pte (if fitP a b c e = true then red a b c e a else 0) (if fitP a b c e = true then red a b c e b else 0) (if fitP a b c e = true then red a b c e c else 0) (if fitP a b c e = true then red a b c e e else 0) (if fitP a b c e = true then 0 else 8)
theorem c100 {d lim : Nat} {h : Heap} {a b c e : Int} (ha : R64 a) (hb : R64 b) (hc : R64 c) (he : R64 e) (h0 : e ≠ 0) : E.call (d + 3) lim 100 [pt a b c e] h = some (fitV a b c e, h) := by
  refine call1 fn100 rfl (by simp [ef100]) ?_
  by_cases h1 : checkPitch (red a b c e a) (red a b c e b) (red a b c e c) (red a b c e e) = 0 <;> simp [ef100, c78 ha hb hc he h0, c51, h1, fitP]
theorem c102 {d lim : Nat} {h : Heap} {a b c e : Int} (ha : R64 a) (hb : R64 b) (hc : R64 c) (he : R64 e) (h0 : e ≠ 0) : E.call (d + 4) lim 102 [pt a b c e] h = some (fitV a b c e, h) := by
  refine call1 fn102 rfl (by simp [ef102]) ?_
  by_cases h1 : isPitch (red a b c e a) (red a b c e b) (red a b c e c) (red a b c e e) = true <;> simp [ef102, c52 ha hb hc he h0, c85, h1, fitP, checkPitch]
theorem isPitch_R {a b c e : Int} (h : isPitch a b c e = true) : (-400 ≤ a ∧ a ≤ 400) ∧ (-400 ≤ b ∧ b ≤ 400) ∧ (-400 ≤ c ∧ c ≤ 400) ∧ 1 ≤ e ∧ e ≤ 12 := by
  simp [isPitch, within] at h; omega
theorem check0 {a b c e : Int} : checkPitch a b c e = 0 ↔ isPitch a b c e = true := by
  unfold checkPitch; split <;> simp_all
theorem R64s {n : Int} (h : -400 ≤ n ∧ n ≤ 400) : R64 n := ⟨by omega, by omega⟩
theorem c49 {d lim : Nat} {h : Heap} {a b c e : Int} (h1 : isPitch a b c e = true) : E.call (d + 3) lim 49 [pt a b c e] h = some (.tuple #[redV a b c e, i64 0], h) := by
  obtain ⟨r1, r2, r3, r4⟩ := isPitch_R h1
  refine call1 fn49 rfl (by simp [ef49]) ?_
  simp [ef49, c51, check0.2 h1, c78 (R64s r1) (R64s r2) (R64s r3) (R64s (n := e) (by omega)) (by omega)]
theorem c49b {d lim : Nat} {h : Heap} {a b c e : Int} (h1 : isPitch a b c e = false) : E.call (d + 3) lim 49 [pt a b c e] h = some (pte 0 0 0 0 2, h) := by
  have : checkPitch a b c e = 2 := by simp [checkPitch, h1]
  refine call1 fn49 rfl (by simp [ef49]) ?_
  simp [ef49, c51, this]
theorem join_ne {e j : Int} (he : 1 ≤ e ∧ e ≤ 12) (hj : 1 ≤ j ∧ j ≤ 12) : IntKind.wrap .i64 (e * j) ≠ 0 := by
  have l : e * 1 ≤ e * j := Int.mul_le_mul_of_nonneg_left (by omega) (by omega)
  have u : e * j ≤ 12 * 12 := Int.mul_le_mul (by omega) (by omega) (by omega) (by omega)
  rw [wrap_eq (by omega) (by omega)]; omega
@[simp] theorem R64_jn (x y k e j : Int) : R64 (jn x y k e j) := by simp [jn]
abbrev joinF (k a b c e f g i j : Int) : Value := fitV (jn a f k e j) (jn b g k e j) (jn c i k e j) (IntKind.wrap .i64 (e * j))
theorem c50 {d lim : Nat} {h : Heap} {a b c e f g i j : Int} (h1 : isPitch a b c e = true) (h2 : isPitch f g i j = true) : E.call (d + 4) lim 50 [pt a b c e, pt f g i j] h = some (joinF 1 a b c e f g i j, h) := by
  obtain ⟨r1, r2, r3, r4⟩ := isPitch_R h1
  obtain ⟨s1, s2, s3, s4⟩ := isPitch_R h2
  have hne := join_ne r4 s4
  refine call1 fn50 rfl (by simp [ef50]) ?_
  simp [ef50, c109, pit2, check0.2 h1, check0.2 h2, c110, c100, hne]
theorem c50b {d lim : Nat} {h : Heap} {a b c e f g i j : Int} (h1 : isPitch a b c e = false ∨ isPitch f g i j = false) : E.call (d + 4) lim 50 [pt a b c e, pt f g i j] h = some (pte 0 0 0 0 2, h) := by
  have : pit2 a b c e f g i j = 2 := by
    unfold pit2
    rcases h1 with q | q
    · simp [checkPitch, q]
    · by_cases k : isPitch a b c e = true <;> simp [checkPitch, q]
  refine call1 fn50 rfl (by simp [ef50]) ?_
  simp [ef50, c109, this]
theorem c53 {d lim : Nat} {h : Heap} {a b c e f g i j : Int} (hne : IntKind.wrap .i64 (e * j) ≠ 0) : E.call (d + 5) lim 53 [pt a b c e, pt f g i j] h = some (joinF 1 a b c e f g i j, h) := by
  refine call1 fn53 rfl (by simp [ef53]) ?_
  simp [ef53, c112, c102, hne]
end Go.Abs.N
