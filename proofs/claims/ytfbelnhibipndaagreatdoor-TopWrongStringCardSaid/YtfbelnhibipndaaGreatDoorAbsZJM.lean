/- Pitches: what the functions give. -/
import Derived.Test.YtfbelnhibipndaaGreatDoorAbsZGM
import Derived.Test.YtfbelnhibipndaaGreatDoorAbsZArgs
import Derived.Test.YtfbelnhibipndaaGreatDoorAbsWpM
set_option linter.unusedSimpArgs false
set_option linter.unusedVariables false
/- Pitches: what the functions give. -/

namespace Go.Abs.Z
open Go Go.Abs
abbrev primesB : Option Blk := some ⟨[.int .u64 2, .int .u64 3, .int .u64 5], false⟩
set_option maxRecDepth 100000
set_option maxHeartbeats 0
abbrev pt (a b c d : Int) : Value := .agg #[.int .i64 a, .int .i64 b, .int .i64 c, .int .i64 d]
theorem E_fuel : E.fuel = 18446744073709551616 := rfl
def isPitch (a b c d : Int) : Bool := within a (-400) 400 && within b (-400) 400 && within c (-400) 400 && within d 1 12
def checkPitch (a b c d : Int) : Int := if isPitch a b c d = true then 0 else 2
theorem c183 {d lim : Nat} {h : Heap} {a b c e : Int} : E.call (d + 1) lim 183 [pt a b c e] h = some (.agg #[i64 a, i64 b, i64 c], h) := by
  refine call1 fn183 rfl (by simp [ef183]) ?_
  simp [ef183]
theorem c179 {d lim : Nat} {h : Heap} {a b c e : Int} : E.call (d + 2) lim 179 [pt a b c e] h = some (i64 (checkPitch a b c e), h) := by
  refine call1 fn179 rfl (by simp [ef179]) ?_
  simp [ef179, wpC_unroll, wpI_step, E_fuel, c183, c180, St.tidy]
  grind [checkPitch, isPitch]
/-- The divisor of a pitch. -/
def redG (a b c e : Int) : Int := gcdL (gcdL a b) (gcdL c e)
theorem R64_gcdL {a b : Int} (ha : R64 a) (hb : R64 b) : R64 (gcdL a b) := by rw [gcdL_eq ha hb]; simp
theorem redG_ne {a b c e : Int} (ha : R64 a) (hb : R64 b) (hc : R64 c) (he : R64 e) (h : e ≠ 0) : redG a b c e ≠ 0 := gcdL_ne (R64_gcdL ha hb) (R64_gcdL hc he) (gcdL_ne hc he h)
def red (a b c e x : Int) : Int := IntKind.wrap .i64 (qdiv x (redG a b c e))
@[simp] theorem R64_red (a b c e x : Int) : R64 (red a b c e x) := by simp [red]
abbrev redV (a b c e : Int) : Value := pt (red a b c e a) (red a b c e b) (red a b c e c) (red a b c e e)
theorem c181 {d lim : Nat} {h : Heap} {a b c e : Int} (ha : R64 a) (hb : R64 b) (hc : R64 c) (he : R64 e) (h0 : e ≠ 0) : E.call (d + 2) lim 181 [pt a b c e] h = some (redV a b c e, h) := by
  have g := redG_ne ha hb hc he h0
  refine call1 fn181 rfl (by simp [ef181]) ?_
  simp only [redG] at g
  simp [ef181, c218, hb, he, R64_gcdL hc he, g, red, redG]
def jn (x y k e j : Int) : Int := IntKind.wrap .i64 (IntKind.wrap .i64 (x * j) + IntKind.wrap .i64 (IntKind.wrap .i64 (k * y) * e))
theorem isPitch_R {a b c e : Int} (h : isPitch a b c e = true) : (-400 ≤ a ∧ a ≤ 400) ∧ (-400 ≤ b ∧ b ≤ 400) ∧ (-400 ≤ c ∧ c ≤ 400) ∧ 1 ≤ e ∧ e ≤ 12 := by
  simp [isPitch, within] at h; omega
theorem check0 {a b c e : Int} : checkPitch a b c e = 0 ↔ isPitch a b c e = true := by
  unfold checkPitch; split <;> simp_all
theorem R64s {n : Int} (h : -400 ≤ n ∧ n ≤ 400) : R64 n := ⟨by omega, by omega⟩
theorem c189 {d lim : Nat} {h : Heap} {a b c e : Int} (h1 : isPitch a b c e = true) : E.call (d + 3) lim 189 [pt a b c e] h = some (.tuple #[redV a b c e, i64 0], h) := by
  obtain ⟨r1, r2, r3, r4⟩ := isPitch_R h1
  refine call1 fn189 rfl (by simp [ef189]) ?_
  simp [ef189, c179, check0.2 h1, c181 (R64s r1) (R64s r2) (R64s r3) (R64s (n := e) (by omega)) (by omega)]
@[simp] theorem R64_jn (x y k e j : Int) : R64 (jn x y k e j) := by simp [jn]
end Go.Abs.Z
/- Numbers of 64 bits without sign; the double product. -/
namespace Go.Abs
theorem wrapU (n : Int) : IntKind.wrap .u64 n = n % 18446744073709551616 := by
  simp [IntKind.wrap, IntKind.bits, IntKind.signed]
def U64 (n : Int) : Prop := 0 ≤ n ∧ n < 18446744073709551616
theorem wrapUR {n : Int} (h : U64 n) : IntKind.wrap .u64 n = n := by rw [wrapU]; unfold U64 at h; omega
theorem bin_mask (a : Int) : E.bin .and (.int .u64 a) (.int .u64 4294967295) = some (.int .u64 (a % 4294967296)) := by
  have e : bits .and .u64 a 4294967295 = a % 4294967296 := by
    have e0 : bits .and .u64 a 4294967295 = IntKind.wrap .u64 ((BitVec.ofInt 64 a &&& BitVec.ofInt 64 4294967295).toNat : Int) := rfl
    rw [e0]
    have e1 : (BitVec.ofInt 64 a &&& BitVec.ofInt 64 4294967295).toNat = (BitVec.ofInt 64 a).toNat % 4294967296 := by
      rw [BitVec.toNat_and]
      exact Nat.and_two_pow_sub_one_eq_mod _ 32
    rw [e1, BitVec.toNat_ofInt, wrapU]
    omega
  show semPure (binOp .and 0 (.int .u64 a) (.int .u64 4294967295)) = _
  rw [show binOp .and 0 (.int .u64 a) (.int .u64 4294967295) = Op.intBits .and .u64 a 4294967295 by simp [binOp]]
  rw [intBits_and, e]; rfl
theorem bin_shr32 (a : Int) : E.bin .shr (.int .u64 a) (.int .u64 32) = some (.int .u64 (a / 4294967296)) := by
  show semPure (binOp .shr 0 (.int .u64 a) (.int .u64 32)) = _
  rw [show binOp .shr 0 (.int .u64 a) (.int .u64 32) = Op.shift .shr .u64 a .u64 32 by simp [binOp]]
  rw [shift_shr _ _ _ _ (by decide) (by decide)]; rfl
theorem mul_bound {u v : Int} (hu : 0 ≤ u ∧ u < 4294967296) (hv : 0 ≤ v ∧ v < 4294967296) : 0 ≤ u * v ∧ u * v ≤ 18446744065119617025 :=
  ⟨Int.mul_nonneg hu.1 hv.1, Int.mul_le_mul (by omega : u ≤ 4294967295) (by omega : v ≤ 4294967295) hv.1 (by omega)⟩
theorem mul64_eq {x y : Int} (hx : U64 x) (hy : U64 y) :
    IntKind.wrap .u64 (IntKind.wrap .u64 (IntKind.wrap .u64 (x / 4294967296 * (y / 4294967296)) + IntKind.wrap .u64 (IntKind.wrap .u64 (x / 4294967296 * (y % 4294967296)) + IntKind.wrap .u64 (x % 4294967296 * (y % 4294967296)) / 4294967296) / 4294967296) +
      IntKind.wrap .u64 (IntKind.wrap .u64 (IntKind.wrap .u64 (x / 4294967296 * (y % 4294967296)) + IntKind.wrap .u64 (x % 4294967296 * (y % 4294967296)) / 4294967296) % 4294967296 + IntKind.wrap .u64 (x % 4294967296 * (y / 4294967296))) / 4294967296) = x * y / 18446744073709551616 := by
  unfold U64 at hx hy
  have b00 := mul_bound (u := x % 4294967296) (v := y % 4294967296) (by omega) (by omega)
  have b01 := mul_bound (u := x % 4294967296) (v := y / 4294967296) (by omega) (by omega)
  have b10 := mul_bound (u := x / 4294967296) (v := y % 4294967296) (by omega) (by omega)
  have b11 := mul_bound (u := x / 4294967296) (v := y / 4294967296) (by omega) (by omega)
  have e : x * y = x / 4294967296 * (y / 4294967296) * 18446744073709551616 + (x / 4294967296 * (y % 4294967296) + x % 4294967296 * (y / 4294967296)) * 4294967296 + x % 4294967296 * (y % 4294967296) := by
    have h1 : x = x / 4294967296 * 4294967296 + x % 4294967296 := by omega
    have h2 : y = y / 4294967296 * 4294967296 + y % 4294967296 := by omega
    conv => lhs; rw [h1, h2]
    generalize x / 4294967296 = x1
    generalize x % 4294967296 = x0
    generalize y / 4294967296 = y1
    generalize y % 4294967296 = y0
    rw [Int.add_mul, Int.mul_add, Int.mul_add]
    have a1 : x1 * 4294967296 * (y1 * 4294967296) = x1 * y1 * 18446744073709551616 := by
      rw [Int.mul_assoc, Int.mul_left_comm 4294967296, ← Int.mul_assoc]; rfl
    have a2 : x1 * 4294967296 * y0 = x1 * y0 * 4294967296 := by rw [Int.mul_assoc, Int.mul_comm 4294967296, ← Int.mul_assoc]
    have a3 : x0 * (y1 * 4294967296) = x0 * y1 * 4294967296 := by rw [← Int.mul_assoc]
    rw [a1, a2, a3, Int.add_mul]
    omega
  rw [e]
  simp only [wrapU]
  generalize x / 4294967296 * (y / 4294967296) = p11 at *
  generalize x / 4294967296 * (y % 4294967296) = p10 at *
  generalize x % 4294967296 * (y / 4294967296) = p01 at *
  generalize x % 4294967296 * (y % 4294967296) = p00 at *
  clear e hx hy
  rw [Int.emod_eq_of_lt b00.1 (by omega), Int.emod_eq_of_lt b01.1 (by omega), Int.emod_eq_of_lt b10.1 (by omega), Int.emod_eq_of_lt b11.1 (by omega)]
  rw [Int.emod_eq_of_lt (a := p10 + p00 / 4294967296) (by omega) (by omega)]
  omega
namespace Z
set_option maxRecDepth 100000
set_option maxHeartbeats 0
theorem c219 {d lim : Nat} {h : Heap} {x y : Int} (hx : U64 x) (hy : U64 y) : E.call (d + 1) lim 219 [.int .u64 x, .int .u64 y] h = some (.tuple #[.int .u64 (x * y / 18446744073709551616), .int .u64 (x * y % 18446744073709551616)], h) := by
  refine call1 fn219 rfl (by simp [ef219]) ?_
  simp [ef219, bin_mask, bin_shr32]
  exact ⟨mul64_eq hx hy, wrapU _⟩
end Z
end Go.Abs
