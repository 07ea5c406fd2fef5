/- Numbers of 64 bits without sign; the double product. -/
import Derived.Test.YtoloaempiiedgaaGreatDoorAbsQG
set_option linter.unusedSimpArgs false
set_option linter.unusedVariables false
namespace Go.Abs
theorem wrapU (n : Int) : IntKind.wrap .u64 n = n % 18446744073709551616 := by
  simp [IntKind.wrap, IntKind.bits, IntKind.signed]
def U64 (n : Int) : Prop := 0 ≤ n ∧ n < 18446744073709551616
theorem wrapUR {n : Int} (h : U64 n) : IntKind.wrap .u64 n = n := by rw [wrapU]; unfold U64 at h; omega
theorem bin_mask (a : Int) : E.bin .and (.int .u64 a) (.int .u64 4294967295) = some (.int .u64 (a % 4294967296)) := by
  have e : bits .and .u64 a 4294967295 = a % 4294967296 := by
    have e0 : bits .and .u64 a 4294967295 = IntKind.wrap .u64 ((BitVec.ofInt 64 a &&& BitVec.ofInt 64 4294967295).toNat : Int) := rfl
    rw [e0]
    have e1 : (BitVec.ofInt 64 a &&& BitVec.ofInt 64 4294967295).toNat = (BitVec.ofInt 64 a).toNat % 4294967296 := by
      rw [BitVec.toNat_and]
      exact Nat.and_two_pow_sub_one_eq_mod _ 32
    rw [e1, BitVec.toNat_ofInt, wrapU]
    omega
  show semPure (binOp .and 0 (.int .u64 a) (.int .u64 4294967295)) = _
  rw [show binOp .and 0 (.int .u64 a) (.int .u64 4294967295) = Op.intBits .and .u64 a 4294967295 by simp [binOp]]
  rw [intBits_and, e]; rfl
theorem bin_shr32 (a : Int) : E.bin .shr (.int .u64 a) (.int .u64 32) = some (.int .u64 (a / 4294967296)) := by
  show semPure (binOp .shr 0 (.int .u64 a) (.int .u64 32)) = _
  rw [show binOp .shr 0 (.int .u64 a) (.int .u64 32) = Op.shift .shr .u64 a .u64 32 by simp [binOp]]
  rw [shift_shr _ _ _ _ (by decide) (by decide)]; rfl
theorem mul_bound {u v : Int} (hu : 0 ≤ u ∧ u < 4294967296) (hv : 0 ≤ v ∧ v < 4294967296) : 0 ≤ u * v ∧ u * v ≤ 18446744065119617025 :=
  ⟨Int.mul_nonneg hu.1 hv.1, Int.mul_le_mul (by omega : u ≤ 4294967295) (by omega : v ≤ 4294967295) hv.1 (by omega)⟩
theorem mul64_eq {x y : Int} (hx : U64 x) (hy : U64 y) :
    IntKind.wrap .u64 (IntKind.wrap .u64 (IntKind.wrap .u64 (x / 4294967296 * (y / 4294967296)) + IntKind.wrap .u64 (IntKind.wrap .u64 (x / 4294967296 * (y % 4294967296)) + IntKind.wrap .u64 (x % 4294967296 * (y % 4294967296)) / 4294967296) / 4294967296) +
      IntKind.wrap .u64 (IntKind.wrap .u64 (IntKind.wrap .u64 (x / 4294967296 * (y % 4294967296)) + IntKind.wrap .u64 (x % 4294967296 * (y % 4294967296)) / 4294967296) % 4294967296 + IntKind.wrap .u64 (x % 4294967296 * (y / 4294967296))) / 4294967296) = x * y / 18446744073709551616 := by
  unfold U64 at hx hy
  have b00 := mul_bound (u := x % 4294967296) (v := y % 4294967296) (by omega) (by omega)
  have b01 := mul_bound (u := x % 4294967296) (v := y / 4294967296) (by omega) (by omega)
  have b10 := mul_bound (u := x / 4294967296) (v := y % 4294967296) (by omega) (by omega)
  have b11 := mul_bound (u := x / 4294967296) (v := y / 4294967296) (by omega) (by omega)
  have e : x * y = x / 4294967296 * (y / 4294967296) * 18446744073709551616 + (x / 4294967296 * (y % 4294967296) + x % 4294967296 * (y / 4294967296)) * 4294967296 + x % 4294967296 * (y % 4294967296) := by
    have h1 : x = x / 4294967296 * 4294967296 + x % 4294967296 := by omega
    have h2 : y = y / 4294967296 * 4294967296 + y % 4294967296 := by omega
    conv => lhs; rw [h1, h2]
    generalize x / 4294967296 = x1
    generalize x % 4294967296 = x0
    generalize y / 4294967296 = y1
    generalize y % 4294967296 = y0
    rw [Int.add_mul, Int.mul_add, Int.mul_add]
    have a1 : x1 * 4294967296 * (y1 * 4294967296) = x1 * y1 * 18446744073709551616 := by
      rw [Int.mul_assoc, Int.mul_left_comm 4294967296, ← Int.mul_assoc]; rfl
    have a2 : x1 * 4294967296 * y0 = x1 * y0 * 4294967296 := by rw [Int.mul_assoc, Int.mul_comm 4294967296, ← Int.mul_assoc]
    have a3 : x0 * (y1 * 4294967296) = x0 * y1 * 4294967296 := by rw [← Int.mul_assoc]
    rw [a1, a2, a3, Int.add_mul]
    omega
  rw [e]
  simp only [wrapU]
  generalize x / 4294967296 * (y / 4294967296) = p11 at *
  generalize x / 4294967296 * (y % 4294967296) = p10 at *
  generalize x % 4294967296 * (y / 4294967296) = p01 at *
  generalize x % 4294967296 * (y % 4294967296) = p00 at *
  clear e hx hy
  rw [Int.emod_eq_of_lt b00.1 (by omega), Int.emod_eq_of_lt b01.1 (by omega), Int.emod_eq_of_lt b10.1 (by omega), Int.emod_eq_of_lt b11.1 (by omega)]
  rw [Int.emod_eq_of_lt (a := p10 + p00 / 4294967296) (by omega) (by omega)]
  omega
namespace Q
set_option maxRecDepth 100000
set_option maxHeartbeats 0
theorem c289 {d lim : Nat} {h : Heap} {x y : Int} (hx : U64 x) (hy : U64 y) : E.call (d + 1) lim 289 [.int .u64 x, .int .u64 y] h = some (.tuple #[.int .u64 (x * y / 18446744073709551616), .int .u64 (x * y % 18446744073709551616)], h) := by
  refine call1 fn289 rfl (by simp [ef289]) ?_
  simp [ef289, bin_mask, bin_shr32]
  exact ⟨mul64_eq hx hy, wrapU _⟩
end Q
end Go.Abs
