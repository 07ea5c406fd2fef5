/- Rounded multiples and ranges: the laws NumberRounded and NumberRanges. -/
import Derived.Test.YtjalhpdmdiimoaaDoorAbsNF2
import Derived.Test.YtjalhpdmdiimoaaDoorAbsNT
import Derived.Test.YtjalhpdmdiimoaaDoorAbsArgs
set_option linter.unusedSimpArgs false
set_option linter.unusedVariables false
namespace Go.Abs
theorem qdiv_pos' {a b : Int} (ha : 0 ≤ a) : qdiv a b = a / b := by unfold qdiv; exact Int.tdiv_eq_ediv_of_nonneg ha
/-- The bounds of a quotient rounded down and up differ by 0 or 1. -/
theorem ediv_neg_sum {n m : Int} (hm : 0 < m) : 0 ≤ -((-n) / m) - n / m ∧ -((-n) / m) - n / m ≤ 1 := by
  have h1 := Int.mul_ediv_add_emod n m
  have h2 := Int.mul_ediv_add_emod (-n) m
  have a1 := Int.emod_nonneg n (show m ≠ 0 by omega)
  have a2 := Int.emod_lt_of_pos n hm
  have b1 := Int.emod_nonneg (-n) (show m ≠ 0 by omega)
  have b2 := Int.emod_lt_of_pos (-n) hm
  generalize n / m = q at *
  generalize (-n) / m = r at *
  generalize n % m = s at *
  generalize (-n) % m = t at *
  have e : m * (q + r) = -(s + t) := by rw [Int.mul_add]; omega
  constructor
  · rcases Int.lt_or_le 0 (q + r) with k | k
    · have : m * 1 ≤ m * (q + r) := Int.mul_le_mul_of_nonneg_left (by omega) (by omega)
      omega
    · omega
  · rcases Int.lt_or_le (q + r) (-1) with k | k
    · have : m * (q + r) ≤ m * (-2) := Int.mul_le_mul_of_nonneg_left (by omega) (by omega)
      omega
    · omega
theorem tdiv_floor {n m : Int} (hm : 0 < m) : (if n.tmod m < 0 then n.tdiv m - 1 else n.tdiv m) = n / m := by
  rcases Int.lt_or_le n 0 with h | h
  · rw [Int.tdiv_eq_ediv, Int.tmod_eq_emod]
    have hs : m.sign = 1 := Int.sign_eq_one_of_pos hm
    by_cases hd : m ∣ n
    · have : n % m = 0 := Int.emod_eq_zero_of_dvd hd
      simp [hd, this]
    · have hnz : n % m ≠ 0 := fun e => hd (Int.dvd_of_emod_eq_zero e)
      have a1 := Int.emod_nonneg n (show m ≠ 0 by omega)
      have a2 := Int.emod_lt_of_pos n hm
      have hn : ¬ (0 ≤ n ∨ m ∣ n) := by rintro (q | q); omega; exact hd q
      simp only [hn, if_false, hs]
      rw [if_pos (by omega)]; omega
  · rw [Int.tdiv_eq_ediv_of_nonneg h, Int.tmod_eq_emod_of_nonneg h, if_neg (by have := Int.emod_nonneg n (show m ≠ 0 by omega); omega)]
namespace N
set_option maxRecDepth 100000
set_option maxHeartbeats 0
theorem floorV_eq {n m : Int} (hn : -1000000000000000000 ≤ n ∧ n ≤ 1000000000000000000) (hm : 0 < m) : floorV n m = n / m ∧ -1000000000000000000 ≤ n / m ∧ n / m ≤ 1000000000000000000 := by
  have b1 : -1000000000000000000 ≤ n / m := by
    rw [Int.le_ediv_iff_mul_le hm]
    have : 1 * 1000000000000000000 ≤ m * 1000000000000000000 := Int.mul_le_mul_of_nonneg_right (by omega) (by omega)
    omega
  have b2 : n / m ≤ 1000000000000000000 := by
    have := Int.ediv_le_self m (show 0 ≤ (1000000000000000000 : Int) by omega)
    rcases Int.lt_or_le n 0 with h | h
    · have : n / m < 0 := Int.ediv_neg_of_neg_of_pos h hm
      omega
    · have := Int.ediv_le_self m h; omega
  refine ⟨?_, b1, b2⟩
  have e := tdiv_floor (n := n) hm
  have t1 : -1000000000000000000 ≤ n.tdiv m ∧ n.tdiv m ≤ 1000000000000000001 := by
    split at e <;> omega
  unfold floorV qmod qdiv
  rw [wrap_eq (n := n.tdiv m) (by omega) (by omega)]
  split
  · rename_i h; rw [if_pos h] at e; rw [wrap_eq (by omega) (by omega)]; exact e
  · rename_i h; rw [if_neg h] at e; exact e
theorem ceilV_eq {n m : Int} (hn : -1000000000000000000 ≤ n ∧ n ≤ 1000000000000000000) (hm : 0 < m) : ceilV n m = -((-n) / m) := by
  unfold ceilV
  obtain ⟨e, b1, b2⟩ := floorV_eq (n := -n) (by omega) hm
  rw [wrap_eq (n := -n) (by omega) (by omega), e, wrap_eq (by omega) (by omega)]
abbrev rg (lo hi : Int) : Value := .agg #[.int .i64 lo, .int .i64 hi]
abbrev rge (lo hi e : Int) : Value := .tuple #[rg lo hi, i64 e]
def rndE (n m t : Int) : Int := if checkFrac n m = 0 then (if within t 1 1000000000 then 0 else 2) else checkFrac n m
def rndL (n m t : Int) : Int := if checkFrac n m = 0 then (if within t 1 1000000000 then floorV (IntKind.wrap .i64 (t * n)) m else 0) else 0
def rndH (n m t : Int) : Int := if checkFrac n m = 0 then (if within t 1 1000000000 then ceilV (IntKind.wrap .i64 (t * n)) m else 0) else 0
theorem checkFrac_le {n m : Int} (h : checkFrac n m = 0) : 1 ≤ m ∧ m ≤ 1000000000 ∧ -1000000000 ≤ n ∧ n ≤ 1000000000 ∧ gcdL n m = 1 := by
  unfold checkFrac within at h; simp at h; grind
theorem c45 {d lim : Nat} {h : Heap} {n m t : Int} (hm : R64 m) : E.call (d + 3) lim 45 [fr n m, i64 t] h = some (rge (rndL n m t) (rndH n m t) (rndE n m t), h) := by
  refine call1 fn45 rfl (by simp [ef45]) ?_
  by_cases h1 : checkFrac n m = 0
  · have h0 : m ≠ 0 := by have := checkFrac_le h1; omega
    by_cases h2 : within t 1 1000000000 = true
    · simp [ef45, c64 hm, c77, h1, h2, c103 h0, c104 h0, rndL, rndH, rndE]
    · simp at h2
      simp [ef45, c64 hm, c77, h1, h2, rndL, rndH, rndE]
  · simp [ef45, c64 hm, h1, rndL, rndH, rndE]
theorem c46 {d lim : Nat} {h : Heap} {n m t : Int} (h0 : m ≠ 0) : E.call (d + 3) lim 46 [fr n m, i64 t] h = some (rg (floorV (IntKind.wrap .i64 (n * t)) m) (ceilV (IntKind.wrap .i64 (n * t)) m), h) := by
  refine call1 fn46 rfl (by simp [ef46]) ?_
  simp [ef46, c105 h0, c106 h0]
theorem law8 (lim : Nat) {n m t : Int} (hm : R64 m) : E.call 21 lim 8 [fr n m, i64 t] [primesB] = some (.bool true, [primesB]) := by
  refine call1 fn8 rfl (by simp [ef8]) ?_
  have hf : Heap.freeze [primesB] = [primesB] := rfl
  by_cases h1 : checkFrac n m = 0
  · have hb := checkFrac_le h1
    have h0 : m ≠ 0 := by omega
    by_cases h2 : within t 1 1000000000 = true
    · have ht : 1 ≤ t ∧ t ≤ 1000000000 := by simpa [within] using h2
      have hq : (n * t).natAbs ≤ 1000000000 * 1000000000 := by rw [Int.natAbs_mul]; exact Nat.mul_le_mul (by omega) (by omega)
      have e1 : IntKind.wrap .i64 (t * n) = IntKind.wrap .i64 (n * t) := by rw [Int.mul_comm]
      have e2 : IntKind.wrap .i64 (n * t) = n * t := wrap_eq (by omega) (by omega)
      obtain ⟨f1, b1, b2⟩ := floorV_eq (n := n * t) (m := m) (by omega) (by omega)
      have f2 := ceilV_eq (n := n * t) (m := m) (by omega) (by omega)
      obtain ⟨f3, b3, b4⟩ := floorV_eq (n := -(n * t)) (m := m) (by omega) (by omega)
      have hd := ediv_neg_sum (n := n * t) (m := m) (by omega)
      have f4 : within (IntKind.wrap .i64 (ceilV (n * t) m - floorV (n * t) m)) 0 1 = true := by
        rw [f1, f2, wrap_eq (by omega) (by omega)]; simp [within]; omega
      simp [ef8, hf, Heap.push, Heap.get, Heap.put, Heap.part, Heap.cell, awake1, c45 hm, c43 hm, c22, c46 h0, h1, h2, rndE, rndL, rndH, e1, e2, f4]
    · simp at h2
      simp [ef8, hf, Heap.push, Heap.get, Heap.put, Heap.part, awake1, c45 hm, c43 hm, c22, h1, h2, rndE, rndL, rndH]
  · simp [ef8, hf, Heap.push, Heap.get, Heap.put, Heap.part, awake1, c45 hm, c43 hm, c22, h1, rndE, rndL, rndH]
theorem numberRounded_law : ∀ (bs : List (Option Blk)) us, Heap.freeze ([primesB] ++ bs) = [primesB] ++ bs → (∀ n, ctBlocks (([(true, [ctI, ctI]), (false, [ctI])] : List (Bool × List CT)).flatMap (·.2)) = some n → bs.length = n) →
    ArgsV 6 ([primesB] ++ bs) [(true, [ctI, ctI]), (false, [ctI])] us → ∃ h', E.call 21 (([primesB] : Heap) ++ bs).length 8 us ([primesB] ++ bs) = some (.bool true, h') := by
  intro bs us _ k a
  obtain rfl := none_of k rfl
  obtain ⟨u, v, rfl, a1, a2⟩ := args2 a
  obtain ⟨x, y, rfl, _, hy⟩ := arg_agg2 a1
  obtain ⟨z, rfl, _⟩ := arg_int a2
  exact ⟨_, law8 _ hy⟩
end N
end Go.Abs
