/- Roots: the functions of the program and of the reference, and the law NumberRoots. -/
import Derived.Test.YtodofkolnmoliaaDoorAbsXF2
import Derived.Test.YtodofkolnmoliaaDoorAbsXM
import Derived.Test.YtodofkolnmoliaaDoorAbsXArgs
set_option linter.unusedSimpArgs false
set_option linter.unusedVariables false

namespace Go.Abs
theorem qdiv_pos {a b : Int} (ha : 0 ≤ a) : qdiv a b = a / b := by unfold qdiv; exact Int.tdiv_eq_ediv_of_nonneg ha
theorem pow_gt {x n : Int} {i k : Nat} (hx : 0 ≤ x) (hik : i < k) (h : n < x ^ i * x) (hn : 0 ≤ n) : n < x ^ k := by
  rcases Int.lt_or_le x 1 with q | q
  · have : x = 0 := by omega
    subst this; simp at h; omega
  · have e : x ^ k = x ^ (i + 1) * x ^ (k - (i + 1)) := by rw [← Int.pow_add]; congr 1; omega
    have p1 : 1 ≤ x ^ (k - (i + 1)) := Int.pow_pos (by omega : (0:Int) < x)
    rw [e, Int.pow_succ]
    have := Int.mul_le_mul_of_nonneg_left p1 (show 0 ≤ x ^ i * x by omega)
    omega
namespace X
set_option maxRecDepth 100000
set_option maxHeartbeats 0
theorem c180 {d lim : Nat} {h : Heap} {x n : Int} {k : Nat} (hx : 0 ≤ x ∧ x < 9223372036854775808) (hn : 0 ≤ n ∧ n < 9223372036854775808) (hk : 1 ≤ k ∧ k ≤ 12) :
    E.call (d + 2) lim 180 [.int .i64 x, .int .i64 k, .int .i64 n] h = some (.bool (decide (x ^ k ≤ n)), h) := by
  refine call1 fn180 rfl (by simp [ef180]) ?_
  simp [ef180]
  refine wpC_loop (fun m st => ∃ i : Nat, m = k - i ∧ i ≤ k ∧ (i = 0 ∨ x ^ i ≤ n) ∧ st = ⟨[(0, .int .i64 x), (2, .int .i64 n), (7, .int .i64 (x ^ i)), (10, .int .i64 k), (11, .int .i64 i)], h.freeze⟩) k (by show k < 2 ^ 64; omega) ?_ ?_
  · simp [St.tidy]
    exact ⟨0, by simp, by omega, .inl rfl, by simp⟩
  · rintro m hm _ ⟨i, rfl, hik, hp, rfl⟩
    by_cases hlt : i < k
    · have hp0 : 0 ≤ x ^ i := Int.pow_nonneg hx.1
      have hp1 : x ^ i < 9223372036854775808 := by
        rcases hp with rfl | hp
        · simp
        · omega
      have u1 : IntKind.wrap .u64 (x ^ i) = x ^ i := wrapUR ⟨hp0, by omega⟩
      have u2 : IntKind.wrap .u64 x = x := wrapUR ⟨hx.1, by omega⟩
      have u3 : IntKind.wrap .u64 n = n := wrapUR ⟨hn.1, by omega⟩
      have u4 : IntKind.wrap .i64 (↑i + 1) = ↑(i + 1) := by rw [wrap_eq (by omega) (by omega)]; rfl
      have c := @c165 d (List.length h) h.freeze (x ^ i) x ⟨hp0, by omega⟩ ⟨hx.1, by omega⟩
      have m0 : 0 ≤ x ^ i * x := Int.mul_nonneg hp0 hx.1
      by_cases hle : x ^ i * x ≤ n
      · have v1 : x ^ i * x / 18446744073709551616 = 0 := Int.ediv_eq_zero_of_lt m0 (by omega)
        have v2 : x ^ i * x % 18446744073709551616 = x ^ i * x := Int.emod_eq_of_lt m0 (by omega)
        have v3 : IntKind.wrap .i64 (x ^ i * x) = x ^ i * x := wrap_eq (by omega) (by omega)
        simp [St.tidy, u1, u2, u3, u4, c, v1, v2, v3, hlt, hle]
        exact ⟨fun q => absurd q (by omega), k - (i + 1), by omega, i + 1, rfl, by omega, .inr (by rw [Int.pow_succ]; exact hle), by rw [Int.pow_succ], by omega⟩
      · have hgt : ¬ x ^ k ≤ n := by
          have := pow_gt hx.1 hlt (show n < x ^ i * x by omega) hn.1; omega
        by_cases v1 : x ^ i * x / 18446744073709551616 = 0
        · have v2 : x ^ i * x % 18446744073709551616 = x ^ i * x := by omega
          simp [St.tidy, u1, u2, u3, u4, c, v1, v2, hlt, hle, hgt]
        · simp [St.tidy, u1, u2, u3, u4, c, v1, hlt, hgt]
    · have : i = k := by omega
      subst this
      simp [St.tidy]
theorem c161 {d lim : Nat} {h : Heap} {x n : Int} {k : Nat} (hx : 0 ≤ x ∧ x < 9223372036854775808) (hn : 0 ≤ n ∧ n < 9223372036854775808) (hk : 1 ≤ k ∧ k ≤ 12) :
    E.call (d + 1) lim 161 [.int .i64 x, .int .i64 k, .int .i64 n] h = some (.bool (decide (x ^ k ≤ n)), h) := by
  refine call1 fn161 rfl (by simp [ef161]) ?_
  simp [ef161]
  refine wpC_loop (fun m st => ∃ i : Nat, m = k - i ∧ i ≤ k ∧ (i = 0 ∨ x ^ i ≤ n) ∧ st = ⟨[(0, .int .i64 x), (1, .int .i64 k), (2, .int .i64 n), (7, .int .i64 (x ^ i)), (8, .int .i64 i)], h.freeze⟩) k (by show k < 2 ^ 64; omega) ?_ ?_
  · simp [St.tidy]
    exact ⟨0, by simp, by omega, .inl rfl, by simp⟩
  · rintro m hm _ ⟨i, rfl, hik, hp, rfl⟩
    by_cases hlt : i < k
    · have hp0 : 0 ≤ x ^ i := Int.pow_nonneg hx.1
      have u4 : IntKind.wrap .i64 (↑i + 1) = ↑(i + 1) := by rw [wrap_eq (by omega) (by omega)]; rfl
      have m0 : 0 ≤ x ^ i * x := Int.mul_nonneg hp0 hx.1
      have q1 := qdiv_pos (b := x) hn.1
      have q3 : 0 ≤ n / x := Int.ediv_nonneg hn.1 hx.1
      have q4 : n / x ≤ n := Int.ediv_le_self _ hn.1
      have q2 : IntKind.wrap .i64 (n / x) = n / x := wrap_eq (by omega) (by omega)
      by_cases hx0 : x = 0
      · subst hx0
        have v3 : IntKind.wrap .i64 0 = 0 := rfl
        simp [St.tidy, u4, hlt, v3]
        exact ⟨k - (i + 1), by omega, i + 1, rfl, by omega, .inr (by rw [Int.pow_succ]; simp; omega), by rw [Int.pow_succ]; simp, by omega⟩
      · have hxp : 0 < x := by omega
        have hiff : x ^ i ≤ n / x ↔ x ^ i * x ≤ n := Int.le_ediv_iff_mul_le hxp
        by_cases hle : x ^ i * x ≤ n
        · have w1 := hiff.2 hle
          have w2 : ¬ n / x < x ^ i := by omega
          have v3 : IntKind.wrap .i64 (x ^ i * x) = x ^ i * x := wrap_eq (by omega) (by omega)
          simp [St.tidy, u4, v3, hlt, hxp, hx0, q1, q2, w2]
          exact ⟨k - (i + 1), by omega, i + 1, rfl, by omega, .inr (by rw [Int.pow_succ]; exact hle), by rw [Int.pow_succ], by omega⟩
        · have hgt : ¬ x ^ k ≤ n := by
            have := pow_gt hx.1 hlt (show n < x ^ i * x by omega) hn.1; omega
          have w2 : n / x < x ^ i := by
            rcases Int.lt_or_le (n / x) (x ^ i) with q | q
            · exact q
            · exact absurd (hiff.1 q) hle
          simp [St.tidy, hlt, hxp, hx0, q1, q2, w2, hgt]
    · have : i = k := by omega
      subst this
      simp [St.tidy]
/-- Halving: the greatest number up to high that passes a test. -/
def rootL (le : Int → Bool) (low high : Int) : Int := if low < high then (if le (high - (high - low) / 2) then rootL le (high - (high - low) / 2) high else rootL le low (high - (high - low) / 2 - 1)) else low
termination_by (high - low).toNat
decreasing_by
  all_goals omega
theorem c118 {d lim : Nat} {h : Heap} {n : Int} {k : Nat} (hn : 0 ≤ n ∧ n < 9223372036854775808) (hk : 1 ≤ k ∧ k ≤ 12) :
    E.call (d + 2) lim 118 [.int .i64 n, .int .i64 k] h = some (.int .i64 (rootL (fun x => decide (x ^ k ≤ n)) 0 n), h) := by
  refine call1 fn118 rfl (by simp [ef118]) ?_
  simp [ef118]
  refine wpC_loop (fun m st => ∃ lo hi : Int, m = (hi - lo).toNat ∧ 0 ≤ lo ∧ hi ≤ n ∧ lo ≤ hi ∧ rootL (fun x => decide (x ^ k ≤ n)) lo hi = rootL (fun x => decide (x ^ k ≤ n)) 0 n ∧ st = ⟨[(0, .int .i64 n), (1, .int .i64 k), (5, .int .i64 lo), (6, .int .i64 hi)], h.freeze⟩) n.toNat (by show n.toNat < 2 ^ 64; omega) ?_ ?_
  · simp [St.tidy]
    exact ⟨0, n, by simp, by omega, by omega, by omega, rfl, rfl, rfl⟩
  · rintro m hm _ ⟨lo, hi, rfl, h0, h1, h2, hr, rfl⟩
    by_cases hlt : lo < hi
    · have q0 := qdiv_pos (a := hi - lo) (b := 2) (by omega)
      have q1 : IntKind.wrap .i64 (hi - lo) = hi - lo := wrap_eq (by omega) (by omega)
      have q2 : IntKind.wrap .i64 ((hi - lo) / 2) = (hi - lo) / 2 := wrap_eq (by omega) (by omega)
      have q3 : IntKind.wrap .i64 (hi - (hi - lo) / 2) = hi - (hi - lo) / 2 := wrap_eq (by omega) (by omega)
      have q4 : IntKind.wrap .i64 (hi - (hi - lo) / 2 - 1) = hi - (hi - lo) / 2 - 1 := wrap_eq (by omega) (by omega)
      have c := @c161 d (List.length h) h.freeze (hi - (hi - lo) / 2) n k (by omega) hn hk
      rw [rootL, if_pos hlt] at hr
      by_cases hle : (hi - (hi - lo) / 2) ^ k ≤ n
      · rw [if_pos (by simpa using hle)] at hr
        simp [St.tidy, hlt, q0, q1, q2, q3, c, hle]
        exact ⟨_, by omega, _, _, rfl, by omega, by omega, by omega, hr, rfl, rfl⟩
      · rw [if_neg (by simpa using hle)] at hr
        simp [St.tidy, hlt, q0, q1, q2, q3, q4, c, hle]
        exact ⟨_, by omega, _, _, rfl, by omega, by omega, by omega, hr, rfl, rfl⟩
    · rw [rootL, if_neg hlt] at hr
      simp [St.tidy, hlt]
      exact hr
theorem c160 {d lim : Nat} {h : Heap} {n : Int} {k : Nat} (hn : 0 ≤ n ∧ n ≤ 1000000000000000000) (hk : 1 ≤ k ∧ k ≤ 12) :
    E.call (d + 3) lim 160 [.int .i64 n, .int .i64 k] h = some (.tuple #[i64 (rootL (fun x => decide (x ^ k ≤ n)) 0 n), i64 0], h) := by
  refine call1 fn160 rfl (by simp [ef160]) ?_
  have w1 : within n 0 1000000000000000000 = true := by simp [within]; omega
  have w2 : within k 1 12 = true := by simp [within]; omega
  simp [ef160, c121, w1, w2]
  refine wpC_loop (fun m st => ∃ lo hi : Int, m = (hi - lo).toNat ∧ 0 ≤ lo ∧ hi ≤ n ∧ lo ≤ hi ∧ rootL (fun x => decide (x ^ k ≤ n)) lo hi = rootL (fun x => decide (x ^ k ≤ n)) 0 n ∧ st = ⟨[(0, .int .i64 n), (1, .int .i64 k), (6, .int .i64 lo), (7, .int .i64 hi)], h.freeze⟩) n.toNat (by show n.toNat < 2 ^ 64; omega) ?_ ?_
  · simp [St.tidy]
    exact ⟨0, n, by simp, by omega, by omega, by omega, rfl, rfl, rfl⟩
  · rintro m hm _ ⟨lo, hi, rfl, h0, h1, h2, hr, rfl⟩
    by_cases hlt : lo < hi
    · have q0 := qdiv_pos (a := hi - lo) (b := 2) (by omega)
      have q1 : IntKind.wrap .i64 (hi - lo) = hi - lo := wrap_eq (by omega) (by omega)
      have q2 : IntKind.wrap .i64 ((hi - lo) / 2) = (hi - lo) / 2 := wrap_eq (by omega) (by omega)
      have q3 : IntKind.wrap .i64 (hi - (hi - lo) / 2) = hi - (hi - lo) / 2 := wrap_eq (by omega) (by omega)
      have q4 : IntKind.wrap .i64 (hi - (hi - lo) / 2 - 1) = hi - (hi - lo) / 2 - 1 := wrap_eq (by omega) (by omega)
      have c := @c180 d (List.length h) h.freeze (hi - (hi - lo) / 2) n k (by omega) (by omega) hk
      rw [rootL, if_pos hlt] at hr
      by_cases hle : (hi - (hi - lo) / 2) ^ k ≤ n
      · rw [if_pos (by simpa using hle)] at hr
        simp [St.tidy, hlt, q0, q1, q2, q3, c, hle]
        exact ⟨_, by omega, _, _, rfl, by omega, by omega, by omega, hr, rfl, rfl⟩
      · rw [if_neg (by simpa using hle)] at hr
        simp [St.tidy, hlt, q0, q1, q2, q3, q4, c, hle]
        exact ⟨_, by omega, _, _, rfl, by omega, by omega, by omega, hr, rfl, rfl⟩
    · rw [rootL, if_neg hlt] at hr
      simp [St.tidy, hlt]
      exact hr
end X
end Go.Abs
