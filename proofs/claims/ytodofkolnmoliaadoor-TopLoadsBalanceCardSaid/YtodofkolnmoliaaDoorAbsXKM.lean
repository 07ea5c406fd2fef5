/- Chapter 3: pulls: plain. -/
import Derived.Test.YtodofkolnmoliaaDoorAbsXQ
import Derived.Test.YtodofkolnmoliaaDoorAbsXHM
import Derived.Test.YtodofkolnmoliaaDoorAbsXD
set_option linter.unusedSimpArgs false
set_option linter.unusedVariables false
/- Chapter 3: pulls: plain. -/
namespace Go.Abs
namespace X
set_option maxRecDepth 100000
set_option maxHeartbeats 0
theorem rootL_spec {n : Int} : ∀ (k : Nat) (lo hi : Int), (hi - lo).toNat < k → 0 ≤ lo → lo ≤ hi → lo * lo ≤ n → (∀ x, hi < x → n < x * x) →
    0 ≤ rootL (fun x => decide (x ^ 2 ≤ n)) lo hi ∧ rootL (fun x => decide (x ^ 2 ≤ n)) lo hi * rootL (fun x => decide (x ^ 2 ≤ n)) lo hi ≤ n ∧ ∀ x, rootL (fun x => decide (x ^ 2 ≤ n)) lo hi < x → n < x * x
  | 0, lo, hi, h, _, _, _, _ => by omega
  | k + 1, lo, hi, h, h0, h1, h2, h3 => by
    rw [rootL]
    split
    · rename_i hlt
      have e2 : ∀ x : Int, x ^ 2 = x * x := fun x => by rw [Int.pow_succ, Int.pow_succ, Int.pow_zero, Int.one_mul]
      split
      · rename_i q
        have q' : (hi - (hi - lo) / 2) * (hi - (hi - lo) / 2) ≤ n := by have := of_decide_eq_true q; rwa [e2] at this
        exact rootL_spec k _ hi (by omega) (by omega) (by omega) q' h3
      · rename_i q
        have q' : ¬ (hi - (hi - lo) / 2) * (hi - (hi - lo) / 2) ≤ n := fun z => q (decide_eq_true (by rw [e2]; exact z))
        refine rootL_spec k lo _ (by omega) h0 (by omega) h2 fun x hx => ?_
        have m : (hi - (hi - lo) / 2) * (hi - (hi - lo) / 2) ≤ x * x := Int.mul_le_mul (by omega) (by omega) (by omega) (by omega)
        omega
    · obtain rfl : lo = hi := by omega
      exact ⟨h0, h2, h3⟩
def rtF (D : Int) : Int := rootL (fun x => decide (x ^ 2 ≤ D)) 0 D
theorem rtF_spec {D : Int} (h : 0 ≤ D) : 0 ≤ rtF D ∧ rtF D * rtF D ≤ D ∧ ∀ x, rtF D < x → D < x * x := by
  refine rootL_spec (D.toNat + 1) 0 D (by omega) (by omega) h (by simpa using h) fun x hx => ?_
  have : x * 1 ≤ x * x := Int.mul_le_mul_of_nonneg_left (by omega) (by omega)
  omega
def rtU (D : Int) : Int := if rtF D * rtF D = D then rtF D else rtF D + 1
theorem rtU_spec {D : Int} (h : 0 ≤ D) : rtF D ≤ rtU D ∧ rtU D ≤ rtF D + 1 ∧ D ≤ rtU D * rtU D := by
  obtain ⟨a, b, c⟩ := rtF_spec h
  unfold rtU
  split
  · exact ⟨by omega, by omega, by omega⟩
  · exact ⟨by omega, by omega, Int.le_of_lt (c _ (by omega))⟩
def sq3 (x y z : Int) : Int := 10000 * (x * x + y * y + z * z)
def dn (n m : Int) : Int := n / m
/-- A component of a pull. -/
def cmpV (a b s s' c : Int) : XR := if c < 0 then (-(up (100 * b * (-c)) s), -(100 * a * (-c) / s')) else (100 * a * c / s', up (100 * b * c) s)
def mnP (p : XR) : Int := if p.1 ≤ 0 ∧ 0 ≤ p.2 then 0 else min (absV p.1) (absV p.2)
def mxP (p : XR) : Int := max (absV p.1) (absV p.2)
theorem absV_eq {n : Int} (h : -1000000000 ≤ n ∧ n ≤ 1000000000) : absV n = n.natAbs := by
  unfold absV
  split
  · rw [wrap_eq (by omega) (by omega)]; omega
  · omega
/-- What holds of a component. -/
theorem cmp_ok {a b s s' c : Int} (hab : 0 ≤ a ∧ a ≤ b ∧ b ≤ 1000000) (hs : 100 ≤ s) (hs' : s ≤ s') (hc : -1000000 ≤ c ∧ c ≤ 1000000) (hcs : 100 * c.natAbs ≤ s + 1) :
    (-2000000 ≤ (cmpV a b s s' c).1 ∧ (cmpV a b s s' c).1 ≤ (cmpV a b s s' c).2 ∧ (cmpV a b s s' c).2 ≤ 2000000) ∧ cmpV a b s s' (-c) = (-(cmpV a b s s' c).2, -(cmpV a b s s' c).1) ∧
    0 ≤ mnP (cmpV a b s s' c) ∧ mnP (cmpV a b s s' c) * s' ≤ 100 * a * c.natAbs ∧ 100 * b * c.natAbs ≤ mxP (cmpV a b s s' c) * s ∧ 0 ≤ mxP (cmpV a b s s' c) ∧ mnP (cmpV a b s s' c) ≤ 2000000 ∧ mxP (cmpV a b s s' c) ≤ 2000000 := by
  have key : ∀ m : Int, 0 ≤ m → 100 * m ≤ s + 1 → 0 ≤ 100 * a * m / s' ∧ 100 * a * m / s' ≤ up (100 * b * m) s ∧ up (100 * b * m) s ≤ 2000000 ∧ 100 * a * m / s' * s' ≤ 100 * a * m ∧ 100 * b * m ≤ up (100 * b * m) s * s ∧ (m = 0 → up (100 * b * m) s = 0 ∧ 100 * a * m / s' = 0) := by
    intro m hm hms
    have n1 : 0 ≤ 100 * a * m := Int.mul_nonneg (by omega) hm
    have n2 : 100 * a * m ≤ 100 * b * m := Int.mul_le_mul_of_nonneg_right (by omega) hm
    have n3 : 100 * b * m ≤ b * (s + 1) := by
      have : b * (100 * m) ≤ b * (s + 1) := Int.mul_le_mul_of_nonneg_left hms (by omega)
      have e : b * (100 * m) = 100 * b * m := by rw [← Int.mul_assoc, Int.mul_comm b 100]
      omega
    have n4 : b * (s + 1) ≤ 2000000 * s := by
      have : b * (s + 1) ≤ 1000000 * (s + 1) := Int.mul_le_mul_of_nonneg_right (by omega) (by omega)
      omega
    have d1 : 0 ≤ 100 * a * m / s' := Int.ediv_nonneg n1 (by omega)
    have d2 : 100 * a * m / s' * s' ≤ 100 * a * m := Int.ediv_mul_le _ (by omega)
    have u1 : 100 * b * m ≤ up (100 * b * m) s * s := by
      unfold up
      have := Int.lt_ediv_add_one_mul_self (100 * b * m + s - 1) (show 0 < s by omega)
      rw [Int.add_mul] at this
      omega
    have u2 : up (100 * b * m) s ≤ 2000000 := by
      unfold up
      have : 100 * b * m + s - 1 < (2000000 + 1) * s := by omega
      have := Int.ediv_lt_of_lt_mul (show 0 < s by omega) this
      omega
    have u0 : 0 ≤ up (100 * b * m) s := Int.ediv_nonneg (by omega) (by omega)
    refine ⟨d1, ?_, u2, d2, u1, ?_⟩
    · have x1 : 100 * a * m / s' * s ≤ 100 * a * m / s' * s' := Int.mul_le_mul_of_nonneg_left hs' d1
      have x2 : 100 * a * m / s' * s ≤ up (100 * b * m) s * s := by omega
      exact Int.le_of_mul_le_mul_right x2 (by omega)
    · rintro rfl
      unfold up
      rw [Int.mul_zero, Int.mul_zero]
      exact ⟨Int.ediv_eq_zero_of_lt (by omega) (by omega), Int.zero_ediv _⟩
  have K := key c.natAbs (by omega) (by omega)
  unfold cmpV
  rcases Int.lt_or_le c 0 with z | z
  · have e : (c.natAbs : Int) = -c := by omega
    rw [e] at K ⊢
    rw [if_pos z, if_neg (by omega)]
    generalize 100 * a * (-c) / s' = A at *
    generalize up (100 * b * (-c)) s = B at *
    obtain ⟨k1, k2, k3, k4, k5, k6⟩ := K
    have a1 := absV_eq (n := -B) (by omega)
    have a2 := absV_eq (n := -A) (by omega)
    refine ⟨⟨by simp only; omega, by simp only; omega, by simp only; omega⟩, by simp, ?_⟩
    unfold mnP mxP
    simp only
    rw [a1, a2]
    have x1 : max ((-B).natAbs : Int) ((-A).natAbs : Int) = B := by omega
    have x2 : (if -B ≤ 0 ∧ 0 ≤ -A then (0 : Int) else min ((-B).natAbs : Int) ((-A).natAbs : Int)) = A := by
      split
      · omega
      · omega
    rw [x1, x2]
    exact ⟨k1, k4, k5, by omega, by omega, k3⟩
  · have e : (c.natAbs : Int) = c := by omega
    rw [e] at K ⊢
    rw [if_neg (by omega)]
    obtain ⟨k1, k2, k3, k4, k5, k6⟩ := K
    have neg : (if -c < 0 then (-(up (100 * b * (- -c)) s), -(100 * a * (- -c) / s')) else (100 * a * (-c) / s', up (100 * b * (-c)) s)) = (-(up (100 * b * c) s), -(100 * a * c / s')) := by
      rcases Int.lt_or_le 0 c with zz | zz
      rotate_left
      · obtain rfl : c = 0 := by omega
        obtain ⟨y1, y2⟩ := k6 rfl
        rw [if_neg (by omega)]
        simp only [Int.neg_zero]
        rw [y1, y2]; rfl
      · rw [if_pos (by omega), Int.neg_neg]
    rw [neg]
    generalize 100 * a * c / s' = A at *
    generalize up (100 * b * c) s = B at *
    have a1 := absV_eq (n := B) (by omega)
    have a2 := absV_eq (n := A) (by omega)
    refine ⟨⟨by simp only; omega, by simp only; omega, by simp only; omega⟩, rfl, ?_⟩
    unfold mnP mxP
    simp only
    rw [a1, a2]
    have x1 : max ((A).natAbs : Int) ((B).natAbs : Int) = B := by omega
    have x2 : (if A ≤ 0 ∧ 0 ≤ B then (0 : Int) else min ((A).natAbs : Int) ((B).natAbs : Int)) = A := by
      split
      · omega
      · omega
    rw [x1, x2]
    exact ⟨k1, k4, k5, by omega, by omega, k3⟩
end X
end Go.Abs
/- Chapter 3: pulls: the sums of squares. -/
namespace Go.Abs
namespace X
set_option maxRecDepth 100000
set_option maxHeartbeats 0
theorem sq_le {a b : Int} (h0 : 0 ≤ a) (h : a ≤ b) : a * a ≤ b * b := Int.mul_le_mul h h h0 (by omega)
/-- The roots of right differences. -/
structure RtOk (x y z : Int) : Prop where
  s : 100 ≤ rtF (sq3 x y z)
  s' : rtF (sq3 x y z) ≤ rtU (sq3 x y z) ∧ rtU (sq3 x y z) ≤ rtF (sq3 x y z) + 1
  lo : rtF (sq3 x y z) * rtF (sq3 x y z) ≤ sq3 x y z
  hi : sq3 x y z ≤ rtU (sq3 x y z) * rtU (sq3 x y z)
  bx : 100 * (x.natAbs : Int) ≤ rtF (sq3 x y z) + 1
  bY : 100 * (y.natAbs : Int) ≤ rtF (sq3 x y z) + 1
  bz : 100 * (z.natAbs : Int) ≤ rtF (sq3 x y z) + 1
  big : 10000 ≤ sq3 x y z ∧ sq3 x y z ≤ 30000000000000000
theorem sq_nat (x : Int) : (x.natAbs : Int) * x.natAbs = x * x := Int.natAbs_mul_self' x
theorem sq_pos {x : Int} (h : x ≠ 0) : 1 ≤ x * x := by
  have : (1 : Int) * 1 ≤ (x.natAbs : Int) * x.natAbs := Int.mul_le_mul (by omega) (by omega) (by omega) (by omega)
  rw [sq_nat] at this; omega
theorem sq_nn (x : Int) : 0 ≤ x * x := by rw [← sq_nat]; exact Int.mul_nonneg (by omega) (by omega)
theorem sq_b {x : Int} (h : -1000000 ≤ x ∧ x ≤ 1000000) : x * x ≤ 1000000000000 := by
  have : (x.natAbs : Int) * x.natAbs ≤ (1000000 : Int) * 1000000 := Int.mul_le_mul (by omega) (by omega) (by omega) (by omega)
  rw [sq_nat] at this; omega
theorem RtOk.of {x y z : Int} (hx : -1000000 ≤ x ∧ x ≤ 1000000) (hy : -1000000 ≤ y ∧ y ≤ 1000000) (hz : -1000000 ≤ z ∧ z ≤ 1000000) (h : ¬ (x = 0 ∧ y = 0 ∧ z = 0)) : RtOk x y z := by
  have x1 := sq_nn x
  have y1 := sq_nn y
  have z1 := sq_nn z
  have x2 := sq_b hx
  have y2 := sq_b hy
  have z2 := sq_b hz
  have pos : 1 ≤ x * x + y * y + z * z := by
    by_cases a : x = 0
    · by_cases b : y = 0
      · have := sq_pos (x := z) (fun c => h ⟨a, b, c⟩); omega
      · have := sq_pos b; omega
    · have := sq_pos a; omega
  have D : sq3 x y z = 10000 * (x * x + y * y + z * z) := rfl
  have bg : 10000 ≤ sq3 x y z ∧ sq3 x y z ≤ 30000000000000000 := by omega
  obtain ⟨r1, r2, r3⟩ := rtF_spec (D := sq3 x y z) (by omega)
  obtain ⟨u1, u2, u3⟩ := rtU_spec (D := sq3 x y z) (by omega)
  have s100 : 100 ≤ rtF (sq3 x y z) := by
    rcases Int.lt_or_le (rtF (sq3 x y z)) 100 with q | q
    · have := r3 100 q; omega
    · exact q
  have comp : ∀ c : Int, c * c ≤ x * x + y * y + z * z → 100 * (c.natAbs : Int) ≤ rtF (sq3 x y z) + 1 := by
    intro c hc
    rcases Int.lt_or_le (rtF (sq3 x y z)) (100 * (c.natAbs : Int)) with q | q
    · have := r3 _ q
      have e : 100 * (c.natAbs : Int) * (100 * (c.natAbs : Int)) = 10000 * (c * c) := by rw [← sq_nat c]; grind
      omega
    · omega
  exact ⟨s100, ⟨u1, u2⟩, r2, u3, comp x (by omega), comp y (by omega), comp z (by omega), bg⟩
theorem sum_ok {a b s s' p1 p2 p3 q1 q2 q3 x y z : Int} (hab : 0 ≤ a ∧ a ≤ b) (hs : 0 < s) (hs' : s ≤ s') (hlo : s * s ≤ 10000 * (x * x + y * y + z * z)) (hhi : 10000 * (x * x + y * y + z * z) ≤ s' * s')
    (hp : 0 ≤ p1 ∧ 0 ≤ p2 ∧ 0 ≤ p3) (h1 : p1 * s' ≤ 100 * a * x.natAbs) (h2 : p2 * s' ≤ 100 * a * y.natAbs) (h3 : p3 * s' ≤ 100 * a * z.natAbs)
    (g1 : 100 * b * x.natAbs ≤ q1 * s) (g2 : 100 * b * y.natAbs ≤ q2 * s) (g3 : 100 * b * z.natAbs ≤ q3 * s) :
    p1 * p1 + p2 * p2 + p3 * p3 ≤ b * b ∧ a * a ≤ q1 * q1 + q2 * q2 + q3 * q3 := by
  have key : ∀ (k c : Int), (100 * k * (c.natAbs : Int)) * (100 * k * (c.natAbs : Int)) = k * k * (10000 * (c * c)) := fun k c => by rw [← sq_nat c]; grind
  have np : ∀ p : Int, 0 ≤ p → 0 ≤ p * s' := fun p hp => Int.mul_nonneg hp (by omega)
  have nb : ∀ c : Int, 0 ≤ 100 * b * (c.natAbs : Int) := fun c => Int.mul_nonneg (by omega) (by omega)
  have A1 := sq_le (np _ hp.1) h1
  have A2 := sq_le (np _ hp.2.1) h2
  have A3 := sq_le (np _ hp.2.2) h3
  have B1 := sq_le (nb x) g1
  have B2 := sq_le (nb y) g2
  have B3 := sq_le (nb z) g3
  rw [key] at A1 A2 A3 B1 B2 B3
  have ab := sq_le hab.1 hab.2
  have a0 := sq_nn a
  have b0 := sq_nn b
  constructor
  · have e : (p1 * p1 + p2 * p2 + p3 * p3) * (s' * s') ≤ a * a * (10000 * (x * x + y * y + z * z)) := by
      have l : (p1 * p1 + p2 * p2 + p3 * p3) * (s' * s') = p1 * s' * (p1 * s') + p2 * s' * (p2 * s') + p3 * s' * (p3 * s') := by grind
      have r : a * a * (10000 * (x * x + y * y + z * z)) = a * a * (10000 * (x * x)) + a * a * (10000 * (y * y)) + a * a * (10000 * (z * z)) := by grind
      rw [l, r]; omega
    have e2 : a * a * (10000 * (x * x + y * y + z * z)) ≤ a * a * (s' * s') := Int.mul_le_mul_of_nonneg_left hhi a0
    have sp : 0 < s' * s' := Int.mul_pos (by omega) (by omega)
    have := Int.le_of_mul_le_mul_right (Int.le_trans e e2) sp
    omega
  · have e : b * b * (10000 * (x * x + y * y + z * z)) ≤ (q1 * q1 + q2 * q2 + q3 * q3) * (s * s) := by
      have l : (q1 * q1 + q2 * q2 + q3 * q3) * (s * s) = q1 * s * (q1 * s) + q2 * s * (q2 * s) + q3 * s * (q3 * s) := by grind
      have r : b * b * (10000 * (x * x + y * y + z * z)) = b * b * (10000 * (x * x)) + b * b * (10000 * (y * y)) + b * b * (10000 * (z * z)) := by grind
      rw [l, r]; omega
    have e2 : b * b * (s * s) ≤ b * b * (10000 * (x * x + y * y + z * z)) := Int.mul_le_mul_of_nonneg_left hlo b0
    have sp : 0 < s * s := Int.mul_pos hs hs
    have := Int.le_of_mul_le_mul_right (Int.le_trans e2 e) sp
    omega
end X
end Go.Abs
/- Chapter 3: pulls: the program's parts. -/
namespace Go.Abs
namespace X
set_option maxRecDepth 100000
set_option maxHeartbeats 0
theorem c111 {d lim : Nat} {h : Heap} {a b k : Int} (h1 : 0 ≤ a ∧ a ≤ b ∧ b ≤ k) : E.call (d + 1) lim 111 [rgV a b, i64 k] h = some (.bool true, h) := by
  obtain ⟨x, y, z⟩ := h1
  refine call1 fn111 rfl (by simp [ef111]) ?_
  simp [ef111, x, y, z]
theorem c114 {d lim : Nat} {h : Heap} {n m : Int} (hm : m ≠ 0) : E.call (d + 1) lim 114 [i64 n, i64 m] h = some (i64 (floorV n m), h) := by
  refine call1 fn114 rfl (by simp [ef114]) ?_
  simp [ef114, hm]
  grind [floorV]
theorem c115 {d lim : Nat} {h : Heap} {n m : Int} (hm : m ≠ 0) : E.call (d + 2) lim 115 [i64 n, i64 m] h = some (i64 (ceilV n m), h) := by
  refine call1 fn115 rfl (by simp [ef115]) ?_
  simp [ef115, c114 hm, ceilV]
theorem c116 {d lim : Nat} {h : Heap} {a b : Int} : E.call (d + 1) lim 116 [rgV a b] h = some (rgV (wr (-b)) (wr (-a)), h) := by
  refine call1 fn116 rfl (by simp [ef116]) ?_
  simp [ef116]
theorem c113 {d lim : Nat} {h : Heap} {D : Int} (hD : 0 ≤ D ∧ D ≤ 1000000000000000000) : E.call (d + 4) lim 113 [i64 D] h = some (rgV (rtF D) (rtU D), h) := by
  have k160 := fun lim hh => c160 (d := d) (lim := lim) (h := hh) (n := D) (k := 2) hD (by omega)
  obtain ⟨a, b, c⟩ := rtF_spec hD.1
  have le : rtF D ≤ 1000000000 := by
    rcases Int.lt_or_le 1000000000 (rtF D) with q | q
    · have : (1000000001 : Int) * 1000000001 ≤ rtF D * rtF D := Int.mul_le_mul (by omega) (by omega) (by omega) (by omega)
      omega
    · exact q
  have e : rootL (fun x => decide (x ^ 2 ≤ D)) 0 D = rtF D := rfl
  have w1 : IntKind.wrap .i64 (rtF D * rtF D) = rtF D * rtF D := wrap_eq (by have := sq_nn (rtF D); omega) (by omega)
  have w2 : IntKind.wrap .i64 (rtF D + 1) = rtF D + 1 := wrap_eq (by omega) (by omega)
  refine call1 fn113 rfl (by simp [ef113]) ?_
  simp only [e, Int.cast_ofNat_Int] at k160
  unfold rtU
  by_cases q : rtF D * rtF D = D
  · have wD : IntKind.wrap .i64 D = D := wrap_eq (by omega) (by omega)
    simp [ef113, k160, w1, q, wD]
  · simp [ef113, k160, w1, w2, q]
def pqE (p1 p2 p3 q1 q2 q3 : Int) : Int := if plB p1 p2 p3 = false then 2 else if plB q1 q2 q3 = false then 2 else if plB (q1 - p1) (q2 - p2) (q3 - p3) = false then 2 else if q1 - p1 = 0 ∧ q2 - p2 = 0 ∧ q3 - p3 = 0 then 11 else 0
theorem winB_in (n : Int) : winB n 1000000 = within n (-1000000) 1000000 := by
  unfold winB within
  rw [show wr (-1000000) = -1000000 from rfl, Bool.decide_and]
theorem winB3 (a b c : Int) : (winB a 1000000 && winB b 1000000 && winB c 1000000) = plB a b c := by
  rw [winB_in, winB_in, winB_in]
  unfold plB
  rcases within a (-1000000) 1000000 with _ | _ <;> rcases within b (-1000000) 1000000 with _ | _ <;> rcases within c (-1000000) 1000000 with _ | _ <;> rfl
theorem plB_neg {a b c : Int} (h : plB a b c = true) : plB (-a) (-b) (-c) = true := by
  have := plB_ok h
  unfold plB
  have w : ∀ n : Int, -1000000 ≤ n ∧ n ≤ 1000000 → within n (-1000000) 1000000 = true := fun n hn => by simp [within]; omega
  rw [w _ (by omega), w _ (by omega), w _ (by omega)]; rfl
theorem pqE_sym {p1 p2 p3 q1 q2 q3 : Int} (h : pqE p1 p2 p3 q1 q2 q3 = 0) : pqE q1 q2 q3 p1 p2 p3 = 0 := by
  unfold pqE at h ⊢
  split at h
  · cases h
  · rename_i a
    split at h
    · cases h
    · rename_i b
      split at h
      · cases h
      · rename_i c
        split at h
        · cases h
        · rename_i e
          simp only [Bool.not_eq_false] at a b c
          have n := plB_neg c
          rw [Int.neg_sub, Int.neg_sub, Int.neg_sub] at n
          rw [if_neg (by rw [b]; simp), if_neg (by rw [a]; simp), if_neg (by rw [n]; simp), if_neg (by omega)]
/-- The components of a pull. -/
def pulV (a b x y z : Int) : Value := .agg #[i64 (cmpV a b (rtF (sq3 x y z)) (rtU (sq3 x y z)) x).1, i64 (cmpV a b (rtF (sq3 x y z)) (rtU (sq3 x y z)) x).2, i64 (cmpV a b (rtF (sq3 x y z)) (rtU (sq3 x y z)) y).1, i64 (cmpV a b (rtF (sq3 x y z)) (rtU (sq3 x y z)) y).2, i64 (cmpV a b (rtF (sq3 x y z)) (rtU (sq3 x y z)) z).1, i64 (cmpV a b (rtF (sq3 x y z)) (rtU (sq3 x y z)) z).2]
abbrev zero6 : Value := .agg #[i64 0, i64 0, i64 0, i64 0, i64 0, i64 0]
theorem c53a {d lim : Nat} {h : Heap} {a b p1 p2 p3 q1 q2 q3 : Int} (hab : 0 ≤ a ∧ a ≤ b ∧ b ≤ 1000000) (he : pqE p1 p2 p3 q1 q2 q3 ≠ 0) :
    E.call (d + 6) lim 53 [rgV a b, v3 p1 p2 p3, v3 q1 q2 q3] h = some (.tuple #[zero6, i64 (pqE p1 p2 p3 q1 q2 q3)], h) := by
  have k111 := fun lim hh => c111 (d := d + 4) (lim := lim) (h := hh) (a := a) (b := b) (k := 10000000000) (by omega)
  have k112 := fun lim hh a b c => c112 (d := d) (lim := lim) (h := hh) (a := a) (b := b) (c := c) (k := 1000000)
  have k110 := fun lim hh a b c x y z k => c110 (d := d + 4) (lim := lim) (h := hh) (a := a) (b := b) (c := c) (x := x) (y := y) (z := z) (k := k)
  simp only [winB3] at k112
  refine call1 fn53 rfl (by simp [ef53]) ?_
  unfold pqE at he ⊢
  rcases e1 : plB p1 p2 p3 with _ | _
  · simp [ef53, k111, k112, e1]
  rcases e2 : plB q1 q2 q3 with _ | _
  · simp [ef53, k111, k112, e1, e2]
  have b1 := plB_ok e1
  have b2 := plB_ok e2
  have n1 : IntKind.wrap .i64 (-p1) = -p1 := wrap_eq (by omega) (by omega)
  have n2 : IntKind.wrap .i64 (-p2) = -p2 := wrap_eq (by omega) (by omega)
  have n3 : IntKind.wrap .i64 (-p3) = -p3 := wrap_eq (by omega) (by omega)
  have u1 : IntKind.wrap .i64 (q1 + -p1) = q1 - p1 := by rw [wrap_eq (by omega) (by omega)]; omega
  have u2 : IntKind.wrap .i64 (q2 + -p2) = q2 - p2 := by rw [wrap_eq (by omega) (by omega)]; omega
  have u3 : IntKind.wrap .i64 (q3 + -p3) = q3 - p3 := by rw [wrap_eq (by omega) (by omega)]; omega
  rw [e1, e2] at he
  generalize q1 - p1 = x at *
  generalize q2 - p2 = y at *
  generalize q3 - p3 = z at *
  rcases e3 : plB x y z with _ | _
  · simp [ef53, k111, k112, k110, e1, e2, n1, n2, n3, u1, u2, u3, e3]
  rw [e3] at he
  have z0 : x = 0 ∧ y = 0 ∧ z = 0 := by
    by_cases q : x = 0 ∧ y = 0 ∧ z = 0
    · exact q
    · simp [q] at he
  obtain ⟨rfl, rfl, rfl⟩ := z0
  simp [ef53, k111, k112, k110, e1, e2, n1, n2, n3, u1, u2, u3, e3]
end X
end Go.Abs
/- Chapter 3: pulls: the program. -/
namespace Go.Abs
namespace X
set_option maxRecDepth 100000
set_option maxHeartbeats 0
/-- What the program's arithmetic gives for one component. -/
structure CpF (a b s s' c : Int) : Prop where
  m : ∀ v, v = max c (IntKind.wrap .i64 (-c)) → v = (c.natAbs : Int)
  a1 : IntKind.wrap .i64 (100 * a * (c.natAbs : Int)) = 100 * a * (c.natAbs : Int)
  b1 : IntKind.wrap .i64 (100 * b * (c.natAbs : Int)) = 100 * b * (c.natAbs : Int)
  fl : floorV (100 * a * (c.natAbs : Int)) s' = 100 * a * (c.natAbs : Int) / s'
  ce : ceilV (100 * b * (c.natAbs : Int)) s = up (100 * b * (c.natAbs : Int)) s
  n1 : IntKind.wrap .i64 (-(up (100 * b * (c.natAbs : Int)) s)) = -(up (100 * b * (c.natAbs : Int)) s)
  n2 : IntKind.wrap .i64 (-(100 * a * (c.natAbs : Int) / s')) = -(100 * a * (c.natAbs : Int) / s')
theorem CpF.of {a b s s' c : Int} (hab : 0 ≤ a ∧ a ≤ b ∧ b ≤ 1000000) (hs : 100 ≤ s) (hs' : s ≤ s') (hc : -1000000 ≤ c ∧ c ≤ 1000000) : CpF a b s s' c := by
  have m1 := mulB (a := 100 * a) (b := (c.natAbs : Int)) (A := 100000000) (B := 1000000) (by omega) (by omega) (by omega) (by omega)
  have m2 := mulB (a := 100 * b) (b := (c.natAbs : Int)) (A := 100000000) (B := 1000000) (by omega) (by omega) (by omega) (by omega)
  have u := up_bd (a := 100 * b * (c.natAbs : Int)) (b := s) m2.1 (by omega)
  have d0 : 0 ≤ 100 * a * (c.natAbs : Int) / s' := Int.ediv_nonneg m1.1 (by omega)
  have d1 : 100 * a * (c.natAbs : Int) / s' ≤ 100 * a * (c.natAbs : Int) := Int.ediv_le_self _ m1.1
  refine ⟨fun v hv => ?_, wrap_eq (by omega) (by omega), wrap_eq (by omega) (by omega), floorV_nn m1.1 (by omega) (by omega), ceilV_nn m2.1 (by omega) (by omega), wrap_eq (by omega) (by omega), wrap_eq (by omega) (by omega)⟩
  rw [wrap_eq (by omega) (by omega)] at hv
  omega
theorem cmpV_neg {a b s s' c : Int} (h : c < 0) : cmpV a b s s' c = (-(up (100 * b * (c.natAbs : Int)) s), -(100 * a * (c.natAbs : Int) / s')) := by
  unfold cmpV; rw [if_pos h, show (c.natAbs : Int) = -c by omega]
theorem cmpV_nn {a b s s' c : Int} (h : ¬ c < 0) : cmpV a b s s' c = (100 * a * (c.natAbs : Int) / s', up (100 * b * (c.natAbs : Int)) s) := by
  unfold cmpV; rw [if_neg h, show (c.natAbs : Int) = c by omega]
theorem c53 {d lim : Nat} {h : Heap} {a b p1 p2 p3 q1 q2 q3 : Int} (hab : 0 ≤ a ∧ a ≤ b ∧ b ≤ 1000000) (he : pqE p1 p2 p3 q1 q2 q3 = 0) :
    E.call (d + 6) lim 53 [rgV a b, v3 p1 p2 p3, v3 q1 q2 q3] h = some (.tuple #[pulV a b (q1 - p1) (q2 - p2) (q3 - p3), i64 0], h) := by
  have k111 := fun lim hh => c111 (d := d + 4) (lim := lim) (h := hh) (a := a) (b := b) (k := 10000000000) (by omega)
  have k112 := fun lim hh a b c => c112 (d := d) (lim := lim) (h := hh) (a := a) (b := b) (c := c) (k := 1000000)
  have k110 := fun lim hh a b c x y z k => c110 (d := d + 4) (lim := lim) (h := hh) (a := a) (b := b) (c := c) (x := x) (y := y) (z := z) (k := k)
  have k114 := fun lim hh n m (hm : m ≠ 0) => c114 (d := d + 4) (lim := lim) (h := hh) (n := n) (m := m) hm
  have k115 := fun lim hh n m (hm : m ≠ 0) => c115 (d := d + 3) (lim := lim) (h := hh) (n := n) (m := m) hm
  have k116 := fun lim hh a b => c116 (d := d + 4) (lim := lim) (h := hh) (a := a) (b := b)
  simp only [winB3] at k112
  refine call1 fn53 rfl (by simp [ef53]) ?_
  unfold pqE at he
  split at he
  · cases he
  rename_i e1
  split at he
  · cases he
  rename_i e2
  split at he
  · cases he
  rename_i e3
  split at he
  · cases he
  rename_i e4
  simp only [Bool.not_eq_false] at e1 e2 e3
  have b1 := plB_ok e1
  have b2 := plB_ok e2
  have n1 : IntKind.wrap .i64 (-p1) = -p1 := wrap_eq (by omega) (by omega)
  have n2 : IntKind.wrap .i64 (-p2) = -p2 := wrap_eq (by omega) (by omega)
  have n3 : IntKind.wrap .i64 (-p3) = -p3 := wrap_eq (by omega) (by omega)
  have u1 : IntKind.wrap .i64 (q1 + -p1) = q1 - p1 := by rw [wrap_eq (by omega) (by omega)]; omega
  have u2 : IntKind.wrap .i64 (q2 + -p2) = q2 - p2 := by rw [wrap_eq (by omega) (by omega)]; omega
  have u3 : IntKind.wrap .i64 (q3 + -p3) = q3 - p3 := by rw [wrap_eq (by omega) (by omega)]; omega
  generalize q1 - p1 = x at *
  generalize q2 - p2 = y at *
  generalize q3 - p3 = z at *
  obtain ⟨bx, bY, bz⟩ := plB_ok e3
  have R := RtOk.of bx bY bz e4
  have xx := sq_b bx
  have yy := sq_b bY
  have zz := sq_b bz
  have x0 := sq_nn x
  have y0 := sq_nn y
  have z0 := sq_nn z
  have k113 := fun lim hh => c113 (d := d + 1) (lim := lim) (h := hh) (D := sq3 x y z) ⟨by have := R.big; omega, by have := R.big; omega⟩
  have v1 : IntKind.wrap .i64 (x * x) = x * x := wrap_eq (by omega) (by omega)
  have v2 : IntKind.wrap .i64 (y * y) = y * y := wrap_eq (by omega) (by omega)
  have v3' : IntKind.wrap .i64 (z * z) = z * z := wrap_eq (by omega) (by omega)
  have v4 : IntKind.wrap .i64 (x * x + y * y) = x * x + y * y := wrap_eq (by omega) (by omega)
  have v5 : IntKind.wrap .i64 (x * x + y * y + z * z) = x * x + y * y + z * z := wrap_eq (by omega) (by omega)
  have v6 : IntKind.wrap .i64 (10000 * (x * x + y * y + z * z)) = sq3 x y z := by unfold sq3; exact wrap_eq (by omega) (by omega)
  have wa : IntKind.wrap .i64 (100 * a) = 100 * a := wrap_eq (by omega) (by omega)
  have wb : IntKind.wrap .i64 (100 * b) = 100 * b := wrap_eq (by omega) (by omega)
  have Fx := CpF.of hab R.s R.s'.1 bx
  have Fy := CpF.of hab R.s R.s'.1 bY
  have Fz := CpF.of hab R.s R.s'.1 bz
  have s0 : rtF (sq3 x y z) ≠ 0 := by have := R.s; omega
  have s1 : rtU (sq3 x y z) ≠ 0 := by have := R.s; have := R.s'; omega
  unfold pulV
  generalize rtF (sq3 x y z) = s at *
  generalize rtU (sq3 x y z) = s' at *
  have mx := Fx.m _ rfl
  have my := Fy.m _ rfl
  have mz := Fz.m _ rfl
  simp [ef53, k111, k112, k110, e1, e2, n1, n2, n3, u1, u2, u3, e3, v1, v2, v3', v4, v5, v6, k113]
  refine ⟨fun h1 h2 h3 => e4 ⟨h1, h2, h3⟩, fun _ => ?_⟩
  have cx : (x < 0 ∧ cmpV a b s s' x = _) ∨ (¬ x < 0 ∧ cmpV a b s s' x = _) := (Classical.em (x < 0)).imp (fun q => ⟨q, cmpV_neg q⟩) (fun q => ⟨q, cmpV_nn q⟩)
  have cy : (y < 0 ∧ cmpV a b s s' y = _) ∨ (¬ y < 0 ∧ cmpV a b s s' y = _) := (Classical.em (y < 0)).imp (fun q => ⟨q, cmpV_neg q⟩) (fun q => ⟨q, cmpV_nn q⟩)
  have cz : (z < 0 ∧ cmpV a b s s' z = _) ∨ (¬ z < 0 ∧ cmpV a b s s' z = _) := (Classical.em (z < 0)).imp (fun q => ⟨q, cmpV_neg q⟩) (fun q => ⟨q, cmpV_nn q⟩)
  obtain ⟨_, xa1, xb1, xfl, xce, xn1, xn2⟩ := Fx
  obtain ⟨_, ya1, yb1, yfl, yce, yn1, yn2⟩ := Fy
  obtain ⟨_, za1, zb1, zfl, zce, zn1, zn2⟩ := Fz
  generalize (x.natAbs : Int) = X at *
  generalize (y.natAbs : Int) = Y at *
  generalize (z.natAbs : Int) = Z at *
  rw [wpC_unroll, wpI_step (by simp [E_fuel'])]
  rcases cx with ⟨sx, ex⟩ | ⟨sx, ex⟩ <;> rcases cy with ⟨sy, ey⟩ | ⟨sy, ey⟩ <;> rcases cz with ⟨sz, ez⟩ | ⟨sz, ez⟩ <;>
  · simp [St.tidy, mx, wa, wb, xa1, xb1, k114, k115, k116, s0, s1, xfl, xce, xn1, xn2, sx]
    rw [wpI_step (by simp [E_fuel'])]
    simp [St.tidy, my, wa, wb, ya1, yb1, k114, k115, k116, s0, s1, yfl, yce, yn1, yn2, sy]
    rw [wpI_step (by simp [E_fuel'])]
    simp [St.tidy, mz, wa, wb, za1, zb1, k114, k115, k116, s0, s1, zfl, zce, zn1, zn2, sz]
    rw [wpI_step (by simp [E_fuel'])]
    simp [St.tidy, ex, ey, ez]
end X
end Go.Abs
