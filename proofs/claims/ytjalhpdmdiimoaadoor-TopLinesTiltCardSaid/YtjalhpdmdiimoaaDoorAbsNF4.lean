/- Sums, products, quotients of fractions, and the law NumberFracs. -/
import Derived.Test.YtjalhpdmdiimoaaDoorAbsNF3
set_option linter.unusedSimpArgs false
set_option linter.unusedVariables false
namespace Go.Abs.N
open Go Go.Abs
set_option maxRecDepth 100000
set_option maxHeartbeats 0
abbrev w (n : Int) : Int := IntKind.wrap .i64 n
theorem den_ne {n m : Int} (h : checkFrac n m = 0) : m ≠ 0 := by
  unfold checkFrac at h; intro e; subst e; simp at h
theorem two0 {a b c e : Int} (h : two a b c e = 0) : checkFrac a b = 0 ∧ checkFrac c e = 0 := by
  unfold two at h; split at h
  · exact ⟨by assumption, h⟩
  · contradiction
theorem checkFrac_le {n m : Int} (h : checkFrac n m = 0) : 1 ≤ m ∧ m ≤ 1000000000 ∧ -1000000000 ≤ n ∧ n ≤ 1000000000 ∧ gcdL n m = 1 := by
  unfold checkFrac within at h; simp at h; grind
def frE (k : Int → Int → Int → Int → Int × Int) (a b c e : Int) : Int := if two a b c e = 0 then fitE (k a b c e).1 (k a b c e).2 else two a b c e
def frN (k : Int → Int → Int → Int → Int × Int) (a b c e : Int) : Int := if two a b c e = 0 then fitN (k a b c e).1 (k a b c e).2 else 0
def frD (k : Int → Int → Int → Int → Int × Int) (a b c e : Int) : Int := if two a b c e = 0 then fitD (k a b c e).1 (k a b c e).2 else 0
def kAdd (a b c e : Int) : Int × Int := (w (w (a * e) + w (c * b)), w (b * e))
def kMul (a b c e : Int) : Int × Int := (w (a * c), w (b * e))
theorem bd_ne {a b c e : Int} (h : two a b c e = 0) : w (b * e) ≠ 0 := by
  obtain ⟨h1, h2⟩ := two0 h
  have := checkFrac_le h1; have := checkFrac_le h2
  have l : b * 1 ≤ b * e := Int.mul_le_mul_of_nonneg_left (by omega) (by omega)
  have u : b * e ≤ 1000000000 * 1000000000 := Int.mul_le_mul (by omega) (by omega) (by omega) (by omega)
  rw [w, wrap_eq (by omega) (by omega)]; omega
theorem c60 {d lim : Nat} {h : Heap} {a b c e : Int} (hb : R64 b) (he : R64 e) : E.call (d + 4) lim 60 [fr a b, fr c e] h = some (fre (frN kAdd a b c e) (frD kAdd a b c e) (frE kAdd a b c e), h) := by
  refine call1 fn60 rfl (by simp [ef60]) ?_
  by_cases h2 : two a b c e = 0
  · have g := bd_ne h2
    simp [ef60, c118 hb he, h2, c119, g, frN, frD, frE, kAdd]
  · simp [ef60, c118 hb he, h2, frN, frD, frE]
theorem c61 {d lim : Nat} {h : Heap} {a b c e : Int} (hb : R64 b) (he : R64 e) : E.call (d + 4) lim 61 [fr a b, fr c e] h = some (fre (frN kMul a b c e) (frD kMul a b c e) (frE kMul a b c e), h) := by
  refine call1 fn61 rfl (by simp [ef61]) ?_
  by_cases h2 : two a b c e = 0
  · have g := bd_ne h2
    simp [ef61, c118 hb he, h2, c119, g, frN, frD, frE, kMul]
  · simp [ef61, c118 hb he, h2, frN, frD, frE]
theorem bc_ne {a b c e : Int} (h : two a b c e = 0) (hc : c ≠ 0) : w (b * c) ≠ 0 := by
  obtain ⟨h1, h2⟩ := two0 h
  have := checkFrac_le h1; have := checkFrac_le h2
  have p : b * c ≠ 0 := by intro e; rcases Int.mul_eq_zero.1 e with e | e <;> omega
  have q : (b * c).natAbs ≤ 1000000000 * 1000000000 := by rw [Int.natAbs_mul]; exact Nat.mul_le_mul (by omega) (by omega)
  rw [w, wrap_eq (by omega) (by omega)]; exact p
def divE (a b c e : Int) : Int := if two a b c e = 0 then (if c = 0 then 11 else fitE (w (a * e)) (w (b * c))) else two a b c e
def divN (a b c e : Int) : Int := if two a b c e = 0 then (if c = 0 then 0 else fitN (w (a * e)) (w (b * c))) else 0
def divD (a b c e : Int) : Int := if two a b c e = 0 then (if c = 0 then 0 else fitD (w (a * e)) (w (b * c))) else 0
theorem c62 {d lim : Nat} {h : Heap} {a b c e : Int} (hb : R64 b) (he : R64 e) : E.call (d + 4) lim 62 [fr a b, fr c e] h = some (fre (divN a b c e) (divD a b c e) (divE a b c e), h) := by
  refine call1 fn62 rfl (by simp [ef62]) ?_
  by_cases h2 : two a b c e = 0
  · by_cases hc : c = 0
    · subst hc; simp [ef62, c118 hb he, h2, divN, divD, divE]
    · have g := bc_ne h2 hc
      simp [ef62, c118 hb he, h2, c119, g, divN, divD, divE, hc]
  · simp [ef62, c118 hb he, h2, divN, divD, divE]
def cmpV (x y : Int) : Int := if x < y then -1 else if y < x then 1 else 0
def cmpE (a b c e : Int) : Int := if two a b c e = 0 then cmpV (w (a * e)) (w (c * b)) else 0
theorem c63 {d lim : Nat} {h : Heap} {a b c e : Int} (hb : R64 b) (he : R64 e) : E.call (d + 4) lim 63 [fr a b, fr c e] h = some (.tuple #[i64 (cmpE a b c e), i64 (two a b c e)], h) := by
  refine call1 fn63 rfl (by simp [ef63]) ?_
  by_cases h2 : two a b c e = 0
  · simp [ef63, c118 hb he, h2]
    grind [cmpE, cmpV]
  · simp [ef63, c118 hb he, h2, cmpE]
theorem c69 {d lim : Nat} {h : Heap} {a b c e : Int} : E.call (d + 1) lim 69 [fr a b, fr c e] h = some (i64 (cmpV (w (a * e)) (w (c * b))), h) := by
  refine call1 fn69 rfl (by simp [ef69]) ?_
  simp [ef69]
  grind [cmpV]
theorem c66 {d lim : Nat} {h : Heap} {a b c e : Int} (g : w (b * e) ≠ 0) : E.call (d + 6) lim 66 [fr a b, fr c e] h = some (fre (fitN (kAdd a b c e).1 (kAdd a b c e).2) (fitD (kAdd a b c e).1 (kAdd a b c e).2) (fitE (kAdd a b c e).1 (kAdd a b c e).2), h) := by
  refine call1 fn66 rfl (by simp [ef66]) ?_
  simp [ef66, c121, g, kAdd]
theorem c67 {d lim : Nat} {h : Heap} {a b c e : Int} (g : w (b * e) ≠ 0) : E.call (d + 6) lim 67 [fr a b, fr c e] h = some (fre (fitN (kMul a b c e).1 (kMul a b c e).2) (fitD (kMul a b c e).1 (kMul a b c e).2) (fitE (kMul a b c e).1 (kMul a b c e).2), h) := by
  refine call1 fn67 rfl (by simp [ef67]) ?_
  simp [ef67, c121, g, kMul]
theorem c68 {d lim : Nat} {h : Heap} {a b c e : Int} (g1 : w (b * c) ≠ 0) (g2 : w (b * w (-c)) ≠ 0) : E.call (d + 6) lim 68 [fr a b, fr c e] h =
    some (if c = 0 then fre 0 0 11 else if c < 0 then fre (fitN (w (w (-a) * e)) (w (b * w (-c)))) (fitD (w (w (-a) * e)) (w (b * w (-c)))) (fitE (w (w (-a) * e)) (w (b * w (-c)))) else fre (fitN (w (a * e)) (w (b * c))) (fitD (w (a * e)) (w (b * c))) (fitE (w (a * e)) (w (b * c))), h) := by
  refine call1 fn68 rfl (by simp [ef68]) ?_
  by_cases hc : c = 0
  · simp [ef68, hc]
  · by_cases h0 : c < 0
    · simp [ef68, hc, c121, h0, g2, KOp_eq, Log.clash]
    · simp [ef68, hc, c121, h0, g1]
end Go.Abs.N
