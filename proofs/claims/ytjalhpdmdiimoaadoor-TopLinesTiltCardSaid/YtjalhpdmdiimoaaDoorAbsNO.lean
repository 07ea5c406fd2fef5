/- What CheckLine leans on. -/
import Derived.Test.YtjalhpdmdiimoaaDoorAbsNL6
set_option linter.unusedSimpArgs false
set_option linter.unusedVariables false
namespace Go.Abs.N
open Go Go.Abs
set_option maxRecDepth 100000
set_option maxHeartbeats 0
theorem E_fuel : E.fuel = 18446744073709551616 := rfl
def overV (U n m : Int) : Int := IntKind.wrap .i64 (n * IntKind.wrap .i64 (qdiv U m))
theorem c116 {d lim : Nat} {h : Heap} {b o : Nat} {n m : Int} (U : Int) (hb : b < h.length) (hc : h.cell b o = some (i64 U)) (hm : m ≠ 0) : E.call (d + 1) lim 116 [fr n m, .pointer (some ⟨b, o, none⟩)] h = some (i64 (overV U n m), h) := by
  refine call1 fn116 rfl (by simp [ef116]) ?_
  simp [ef116, hb, hc, hm, overV]
def wrongV (U sN sD pN pD x y : Int) : Int := IntKind.wrap .i64 (IntKind.wrap .i64 (IntKind.wrap .i64 (y * U) - overV U sN sD) - IntKind.wrap .i64 (overV U pN pD * x))
theorem c117 {d lim : Nat} {h : Heap} {b1 b2 b3 : Nat} {x y : Int} (U sN sD pN pD : Int) (h1 : b1 < h.length) (h2 : b2 < h.length) (h3 : b3 < h.length) (k1 : h.cell b1 0 = some (i64 U)) (k2 : h.cell b2 0 = some (.func (.func 116) #[] #[.pointer (some ⟨b1, 0, none⟩)]))
    (k3 : h.part b3 0 2 = some (fr sN sD)) (k4 : h.part b3 2 2 = some (fr pN pD)) (hs : sD ≠ 0) (hp : pD ≠ 0) :
    E.call (d + 2) lim 117 [.agg #[i64 x, i64 y], .pointer (some ⟨b1, 0, none⟩), .pointer (some ⟨b2, 0, none⟩), .pointer (some ⟨b3, 0, none⟩)] h = some (i64 (wrongV U sN sD pN pD x y), h) := by
  refine call1 fn117 rfl (by simp [ef117]) ?_
  have c1 := fun lim (hh : Heap) (q1 : b1 < hh.length) (q2 : hh.cell b1 0 = some (i64 U)) => @c116 d lim hh b1 0 sN sD U q1 q2 hs
  have c2 := fun lim (hh : Heap) (q1 : b1 < hh.length) (q2 : hh.cell b1 0 = some (i64 U)) => @c116 d lim hh b1 0 pN pD U q1 q2 hp
  have n1 : b1 < List.length h + 1 := by omega
  simp [ef117, h1, h2, h3, k1, k2, k3, k4, c1, c2, n1, wrongV]
def commU (u d : Int) : Int := IntKind.wrap .i64 (u * IntKind.wrap .i64 (qdiv d (gcdL u d)))
def commV (a b c : Int) : Int := if 40000 < commU 1 a ∨ 40000 < commU (commU 1 a) b ∨ 40000 < commU (commU (commU 1 a) b) c then 0 else commU (commU (commU 1 a) b) c
def commE (a b c : Int) : Int := if 40000 < commU 1 a ∨ 40000 < commU (commU 1 a) b ∨ 40000 < commU (commU (commU 1 a) b) c then 8 else 0
@[simp] theorem R64_commU (u d : Int) : R64 (commU u d) := by simp [commU]
theorem R64_1 : R64 1 := ⟨by omega, by omega⟩
theorem c115 {d lim : Nat} {h : Heap} {x : Nat} (n1 a n2 b n3 c : Int) (hx : x < h.length) (k1 : h.part x 0 2 = some (fr n1 a)) (k2 : h.part x 2 2 = some (fr n2 b)) (k3 : h.part x 4 2 = some (fr n3 c))
    (ra : R64 a) (rb : R64 b) (rc : R64 c) (ha : a ≠ 0) (hb : b ≠ 0) (hc : c ≠ 0) : E.call (d + 2) lim 115 [.slice (some ⟨x, 0, none⟩) 3 2] h = some (.tuple #[i64 (commV a b c), i64 (commE a b c)], h) := by
  refine call1 fn115 rfl (by simp [ef115]) ?_
  have g1 := gcdL_ne R64_1 ra ha
  have g2 := gcdL_ne (R64_commU 1 a) rb hb
  have g3 := gcdL_ne (R64_commU (commU 1 a) b) rc hc
  have e1 : IntKind.wrap .i64 (1 * IntKind.wrap .i64 (qdiv a (gcdL 1 a))) = commU 1 a := rfl
  have e2 : IntKind.wrap .i64 (commU 1 a * IntKind.wrap .i64 (qdiv b (gcdL (commU 1 a) b))) = commU (commU 1 a) b := rfl
  have e3 : IntKind.wrap .i64 (commU (commU 1 a) b * IntKind.wrap .i64 (qdiv c (gcdL (commU (commU 1 a) b) c))) = commU (commU (commU 1 a) b) c := rfl
  have e0 : IntKind.wrap .i64 (IntKind.wrap .i64 (qdiv a (gcdL 1 a))) = commU 1 a := by unfold commU; rw [Int.one_mul]
  simp [ef115, wpC_unroll, wpI_step, E_fuel, St.tidy, hx, k1, k2, k3, c120 ra, c120 rb, c120 rc, g1, g2, g3, e0, e2, e3]
  by_cases q1 : 40000 < commU 1 a
  · simp [commV, commE, q1, Int.not_le.2 q1]
  · by_cases q2 : 40000 < commU (commU 1 a) b
    · simp [commV, commE, q1, q2, Int.not_le.2 q2]
    · by_cases q3 : 40000 < commU (commU (commU 1 a) b) c
      · simp [commV, commE, q1, q2, q3, Int.not_le.2 q3]
      · simp [commV, commE, q1, q2, q3, Int.not_lt.1 q1, Int.not_lt.1 q2, Int.not_lt.1 q3]
end Go.Abs.N
