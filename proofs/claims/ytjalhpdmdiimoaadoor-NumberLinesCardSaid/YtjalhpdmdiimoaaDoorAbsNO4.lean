/- The law NumberLineChecks. -/
import Derived.Test.YtjalhpdmdiimoaaDoorAbsNO3
set_option linter.unusedSimpArgs false
set_option linter.unusedVariables false
namespace Go.Abs.N
open Go Go.Abs
set_option maxRecDepth 100000
set_option maxHeartbeats 0
theorem lineE_dots {l : D2} {sN sD pN pD eN eD i j k : Int} (h : dotsV l ≠ 0) : lineE l sN sD pN pD eN eD i j k = dotsV l := by simp [lineE, h]
theorem lineE_frac {l : D2} {sN sD pN pD eN eD i j k : Int} (h : dotsV l = 0) (h2 : f3 sN sD pN pD eN eD ≠ 0) : lineE l sN sD pN pD eN eD i j k = f3 sN sD pN pD eN eD := by simp [lineE, h, h2]
theorem law13 (lim : Nat) {h : Heap} {v : Value} {l : D2} (A : AwOk h) (sl : SlD h v l) {sN sD pN pD eN eD i j k : Int} (r1 : R64 sD) (r2 : R64 pD) (r3 : R64 eD) :
    E.call 21 lim 13 [v, tv sN sD pN pD eN eD i j k] h = some (.bool true, h) := by
  refine call1 fn13 rfl (by simp [ef13]) ?_
  have r := sl.rules2
  have a1 := A.a1
  have u1 := fun C => @wpC_unroll C (some [0, 3, 5, 6, 35, 36])
  by_cases hg : ((12 : Int) < l.length ∧ (l.length : Int) ≤ 60) ∨ (70 : Int) < l.length
  · by_cases q1 : (12 : Int) < l.length
    · by_cases q2 : (l.length : Int) ≤ 60
      · simp [ef13, a1, r, q1, q2, Int.not_le.2 q1, Int.not_lt.2 q2]
      · have q3 : (70 : Int) < l.length := by omega
        simp [ef13, a1, r, q1, q2, q3, Int.not_le.2 q1, Int.not_le.1 q2, Int.not_le.2 q3]
    · omega
  · have hg1 : (l.length : Int) ≤ 12 ∨ 60 < (l.length : Int) := by omega
    have hg2 : (l.length : Int) ≤ 70 := by omega
    have c1 : ∀ lim hh, SlD hh v l → E.call 20 lim 58 [v, tv sN sD pN pD eN eD i j k] hh = some (i64 (lineE l sN sD pN pD eN eD i j k), hh) := fun lim hh ss => c58 ss r1 r2 r3
    have c2 : ∀ lim hh, SlD hh v l → E.call 20 lim 24 [v] hh = some (i64 (dotsV l), hh) := fun lim hh ss => c24 ss
    have goal : wpC ⟨EProg.call E 20, h.length, h.length, true, E.glob, E.fuel⟩ ef13.code ⟨argFrame 0 [v, tv sN sD pN pD eN eD i j k], h.freeze⟩ (KFun h.length ef13.results (.bool true) []) := by
      by_cases hd : dotsV l = 0
      · have D := dots_ok hd
        have hn := D.n3
        obtain ⟨bk, of, rfl⟩ : ∃ b o, v = .slice (some ⟨b, o, none⟩) l.length 2 := ⟨_, _, sl.addr (by omega)⟩
        have hb := sl.lt (by omega)
        simp only [slB_some, slO_some] at r hb
        have q1 : (l.length : Int) ≤ 12 ∨ ¬ (l.length : Int) ≤ 12 := by omega
        by_cases h1 : checkFrac sN sD = 0
        · by_cases h2 : checkFrac pN pD = 0
          · by_cases h3 : checkFrac eN eD = 0
            · have c3 : ∀ lim hh, SlD hh (.slice (some ⟨bk, of, none⟩) l.length 2) l → E.call 20 lim 57 [.slice (some ⟨bk, of, none⟩) l.length 2, tv sN sD pN pD eN eD i j k] hh = some (i64 (lineE l sN sD pN pD eN eD i j k), hh) := fun lim hh ss => c57 ss hd h1 h2 h3 r1 r2 r3
              simp [ef13, a1, r, hb, sl, c1, c2, c3, hd, u1, wpI_step, E_fuel, St.tidy, c43 r1, c43 r2, c43 r3, h1, h2, h3]
            · have e := lineE_frac (i := i) (j := j) (k := k) hd (show f3 sN sD pN pD eN eD ≠ 0 by simp [f3, h1, h2, h3])
              simp [ef13, a1, r, hb, sl, c1, c2, hd, u1, wpI_step, E_fuel, St.tidy, c43 r1, c43 r2, c43 r3, h1, h2, h3, e, f3]
          · have e := lineE_frac (i := i) (j := j) (k := k) hd (show f3 sN sD pN pD eN eD ≠ 0 by simp [f3, h1, h2])
            simp [ef13, a1, r, hb, sl, c1, c2, hd, u1, wpI_step, E_fuel, St.tidy, c43 r1, c43 r2, h1, h2, e, f3]
        · have e := lineE_frac (i := i) (j := j) (k := k) hd (show f3 sN sD pN pD eN eD ≠ 0 by simp [f3, h1])
          simp [ef13, a1, r, hb, sl, c1, c2, hd, u1, wpI_step, E_fuel, St.tidy, c43 r1, h1, e, f3]
      · have e := lineE_dots (sN := sN) (sD := sD) (pN := pN) (pD := pD) (eN := eN) (eD := eD) (i := i) (j := j) (k := k) hd
        rcases sl.low with rfl | ⟨b, o, m, s, rfl, hb⟩
        · simp [ef13, a1, r, sl, c1, c2, hd, u1, wpI_step, E_fuel, St.tidy, e]
        · simp [ef13, a1, r, hb, sl, c1, c2, hd, u1, wpI_step, E_fuel, St.tidy, e]
    exact goal
theorem arg_agg9 {d : Nat} {h : Heap} {u : Value} (a : ArgV d h (true, [ctI, ctI, ctI, ctI, ctI, ctI, ctI, ctI, ctI]) u) : ∃ x0 x1 x2 x3 x4 x5 x6 x7 x8, u = tv x0 x1 x2 x3 x4 x5 x6 x7 x8 ∧ R64 x1 ∧ R64 x3 ∧ R64 x5 := by
  obtain ⟨us, rfl, hl, t⟩ := a
  match us, hl with
  | [u0, u1, u2, u3, u4, u5, u6, u7, u8], _ =>
    obtain ⟨x0, rfl, _⟩ := typ_int (t 0 _ _ rfl rfl)
    obtain ⟨x1, rfl, h1⟩ := typ_int (t 1 _ _ rfl rfl)
    obtain ⟨x2, rfl, _⟩ := typ_int (t 2 _ _ rfl rfl)
    obtain ⟨x3, rfl, h3⟩ := typ_int (t 3 _ _ rfl rfl)
    obtain ⟨x4, rfl, _⟩ := typ_int (t 4 _ _ rfl rfl)
    obtain ⟨x5, rfl, h5⟩ := typ_int (t 5 _ _ rfl rfl)
    obtain ⟨x6, rfl, _⟩ := typ_int (t 6 _ _ rfl rfl)
    obtain ⟨x7, rfl, _⟩ := typ_int (t 7 _ _ rfl rfl)
    obtain ⟨x8, rfl, _⟩ := typ_int (t 8 _ _ rfl rfl)
    exact ⟨x0, x1, x2, x3, x4, x5, x6, x7, x8, rfl, h1, h3, h5⟩
theorem numberLineChecks_law : ∀ (bs : List (Option Blk)) us, Heap.freeze ([primesB] ++ bs) = [primesB] ++ bs → (∀ n, ctBlocks (([(false, [.sl [ctI, ctI]]), (true, [ctI, ctI, ctI, ctI, ctI, ctI, ctI, ctI, ctI])] : List (Bool × List CT)).flatMap (·.2)) = some n → bs.length = n) →
    ArgsV 6 ([primesB] ++ bs) [(false, [.sl [ctI, ctI]]), (true, [ctI, ctI, ctI, ctI, ctI, ctI, ctI, ctI, ctI])] us → ∃ h', E.call 21 (([primesB] : Heap) ++ bs).length 13 us ([primesB] ++ bs) = some (.bool true, h') := by
  intro bs us hf k a
  obtain ⟨b, rfl⟩ := one_of k rfl
  obtain ⟨u, v, rfl, a1, a2⟩ := args2 a
  obtain ⟨l, sl, _⟩ := arg_dots (d := 5) a1
  obtain ⟨_, _, _, _, _, _, _, _, _, rfl, h1, h3, h5⟩ := arg_agg9 a2
  exact ⟨_, law13 _ (awOk1 hf) sl h1 h3 h5⟩
end Go.Abs.N
