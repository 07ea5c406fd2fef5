/- The law NumberLines. -/
import Derived.Test.YtjalhpdmdiimoaaDoorAbsNL8
import Derived.Test.YtjalhpdmdiimoaaDoorAbsNO4
set_option linter.unusedSimpArgs false
set_option linter.unusedVariables false
namespace Go.Abs.N
open Go Go.Abs
set_option maxRecDepth 100000
set_option maxHeartbeats 0
theorem law12 (lim : Nat) {h : Heap} {v : Value} {l : D2} (A : AwOk h) (sl : SlD h v l) : E.call 21 lim 12 [v] h = some (.bool true, h) := by
  refine call1 fn12 rfl (by simp [ef12]) ?_
  have r := sl.rules2
  have a0 := A.a0
  by_cases hg : ((12 : Int) < l.length ∧ (l.length : Int) ≤ 60) ∨ (70 : Int) < l.length
  · by_cases q1 : (12 : Int) < l.length
    · by_cases q2 : (l.length : Int) ≤ 60
      · simp [ef12, a0, r, q1, q2, Int.not_le.2 q1, Int.not_lt.2 q2]
      · have q3 : (70 : Int) < l.length := by omega
        simp [ef12, a0, r, q1, q2, q3, Int.not_le.2 q1, Int.not_le.1 q2, Int.not_le.2 q3]
    · omega
  · have c2 : ∀ lim hh, SlD hh v l → E.call 20 lim 24 [v] hh = some (i64 (dotsV l), hh) := fun lim hh ss => c24 ss
    by_cases hd : dotsV l = 0
    · have D := dots_ok hd
      obtain ⟨hbs, ok⟩ := best_same D
      have hB := fun i' j' k' (x1 : i' < j') (x2 : j' < k') (x3 : k' < l.length) => best_beats D x1 x2 x3
      have hl := line_ok D hd ok.1 ok.2.1 ok.2.2 hB
      have w := wid_b D (show (bestP l).1 < (bestP l).2.2 from Nat.lt_trans ok.1 ok.2.1) ok.2.2
      have sb := sz_b D ok.1 ok.2.1 ok.2.2
      have st := stN_b D ok.1 ok.2.1 ok.2.2
      have y1 := D.by_ (bestP l).1 (Nat.lt_trans (Nat.lt_trans ok.1 ok.2.1) ok.2.2); have y3 := D.by_ (bestP l).2.2 ok.2.2
      have f1 := checkFrac_ok (a := stN l (bestP l).1 (bestP l).2.1 (bestP l).2.2) (m := 2 * wid l (bestP l).1 (bestP l).2.2) (by omega) (by omega)
      have f2 := checkFrac_ok (a := dy l (bestP l).2.2 - dy l (bestP l).1) (m := wid l (bestP l).1 (bestP l).2.2) (by omega) (by omega)
      have f4 := checkFrac_ok (a := sz l (bestP l).1 (bestP l).2.1 (bestP l).2.2) (m := 2 * wid l (bestP l).1 (bestP l).2.2) (by omega) (by omega)
      have c1 : ∀ lim hh, SlD hh v l → E.call 20 lim 25 [v] hh = some (.tuple #[lineV l (bestP l), i64 0], hh) := fun lim hh ss => c25 ss hd
      have c3 : ∀ lim hh, SlD hh v l → E.call 20 lim 56 [v] hh = some (lineV l (bestP l), hh) := fun lim hh ss => by
        have := @c56 16 lim hh v l ss D
        rw [hbs] at this; exact this
      have c4 : ∀ lim hh, SlD hh v l → E.call 20 lim 57 [v, lineV l (bestP l)] hh = some (i64 0, hh) := fun lim hh ss => by
        have := @c57 17 lim hh v l _ _ _ _ _ _ (bestP l).1 (bestP l).2.1 (bestP l).2.2 ss hd f1 f2 f4 (R64_lowD _ _) (R64_lowD _ _) (R64_lowD _ _)
        rw [hl] at this; exact this
      have c5 : ∀ lim hh, SlD hh v l → E.call 20 lim 58 [v, lineV l (bestP l)] hh = some (i64 0, hh) := fun lim hh ss => by
        refine Eq.trans (c58 ss (R64_lowD _ _) (R64_lowD _ _) (R64_lowD _ _)) ?_
        rw [hl]
      simp [ef12, a0, r, sl, c1, c2, c3, c4, c5, hd]
    · have c1 : ∀ lim hh, SlD hh v l → E.call 20 lim 25 [v] hh = some (.tuple #[.agg #[i64 0, i64 0, i64 0, i64 0, i64 0, i64 0, i64 0, i64 0, i64 0], i64 (dotsV l)], hh) := fun lim hh ss => c25b ss hd
      simp [ef12, a0, r, sl, c1, c2, hd]
theorem numberLines_law : ∀ (bs : List (Option Blk)) us, Heap.freeze ([primesB] ++ bs) = [primesB] ++ bs → (∀ n, ctBlocks (([(false, [.sl [ctI, ctI]])] : List (Bool × List CT)).flatMap (·.2)) = some n → bs.length = n) →
    ArgsV 6 ([primesB] ++ bs) [(false, [.sl [ctI, ctI]])] us → ∃ h', E.call 21 (([primesB] : Heap) ++ bs).length 12 us ([primesB] ++ bs) = some (.bool true, h') := by
  intro bs us hf k a
  obtain ⟨b, rfl⟩ := one_of k rfl
  obtain ⟨u, rfl, a1⟩ := args1 a
  obtain ⟨l, sl, _⟩ := arg_dots (d := 5) a1
  exact ⟨_, law12 _ (awOk1 hf) sl⟩
end Go.Abs.N
