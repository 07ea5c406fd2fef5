/- Chapter 7: lists of pairs; the first error of a list. -/
import Derived.Test.YtfbelnhibipndaaAbsUA
import Derived.Test.YtfbelnhibipndaaAbsWpN
set_option linter.unusedSimpArgs false
set_option linter.unusedVariables false
namespace Go.Abs
namespace U
set_option maxRecDepth 100000
set_option maxHeartbeats 0
/-- The first error. -/
def fstE (e : Nat → Int) (n i : Nat) : Int := if i < n then (if e i = 0 then fstE e n (i + 1) else e i) else 0
termination_by n - i
theorem fstE_lt {e : Nat → Int} {n i : Nat} (h : i < n) : fstE e n i = if e i = 0 then fstE e n (i + 1) else e i := by rw [fstE, if_pos h]
theorem fstE_ge {e : Nat → Int} {n i : Nat} (h : ¬ i < n) : fstE e n i = 0 := by rw [fstE, if_neg h]
theorem fstE_all {e : Nat → Int} {n : Nat} : ∀ (k i : Nat), n - i = k → (fstE e n i = 0 ↔ ∀ j, i ≤ j → j < n → e j = 0)
  | 0, i, hk => by
    rw [fstE_ge (by omega)]
    exact ⟨fun _ j h1 h2 => by omega, fun _ => rfl⟩
  | k + 1, i, hk => by
    rw [fstE_lt (by omega)]
    constructor
    · intro h j h1 h2
      split at h
      · rename_i h0
        rcases Nat.lt_or_ge i j with z | z
        · exact (fstE_all k (i + 1) (by omega)).1 h j z h2
        · rw [show j = i by omega]; exact h0
      · contradiction
    · intro h
      rw [if_pos (h i (by omega) (by omega))]
      exact (fstE_all k (i + 1) (by omega)).2 fun j h1 h2 => h j (by omega) h2
/-- Pairs: a day and a number. -/
abbrev P2 := Int × Int
def at2 (l : List P2) (i : Nat) : P2 := (l[i]?).getD (0, 0)
abbrev v2 (x : P2) : Value := .agg #[i64 x.1, i64 x.2]
theorem wm1 {i : Nat} (h : 0 < i) (h2 : i < 1000000) : IntKind.wrap .i64 ((i : Int) - 1) = ((i - 1 : Nat) : Int) := by rw [wrap_eq (by omega) (by omega)]; omega
end U
end Go.Abs
