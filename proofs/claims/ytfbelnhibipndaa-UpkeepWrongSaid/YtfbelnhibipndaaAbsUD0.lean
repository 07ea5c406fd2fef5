/- Chapter 7: lists of triples; where something is first. -/
import Derived.Test.YtfbelnhibipndaaAbsUC0
import Derived.Test.YtfbelnhibipndaaAbsUC00
set_option linter.unusedSimpArgs false
set_option linter.unusedVariables false
namespace Go.Abs
namespace U
set_option maxRecDepth 100000
set_option maxHeartbeats 0
theorem c78 {d lim : Nat} {h : Heap} {a : Int} : E.call (d + 2) lim 78 [i64 a] h = some (.bool (within a 0 87), h) := by
  refine call1 fn78 rfl (by simp [ef78]) ?_
  simp [ef78, c65]
/-- Triples. -/
abbrev P3 := Int × Int × Int
def at3 (l : List P3) (i : Nat) : P3 := (l[i]?).getD (0, 0, 0)
abbrev v3 (x : P3) : Value := .agg #[i64 x.1, i64 x.2.1, i64 x.2.2]
/-- The first number that has a property. -/
def fstI (p : Nat → Bool) (n i : Nat) : Nat := if i < n then (if p i then i else fstI p n (i + 1)) else n
termination_by n - i
theorem fstI_lt {p : Nat → Bool} {n i : Nat} (h : i < n) : fstI p n i = if p i then i else fstI p n (i + 1) := by rw [fstI, if_pos h]
theorem fstI_ge {p : Nat → Bool} {n i : Nat} (h : ¬ i < n) : fstI p n i = n := by rw [fstI, if_neg h]
theorem fstI_spec {p : Nat → Bool} {n : Nat} : ∀ (k i : Nat), n - i = k → i ≤ n → i ≤ fstI p n i ∧ fstI p n i ≤ n ∧ (fstI p n i < n → p (fstI p n i) = true) ∧ ∀ j, i ≤ j → j < fstI p n i → p j = false
  | 0, i, hk, hi => by
    rw [fstI_ge (by omega)]
    exact ⟨hi, Nat.le_refl _, fun h => by omega, fun j h1 h2 => by omega⟩
  | k + 1, i, hk, hi => by
    rw [fstI_lt (by omega)]
    split
    · rename_i h0
      exact ⟨Nat.le_refl _, hi, fun _ => h0, fun j h1 h2 => by omega⟩
    · rename_i h0
      obtain ⟨a, b, c, e⟩ := fstI_spec (p := p) (n := n) k (i + 1) (by omega) (by omega)
      refine ⟨by omega, b, c, fun j h1 h2 => ?_⟩
      rcases Nat.lt_or_ge i j with z | z
      · exact e j z h2
      · rw [show j = i by omega]; simpa using h0
end U
end Go.Abs
