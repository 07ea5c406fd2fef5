/- Chapter 7: lists of pairs; the first error of a list. -/
import Derived.Test.YtfbelnhibipndaaAbsUA
import Derived.Test.YtfbelnhibipndaaAbsWpN
set_option linter.unusedSimpArgs false
set_option linter.unusedVariables false
namespace Go.Abs
namespace U
set_option maxRecDepth 100000
set_option maxHeartbeats 0
/-- The first error. -/
def fstE (e : Nat → Int) (n i : Nat) : Int := if i < n then (if e i = 0 then fstE e n (i + 1) else e i) else 0
termination_by n - i
theorem fstE_lt {e : Nat → Int} {n i : Nat} (h : i < n) : fstE e n i = if e i = 0 then fstE e n (i + 1) else e i := by rw [fstE, if_pos h]
theorem fstE_ge {e : Nat → Int} {n i : Nat} (h : ¬ i < n) : fstE e n i = 0 := by rw [fstE, if_neg h]
theorem fstE_all {e : Nat → Int} {n : Nat} : ∀ (k i : Nat), n - i = k → (fstE e n i = 0 ↔ ∀ j, i ≤ j → j < n → e j = 0)
  | 0, i, hk => by
    rw [fstE_ge (by omega)]
    exact ⟨fun _ j h1 h2 => by omega, fun _ => rfl⟩
  | k + 1, i, hk => by
    rw [fstE_lt (by omega)]
    constructor
    · intro h j h1 h2
      split at h
      · rename_i h0
        rcases Nat.lt_or_ge i j with z | z
        · exact (fstE_all k (i + 1) (by omega)).1 h j z h2
        · rw [show j = i by omega]; exact h0
      · contradiction
    · intro h
      rw [if_pos (h i (by omega) (by omega))]
      exact (fstE_all k (i + 1) (by omega)).2 fun j h1 h2 => h j (by omega) h2
theorem fstE_congr {e e' : Nat → Int} {n : Nat} (h : ∀ i, i < n → e i = e' i) : ∀ (k i : Nat), n - i = k → fstE e n i = fstE e' n i
  | 0, i, hk => by rw [fstE_ge (by omega), fstE_ge (by omega)]
  | k + 1, i, hk => by
    have hi : i < n := by omega
    have ih := fstE_congr h k (i + 1) (by omega)
    rw [fstE_lt hi, ih, h i hi, ← fstE_lt hi]
/-- Pairs: a day and a number. -/
abbrev P2 := Int × Int
def at2 (l : List P2) (i : Nat) : P2 := (l[i]?).getD (0, 0)
theorem at2_get {l : List P2} {i : Nat} (h : i < l.length) : l[i] = at2 l i := by unfold at2; rw [List.getElem?_eq_getElem h]; rfl
def enc2 (x : P2) : List Value := [i64 x.1, i64 x.2]
abbrev v2 (x : P2) : Value := .agg #[i64 x.1, i64 x.2]
theorem c2_len (l : List P2) : (cS enc2 l).length = l.length * 2 := cS_len (f := enc2) (es := 2) (fun _ => rfl) l
theorem c2_part {l : List P2} {i : Nat} (h : i < l.length) : ((cS enc2 l).drop (i * 2)).take 2 = [i64 (at2 l i).1, i64 (at2 l i).2] := by
  rw [cS_part (f := enc2) (es := 2) (fun _ => rfl) l i h, at2_get h]; rfl
theorem c2_0 {l : List P2} {i : Nat} (h : i < l.length) : (cS enc2 l)[i * 2]? = some (i64 (at2 l i).1) := by
  have := cS_get (f := enc2) (es := 2) (fun _ => rfl) l i 0 h (by omega)
  rw [Nat.add_zero] at this
  rw [this, at2_get h]; rfl
theorem c2_1 {l : List P2} {i : Nat} (h : i < l.length) : (cS enc2 l)[i * 2 + 1]? = some (i64 (at2 l i).2) := by
  rw [cS_get (f := enc2) (es := 2) (fun _ => rfl) l i 1 h (by omega), at2_get h]; rfl
abbrev Sl2 (h : Heap) (v : Value) (l : List P2) : Prop := Sl 2 h v l.length (cS enc2 l)
theorem c2_plain (l : List P2) : (cS enc2 l).all plainV = true := by simp [cS, List.all_flatMap, enc2, plainV]
theorem c2_one (l : List P2) : (cS enc2 l).all Value.oneCell' = true := by simp [cS, List.all_flatMap, enc2, Value.oneCell']
theorem wm1 {i : Nat} (h : 0 < i) (h2 : i < 1000000) : IntKind.wrap .i64 ((i : Int) - 1) = ((i - 1 : Nat) : Int) := by rw [wrap_eq (by omega) (by omega)]; omega
end U
end Go.Abs
