/- Chapter 7: lists of triples; where something is first. -/
import Derived.Test.YtfbelnhibipndaaAbsUC0
import Derived.Test.YtfbelnhibipndaaAbsUC00
set_option linter.unusedSimpArgs false
set_option linter.unusedVariables false
namespace Go.Abs
namespace U
set_option maxRecDepth 100000
set_option maxHeartbeats 0
theorem c37 {d lim : Nat} {h : Heap} {a : Int} : E.call (d + 2) lim 37 [i64 a] h = some (.bool (within a 0 87), h) := by
  refine call1 fn37 rfl (by simp [ef37]) ?_
  simp [ef37, c30]
theorem c78 {d lim : Nat} {h : Heap} {a : Int} : E.call (d + 2) lim 78 [i64 a] h = some (.bool (within a 0 87), h) := by
  refine call1 fn78 rfl (by simp [ef78]) ?_
  simp [ef78, c65]
/-- Triples. -/
abbrev P3 := Int × Int × Int
def at3 (l : List P3) (i : Nat) : P3 := (l[i]?).getD (0, 0, 0)
theorem at3_get {l : List P3} {i : Nat} (h : i < l.length) : l[i] = at3 l i := by unfold at3; rw [List.getElem?_eq_getElem h]; rfl
def enc3 (x : P3) : List Value := [i64 x.1, i64 x.2.1, i64 x.2.2]
abbrev v3 (x : P3) : Value := .agg #[i64 x.1, i64 x.2.1, i64 x.2.2]
theorem c3_len (l : List P3) : (cS enc3 l).length = l.length * 3 := cS_len (f := enc3) (es := 3) (fun _ => rfl) l
theorem c3_part {l : List P3} {i : Nat} (h : i < l.length) : ((cS enc3 l).drop (i * 3)).take 3 = [i64 (at3 l i).1, i64 (at3 l i).2.1, i64 (at3 l i).2.2] := by
  rw [cS_part (f := enc3) (es := 3) (fun _ => rfl) l i h, at3_get h]; rfl
theorem c3_0 {l : List P3} {i : Nat} (h : i < l.length) : (cS enc3 l)[i * 3]? = some (i64 (at3 l i).1) := by
  have := cS_get (f := enc3) (es := 3) (fun _ => rfl) l i 0 h (by omega)
  rw [Nat.add_zero] at this
  rw [this, at3_get h]; rfl
theorem c3_1 {l : List P3} {i : Nat} (h : i < l.length) : (cS enc3 l)[i * 3 + 1]? = some (i64 (at3 l i).2.1) := by
  rw [cS_get (f := enc3) (es := 3) (fun _ => rfl) l i 1 h (by omega), at3_get h]; rfl
theorem c3_2 {l : List P3} {i : Nat} (h : i < l.length) : (cS enc3 l)[i * 3 + 2]? = some (i64 (at3 l i).2.2) := by
  rw [cS_get (f := enc3) (es := 3) (fun _ => rfl) l i 2 h (by omega), at3_get h]; rfl
abbrev Sl3 (h : Heap) (v : Value) (l : List P3) : Prop := Sl 3 h v l.length (cS enc3 l)
theorem c3_plain (l : List P3) : (cS enc3 l).all plainV = true := by simp [cS, List.all_flatMap, enc3, plainV]
theorem c3_one (l : List P3) : (cS enc3 l).all Value.oneCell' = true := by simp [cS, List.all_flatMap, enc3, Value.oneCell']
/-- The first number that has a property. -/
def fstI (p : Nat → Bool) (n i : Nat) : Nat := if i < n then (if p i then i else fstI p n (i + 1)) else n
termination_by n - i
theorem fstI_lt {p : Nat → Bool} {n i : Nat} (h : i < n) : fstI p n i = if p i then i else fstI p n (i + 1) := by rw [fstI, if_pos h]
theorem fstI_ge {p : Nat → Bool} {n i : Nat} (h : ¬ i < n) : fstI p n i = n := by rw [fstI, if_neg h]
theorem fstI_spec {p : Nat → Bool} {n : Nat} : ∀ (k i : Nat), n - i = k → i ≤ n → i ≤ fstI p n i ∧ fstI p n i ≤ n ∧ (fstI p n i < n → p (fstI p n i) = true) ∧ ∀ j, i ≤ j → j < fstI p n i → p j = false
  | 0, i, hk, hi => by
    rw [fstI_ge (by omega)]
    exact ⟨hi, Nat.le_refl _, fun h => by omega, fun j h1 h2 => by omega⟩
  | k + 1, i, hk, hi => by
    rw [fstI_lt (by omega)]
    split
    · rename_i h0
      exact ⟨Nat.le_refl _, hi, fun _ => h0, fun j h1 h2 => by omega⟩
    · rename_i h0
      obtain ⟨a, b, c, e⟩ := fstI_spec (p := p) (n := n) k (i + 1) (by omega) (by omega)
      refine ⟨by omega, b, c, fun j h1 h2 => ?_⟩
      rcases Nat.lt_or_ge i j with z | z
      · exact e j z h2
      · rw [show j = i by omega]; simpa using h0
end U
end Go.Abs
