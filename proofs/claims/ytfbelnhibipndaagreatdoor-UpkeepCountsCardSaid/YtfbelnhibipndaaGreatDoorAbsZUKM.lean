/- Chapter 7: soundings. -/
import Derived.Test.YtfbelnhibipndaaGreatDoorAbsZUJM
set_option linter.unusedSimpArgs false
set_option linter.unusedVariables false
/- Chapter 7: soundings. -/
namespace Go.Abs
namespace Z.U
set_option maxRecDepth 100000
set_option maxHeartbeats 0
end Z.U
end Go.Abs
/- Chapter 7: what is heard: the reference. -/
namespace Go.Abs
namespace Z.U
set_option maxRecDepth 100000
set_option maxHeartbeats 0
def fndS (s : List P3) (n : Int) : Nat := fstI (fun k => decide ((at3 s k).1 = n)) s.length 0
def sndV (s : List P3) (n : Int) : P2 := if fndS s n < s.length then ((at3 s (fndS s n)).2.1, (at3 s (fndS s n)).2.2) else (0, 0)
/-- Good tests. -/
structure TOk (l : List P4) : Prop where
  len : l.length ≤ 60
  chk : ∀ i, i < l.length → chkX (at4 l i).1 (at4 l i).2.1 (at4 l i).2.2.1 (at4 l i).2.2.2 = 0
  one : ∀ i, i < l.length → ∀ k, k < i → at4 l k ≠ at4 l i
theorem TOk.of {l : List P4} (h : chkTs l = 0) : TOk l := by
  unfold chkTs at h
  by_cases q : 60 < l.length
  · rw [if_pos q] at h; cases h
  rw [if_neg q, fstE_all _ 0 rfl] at h
  have key : ∀ i, i < l.length → chkX (at4 l i).1 (at4 l i).2.1 (at4 l i).2.2.1 (at4 l i).2.2.2 = 0 ∧ ¬ has4 (l.take i) (at4 l i) = true := fun i hi => by
    have := h i (by omega) hi
    unfold tErr at this
    by_cases z : chkX (at4 l i).1 (at4 l i).2.1 (at4 l i).2.2.1 (at4 l i).2.2.2 = 0
    · rw [if_pos z] at this
      refine ⟨z, fun y => ?_⟩
      rw [if_pos y] at this; cases this
    · rw [if_neg z] at this; exact absurd this z
  refine ⟨by omega, fun i hi => (key i hi).1, fun i hi k hk e => (key i hi).2 ?_⟩
  rw [has4_iff]
  exact ⟨k, by rw [List.length_take]; omega, by rw [at4_take hk]; exact e⟩
theorem chkX_0 {n m p q : Int} (h : chkX n m p q = 0) : (0 ≤ n ∧ n ≤ 87) ∧ (0 ≤ m ∧ m ≤ 87) ∧ (1 ≤ p ∧ p ≤ 16) ∧ (1 ≤ q ∧ q ≤ 16) ∧ n < m := by
  unfold chkX at h
  by_cases z : within n 0 87 = true ∧ within m 0 87 = true ∧ within p 1 16 = true ∧ within q 1 16 = true
  · rw [if_pos z] at h
    obtain ⟨a, b, c, e⟩ := z
    have : ∀ {a b c : Int}, within a b c = true ↔ b ≤ a ∧ a ≤ c := by simp [within]
    refine ⟨this.1 a, this.1 b, this.1 c, this.1 e, ?_⟩
    by_cases y : m ≤ n
    · rw [if_pos y] at h; cases h
    · omega
  · rw [if_neg z] at h; cases h
/-- Counts. -/
abbrev P6 := P4 × P2
def enc6 (x : P6) : List Value := enc4 x.1 ++ enc2 x.2
def hrd (s : List P3) (l : List P4) (i : Nat) : P6 :=
  (at4 l i, ((at4 l i).2.2.2 * (sndV s (at4 l i).2.1).1 - (at4 l i).2.2.1 * (sndV s (at4 l i).1).2, (at4 l i).2.2.2 * (sndV s (at4 l i).2.1).2 - (at4 l i).2.2.1 * (sndV s (at4 l i).1).1))
def hL (s : List P3) (l : List P4) (k : Nat) : List P6 := (List.range k).map (hrd s l)
theorem c6_plain (l : List P6) : (cS enc6 l).all plainV = true := by simp [cS, List.all_flatMap, enc6, enc4, enc2, plainV]
theorem c6_one (l : List P6) : (cS enc6 l).all Value.oneCell' = true := by simp [cS, List.all_flatMap, enc6, enc4, enc2, Value.oneCell']
end Z.U
end Go.Abs
