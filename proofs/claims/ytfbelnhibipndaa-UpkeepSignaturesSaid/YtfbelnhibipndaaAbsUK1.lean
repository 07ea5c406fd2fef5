/- Chapter 7: soundings. -/
import Derived.Test.YtfbelnhibipndaaAbsUJM
set_option linter.unusedSimpArgs false
set_option linter.unusedVariables false
namespace Go.Abs
namespace U
set_option maxRecDepth 100000
set_option maxHeartbeats 0
def sErr (l : List P3) (i : Nat) : Int :=
  if within (at3 l i).1 0 87 = true ∧ within (at3 l i).2.1 1 20000000 = true ∧ within (at3 l i).2.2 1 20000000 = true then (if (at3 l i).2.2 < (at3 l i).2.1 ∨ 0 < i ∧ (at3 l i).1 ≤ (at3 l (i - 1)).1 then 9 else 0) else 2
def chkS (l : List P3) : Int := if 88 < l.length then 8 else fstE (sErr l) l.length 0
theorem c80 {d lim : Nat} {h : Heap} {v : Value} {l : List P3} (s : Sl3 h v l) : E.call (d + 3) lim 80 [v] h = some (i64 (chkS l), h) := by
  have r := s.rules2
  refine call1 fn80 rfl (by simp [ef80]) ?_
  by_cases h20 : 88 < l.length
  case pos =>
    have i20 : (88 : Int) < l.length := by omega
    simp [ef80, r, i20, chkS, h20, Int.not_le.2 i20, Nat.not_le.2 h20]
  have i20 : ¬ (88 : Int) < l.length := by omega
  have e0 : chkS l = fstE (sErr l) l.length 0 := by simp [chkS, h20]
  generalize chkS l = E0 at *
  simp [ef80, r, i20, Int.not_lt.1 i20]
  refine wpC_loop (fun q st => ∃ i : Nat, q = l.length - i ∧ i ≤ l.length ∧ fstE (sErr l) l.length i = E0 ∧ st = ⟨[(0, v), (8, v), (9, i64 (l.length : Int)), (10, i64 (i : Int))], h.freeze⟩) l.length (by show l.length < 2 ^ 64; omega) ?_ ?_
  · simp [St.tidy, r]
    exact ⟨0, by omega, by omega, e0.symm, rfl⟩
  · rintro q hq _ ⟨i, rfl, hi, hc, rfl⟩
    by_cases hlt : i < l.length
    · have w1' := w1 (i := i) (by omega)
      have p := c3_part hlt
      have k3 : i * 3 + 3 ≤ l.length * 3 := by omega
      have hlti : (i : Int) < l.length := by omega
      rw [fstE_lt hlt] at hc
      by_cases q1 : within (at3 l i).1 0 87 = true
      case neg =>
        rw [show sErr l i = 2 by simp [sErr, q1], if_neg (by decide)] at hc
        subst hc
        simp [hlti, hlt, Nat.not_le.2 hlt, r, k3, p, c78, q1]
      by_cases q2 : within (at3 l i).2.1 1 20000000 = true
      case neg =>
        rw [show sErr l i = 2 by simp [sErr, q1, q2], if_neg (by decide)] at hc
        subst hc
        simp [hlti, hlt, Nat.not_le.2 hlt, r, k3, p, c78, c65, q1, q2]
      by_cases q3 : within (at3 l i).2.2 1 20000000 = true
      case neg =>
        rw [show sErr l i = 2 by simp [sErr, q1, q2, q3], if_neg (by decide)] at hc
        subst hc
        simp [hlti, hlt, Nat.not_le.2 hlt, r, k3, p, c78, c65, q1, q2, q3]
      by_cases q4 : (at3 l i).2.2 < (at3 l i).2.1
      · rw [show sErr l i = 9 by simp [sErr, q1, q2, q3, q4], if_neg (by decide)] at hc
        subst hc
        simp [hlti, hlt, Nat.not_le.2 hlt, r, k3, p, c78, c65, q1, q2, q3, q4, Int.not_le.2 q4]
      by_cases q5 : 0 < i
      case neg =>
        have q5' : ¬ (0 : Int) < i := by omega
        rw [show sErr l i = 0 by simp [sErr, q1, q2, q3, q4, q5], if_pos rfl] at hc
        simp [hlti, hlt, Nat.not_le.2 hlt, r, k3, p, c78, c65, q1, q2, q3, q4, Int.not_lt.1 q4, q5, q5', w1', St.tidy]
        exact ⟨l.length - (i + 1), by omega, i + 1, by omega, by omega, hc, by omega⟩
      have wm := wm1 q5 (by omega)
      have q5' : (0 : Int) < i := by omega
      have pm := c3_0 (l := l) (i := i - 1) (by omega)
      have km : (i - 1) * 3 < l.length * 3 := by omega
      have km2 : ((i - 1 : Nat) : Int) < l.length := by omega
      by_cases q6 : (at3 l i).1 ≤ (at3 l (i - 1)).1
      · rw [show sErr l i = 9 by simp [sErr, q1, q2, q3, q4, q5, q6], if_neg (by decide)] at hc
        subst hc
        simp [hlti, hlt, Nat.not_le.2 hlt, r, k3, p, c78, c65, q1, q2, q3, q4, Int.not_lt.1 q4, q5, q5', q6, wm, pm, km, km2]
      · rw [show sErr l i = 0 by simp [sErr, q1, q2, q3, q4, q5, q6], if_pos rfl] at hc
        simp [hlti, hlt, Nat.not_le.2 hlt, r, k3, p, c78, c65, q1, q2, q3, q4, Int.not_lt.1 q4, q5, q5', q6, wm, pm, km, km2, w1', St.tidy]
        exact ⟨l.length - (i + 1), by omega, i + 1, by omega, by omega, hc, by omega⟩
    · obtain rfl : i = l.length := by omega
      rw [fstE_ge (by omega)] at hc
      subst hc
      simp [r]
theorem c81 {d lim : Nat} {h : Heap} {v : Value} {l : List P3} (s : Sl3 h v l) : E.call (d + 3) lim 81 [v] h = some (i64 (chkS l), h) := by
  have r := s.rules2
  refine call1 fn81 rfl (by simp [ef81]) ?_
  by_cases h20 : 88 < l.length
  case pos =>
    have i20 : (88 : Int) < l.length := by omega
    simp [ef81, r, i20, chkS, h20, Int.not_le.2 i20, Nat.not_le.2 h20]
  have i20 : ¬ (88 : Int) < l.length := by omega
  have e0 : chkS l = fstE (sErr l) l.length 0 := by simp [chkS, h20]
  generalize chkS l = E0 at *
  simp [ef81, r, i20, Int.not_lt.1 i20]
  refine wpC_loop (fun q st => ∃ i : Nat, q = l.length - i ∧ i ≤ l.length ∧ fstE (sErr l) l.length i = E0 ∧ st = ⟨[(0, v), (3, i64 (i : Int))], h.freeze⟩) l.length (by show l.length < 2 ^ 64; omega) ?_ ?_
  · simp [St.tidy, r]
    exact ⟨0, by omega, by omega, e0.symm, rfl⟩
  · rintro q hq _ ⟨i, rfl, hi, hc, rfl⟩
    by_cases hlt : i < l.length
    · have w1' := w1 (i := i) (by omega)
      have p0 := c3_0 hlt
      have p1 := c3_1 hlt
      have p2 := c3_2 hlt
      have k0 : i * 3 < l.length * 3 := by omega
      have k1 : i * 3 + 1 < l.length * 3 := by omega
      have k2 : i * 3 + 2 < l.length * 3 := by omega
      have hlti : (i : Int) < l.length := by omega
      rw [fstE_lt hlt] at hc
      by_cases q1 : within (at3 l i).1 0 87 = true
      case neg =>
        rw [show sErr l i = 2 by simp [sErr, q1], if_neg (by decide)] at hc
        subst hc
        simp [hlti, hlt, Nat.not_le.2 hlt, r, k0, k1, k2, p0, p1, p2, c37, q1]
      by_cases q2 : within (at3 l i).2.1 1 20000000 = true
      case neg =>
        rw [show sErr l i = 2 by simp [sErr, q1, q2], if_neg (by decide)] at hc
        subst hc
        simp [hlti, hlt, Nat.not_le.2 hlt, r, k0, k1, k2, p0, p1, p2, c37, c30, q1, q2]
      by_cases q3 : within (at3 l i).2.2 1 20000000 = true
      case neg =>
        rw [show sErr l i = 2 by simp [sErr, q1, q2, q3], if_neg (by decide)] at hc
        subst hc
        simp [hlti, hlt, Nat.not_le.2 hlt, r, k0, k1, k2, p0, p1, p2, c37, c30, q1, q2, q3]
      by_cases q4 : (at3 l i).2.2 < (at3 l i).2.1
      · rw [show sErr l i = 9 by simp [sErr, q1, q2, q3, q4], if_neg (by decide)] at hc
        subst hc
        simp [hlti, hlt, Nat.not_le.2 hlt, r, k0, k1, k2, p0, p1, p2, c37, c30, q1, q2, q3, q4, Int.not_le.2 q4]
      by_cases q5 : 0 < i
      case neg =>
        have q5' : ¬ (0 : Int) < i := by omega
        rw [show sErr l i = 0 by simp [sErr, q1, q2, q3, q4, q5], if_pos rfl] at hc
        simp [hlti, hlt, Nat.not_le.2 hlt, r, k0, k1, k2, p0, p1, p2, c37, c30, q1, q2, q3, q4, Int.not_lt.1 q4, q5, q5', w1', St.tidy]
        exact ⟨l.length - (i + 1), by omega, i + 1, by omega, by omega, hc, by omega⟩
      have wm := wm1 q5 (by omega)
      have q5' : (0 : Int) < i := by omega
      have pm := c3_0 (l := l) (i := i - 1) (by omega)
      have km : (i - 1) * 3 < l.length * 3 := by omega
      have km2 : ((i - 1 : Nat) : Int) < l.length := by omega
      by_cases q6 : (at3 l i).1 ≤ (at3 l (i - 1)).1
      · rw [show sErr l i = 9 by simp [sErr, q1, q2, q3, q4, q5, q6], if_neg (by decide)] at hc
        subst hc
        simp [hlti, hlt, Nat.not_le.2 hlt, r, k0, k1, k2, p0, p1, p2, c37, c30, q1, q2, q3, q4, Int.not_lt.1 q4, q5, q5', q6, wm, pm, km, km2]
      · rw [show sErr l i = 0 by simp [sErr, q1, q2, q3, q4, q5, q6], if_pos rfl] at hc
        simp [hlti, hlt, Nat.not_le.2 hlt, r, k0, k1, k2, p0, p1, p2, c37, c30, q1, q2, q3, q4, Int.not_lt.1 q4, q5, q5', q6, wm, pm, km, km2, w1', St.tidy]
        exact ⟨l.length - (i + 1), by omega, i + 1, by omega, by omega, hc, by omega⟩
    · obtain rfl : i = l.length := by omega
      rw [fstE_ge (by omega)] at hc
      subst hc
      simp [r]
end U
end Go.Abs
