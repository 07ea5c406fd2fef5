/- Chapter 7: torques. -/
import Derived.Test.YtfbelnhibipndaaAbsUC0
import Derived.Test.YtfbelnhibipndaaAbsUT
set_option linter.unusedSimpArgs false
set_option linter.unusedVariables false
namespace Go.Abs
namespace U
set_option maxRecDepth 100000
set_option maxHeartbeats 0
def tErr (l : List P2) (i : Nat) : Int := if within (at2 l i).1 0 100000 = true ∧ within (at2 l i).2 0 100000 = true then (if 0 < i ∧ (at2 l i).1 ≤ (at2 l (i - 1)).1 then 9 else 0) else 2
def chkT (l : List P2) : Int := if 60 < l.length then 8 else fstE (tErr l) l.length 0
theorem c48 {d lim : Nat} {h : Heap} {v : Value} {l : List P2} (s : Sl2 h v l) : E.call (d + 3) lim 48 [v] h = some (i64 (chkT l), h) := by
  have r := s.rules2
  refine call1 fn48 rfl (by simp [ef48]) ?_
  by_cases h60 : 60 < l.length
  case pos =>
    have i60 : (60 : Int) < l.length := by omega
    simp [ef48, r, i60, chkT, h60, Int.not_le.2 i60, Nat.not_le.2 h60]
  have i60 : ¬ (60 : Int) < l.length := by omega
  have e0 : chkT l = fstE (tErr l) l.length 0 := by simp [chkT, h60]
  generalize chkT l = E0 at *
  simp [ef48, r, i60, Int.not_lt.1 i60]
  refine wpC_loop (fun q st => ∃ i : Nat, q = l.length - i ∧ i ≤ l.length ∧ fstE (tErr l) l.length i = E0 ∧ st = ⟨[(0, v), (8, v), (9, i64 (l.length : Int)), (10, i64 (i : Int))], h.freeze⟩) l.length (by show l.length < 2 ^ 64; omega) ?_ ?_
  · simp [St.tidy, r]
    exact ⟨0, by omega, by omega, e0.symm, rfl⟩
  · rintro q hq _ ⟨i, rfl, hi, hc, rfl⟩
    by_cases hlt : i < l.length
    · have w1' := w1 (i := i) (by omega)
      have p := c2_part hlt
      have k2 : i * 2 + 2 ≤ l.length * 2 := by omega
      have hlti : (i : Int) < l.length := by omega
      rw [fstE_lt hlt] at hc
      by_cases q1 : within (at2 l i).1 0 100000 = true
      case neg =>
        rw [show tErr l i = 2 by simp [tErr, q1], if_neg (by decide)] at hc
        subst hc
        simp [hlti, r, k2, p, c70, q1]
      by_cases q2 : within (at2 l i).2 0 100000 = true
      case neg =>
        rw [show tErr l i = 2 by simp [tErr, q1, q2], if_neg (by decide)] at hc
        subst hc
        simp [hlti, r, k2, p, c70, c65, q1, q2]
      by_cases q3 : 0 < i
      case neg =>
        have q3' : ¬ (0 : Int) < i := by omega
        rw [show tErr l i = 0 by simp [tErr, q1, q2, q3], if_pos rfl] at hc
        simp [hlti, hlt, r, k2, p, c70, c65, q1, q2, q3, q3', w1', St.tidy]
        exact ⟨l.length - (i + 1), by omega, i + 1, by omega, by omega, hc, by omega⟩
      have wm := wm1 q3 (by omega)
      have q3' : (0 : Int) < i := by omega
      have pm := c2_0 (l := l) (i := i - 1) (by omega)
      have km : (i - 1) * 2 < l.length * 2 := by omega
      have km2 : ((i - 1 : Nat) : Int) < l.length := by omega
      by_cases q4 : (at2 l i).1 ≤ (at2 l (i - 1)).1
      · rw [show tErr l i = 9 by simp [tErr, q1, q2, q3, q4], if_neg (by decide)] at hc
        subst hc
        simp [hlti, r, k2, p, c70, c65, q1, q2, q3, q3', q4, wm, pm, km, km2]
      · rw [show tErr l i = 0 by simp [tErr, q1, q2, q3, q4], if_pos rfl] at hc
        simp [hlti, r, k2, p, c70, c65, q1, q2, q3, q3', q4, wm, pm, km, km2, w1', St.tidy]
        exact ⟨l.length - (i + 1), by omega, i + 1, by omega, by omega, hc, by omega⟩
    · obtain rfl : i = l.length := by omega
      rw [fstE_ge (by omega)] at hc
      subst hc
      simp [r]
end U
end Go.Abs
