/- Chapter 7: torques: the reference, loose pins. -/
import Derived.Test.YtfbelnhibipndaaAbsUC1
import Derived.Test.YtfbelnhibipndaaAbsUC00
set_option linter.unusedSimpArgs false
set_option linter.unusedVariables false
namespace Go.Abs
namespace U
set_option maxRecDepth 100000
set_option maxHeartbeats 0
theorem c49 {d lim : Nat} {h : Heap} {v : Value} {l : List P2} (s : Sl2 h v l) : E.call (d + 3) lim 49 [v] h = some (i64 (chkT l), h) := by
  have r := s.rules2
  refine call1 fn49 rfl (by simp [ef49]) ?_
  by_cases h60 : 60 < l.length
  case pos =>
    have i60 : (60 : Int) < l.length := by omega
    simp [ef49, r, i60, chkT, h60, Int.not_le.2 i60, Nat.not_le.2 h60]
  have i60 : ¬ (60 : Int) < l.length := by omega
  have e0 : chkT l = fstE (tErr l) l.length 0 := by simp [chkT, h60]
  generalize chkT l = E0 at *
  simp [ef49, r, i60, Int.not_lt.1 i60]
  refine wpC_loop (fun q st => ∃ i : Nat, q = l.length - i ∧ i ≤ l.length ∧ fstE (tErr l) l.length i = E0 ∧ st = ⟨[(0, v), (3, i64 (i : Int))], h.freeze⟩) l.length (by show l.length < 2 ^ 64; omega) ?_ ?_
  · simp [St.tidy, r]
    exact ⟨0, by omega, by omega, e0.symm, rfl⟩
  · rintro q hq _ ⟨i, rfl, hi, hc, rfl⟩
    by_cases hlt : i < l.length
    · have w1' := w1 (i := i) (by omega)
      have p0 := c2_0 hlt
      have p1 := c2_1 hlt
      have k0 : i * 2 < l.length * 2 := by omega
      have k1 : i * 2 + 1 < l.length * 2 := by omega
      have hlti : (i : Int) < l.length := by omega
      rw [fstE_lt hlt] at hc
      by_cases q1 : within (at2 l i).1 0 100000 = true
      case neg =>
        rw [show tErr l i = 2 by simp [tErr, q1], if_neg (by decide)] at hc
        subst hc
        simp [hlti, hlt, Nat.not_le.2 hlt, r, k0, k1, p0, p1, c23, q1]
      by_cases q2 : within (at2 l i).2 0 100000 = true
      case neg =>
        rw [show tErr l i = 2 by simp [tErr, q1, q2], if_neg (by decide)] at hc
        subst hc
        simp [hlti, hlt, Nat.not_le.2 hlt, r, k0, k1, p0, p1, c23, c30, q1, q2]
      by_cases q3 : 0 < i
      case neg =>
        have q3' : ¬ (0 : Int) < i := by omega
        rw [show tErr l i = 0 by simp [tErr, q1, q2, q3], if_pos rfl] at hc
        simp [hlti, hlt, Nat.not_le.2 hlt, r, k0, k1, p0, p1, c23, c30, q1, q2, q3, q3', w1', St.tidy]
        exact ⟨l.length - (i + 1), by omega, i + 1, by omega, by omega, hc, by omega⟩
      have wm := wm1 q3 (by omega)
      have q3' : (0 : Int) < i := by omega
      have pm := c2_0 (l := l) (i := i - 1) (by omega)
      have km : (i - 1) * 2 < l.length * 2 := by omega
      have km2 : ((i - 1 : Nat) : Int) < l.length := by omega
      by_cases q4 : (at2 l i).1 ≤ (at2 l (i - 1)).1
      · rw [show tErr l i = 9 by simp [tErr, q1, q2, q3, q4], if_neg (by decide)] at hc
        subst hc
        simp [hlti, hlt, Nat.not_le.2 hlt, r, k0, k1, p0, p1, c23, c30, q1, q2, q3, q3', q4, wm, pm, km, km2]
      · rw [show tErr l i = 0 by simp [tErr, q1, q2, q3, q4], if_pos rfl] at hc
        simp [hlti, hlt, Nat.not_le.2 hlt, r, k0, k1, p0, p1, c23, c30, q1, q2, q3, q3', q4, wm, pm, km, km2, w1', St.tidy]
        exact ⟨l.length - (i + 1), by omega, i + 1, by omega, by omega, hc, by omega⟩
    · obtain rfl : i = l.length := by omega
      rw [fstE_ge (by omega)] at hc
      subst hc
      simp [r]
/-- The torques are right. -/
structure TOk (l : List P2) : Prop where
  len : l.length ≤ 60
  day : ∀ i, i < l.length → 0 ≤ (at2 l i).1 ∧ (at2 l i).1 ≤ 100000
  force : ∀ i, i < l.length → 0 ≤ (at2 l i).2 ∧ (at2 l i).2 ≤ 100000
  asc : ∀ i, i + 1 < l.length → (at2 l i).1 < (at2 l (i + 1)).1
theorem within_iff' {a b c : Int} : within a b c = true ↔ b ≤ a ∧ a ≤ c := by simp [within]
theorem TOk.of {l : List P2} (h : chkT l = 0) : TOk l := by
  unfold chkT at h
  split at h
  · contradiction
  · rename_i h60
    have k := (fstE_all _ 0 rfl).1 h
    have a : ∀ i, i < l.length → within (at2 l i).1 0 100000 = true ∧ within (at2 l i).2 0 100000 = true ∧ ¬ (0 < i ∧ (at2 l i).1 ≤ (at2 l (i - 1)).1) := fun i hi => by
      have := k i (by omega) hi
      unfold tErr at this
      split at this
      · rename_i q
        split at this
        · contradiction
        · rename_i q2; exact ⟨q.1, q.2, q2⟩
      · contradiction
    refine ⟨by omega, fun i hi => within_iff'.1 (a i hi).1, fun i hi => within_iff'.1 (a i hi).2.1, fun i hi => ?_⟩
    have := (a (i + 1) hi).2.2
    simp only [Nat.add_sub_cancel] at this
    omega
theorem TOk.lt {l : List P2} (O : TOk l) : ∀ (k i : Nat), i + k + 1 < l.length → (at2 l i).1 < (at2 l (i + k + 1)).1
  | 0, i, h => O.asc i h
  | k + 1, i, h => by
    have := O.lt k i (by omega)
    have := O.asc (i + k + 1) (by omega)
    rw [show i + (k + 1) + 1 = i + k + 1 + 1 by omega]; omega
/-- When a pin is loose: two records, the least torque. -/
def looseD (a b : P2) (f : Int) : Int × Int :=
  if b.2 ≤ f then (b.1, 0) else if a.2 ≤ b.2 then (0, 12) else
  if within (b.1 + ((b.2 - f) * (b.1 - a.1) + (a.2 - b.2) - 1) / (a.2 - b.2)) 0 100000 = true then (b.1 + ((b.2 - f) * (b.1 - a.1) + (a.2 - b.2) - 1) / (a.2 - b.2), 0) else (0, 12)
def looseV (l : List P2) (f : Int) : Int × Int :=
  if chkT l = 0 then (if within f 0 100000 = true then (if l.length < 2 then (0, 10) else looseD (at2 l 0) (at2 l (l.length - 1)) f) else (0, 2)) else (0, chkT l)
abbrev prV (x : Int × Int) : Value := .tuple #[i64 x.1, i64 x.2]
theorem c50 {d lim : Nat} {h : Heap} {v : Value} {l : List P2} {f : Int} (s : Sl2 h v l) : E.call (d + 4) lim 50 [v, i64 f] h = some (prV (looseV l f), h) := by
  have r := s.rules2
  have k48 := fun lim => c48 (d := d) (lim := lim) (h := h.freeze) (v := v) (l := l) (Sl_freeze.2 s)
  refine call1 fn50 rfl (by simp [ef50]) ?_
  unfold looseV
  by_cases q0 : chkT l = 0
  case neg => simp [ef50, k48, q0]
  by_cases q1 : within f 0 100000 = true
  case neg => simp [ef50, k48, q0, c65, q1]
  have O := TOk.of q0
  have hl := O.len
  by_cases q2 : l.length < 2
  · have q2' : (l.length : Int) < 2 := by omega
    simp [ef50, k48, q0, c65, q1, r, q2, q2', Int.not_le.2 q2', Nat.not_le.2 q2]
  have q2' : ¬ (l.length : Int) < 2 := by omega
  have l0 : 0 < l.length := by omega
  have hb := s.lt (by omega)
  have hne : ¬ h.length = slB v := by omega
  have lm : IntKind.wrap .i64 ((l.length : Int) - 1) = ((l.length - 1 : Nat) : Int) := by rw [wrap_eq (by omega) (by omega)]; omega
  have p0 : ((cS enc2 l).take 2) = [i64 (at2 l 0).1, i64 (at2 l 0).2] := by have := c2_part (l := l) (i := 0) l0; simpa using this
  have s0 : slAt 2 v (i64 0) = some (.pointer (some ⟨slB v, slO v, none⟩)) := by have := s.at (k := .i64) (i := 0) (by omega) (by omega); simpa using this
  have pp : h.part (slB v) (slO v) 2 = some (.agg #[i64 (at2 l 0).1, i64 (at2 l 0).2]) := by have := s.part (k := 0) (m := 2) (by omega) (by omega); simpa [p0] using this
  have pl := c2_part (l := l) (i := l.length - 1) (by omega)
  have k0 : 2 ≤ l.length * 2 := by omega
  have kl : (l.length - 1) * 2 + 2 ≤ l.length * 2 := by omega
  have il : ((l.length - 1 : Nat) : Int) < l.length := by omega
  have da := O.day 0 l0
  have db := O.day (l.length - 1) (by omega)
  have fa := O.force 0 l0
  have fb := O.force (l.length - 1) (by omega)
  have asc := O.lt (l.length - 2) 0 (by omega)
  rw [show 0 + (l.length - 2) + 1 = l.length - 1 by omega] at asc
  rw [within_iff'] at q1
  generalize at2 l 0 = a at *
  generalize at2 l (l.length - 1) = b at *
  obtain ⟨a1, a2⟩ := a
  obtain ⟨b1, b2⟩ := b
  simp only at da db fa fb asc
  have q1' : within f 0 100000 = true := within_iff'.2 q1
  by_cases q3 : b2 ≤ f
  · simp [ef50, k48, q0, c65, q1', r, q2, q2', l0, lm, hne, s0, pp, pl, k0, kl, il, looseD, q3, KOp_eq, Int.not_lt.1 q2', Nat.not_lt.1 q2]
  by_cases q4 : a2 ≤ b2
  · simp [ef50, k48, q0, c65, q1', r, q2, q2', l0, lm, hne, s0, pp, pl, k0, kl, il, looseD, q3, q4, KOp_eq, Int.not_lt.1 q2', Nat.not_lt.1 q2]
  have m1 := Int.mul_nonneg (show 0 ≤ b2 - f by omega) (show 0 ≤ b1 - a1 by omega)
  have m2 : (b2 - f) * (b1 - a1) ≤ 100000 * 100000 := Int.mul_le_mul (by omega) (by omega) (by omega) (by omega)
  generalize hM : (b2 - f) * (b1 - a1) = M at *
  have wa : IntKind.wrap .i64 (a2 - b2) = a2 - b2 := wrap_eq (by omega) (by omega)
  have wb : IntKind.wrap .i64 (b2 - f) = b2 - f := wrap_eq (by omega) (by omega)
  have wc : IntKind.wrap .i64 (b1 - a1) = b1 - a1 := wrap_eq (by omega) (by omega)
  have wd : IntKind.wrap .i64 M = M := wrap_eq (by omega) (by omega)
  have we : IntKind.wrap .i64 (M + (a2 - b2)) = M + (a2 - b2) := wrap_eq (by omega) (by omega)
  have wf : IntKind.wrap .i64 (M + (a2 - b2) - 1) = M + (a2 - b2) - 1 := wrap_eq (by omega) (by omega)
  have dv : qdiv (M + (a2 - b2) - 1) (a2 - b2) = (M + (a2 - b2) - 1) / (a2 - b2) := qdiv_nn (by omega)
  have dn : 0 ≤ (M + (a2 - b2) - 1) / (a2 - b2) := Int.ediv_nonneg (by omega) (by omega)
  have du : (M + (a2 - b2) - 1) / (a2 - b2) ≤ M + (a2 - b2) - 1 := Int.ediv_le_self _ (by omega)
  have f0 : a2 - b2 ≠ 0 := by omega
  generalize hQ : (M + (a2 - b2) - 1) / (a2 - b2) = Q at *
  have wg : IntKind.wrap .i64 Q = Q := wrap_eq (by omega) (by omega)
  have wh : IntKind.wrap .i64 (b1 + Q) = b1 + Q := wrap_eq (by omega) (by omega)
  by_cases q5 : within (b1 + Q) 0 100000 = true
  · simp [ef50, k48, q0, c65, c70, q1', r, q2, q2', l0, lm, hne, s0, pp, pl, k0, kl, il, looseD, q3, q4, KOp_eq, Int.not_lt.1 q2', Nat.not_lt.1 q2, hM, wa, wb, wc, wd, we, wf, dv, f0, wg, wh, hQ, q5]
  · simp [ef50, k48, q0, c65, c70, q1', r, q2, q2', l0, lm, hne, s0, pp, pl, k0, kl, il, looseD, q3, q4, KOp_eq, Int.not_lt.1 q2', Nat.not_lt.1 q2, hM, wa, wb, wc, wd, we, wf, dv, f0, wg, wh, hQ, q5]
end U
end Go.Abs
