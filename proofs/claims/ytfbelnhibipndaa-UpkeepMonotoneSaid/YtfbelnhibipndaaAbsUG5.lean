/- Chapter 7: drift: the law. -/
import Derived.Test.YtfbelnhibipndaaAbsUG4
import Derived.Test.YtfbelnhibipndaaAbsUF4
set_option linter.unusedSimpArgs false
set_option linter.unusedVariables false
namespace Go.Abs
namespace U
set_option maxRecDepth 100000
set_option maxHeartbeats 0
theorem law5 {bs : Heap} {lim : Nat} {v : Value} {l : List P2} {s m r t day : Int} (h1 : bs.length = 1) (sl : Sl2 bs v l) : E.call 31 lim 5 [vD s m r t, v, i64 day] bs = some (.bool true, bs) := by
  have rr := sl.rules2
  obtain ⟨z, hx⟩ := fr1c h1
  have aw : ∀ lim L, E.call 30 lim 14 [] (bs.freeze ++ [L]) = some (.bool true, bs.freeze ++ [L]) := fun lim L => by rw [hx]; exact awake2 lim z L
  have K17 := fun (L : Heap) lim => c17 (d := 29) (lim := lim) (m := 10) ((Sl_freeze.2 sl).app L)
  refine call1 fn5 rfl (by simp [ef5]) ?_
  by_cases q0 : rdB l.length 10 = true
  case neg => simp [ef5, aw, K17, q0]
  have hl : l.length ≤ 203 := by
    unfold rdB at q0
    simp at q0; omega
  by_cases q1 : 400 < day ∧ day ≤ 4000
  · simp [ef5, aw, K17, q0, q1]
  have K18 := fun (L : Heap) lim => c18 (d := 27) (lim := lim) ((Sl_freeze.2 sl).app L)
  have K20 := fun (L : Heap) lim => c20 (d := 29) (lim := lim) (h := Heap.freeze (bs.freeze ++ L)) (Sl_freeze.2 ((Sl_freeze.2 sl).app L)) (by omega)
  have K25 := fun (L : Heap) (b' n' lim : Nat) (hg : Heap.get (bs.freeze ++ L) b' = some ⟨cS enc2 l, true⟩) (hn : n' = l.length) => c25 (d := 21) (lim := lim) (s := s) (m := m) (r := r) (t := t) (day := day) (Sl_own (f := enc2) (es := 2) (fun _ => rfl) hg hn)
  have K26 := fun (L : Heap) (b' n' lim : Nat) (hg : Heap.get (bs.freeze ++ L) b' = some ⟨cS enc2 l, true⟩) (hn : n' = l.length) => c26 (d := 21) (lim := lim) (s := s) (m := m) (r := r) (t := t) (day := day) (Sl_own (f := enc2) (es := 2) (fun _ => rfl) hg hn)
  have K27 := fun (L : Heap) (b' n' lim : Nat) (hg : Heap.get (bs.freeze ++ L) b' = some ⟨cS enc2 l, true⟩) (hn : n' = l.length) => c27 (d := 22) (lim := lim) (s := s) (m := m) (r := r) (t := t) (day := day) (Sl_own (f := enc2) (es := 2) (fun _ => rfl) hg hn)
  have K28 := fun H lim => c28 (d := 28) (lim := lim) (h := H) (s := s) (m := m) (r := r) (t := t)
  have K29 := fun H lim => c29 (d := 28) (lim := lim) (h := H) (s := s) (m := m) (r := r) (t := t)
  unfold moE at K25
  unfold ofE at K26
  unfold svE at K27
  unfold allE at K25 K26 K27
  by_cases q2 : drE s m r t = 0
  case neg => simp [ef5, aw, K17, q0, q1, K20, K25, K26, K27, K28, K29, q2]
  by_cases q3 : chkC l = 0
  case neg => simp [ef5, aw, K17, K18, q0, q1, K20, K25, K26, K27, K28, K29, q2, q3]
  by_cases q4 : within day 0 4000 = true
  case neg =>
    have q5 : ¬ within day 1 4000 = true := fun z => q4 (within_iffC.2 (by have := within_iffC.1 z; omega))
    simp [ef5, aw, K17, K18, q0, q1, K20, K25, K26, K27, K28, K29, c30, q2, q3, q4, q5]
  have q4' := within_iffC.1 q4
  obtain ⟨n, rfl⟩ := Int.eq_ofNat_of_zero_le (show 0 ≤ day by omega)
  have qd : within s 0 1000 = true ∧ within m 1 365 = true ∧ within r 0 1000 = true ∧ within t 0 1000000 = true := by
    have q2 := q2
    unfold drE at q2
    by_cases z : within s 0 1000 = true ∧ within m 1 365 = true ∧ within r 0 1000 = true ∧ within t 0 1000000 = true
    · exact z
    · rw [if_neg z] at q2; cases q2
  obtain ⟨s0, m0, r0, t0⟩ := qd
  have K31 := fun (L : Heap) lim => c31 (d := 28) (lim := lim) (r := r) (t := t) (day := n) ((Sl_freeze.2 sl).app L) (COk.of q3) s0 m0 (by omega)
  have K32 := fun (L : Heap) lim => c32 (d := 27) (lim := lim) (t := t) (day := n) ((Sl_freeze.2 sl).app L) (COk.of q3) s0 m0 r0 (by omega)
  by_cases q5 : n = 0
  · subst q5
    have q6 : ¬ within 0 1 4000 = true := by decide
    have z0 : ((0 : Nat) : Int) = 0 := rfl
    simp only [z0] at K25 K26 K27 K31 K32 q4
    simp [ef5, aw, K17, K18, q0, K20, K25, K26, K27, K28, K29, K31, K32, c30, q2, q3, q4, q6]
  · have K33 := fun (L : Heap) lim => c33 (d := 28) (lim := lim) (t := t) (day := n) ((Sl_freeze.2 sl).app L) (COk.of q3) s0 m0 r0 (by omega) (by omega)
    have q6 : within (n : Int) 1 4000 = true := within_iffC.2 (by omega)
    simp [ef5, aw, K17, K18, q0, q1, K20, K25, K26, K27, K28, K29, K31, K32, K33, c30, q2, q3, q4, q5, q6]
end U
end Go.Abs
