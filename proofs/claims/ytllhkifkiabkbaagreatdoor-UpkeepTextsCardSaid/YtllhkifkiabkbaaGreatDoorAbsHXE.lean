/- Texts of chapter 7: the law walked, nothing read. -/
import Derived.Test.YtllhkifkiabkbaaGreatDoorAbsHXD
set_option linter.unusedSimpArgs false
set_option linter.unusedVariables false
/- Texts of chapter 7: the law walked, nothing read. -/
namespace Go.Abs
namespace H.U
set_option maxRecDepth 100000
set_option maxHeartbeats 0
set_option linter.unusedSimpArgs false
theorem law4a {lim : Nat} {h : Heap} {v : Value} {l : List P6} {a b : Int} {s T : List UInt8} {r1 r2 : Int × Int × Int} {p : List P6 × Nat × Int} (S : Sl6 h v l) (hl : l.length * 32 ≤ 140737488355328) (hs : s.length ≤ 300) (K : K4 h v l a b s T r1 r2 p) (k5 : chkN l = 0 → K5 h v l (prU l l.length)) (hp : p.1 = [])
    (aw : ∀ A, E.call 30 h.length 14 [] (h.freeze ++ [A]) = some (.bool true, h.freeze ++ [A])) :
    E1.call 31 lim 4 [v, c2 a b, tx s] h = some (.bool true, h) := by
  have f4 : E1.fn 4 = some ef4 := fn4
  refine call1 f4 rfl (by simp [ef4]) ?_
  have aw := fun A => up (aw A)
  have S' := Sl_freeze.2 S
  have tl := tsL_len l
  have k16 := fun (L : Heap) => up (c16 (d := 29) (lim := h.length) (S'.app L) hl)
  have nz4 : Sl4 h (.slice none 0 0) [] := ⟨rfl, rfl, fun q => absurd rfl q, .inl rfl, fun k hk => absurd hk (Nat.not_lt_zero k)⟩
  have so4 := fun (L : Heap) (b' n' : Nat) (hg : Heap.get (h.freeze ++ L) b' = some ⟨cS enc4 (tsL l), true⟩) (hn : n' = (tsL l).length) => Sl_own (f := enc4) (es := 4) (fun _ => rfl) hg hn
  have k15 := fun (L : Heap) (b' n' : Nat) (hg : Heap.get (h.freeze ++ L) b' = some ⟨cS enc4 (tsL l), true⟩) (hn : n' = (tsL l).length) => up (c15 (d := 29) (lim := h.length) (m := 6) (so4 L b' n' hg hn))
  have k15n := fun (L : Heap) => up (c15 (d := 29) (lim := h.length) (m := 6) ((Sl_freeze.2 nz4).app L))
  have f0' : fewB (((0 : Nat)) : Int) 6 = true := by decide
  simp only [List.length_nil, f0'] at k15n
  rw [tl] at k15
  unfold tV tB at k16
  obtain ⟨k17, k18, k19, k20, k17t, k21, k22, k23, k24, k24n, k26, k25, k27, back⟩ := K
  have pn := hp
  simp only [lV6, lB6, if_pos hp, List.append_nil] at k22 k23
  have g1' : ¬ (300 : Int) < s.length := by omega
  have g1n : (s.length : Int) ≤ 300 := by omega
  have g3' : ¬ (60005 : Int) < s.length := by omega
  have g3n : (s.length : Int) ≤ 60005 := by omega
  simp only [prVU] at k25
  obtain ⟨x1, x2, x3⟩ := r1
  obtain ⟨y1, y2, y3⟩ := r2
  obtain ⟨Y, n, g⟩ := p
  simp only at *
  by_cases l0 : l = []
  · have te : tsL l = [] := by rw [l0]; rfl
    simp only [te, if_true, List.append_nil] at k16
    have q0 : True := trivial
    have z : chkN l = 0 := by subst l0; unfold chkN; rw [if_neg (by simp), fstE_ge (by simp)]
    have K5 := k5 z
    have w24 := K5.k24n l0
    have w22 := K5.k22
    have w28 := K5.k28
    simp only [lV6, lB6, if_pos l0, List.append_nil] at w22
    generalize prU l l.length = t at *
    by_cases z2 : rdE a b = 0
    · obtain ⟨rfl, rfl, rfl⟩ : y1 = a ∧ y2 = b ∧ y3 = 0 := by have := back z2; simp at this; exact this
      simp [ef4, aw, k16, k15n, tl, q0, g1', g1n, g3', g3n, k17, k18, k19, k20, k17t, k21, k22, k23, k24n, k26, k25, k27, zeros, fillL, Nat.add_assoc, E.eqCells, z, z2, w22, w24, w28]
    · simp [ef4, aw, k16, k15n, tl, q0, g1', g1n, g3', g3n, k17, k18, k19, k20, k17t, k21, k22, k23, k24n, k26, k25, k27, zeros, fillL, Nat.add_assoc, E.eqCells, z, z2, w22, w24, w28]
  · have te : ¬ tsL l = [] := fun y => by rw [y] at tl; exact l0 (List.eq_nil_of_length_eq_zero tl.symm)
    simp only [if_neg te, tl] at k16
    by_cases q0 : fewB l.length 6 = true
    case neg => simp [ef4, aw, k16, k15, tl, q0]
    by_cases z : chkN l = 0
    · have K5 := k5 z
      have w24 := K5.k24
      have w22 := K5.k22
      have w28 := K5.k28
      simp only [lV6, lB6, if_neg l0] at w22
      generalize prU l l.length = t at *
      by_cases z2 : rdE a b = 0
      · obtain ⟨rfl, rfl, rfl⟩ : y1 = a ∧ y2 = b ∧ y3 = 0 := by have := back z2; simp at this; exact this
        simp [ef4, aw, k16, k15, tl, q0, g1', g1n, g3', g3n, k17, k18, k19, k20, k17t, k21, k22, k23, k24n, k26, k25, k27, zeros, fillL, Nat.add_assoc, E.eqCells, z, z2, w22, w24, w28]
      · simp [ef4, aw, k16, k15, tl, q0, g1', g1n, g3', g3n, k17, k18, k19, k20, k17t, k21, k22, k23, k24n, k26, k25, k27, zeros, fillL, Nat.add_assoc, E.eqCells, z, z2, w22, w24, w28]
    · by_cases z2 : rdE a b = 0
      · obtain ⟨rfl, rfl, rfl⟩ : y1 = a ∧ y2 = b ∧ y3 = 0 := by have := back z2; simp at this; exact this
        simp [ef4, aw, k16, k15, tl, q0, g1', g1n, g3', g3n, k17, k18, k19, k20, k17t, k21, k22, k23, k24n, k26, k25, k27, zeros, fillL, Nat.add_assoc, E.eqCells, z, z2]
      · simp [ef4, aw, k16, k15, tl, q0, g1', g1n, g3', g3n, k17, k18, k19, k20, k17t, k21, k22, k23, k24n, k26, k25, k27, zeros, fillL, Nat.add_assoc, E.eqCells, z, z2]
end H.U
end Go.Abs
/- Texts of chapter 7: the law walked, counts read. -/
namespace Go.Abs
namespace H.U
set_option maxRecDepth 100000
set_option maxHeartbeats 0
set_option linter.unusedSimpArgs false
theorem law4b {lim : Nat} {h : Heap} {v : Value} {l : List P6} {a b : Int} {s T : List UInt8} {r1 r2 : Int × Int × Int} {p : List P6 × Nat × Int} (S : Sl6 h v l) (hl : l.length * 32 ≤ 140737488355328) (hs : s.length ≤ 300) (K : K4 h v l a b s T r1 r2 p) (k5 : chkN l = 0 → K5 h v l (prU l l.length)) (hp : ¬ p.1 = [])
    (aw : ∀ A, E.call 30 h.length 14 [] (h.freeze ++ [A]) = some (.bool true, h.freeze ++ [A])) :
    E1.call 31 lim 4 [v, c2 a b, tx s] h = some (.bool true, h) := by
  have f4 : E1.fn 4 = some ef4 := fn4
  refine call1 f4 rfl (by simp [ef4]) ?_
  have aw := fun A => up (aw A)
  have S' := Sl_freeze.2 S
  have tl := tsL_len l
  have k16 := fun (L : Heap) => up (c16 (d := 29) (lim := h.length) (S'.app L) hl)
  have nz4 : Sl4 h (.slice none 0 0) [] := ⟨rfl, rfl, fun q => absurd rfl q, .inl rfl, fun k hk => absurd hk (Nat.not_lt_zero k)⟩
  have so4 := fun (L : Heap) (b' n' : Nat) (hg : Heap.get (h.freeze ++ L) b' = some ⟨cS enc4 (tsL l), true⟩) (hn : n' = (tsL l).length) => Sl_own (f := enc4) (es := 4) (fun _ => rfl) hg hn
  have k15 := fun (L : Heap) (b' n' : Nat) (hg : Heap.get (h.freeze ++ L) b' = some ⟨cS enc4 (tsL l), true⟩) (hn : n' = (tsL l).length) => up (c15 (d := 29) (lim := h.length) (m := 6) (so4 L b' n' hg hn))
  have k15n := fun (L : Heap) => up (c15 (d := 29) (lim := h.length) (m := 6) ((Sl_freeze.2 nz4).app L))
  have f0' : fewB (((0 : Nat)) : Int) 6 = true := by decide
  simp only [List.length_nil, f0'] at k15n
  rw [tl] at k15
  unfold tV tB at k16
  obtain ⟨k17, k18, k19, k20, k17t, k21, k22, k23, k24, k24n, k26, k25, k27, back⟩ := K
  have pn := hp
  simp only [lV6, lB6, if_neg hp] at k22 k23
  have g1' : ¬ (300 : Int) < s.length := by omega
  have g1n : (s.length : Int) ≤ 300 := by omega
  have g3' : ¬ (60005 : Int) < s.length := by omega
  have g3n : (s.length : Int) ≤ 60005 := by omega
  simp only [prVU] at k25
  obtain ⟨x1, x2, x3⟩ := r1
  obtain ⟨y1, y2, y3⟩ := r2
  obtain ⟨Y, n, g⟩ := p
  simp only at *
  by_cases l0 : l = []
  · have te : tsL l = [] := by rw [l0]; rfl
    simp only [te, if_true, List.append_nil] at k16
    have q0 : True := trivial
    have z : chkN l = 0 := by subst l0; unfold chkN; rw [if_neg (by simp), fstE_ge (by simp)]
    have K5 := k5 z
    have w24 := K5.k24n l0
    have w22 := K5.k22
    have w28 := K5.k28
    simp only [lV6, lB6, if_pos l0, List.append_nil] at w22
    generalize prU l l.length = t at *
    by_cases z2 : rdE a b = 0
    · obtain ⟨rfl, rfl, rfl⟩ : y1 = a ∧ y2 = b ∧ y3 = 0 := by have := back z2; simp at this; exact this
      simp [ef4, aw, k16, k15n, tl, q0, g1', g1n, g3', g3n, k17, k18, k19, k20, k17t, k21, k22, k23, k24, pn, k26, k25, k27, zeros, fillL, Nat.add_assoc, E.eqCells, z, z2, w22, w24, w28]
    · simp [ef4, aw, k16, k15n, tl, q0, g1', g1n, g3', g3n, k17, k18, k19, k20, k17t, k21, k22, k23, k24, pn, k26, k25, k27, zeros, fillL, Nat.add_assoc, E.eqCells, z, z2, w22, w24, w28]
  · have te : ¬ tsL l = [] := fun y => by rw [y] at tl; exact l0 (List.eq_nil_of_length_eq_zero tl.symm)
    simp only [if_neg te, tl] at k16
    by_cases q0 : fewB l.length 6 = true
    case neg => simp [ef4, aw, k16, k15, tl, q0]
    by_cases z : chkN l = 0
    · have K5 := k5 z
      have w24 := K5.k24
      have w22 := K5.k22
      have w28 := K5.k28
      simp only [lV6, lB6, if_neg l0] at w22
      generalize prU l l.length = t at *
      by_cases z2 : rdE a b = 0
      · obtain ⟨rfl, rfl, rfl⟩ : y1 = a ∧ y2 = b ∧ y3 = 0 := by have := back z2; simp at this; exact this
        simp [ef4, aw, k16, k15, tl, q0, g1', g1n, g3', g3n, k17, k18, k19, k20, k17t, k21, k22, k23, k24, pn, k26, k25, k27, zeros, fillL, Nat.add_assoc, E.eqCells, z, z2, w22, w24, w28]
      · simp [ef4, aw, k16, k15, tl, q0, g1', g1n, g3', g3n, k17, k18, k19, k20, k17t, k21, k22, k23, k24, pn, k26, k25, k27, zeros, fillL, Nat.add_assoc, E.eqCells, z, z2, w22, w24, w28]
    · by_cases z2 : rdE a b = 0
      · obtain ⟨rfl, rfl, rfl⟩ : y1 = a ∧ y2 = b ∧ y3 = 0 := by have := back z2; simp at this; exact this
        simp [ef4, aw, k16, k15, tl, q0, g1', g1n, g3', g3n, k17, k18, k19, k20, k17t, k21, k22, k23, k24, pn, k26, k25, k27, zeros, fillL, Nat.add_assoc, E.eqCells, z, z2]
      · simp [ef4, aw, k16, k15, tl, q0, g1', g1n, g3', g3n, k17, k18, k19, k20, k17t, k21, k22, k23, k24, pn, k26, k25, k27, zeros, fillL, Nat.add_assoc, E.eqCells, z, z2]
end H.U
end Go.Abs
/- Texts of chapter 7: the law walked, a text that is too long. -/
namespace Go.Abs
namespace H.U
set_option maxRecDepth 100000
set_option maxHeartbeats 0
set_option linter.unusedSimpArgs false
theorem law4c {lim : Nat} {h : Heap} {v : Value} {l : List P6} {a b : Int} {s T : List UInt8} {r1 r2 : Int × Int × Int} {p : List P6 × Nat × Int} (S : Sl6 h v l) (hl : l.length * 32 ≤ 140737488355328) (hs : 60000 < s.length ∧ s.length ≤ 60005) (K : K4 h v l a b s T r1 r2 p) (k5 : chkN l = 0 → K5 h v l (prU l l.length)) (hp : p.1 = [])
    (aw : ∀ A, E.call 30 h.length 14 [] (h.freeze ++ [A]) = some (.bool true, h.freeze ++ [A])) :
    E1.call 31 lim 4 [v, c2 a b, tx s] h = some (.bool true, h) := by
  have f4 : E1.fn 4 = some ef4 := fn4
  refine call1 f4 rfl (by simp [ef4]) ?_
  have aw := fun A => up (aw A)
  have S' := Sl_freeze.2 S
  have tl := tsL_len l
  have k16 := fun (L : Heap) => up (c16 (d := 29) (lim := h.length) (S'.app L) hl)
  have nz4 : Sl4 h (.slice none 0 0) [] := ⟨rfl, rfl, fun q => absurd rfl q, .inl rfl, fun k hk => absurd hk (Nat.not_lt_zero k)⟩
  have so4 := fun (L : Heap) (b' n' : Nat) (hg : Heap.get (h.freeze ++ L) b' = some ⟨cS enc4 (tsL l), true⟩) (hn : n' = (tsL l).length) => Sl_own (f := enc4) (es := 4) (fun _ => rfl) hg hn
  have k15 := fun (L : Heap) (b' n' : Nat) (hg : Heap.get (h.freeze ++ L) b' = some ⟨cS enc4 (tsL l), true⟩) (hn : n' = (tsL l).length) => up (c15 (d := 29) (lim := h.length) (m := 6) (so4 L b' n' hg hn))
  have k15n := fun (L : Heap) => up (c15 (d := 29) (lim := h.length) (m := 6) ((Sl_freeze.2 nz4).app L))
  have f0' : fewB (((0 : Nat)) : Int) 6 = true := by decide
  simp only [List.length_nil, f0'] at k15n
  rw [tl] at k15
  unfold tV tB at k16
  obtain ⟨k17, k18, k19, k20, k17t, k21, k22, k23, k24, k24n, k26, k25, k27, back⟩ := K
  have pn := hp
  simp only [lV6, lB6, if_pos hp, List.append_nil] at k22 k23
  have g1' : (300 : Int) < s.length := by omega
  have g1n : ¬ (s.length : Int) ≤ 60000 := by omega
  have g2n : (60000 : Int) < s.length := by omega
  have g3' : ¬ (60005 : Int) < s.length := by omega
  have g3n : (s.length : Int) ≤ 60005 := by omega
  simp only [prVU] at k25
  obtain ⟨x1, x2, x3⟩ := r1
  obtain ⟨y1, y2, y3⟩ := r2
  obtain ⟨Y, n, g⟩ := p
  simp only at *
  by_cases l0 : l = []
  · have te : tsL l = [] := by rw [l0]; rfl
    simp only [te, if_true, List.append_nil] at k16
    have q0 : True := trivial
    have z : chkN l = 0 := by subst l0; unfold chkN; rw [if_neg (by simp), fstE_ge (by simp)]
    have K5 := k5 z
    have w24 := K5.k24n l0
    have w22 := K5.k22
    have w28 := K5.k28
    simp only [lV6, lB6, if_pos l0, List.append_nil] at w22
    generalize prU l l.length = t at *
    by_cases z2 : rdE a b = 0
    · obtain ⟨rfl, rfl, rfl⟩ : y1 = a ∧ y2 = b ∧ y3 = 0 := by have := back z2; simp at this; exact this
      simp [ef4, aw, k16, k15n, tl, q0, g1', g1n, g3', g3n, g2n, k17, k18, k19, k20, k17t, k21, k22, k23, k24n, k26, k25, k27, zeros, fillL, Nat.add_assoc, E.eqCells, z, z2, w22, w24, w28]
    · simp [ef4, aw, k16, k15n, tl, q0, g1', g1n, g3', g3n, g2n, k17, k18, k19, k20, k17t, k21, k22, k23, k24n, k26, k25, k27, zeros, fillL, Nat.add_assoc, E.eqCells, z, z2, w22, w24, w28]
  · have te : ¬ tsL l = [] := fun y => by rw [y] at tl; exact l0 (List.eq_nil_of_length_eq_zero tl.symm)
    simp only [if_neg te, tl] at k16
    by_cases q0 : fewB l.length 6 = true
    case neg => simp [ef4, aw, k16, k15, tl, q0]
    by_cases z : chkN l = 0
    · have K5 := k5 z
      have w24 := K5.k24
      have w22 := K5.k22
      have w28 := K5.k28
      simp only [lV6, lB6, if_neg l0] at w22
      generalize prU l l.length = t at *
      by_cases z2 : rdE a b = 0
      · obtain ⟨rfl, rfl, rfl⟩ : y1 = a ∧ y2 = b ∧ y3 = 0 := by have := back z2; simp at this; exact this
        simp [ef4, aw, k16, k15, tl, q0, g1', g1n, g3', g3n, g2n, k17, k18, k19, k20, k17t, k21, k22, k23, k24n, k26, k25, k27, zeros, fillL, Nat.add_assoc, E.eqCells, z, z2, w22, w24, w28]
      · simp [ef4, aw, k16, k15, tl, q0, g1', g1n, g3', g3n, g2n, k17, k18, k19, k20, k17t, k21, k22, k23, k24n, k26, k25, k27, zeros, fillL, Nat.add_assoc, E.eqCells, z, z2, w22, w24, w28]
    · by_cases z2 : rdE a b = 0
      · obtain ⟨rfl, rfl, rfl⟩ : y1 = a ∧ y2 = b ∧ y3 = 0 := by have := back z2; simp at this; exact this
        simp [ef4, aw, k16, k15, tl, q0, g1', g1n, g3', g3n, g2n, k17, k18, k19, k20, k17t, k21, k22, k23, k24n, k26, k25, k27, zeros, fillL, Nat.add_assoc, E.eqCells, z, z2]
      · simp [ef4, aw, k16, k15, tl, q0, g1', g1n, g3', g3n, g2n, k17, k18, k19, k20, k17t, k21, k22, k23, k24n, k26, k25, k27, zeros, fillL, Nat.add_assoc, E.eqCells, z, z2]
end H.U
end Go.Abs
/- Texts of chapter 7: the law walked, all of it. -/
namespace Go.Abs
namespace H.U
/-- The texts of readings and counts. -/
theorem law4 {lim : Nat} {h : Heap} {v : Value} {l : List P6} {a b : Int} {s : List UInt8} (S : Sl6 h v l) (hl : l.length * 32 ≤ 140737488355328) (ha : R64 a) (hb : R64 b) (e : H.Er h)
    (aw : ∀ A, E.call 30 h.length 14 [] (h.freeze ++ [A]) = some (.bool true, h.freeze ++ [A])) :
    E1.call 31 lim 4 [v, c2 a b, tx s] h = some (.bool true, h) := by
  by_cases q0 : fewB l.length 6 = true
  case neg => exact law4f S hl q0 aw
  by_cases g : 60005 < s.length ∨ 300 < s.length ∧ s.length ≤ 60000
  · exact law4d S hl g aw
  have hl63 : l.length ≤ 100000 := by
    unfold fewB at q0
    simp at q0; omega
  have K := K4.mk' S hl63 ha hb (s := s) (by omega) e
  have k5 := K5.mk' S e
  by_cases p : (prsU (whl 10) s).1 = []
  · by_cases g2 : s.length ≤ 300
    · exact law4a S hl g2 K k5 p aw
    · exact law4c S hl (by omega) K k5 p aw
  · have g2 : s.length ≤ 300 := by
      rcases Nat.lt_or_ge 60000 s.length with q | q
      · exact absurd (by unfold prsU; rw [if_pos q]) p
      · omega
    exact law4b S hl g2 K k5 p aw
end H.U
end Go.Abs
