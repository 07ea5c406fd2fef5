/- Chapter 7: counts: the law. -/
import Derived.Test.YtfbelnhibipndaaGreatDoorAbsZQ3
import Derived.Test.YtfbelnhibipndaaGreatDoorAbsZP2
import Derived.Test.YtfbelnhibipndaaGreatDoorAbsZUE0
set_option linter.unusedSimpArgs false
set_option linter.unusedVariables false
namespace Go.Abs
namespace Z.U
set_option maxRecDepth 100000
set_option maxHeartbeats 0
set_option linter.unusedSimpArgs false
theorem law4n (lim : Nat) {h : Heap} (h2 : h.length = 2) (sp : SlU h v3p [2, 3, 5]) {C : List Value} {nm : ByteArray} {P S : Nat → Int} {F : Int} {v : Value} (t : Tm C nm P S) (s : Sl6 h v []) :
    E.call 31 lim 4 [.agg (C ++ [i64 F]).toArray, v] h = some (.bool true, h) := by
  have r := s.rules2
  obtain ⟨y0, y1, hx⟩ : ∃ y0 y1, Heap.freeze h = [y0, y1] := by
    match h, h2 with
    | [_, _], _ => exact ⟨_, _, rfl⟩
  have aw : ∀ lim A, E.call 30 lim 8 [] (h.freeze ++ [A]) = some (.bool true, h.freeze ++ [A]) := fun lim A => by rw [hx]; exact awake3 lim y0 y1 A
  obtain ⟨R, hR⟩ : ∃ R, R = C ++ [i64 F] := ⟨_, rfl⟩
  have Rl : R.length = 26 := by rw [hR, List.length_append, t.len]; rfl
  have Rt : R.take 25 = C := by rw [hR, List.take_append_of_le_length (by rw [t.len]; exact Nat.le_refl 25), t.take]
  have Rf : R[25]? = some (i64 F) := by rw [hR, List.getElem?_append_right (by rw [t.len]; exact Nat.le_refl 25), t.len]; rfl
  have Rg : ∀ hh : 25 < R.length, R[25]'hh = i64 F := fun hh => by rw [List.getElem?_eq_getElem hh] at Rf; exact Option.some.inj Rf
  rw [← hR]
  have k9 := fun lim hh => Z.c9 (d := 29) (lim := lim) (h := hh) t
  refine call1 fn4 rfl (by simp [ef4]) ?_
  by_cases hs : nm.size ≤ 30
  case neg => simp [ef4, aw, Rl, Rt, k9, hs]
  have k18 := fun (L : Heap) lim => c18 (d := 29) (lim := lim) ((Sl_freeze.2 s).app L) (by decide)
  have te : tsL ([] : List P6) = [] := rfl
  simp only [tV, tB, te, if_true, List.append_nil] at k18
  have nz4 : Sl4 h (.slice none 0 0) [] := ⟨rfl, rfl, fun h => absurd rfl h, .inl rfl, fun k hk => absurd hk (Nat.not_lt_zero k)⟩
  have k10n := fun (L : Heap) lim => c10 (d := 29) (lim := lim) (m := 6) ((Sl_freeze.2 nz4).app L)
  have f0 : fewB 0 6 = true := by decide
  have f0' : fewB (((0 : Nat)) : Int) 6 = true := by decide
  simp only [List.length_nil, f0'] at k10n
  have K20 := fun (L : Heap) lim => c20 (d := 29) (lim := lim) ((Sl_freeze.2 s).app L) (by decide)
  have K20f := fun (L : Heap) lim => c20 (d := 29) (lim := lim) (Sl_freeze.2 ((Sl_freeze.2 s).app L)) (by decide)
  have so := fun (L : Heap) (b' n' : Nat) (hg : Heap.get (h.freeze ++ L) b' = some ⟨cS enc6 [], true⟩) (hn : n' = ([] : List P6).length) => Sl_own (f := enc6) (es := 6) (fun _ => rfl) hg hn
  have K19 := fun (L : Heap) (b' n' lim : Nat) (hg : Heap.get (h.freeze ++ L) b' = some ⟨cS enc6 [], true⟩) (hn : n' = ([] : List P6).length) => c19 (d := 25) (lim := lim) (so L b' n' hg hn)
  have K21 := fun (L : Heap) lim => c21 (d := 25) (lim := lim) ((Sl_freeze.2 s).app L)
  have K15 := fun lim hh => c15 (d := 24) (lim := lim) (h := hh) (F := F) t
  have sp2 : ∀ L, SlU (h.freeze ++ L) v3p [2, 3, 5] := fun L => (Sl_freeze.2 sp).app L
  have sp3 : ∀ L M, SlU (Heap.freeze (h.freeze ++ L) ++ M) v3p [2, 3, 5] := fun L M => (Sl_freeze.2 (sp2 L)).app M
  have sp4 : ∀ L M, SlU (Heap.freeze (Heap.freeze (h.freeze ++ L) ++ M)) v3p [2, 3, 5] := fun L M => Sl_freeze.2 (sp3 L M)
  have c0 : chkN [] = 0 := by
    unfold chkN
    rw [if_neg (by decide), fstE_ge (by decide)]
  have nzi : SlI' h (.slice none 0 0) [] := ⟨rfl, rfl, fun h => absurd rfl h, .inl rfl, fun k hk => absurd hk (Nat.not_lt_zero k)⟩
  have K23n := fun (L : Heap) lim => c23 (d := 29) (lim := lim) ((Sl_freeze.2 nzi).app L) ((Sl_freeze.2 nzi).app L) (by decide) (by decide)
  have K22 := fun (L : Heap) (b' n' lim : Nat) (hg : Heap.get (h.freeze ++ L) b' = some ⟨cS enc6 [], true⟩) (hn : n' = ([] : List P6).length) => c22 (d := 21) (lim := lim) (F := F) (bt := fun _ => (0, 0)) (so L b' n' hg hn) t (by omega) (fun a b i hi => absurd hi (Nat.not_lt_zero i))
  have K24 := fun (L : Heap) lim => c24 (d := 22) (lim := lim) (h := h.freeze ++ L) (F := F) (bt := fun _ => (0, 0)) ((Sl_freeze.2 s).app L) t (by decide) (fun i hi => absurd hi (Nat.not_lt_zero i))
  have e0 : cS enc6 [] = [] := rfl
  simp only [c0, and_true, List.length_nil, fdL, iV, iB, if_true, List.append_nil, ite_self, e0] at K19 K20 K20f K21 K22 K24
  by_cases q2 : tuE nm P S F = 0
  · simp [ef4, aw, Rl, Rt, Rf, Rg, k9, hs, k18, k10n, K20, K20f, K19, K21, K22, K15, K23n, K24, q2, Nat.add_assoc]
  · simp [ef4, aw, Rl, Rt, Rf, Rg, k9, hs, k18, k10n, K20, K20f, K19, K21, K22, K15, q2, Nat.add_assoc]
theorem law4 (lim : Nat) {h : Heap} (h2 : h.length = 2) (sp : SlU h v3p [2, 3, 5]) {C : List Value} {nm : ByteArray} {P S : Nat → Int} {F : Int} {v : Value} {l : List P6} (t : Tm C nm P S) (s : Sl6 h v l) (hl0 : l.length * 48 ≤ 140737488355328) :
    E.call 31 lim 4 [.agg (C ++ [i64 F]).toArray, v] h = some (.bool true, h) := by
  by_cases z : l = []
  · exact law4n lim h2 sp t (by rw [z] at s; exact s)
  have r := s.rules2
  obtain ⟨y0, y1, hx⟩ : ∃ y0 y1, Heap.freeze h = [y0, y1] := by
    match h, h2 with
    | [_, _], _ => exact ⟨_, _, rfl⟩
  have aw : ∀ lim A, E.call 30 lim 8 [] (h.freeze ++ [A]) = some (.bool true, h.freeze ++ [A]) := fun lim A => by rw [hx]; exact awake3 lim y0 y1 A
  obtain ⟨R, hR⟩ : ∃ R, R = C ++ [i64 F] := ⟨_, rfl⟩
  have Rl : R.length = 26 := by rw [hR, List.length_append, t.len]; rfl
  have Rt : R.take 25 = C := by rw [hR, List.take_append_of_le_length (by rw [t.len]; exact Nat.le_refl 25), t.take]
  have Rf : R[25]? = some (i64 F) := by rw [hR, List.getElem?_append_right (by rw [t.len]; exact Nat.le_refl 25), t.len]; rfl
  have Rg : ∀ hh : 25 < R.length, R[25]'hh = i64 F := fun hh => by rw [List.getElem?_eq_getElem hh] at Rf; exact Option.some.inj Rf
  rw [← hR]
  have k9 := fun lim hh => Z.c9 (d := 29) (lim := lim) (h := hh) t
  refine call1 fn4 rfl (by simp [ef4]) ?_
  by_cases hs : nm.size ≤ 30
  case neg => simp [ef4, aw, Rl, Rt, k9, hs]
  have tl := tsL_len l
  have k18 := fun (L : Heap) lim => c18 (d := 29) (lim := lim) ((Sl_freeze.2 s).app L) (by omega)
  have so4 := fun (L : Heap) (b' n' : Nat) (hg : Heap.get (h.freeze ++ L) b' = some ⟨cS enc4 (tsL l), true⟩) (hn : n' = (tsL l).length) => Sl_own (f := enc4) (es := 4) (fun _ => rfl) hg hn
  have nz4 : Sl4 h (.slice none 0 0) [] := ⟨rfl, rfl, fun h => absurd rfl h, .inl rfl, fun k hk => absurd hk (Nat.not_lt_zero k)⟩
  have k10 := fun (L : Heap) (b' n' lim : Nat) (hg : Heap.get (h.freeze ++ L) b' = some ⟨cS enc4 (tsL l), true⟩) (hn : n' = (tsL l).length) => c10 (d := 29) (lim := lim) (m := 6) (so4 L b' n' hg hn)
  have k10n := fun (L : Heap) lim => c10 (d := 29) (lim := lim) (m := 6) ((Sl_freeze.2 nz4).app L)
  have f0 : fewB 0 6 = true := by decide
  simp only [List.length_nil, f0] at k10n
  rw [tl] at k10
  unfold tV tB at k18
  have l0 : l.length ≠ 0 := fun y => z (List.eq_nil_of_length_eq_zero y)
  have te : ¬ tsL l = [] := fun y => by rw [y] at tl; exact l0 tl.symm
  simp only [if_neg te, tl] at k18
  by_cases q0 : fewB l.length 6 = true
  case neg => simp [ef4, aw, Rl, Rt, k9, hs, k18, k10, tl, q0]
  have hl : l.length ≤ 63 := by
    unfold fewB at q0
    simp at q0; omega
  have K20 := fun (L : Heap) lim => c20 (d := 29) (lim := lim) ((Sl_freeze.2 s).app L) (by omega)
  have K20f := fun (L : Heap) lim => c20 (d := 29) (lim := lim) (Sl_freeze.2 ((Sl_freeze.2 s).app L)) (by omega)
  have so := fun (L : Heap) (b' n' : Nat) (hg : Heap.get (h.freeze ++ L) b' = some ⟨cS enc6 l, true⟩) (hn : n' = l.length) => Sl_own (f := enc6) (es := 6) (fun _ => rfl) hg hn
  have K19 := fun (L : Heap) (b' n' lim : Nat) (hg : Heap.get (h.freeze ++ L) b' = some ⟨cS enc6 l, true⟩) (hn : n' = l.length) => c19 (d := 25) (lim := lim) (so L b' n' hg hn)
  have K21 := fun (L : Heap) lim => c21 (d := 25) (lim := lim) ((Sl_freeze.2 s).app L)
  have K15 := fun lim hh => c15 (d := 24) (lim := lim) (h := hh) (F := F) t
  have sp2 : ∀ L, SlU (h.freeze ++ L) v3p [2, 3, 5] := fun L => (Sl_freeze.2 sp).app L
  have sp3 : ∀ L M, SlU (Heap.freeze (h.freeze ++ L) ++ M) v3p [2, 3, 5] := fun L M => (Sl_freeze.2 (sp2 L)).app M
  have sp4 : ∀ L M, SlU (Heap.freeze (Heap.freeze (h.freeze ++ L) ++ M)) v3p [2, 3, 5] := fun L M => Sl_freeze.2 (sp3 L M)
  by_cases q1 : tuE nm P S F = 0 ∧ chkN l = 0
  case neg =>
    have K22 := fun (L : Heap) (b' n' lim : Nat) (hg : Heap.get (h.freeze ++ L) b' = some ⟨cS enc6 l, true⟩) (hn : n' = l.length) => c22 (d := 21) (lim := lim) (F := F) (bt := fun _ => (0, 0)) (so L b' n' hg hn) t (by omega) (fun a b => absurd ⟨a, b⟩ q1)
    simp only [if_neg q1, List.append_nil] at K22
    by_cases q2 : tuE nm P S F = 0
    · have q3 : ¬ chkN l = 0 := fun z => q1 ⟨q2, z⟩
      simp [ef4, aw, Rl, Rt, Rf, Rg, k9, hs, k18, k10, tl, q0, K20, K20f, K19, K21, K22, K15, q2, q3, Nat.add_assoc]
    · simp [ef4, aw, Rl, Rt, Rf, Rg, k9, hs, k18, k10, tl, q0, K20, K20f, K19, K21, K22, K15, q2, Nat.add_assoc]
  obtain ⟨q2, q3⟩ := q1
  have l60 := chkN_len q3
  have HB : ∀ i, i < l.length → ∃ B : Int × Int, B.1 ≤ B.2 ∧ ∀ (d lim : Nat) (hh : Heap), SlU hh v3p [2, 3, 5] → E.call (d + 8) lim 51 [.agg C.toArray, i64 F, vT (at6 l i).1] hh = some (r3 (B.1, B.2, 0), hh) ∧ E.call (d + 7) lim 53 [.agg C.toArray, i64 F, vT (at6 l i).1] hh = some (rg B.1 B.2, hh) :=
    fun i hi => beat_of t (by omega) q2 (chkN_at q3 hi).1
  let bt : Nat → Int × Int := fun i => if hi : i < l.length then Classical.choose (HB i hi) else (0, 0)
  have HT : ∀ i, i < l.length → (bt i).1 ≤ (bt i).2 ∧ ∀ (d lim : Nat) (hh : Heap), SlU hh v3p [2, 3, 5] → E.call (d + 8) lim 51 [.agg C.toArray, i64 F, vT (at6 l i).1] hh = some (r3 ((bt i).1, (bt i).2, 0), hh) ∧ E.call (d + 7) lim 53 [.agg C.toArray, i64 F, vT (at6 l i).1] hh = some (rg (bt i).1 (bt i).2, hh) := fun i hi => by
    have := Classical.choose_spec (HB i hi)
    simp only [bt, dif_pos hi]
    exact this
  clear_value bt
  have K22 := fun (L : Heap) (b' n' lim : Nat) (hg : Heap.get (h.freeze ++ L) b' = some ⟨cS enc6 l, true⟩) (hn : n' = l.length) => c22 (d := 21) (lim := lim) (F := F) (bt := bt) (so L b' n' hg hn) t (by omega) (fun _ _ i hi => ⟨(HT i hi).1, fun lim M => ((HT i hi).2 21 lim _ (sp3 L M)).1⟩)
  have K24 := fun (L : Heap) lim => c24 (d := 22) (lim := lim) (h := h.freeze ++ L) (F := F) (bt := bt) ((Sl_freeze.2 s).app L) t l60 (fun i hi lim M => ((HT i hi).2 22 lim _ (sp4 L M)).2)
  have fl := fdL_len bt l l.length
  generalize fdL bt l l.length = D at *
  have K23 := fun (L : Heap) (a b n1 n2 lim : Nat) (ga : Heap.get (h.freeze ++ L) a = some ⟨cI D, true⟩) (e1 : n1 = D.length) (gb : Heap.get (h.freeze ++ L) b = some ⟨cI D, true⟩) (e2 : n2 = D.length) => c23 (d := 29) (lim := lim) (SlI'_own ga e1) (SlI'_own gb e2) (by omega) (by omega)
  have nzi : SlI' h (.slice none 0 0) [] := ⟨rfl, rfl, fun h => absurd rfl h, .inl rfl, fun k hk => absurd hk (Nat.not_lt_zero k)⟩
  have K23n := fun (L : Heap) lim => c23 (d := 29) (lim := lim) ((Sl_freeze.2 nzi).app L) ((Sl_freeze.2 nzi).app L) (by decide) (by decide)
  unfold iV iB at K22 K24
  by_cases e : D = []
  · simp only [if_pos e, List.append_nil] at K22 K24
    simp [ef4, aw, Rl, Rt, Rf, Rg, k9, hs, k18, k10, tl, q0, K20, K20f, K19, K21, K22, K15, K23n, K24, q2, q3, Nat.add_assoc]
  · simp only [if_neg e] at K22 K24
    simp [ef4, aw, Rl, Rt, Rf, Rg, k9, hs, k18, k10, tl, q0, K20, K20f, K19, K21, K22, K15, K23, K24, q2, q3, Nat.add_assoc]
end Z.U
end Go.Abs
