/- Chapter 7: tests: the law. -/
import Derived.Test.YtfbelnhibipndaaGreatDoorAbsZP1
import Derived.Test.YtfbelnhibipndaaGreatDoorAbsZT
import Derived.Test.YtfbelnhibipndaaGreatDoorAbsZUKM
set_option linter.unusedSimpArgs false
set_option linter.unusedVariables false
namespace Go.Abs
namespace Z.U
set_option maxRecDepth 100000
set_option maxHeartbeats 0
set_option linter.unusedSimpArgs false
abbrev v3p : Value := .slice (some ⟨0, 0, none⟩) 3 1
/-- The range of a good test's beats, by both. -/
theorem beat_of {C : List Value} {nm : ByteArray} {P S : Nat → Int} {F : Int} {x : P4} (t : Tm C nm P S) (hs : nm.size ≤ 1000) (hu : tuE nm P S F = 0) (hx : U.chkX x.1 x.2.1 x.2.2.1 x.2.2.2 = 0) :
    ∃ B : Int × Int, ∀ (d lim : Nat) (hh : Heap), SlU hh v3p [2, 3, 5] → E.call (d + 8) lim 51 [.agg C.toArray, i64 F, vT x] hh = some (r3 (B.1, B.2, 0), hh) ∧ E.call (d + 7) lim 53 [.agg C.toArray, i64 F, vT x] hh = some (rg B.1 B.2, hh) := by
  have h0 : chkT nm P S = 0 := by
    unfold tuE at hu
    by_cases z : chkT nm P S = 0
    · exact z
    · rw [if_neg z] at hu; exact hu
  have hf : isFork F = true := by
    unfold tuE at hu
    rw [if_pos h0] at hu
    by_cases z : isFork F = true
    · exact z
    · rw [if_neg z] at hu; cases hu
  rw [chkX_eq] at hx
  obtain ⟨x1, x2, x3, x4⟩ := x
  replace hx : Z.chkX x1 x2 x3 x4 = 0 := hx
  obtain ⟨F', rfl, hF⟩ := fork_nat hf
  obtain ⟨n', m', p', q', rfl, rfl, rfl, rfl, hn, hm, hp, hq, _, _⟩ := Z.chkX_0 hx
  obtain ⟨o, _⟩ := okt h0
  have b1 : F' * p' ≤ 16000000 := Nat.le_trans (Nat.mul_le_mul hF.2 hp.2) (by omega)
  have b2 : F' * q' ≤ 16000000 := Nat.le_trans (Nat.mul_le_mul hF.2 hq.2) (by omega)
  obtain ⟨L1, H1, s1⟩ := encS (intX P S 48 n').1 (intX P S 48 n').2.1 (intX P S 48 n').2.2 12 (by decide) (F' * p')
  obtain ⟨L2, H2, s2⟩ := encS (intX P S 48 m').1 (intX P S 48 m').2.1 (intX P S 48 m').2.2 12 (by decide) (F' * q')
  refine ⟨(W ((L2 : Int) - H1), W ((H2 : Int) - L1)), fun d lim hh sp => ⟨?_, ?_⟩⟩
  · have k := Z.c51 (d := d) (lim := lim) (h := hh) sp t hs h0 hx hn hm hF hp hq s1 s2
    rw [beaS_eq (EncS.lt s1).1 (EncS.lt s2).1 (enc_note o hn b1 s1) (enc_note o hm b2 s2)] at k
    exact k
  · exact Z.c53 (d := d) (lim := lim) (h := hh) t o hn hm hF hp hq s1 s2
theorem law3 (lim : Nat) {h : Heap} (h2 : h.length = 2) (sp : SlU h v3p [2, 3, 5]) {C : List Value} {nm : ByteArray} {P S : Nat → Int} {F : Int} {v : Value} {l : List P4} (t : Tm C nm P S) (s : Sl4 h v l) :
    E.call 31 lim 3 [.agg (C ++ [i64 F]).toArray, v] h = some (.bool true, h) := by
  have r := s.rules2
  obtain ⟨y0, y1, hx⟩ : ∃ y0 y1, Heap.freeze h = [y0, y1] := by
    match h, h2 with
    | [_, _], _ => exact ⟨_, _, rfl⟩
  have aw : ∀ lim A, E.call 30 lim 8 [] (h.freeze ++ [A]) = some (.bool true, h.freeze ++ [A]) := fun lim A => by rw [hx]; exact awake3 lim y0 y1 A
  obtain ⟨R, hR⟩ : ∃ R, R = C ++ [i64 F] := ⟨_, rfl⟩
  have Rl : R.length = 26 := by rw [hR, List.length_append, t.len]; rfl
  have Rt : R.take 25 = C := by rw [hR, List.take_append_of_le_length (by rw [t.len]; exact Nat.le_refl 25), t.take]
  have Rf : R[25]? = some (i64 F) := by rw [hR, List.getElem?_append_right (by rw [t.len]; exact Nat.le_refl 25), t.len]; rfl
  have Rg : ∀ hh : 25 < R.length, R[25]'hh = i64 F := fun hh => by rw [List.getElem?_eq_getElem hh] at Rf; exact Option.some.inj Rf
  rw [← hR]
  have k9 := fun lim hh => Z.c9 (d := 29) (lim := lim) (h := hh) t
  have k10 := fun (L : Heap) lim => c10 (d := 29) (lim := lim) (m := 6) ((Sl_freeze.2 s).app L)
  refine call1 fn3 rfl (by simp [ef3]) ?_
  by_cases hs : nm.size ≤ 30
  case neg => simp [ef3, aw, Rl, Rt, k9, hs]
  by_cases q0 : fewB l.length 6 = true
  case neg => simp [ef3, aw, Rl, Rt, k9, hs, k10, q0]
  have hl : l.length ≤ 63 := by
    unfold fewB at q0
    simp at q0; omega
  have K12 := fun (L : Heap) lim => c12 (d := 29) (lim := lim) ((Sl_freeze.2 s).app L) (by omega)
  have K12f := fun (L : Heap) lim => c12 (d := 29) (lim := lim) (Sl_freeze.2 ((Sl_freeze.2 s).app L)) (by omega)
  have so := fun (L : Heap) (b' n' : Nat) (hg : Heap.get (h.freeze ++ L) b' = some ⟨cS enc4 l, true⟩) (hn : n' = l.length) => Sl_own (f := enc4) (es := 4) (fun _ => rfl) hg hn
  have K11 := fun (L : Heap) (b' n' lim : Nat) (hg : Heap.get (h.freeze ++ L) b' = some ⟨cS enc4 l, true⟩) (hn : n' = l.length) => c11 (d := 26) (lim := lim) (so L b' n' hg hn)
  have K13 := fun (L : Heap) lim => c13 (d := 26) (lim := lim) ((Sl_freeze.2 s).app L)
  have K15 := fun lim hh => c15 (d := 24) (lim := lim) (h := hh) (F := F) t
  have sp2 : ∀ L, SlU (h.freeze ++ L) v3p [2, 3, 5] := fun L => (Sl_freeze.2 sp).app L
  have sp3 : ∀ L M, SlU (Heap.freeze (h.freeze ++ L) ++ M) v3p [2, 3, 5] := fun L M => (Sl_freeze.2 (sp2 L)).app M
  by_cases q1 : tuE nm P S F = 0 ∧ chkTs l = 0
  case neg =>
    have K14 := fun (L : Heap) (b' n' lim : Nat) (hg : Heap.get (h.freeze ++ L) b' = some ⟨cS enc4 l, true⟩) (hn : n' = l.length) => c14 (d := 21) (lim := lim) (F := F) (bt := fun _ => (0, 0)) (so L b' n' hg hn) t (by omega) (fun a b => absurd ⟨a, b⟩ q1)
    simp only [if_neg q1, List.append_nil] at K14
    by_cases q2 : tuE nm P S F = 0
    · have q3 : ¬ chkTs l = 0 := fun z => q1 ⟨q2, z⟩
      simp [ef3, aw, Rl, Rt, Rf, Rg, k9, hs, k10, q0, K12, K12f, K11, K13, K14, K15, q2, q3, Nat.add_assoc]
    · simp [ef3, aw, Rl, Rt, Rf, Rg, k9, hs, k10, q0, K12, K12f, K11, K13, K14, K15, q2, Nat.add_assoc]
  obtain ⟨q2, q3⟩ := q1
  have O := TOk.of q3
  have l60 := O.len
  have HB : ∀ i, i < l.length → ∃ B : Int × Int, ∀ (d lim : Nat) (hh : Heap), SlU hh v3p [2, 3, 5] → E.call (d + 8) lim 51 [.agg C.toArray, i64 F, vT (at4 l i)] hh = some (r3 (B.1, B.2, 0), hh) ∧ E.call (d + 7) lim 53 [.agg C.toArray, i64 F, vT (at4 l i)] hh = some (rg B.1 B.2, hh) :=
    fun i hi => beat_of t (by omega) q2 (O.chk i hi)
  let bt : Nat → Int × Int := fun i => if hi : i < l.length then Classical.choose (HB i hi) else (0, 0)
  have HT : ∀ i, i < l.length → ∀ (d lim : Nat) (hh : Heap), SlU hh v3p [2, 3, 5] → E.call (d + 8) lim 51 [.agg C.toArray, i64 F, vT (at4 l i)] hh = some (r3 ((bt i).1, (bt i).2, 0), hh) ∧ E.call (d + 7) lim 53 [.agg C.toArray, i64 F, vT (at4 l i)] hh = some (rg (bt i).1 (bt i).2, hh) := fun i hi => by
    have := Classical.choose_spec (HB i hi)
    simp only [bt, dif_pos hi]
    exact this
  clear_value bt
  have K14 := fun (L : Heap) (b' n' lim : Nat) (hg : Heap.get (h.freeze ++ L) b' = some ⟨cS enc4 l, true⟩) (hn : n' = l.length) => c14 (d := 21) (lim := lim) (F := F) (bt := bt) (so L b' n' hg hn) t (by omega) (fun _ _ i hi lim M => (HT i hi 21 lim _ (sp3 L M)).1)
  have K17 := fun (L : Heap) lim => c17 (d := 22) (lim := lim) (h := h.freeze ++ L) (F := F) (bt := bt) ((Sl_freeze.2 s).app L) t l60 (fun i hi lim M => (HT i hi 22 lim _ (sp3 L M)).2)
  have K16 := fun (L : Heap) (a b lim : Nat) (ga : Heap.get (h.freeze ++ L) a = some ⟨bl bt l.length, true⟩) (gb : Heap.get (h.freeze ++ L) b = some ⟨bl bt l.length, true⟩) => c16 (d := 29) (lim := lim) ga gb l60
  have K16n := fun lim hh => c16n (d := 29) (lim := lim) (h := hh)
  unfold lVR lBR at K14 K17
  by_cases z : l.length = 0
  · have ln : l = [] := List.eq_nil_of_length_eq_zero z
    simp only [if_pos z, List.append_nil] at K14 K17
    subst ln
    simp [ef3, aw, Rl, Rt, Rf, Rg, k9, hs, k10, q0, K12, K12f, K11, K13, K14, K15, K16n, K17, q2, q3, Nat.add_assoc]
  · simp only [if_neg z] at K14 K17
    have lne : ¬ l = [] := fun e => z (by rw [e]; rfl)
    simp [ef3, aw, Rl, Rt, Rf, Rg, k9, hs, k10, q0, K12, K12f, K11, K13, K14, K15, K16, K17, q2, q3, lne, Nat.add_assoc]
end Z.U
end Go.Abs
