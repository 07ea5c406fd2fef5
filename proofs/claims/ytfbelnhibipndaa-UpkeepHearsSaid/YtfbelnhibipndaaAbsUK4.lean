/- Chapter 7: what is heard: the law. -/
import Derived.Test.YtfbelnhibipndaaAbsUK3
import Derived.Test.YtfbelnhibipndaaAbsUE1
set_option linter.unusedSimpArgs false
set_option linter.unusedVariables false
namespace Go.Abs
namespace U
set_option maxRecDepth 100000
set_option maxHeartbeats 0
theorem c6_part {l : List P6} {i : Nat} (h : i < l.length) : ((cS enc6 l).drop (i * 6)).take 6 = enc6 l[i] := cS_part (f := enc6) (es := 6) (fun _ => rfl) l i h
theorem c43 {d lim : Nat} {h : Heap} {v w : Value} {l : List P6} (s : Sl 6 h v l.length (cS enc6 l)) (t : Sl 6 h w l.length (cS enc6 l)) (hl : l.length ≤ 100000) :
    E.call (d + 1) lim 43 [v, w] h = some (.bool true, h) := by
  have r := s.rules2
  have r' := t.rules2
  refine call1 fn43 rfl (by simp [ef43]) ?_
  simp [ef43, r, r']
  refine wpC_loop (fun z st => ∃ i : Nat, z = l.length - i ∧ i ≤ l.length ∧ st = ⟨[(0, v), (1, w), (5, i64 (i : Int))], h.freeze⟩) l.length (by show l.length < 2 ^ 64; omega) ?_ ?_
  · simp [St.tidy, r, r']
    exact ⟨0, by omega, by omega, rfl⟩
  · rintro z hz _ ⟨i, rfl, hi, rfl⟩
    by_cases hlt : i < l.length
    · have hlti : (i : Int) < l.length := by omega
      have w1' := w1 (i := i) (by omega)
      have p := c6_part hlt
      have k6 : i * 6 + 6 ≤ l.length * 6 := by omega
      obtain ⟨⟨a, b, c, e⟩, x, y⟩ := l[i]
      simp only [enc6, enc4, enc2, List.cons_append, List.nil_append] at p
      simp [hlti, hlt, Nat.not_le.2 hlt, r, r', p, k6, w1', St.tidy]
      exact ⟨l.length - (i + 1), by omega, i + 1, by omega, by omega, by omega⟩
    · obtain rfl : i = l.length := by omega
      simp [r, r']
theorem law8 {bs : Heap} {lim : Nat} {v w : Value} {g : List P3} {l : List P4} (h1 : bs.length = 2) (s : Sl3 bs v g) (t : Sl4 bs w l) : E.call 31 lim 8 [v, w] bs = some (.bool true, bs) := by
  have r := s.rules2
  have r' := t.rules2
  obtain ⟨x, y, hx⟩ := fr2 h1
  have aw := fun lim => awake2 lim x y
  rw [← hx] at aw
  refine call1 fn8 rfl (by simp [ef8]) ?_
  by_cases g1 : g.length > 10 ∧ g.length ≤ 88
  · have i1 : (10 : Int) < g.length := by omega
    have i2 : (g.length : Int) ≤ 88 := by omega
    simp [ef8, aw, r, i1, i2, Int.not_le.2 i1]
  by_cases g2 : g.length > 91
  · have i1 : (10 : Int) < g.length := by omega
    have i2 : ¬ (g.length : Int) ≤ 88 := by omega
    have i3 : (91 : Int) < g.length := by omega
    simp [ef8, aw, r, i1, i2, i3, Int.not_le.2 i1, Int.not_le.2 i3, Int.not_le.1 i2]
  have gl : g.length ≤ 91 := by omega
  have i3 : (g.length : Int) ≤ 91 := by omega
  have K39 := fun lim => c39 (d := 29) (lim := lim) (m := 6) (Sl_freeze.2 t)
  have c1 := c3_one g
  have cp := c3_plain g
  have A1 := fun (hn : g.length ≠ 0) => app_some (bytes := 24) (b := bs.length) (H := bs.freeze ++ [some ⟨[], true⟩]) ((Sl_freeze.2 s).app _) hn (by omega) (by rw [hget_base0 (by simp)]; rfl) c1 (by omega) (by omega)
  have A0 := fun (hn : g.length = 0) => app_none (es := 3) (bytes := 24) (b := bs.length) (H := bs.freeze ++ [some ⟨[], true⟩]) (cs := cS enc3 g) (by have := (Sl_freeze.2 s).app [some ⟨[], true⟩]; rwa [hn] at this) (by omega)
  by_cases q0 : fewB l.length 6 = true
  case neg =>
    by_cases i1 : (10 : Int) < g.length
    · have i2 : (88 : Int) < g.length := by omega
      simp [ef8, aw, r, i1, i2, i3, Int.not_le.2 i1, Int.not_le.2 i2, Int.not_lt.2 i3, K39, q0]
    · simp [ef8, aw, r, i1, i3, Int.not_lt.1 i1, Int.not_lt.2 i3, K39, q0]
  have hl : l.length ≤ 63 := by
    unfold fewB at q0
    simp at q0; omega
  have K41 := fun (L : Heap) lim => c41 (d := 29) (lim := lim) ((Sl_freeze.2 t).app L) (by omega)
  have K40 := fun (L : Heap) (b b' m n' lim : Nat) (hg : Heap.get (bs.freeze ++ L) b = some ⟨cS enc3 g, true⟩) (hm : m = g.length) (hh : Heap.get (bs.freeze ++ L) b' = some ⟨cS enc4 l, true⟩) (hn : n' = l.length) => c40 (d := 25) (lim := lim) (Sl_own (f := enc3) (es := 3) (fun _ => rfl) hg hm) (Sl_own (f := enc4) (es := 4) (fun _ => rfl) hh hn)
  have K42 := fun (L : Heap) lim => c42 (d := 25) (lim := lim) ((Sl_freeze.2 s).app L) ((Sl_freeze.2 t).app L)
  have hln := hL_len g l l.length
  have K43 := fun (L : Heap) (b b' m n' lim : Nat) (hg : Heap.get (bs.freeze ++ L) b = some ⟨cS enc6 (hL g l l.length), true⟩) (hm : m = l.length) (hh : Heap.get (bs.freeze ++ L) b' = some ⟨cS enc6 (hL g l l.length), true⟩) (hn : n' = l.length) => c43 (d := 29) (lim := lim) (Sl_own (f := enc6) (es := 6) (fun _ => rfl) hg (hm.trans hln.symm)) (Sl_own (f := enc6) (es := 6) (fun _ => rfl) hh (hn.trans hln.symm)) (by omega)
  have K43n : ∀ (L : Heap) lim, E.call 30 lim 43 [.slice none 0 0, .slice none 0 0] (bs.freeze ++ L) = some (.bool true, bs.freeze ++ L) := fun L lim =>
    have z : Sl 6 (bs.freeze ++ L) (.slice none 0 0) ([] : List P6).length (cS enc6 []) := ⟨rfl, rfl, fun h => absurd rfl h, .inl rfl, fun k hk => absurd hk (Nat.not_lt_zero k)⟩
    c43 (d := 29) (l := []) z z (by decide)
  unfold hVal hBlk at K40 K42
  generalize hErr g l = Er at *
  have fin : ∀ (z : (10 : Int) < g.length ∧ (88 : Int) < g.length ∨ (g.length : Int) ≤ 10), wpC ⟨E.call 30, bs.length, bs.length, true, E.glob, E.fuel, EProg.roundOf E (E.call 30)⟩ ef8.code ⟨argFrame 0 [v, w], bs.freeze⟩ (KFun bs.length ef8.results (.bool true) []) := by
    rintro (⟨i1, i2⟩ | i1)
    · have g0 : g.length ≠ 0 := by omega
      by_cases e0 : Er = 0
      · by_cases l0 : l.length = 0
        · simp [ef8, aw, r, i1, i2, i3, Int.not_le.2 i1, Int.not_le.2 i2, Int.not_lt.2 i3, K39, q0, zeros, fillL, A1, g0, K41, K40, K42, K43n, e0, l0, sl6, bl6, hL]
        · simp [ef8, aw, r, i1, i2, i3, Int.not_le.2 i1, Int.not_le.2 i2, Int.not_lt.2 i3, K39, q0, zeros, fillL, A1, g0, K41, K40, K42, K43, e0, l0, sl6, bl6, hln]
      · simp [ef8, aw, r, i1, i2, i3, Int.not_le.2 i1, Int.not_le.2 i2, Int.not_lt.2 i3, K39, q0, zeros, fillL, A1, g0, K41, K40, K42, K43n, e0]
    · by_cases g0 : g.length = 0
      · have ez : cS enc3 g = [] := by rw [List.eq_nil_of_length_eq_zero g0]; rfl
        have K40z := K40
        rw [ez, g0] at K40z
        by_cases e0 : Er = 0
        · by_cases l0 : l.length = 0
          · simp [ef8, aw, r, i1, i3, g0, Int.not_lt.2 i1, Int.not_lt.2 i3, K39, q0, zeros, fillL, A0, K41, K40z, K42, K43n, e0, l0, sl6, bl6, hL]
          · simp [ef8, aw, r, i1, i3, g0, Int.not_lt.2 i1, Int.not_lt.2 i3, K39, q0, zeros, fillL, A0, K41, K40z, K42, K43, e0, l0, sl6, bl6, hln]
        · simp [ef8, aw, r, i1, i3, g0, Int.not_lt.2 i1, Int.not_lt.2 i3, K39, q0, zeros, fillL, A0, K41, K40z, K42, K43n, e0]
      · by_cases e0 : Er = 0
        · by_cases l0 : l.length = 0
          · simp [ef8, aw, r, i1, i3, g0, Int.not_lt.2 i1, Int.not_lt.2 i3, K39, q0, zeros, fillL, A1, K41, K40, K42, K43n, e0, l0, sl6, bl6, hL]
          · simp [ef8, aw, r, i1, i3, g0, Int.not_lt.2 i1, Int.not_lt.2 i3, K39, q0, zeros, fillL, A1, K41, K40, K42, K43, e0, l0, sl6, bl6, hln]
        · simp [ef8, aw, r, i1, i3, g0, Int.not_lt.2 i1, Int.not_lt.2 i3, K39, q0, zeros, fillL, A1, K41, K40, K42, K43n, e0]
  exact fin (by omega)
end U
end Go.Abs
