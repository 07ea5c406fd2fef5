/- Chapter 7: climates: the law. -/
import Derived.Test.YtfbelnhibipndaaAbsUF3
set_option linter.unusedSimpArgs false
set_option linter.unusedVariables false
namespace Go.Abs
namespace U
set_option maxRecDepth 100000
set_option maxHeartbeats 0
theorem fr1c {bs : Heap} (h1 : bs.length = 1) : ∃ x, Heap.freeze bs = [x] := by
  match bs, h1 with
  | [y], _ => exact ⟨_, rfl⟩
theorem law4 {bs : Heap} {lim : Nat} {v : Value} {l : List P2} {c : P2} (h1 : bs.length = 1) (s : Sl2 bs v l) : E.call 31 lim 4 [v, v2 c] bs = some (.bool true, bs) := by
  obtain ⟨x, y⟩ := c
  have r := s.rules2
  obtain ⟨z, hx⟩ := fr1c h1
  have aw : ∀ lim L, E.call 30 lim 14 [] (bs.freeze ++ [L]) = some (.bool true, bs.freeze ++ [L]) := fun lim L => by rw [hx]; exact awake2 lim z L
  have K17 := fun (L : Heap) lim => c17 (d := 29) (lim := lim) (m := 10) ((Sl_freeze.2 s).app L)
  refine call1 fn4 rfl (by simp [ef4]) ?_
  by_cases q0 : rdB l.length 10 = true
  case neg => simp [ef4, aw, K17, q0]
  have hl : l.length ≤ 203 := by
    unfold rdB at q0
    simp at q0; omega
  have K18 := fun (L : Heap) lim => c18 (d := 27) (lim := lim) ((Sl_freeze.2 s).app L)
  have K20 := fun (L : Heap) lim => c20 (d := 29) (lim := lim) ((Sl_freeze.2 s).app L) (by omega)
  have K20f := fun (L : Heap) lim => c20 (d := 29) (lim := lim) (h := Heap.freeze (bs.freeze ++ L)) (Sl_freeze.2 ((Sl_freeze.2 s).app L)) (by omega)
  have K19 := fun (L : Heap) (b' n' lim : Nat) (hg : Heap.get (bs.freeze ++ L) b' = some ⟨cS enc2 l, true⟩) (hn : n' = l.length) => c19 (d := 26) (lim := lim) (Sl_own (f := enc2) (es := 2) (fun _ => rfl) hg hn)
  have K21 := fun (L : Heap) (b' n' lim : Nat) (hg : Heap.get (bs.freeze ++ L) b' = some ⟨cS enc2 l, true⟩) (hn : n' = l.length) => c21 (d := 25) (lim := lim) (c := (x, y)) hg hn (by omega)
  have K22 := fun (L : Heap) (b' n' lim : Nat) (hg : Heap.get (bs.freeze ++ L) b' = some ⟨cS enc2 l, true⟩) (hn : n' = l.length) => c22 (d := 24) (lim := lim) (day := x) (Sl_own (f := enc2) (es := 2) (fun _ => rfl) hg hn)
  have cl := c2_len l
  have A := fun (L : Heap) (b1 b2 : Nat) (h1 : Heap.get (bs.freeze ++ L) b1 = some ⟨cS enc2 l, true⟩) (h2 : Heap.get (bs.freeze ++ L) b2 = some ⟨[i64 x, i64 y], true⟩) => app_one (es := 2) (bytes := 16) (n := l.length) h1 cl h2 rfl (by omega) rfl (by omega) (by omega)
  have ea := enc_app l (x, y)
  simp only at ea
  have ll : (l ++ [(x, y)]).length = l.length + 1 := by simp
  have cp := c2_plain (l ++ [(x, y)])
  have K18m := fun (L : Heap) (b' n' lim : Nat) (hg : Heap.get (bs.freeze ++ L) b' = some ⟨cS enc2 (l ++ [(x, y)]), true⟩) (hn : n' = (l ++ [(x, y)]).length) => c18 (d := 27) (lim := lim) (Sl_own (f := enc2) (es := 2) (fun _ => rfl) hg hn)
  have cm := c2_len (l ++ [(x, y)])
  unfold addV addK at K21
  generalize l ++ [(x, y)] = m at *
  rw [ea] at A
  have fin : ∀ r0 : (chkC l = 0 ∧ within x 0 100000 = true) ∨ (chkC l = 0 ∧ ¬ within x 0 100000 = true) ∨ chkC l ≠ 0, wpC ⟨E.call 30, bs.length, bs.length, true, E.glob, E.fuel, EProg.roundOf E (E.call 30)⟩ ef4.code ⟨argFrame 0 [v, v2 (x, y)], bs.freeze⟩ (KFun bs.length ef4.results (.bool true) []) := by
    rintro (⟨r0, r1⟩ | ⟨r0, r1⟩ | r0)
    · have K24 := fun (L : Heap) lim => c24 (d := 29) (lim := lim) (day := x) ((Sl_freeze.2 s).app L) (COk.of r0)
      simp only [humE, r0, r1, if_true] at K22
      by_cases q1 : chkC m = 0
      · simp [ef4, aw, K17, K18, K19, K20, K20f, K21, K18m, A, q0, q1, fillL, zeros, ll, r0]
        refine wpC_loop (fun q st => ∃ i : Nat, q = m.length - i ∧ i ≤ m.length ∧ st = ⟨[(0, v), (3, .pointer (some ⟨bs.length, 0, none⟩)), (5, i64 0), (6, .slice (some ⟨bs.length + 1, 0, none⟩) (l.length + 1) 2), (7, .slice (some ⟨bs.length + 2, 0, none⟩) (l.length + 1) 2), (10, i64 (i : Int))], bs.freeze ++ [some ⟨[i64 x, i64 y], true⟩, some ⟨cS enc2 m, true⟩, some ⟨cS enc2 m, true⟩]⟩) m.length (by show m.length < 2 ^ 64; omega) ?_ ?_
        · simp [-collect_own1, St.tidy, collect_box, s.own, r, cp]
          exact ⟨0, by omega, by omega, rfl⟩
        · rintro q hq _ ⟨i, rfl, hi, rfl⟩
          by_cases hlt : i < m.length
          · have w1' := w1 (i := i) (by omega)
            have p := c2_part hlt
            have k2 : i * 2 + 2 ≤ m.length * 2 := by omega
            have hlti : (i : Int) < (l.length : Int) + 1 := by omega
            have hltn : i < l.length + 1 := by omega
            simp [-collect_own1, hlti, hltn, Nat.not_le.2 hltn, p, cm, k2, w1', St.tidy, collect_box, s.own, r, cp]
            exact ⟨m.length - (i + 1), by omega, i + 1, by omega, by omega, by omega⟩
          · have hlti : ¬ (i : Int) < (l.length : Int) + 1 := by omega
            have hltn : ¬ i < l.length + 1 := by omega
            simp [hlti, hltn, Int.not_lt.1 hlti, Nat.not_lt.1 hltn, K20f, K22, c23, K24, r0, r1]
      · simp [ef4, aw, K17, K18, K19, K20, K20f, K21, K18m, A, q0, q1, fillL, zeros, ll, K22, K24, r0, r1, c23]
    · simp only [humE, r0, r1, if_true, if_false] at K22
      by_cases q1 : chkC m = 0
      · simp [ef4, aw, K17, K18, K19, K20, K20f, K21, K18m, A, q0, q1, fillL, zeros, ll, r0]
        refine wpC_loop (fun q st => ∃ i : Nat, q = m.length - i ∧ i ≤ m.length ∧ st = ⟨[(0, v), (3, .pointer (some ⟨bs.length, 0, none⟩)), (5, i64 0), (6, .slice (some ⟨bs.length + 1, 0, none⟩) (l.length + 1) 2), (7, .slice (some ⟨bs.length + 2, 0, none⟩) (l.length + 1) 2), (10, i64 (i : Int))], bs.freeze ++ [some ⟨[i64 x, i64 y], true⟩, some ⟨cS enc2 m, true⟩, some ⟨cS enc2 m, true⟩]⟩) m.length (by show m.length < 2 ^ 64; omega) ?_ ?_
        · simp [-collect_own1, St.tidy, collect_box, s.own, r, cp]
          exact ⟨0, by omega, by omega, rfl⟩
        · rintro q hq _ ⟨i, rfl, hi, rfl⟩
          by_cases hlt : i < m.length
          · have w1' := w1 (i := i) (by omega)
            have p := c2_part hlt
            have k2 : i * 2 + 2 ≤ m.length * 2 := by omega
            have hlti : (i : Int) < (l.length : Int) + 1 := by omega
            have hltn : i < l.length + 1 := by omega
            simp [-collect_own1, hlti, hltn, Nat.not_le.2 hltn, p, cm, k2, w1', St.tidy, collect_box, s.own, r, cp]
            exact ⟨m.length - (i + 1), by omega, i + 1, by omega, by omega, by omega⟩
          · have hlti : ¬ (i : Int) < (l.length : Int) + 1 := by omega
            have hltn : ¬ i < l.length + 1 := by omega
            simp [hlti, hltn, Int.not_lt.1 hlti, Nat.not_lt.1 hltn, K20f, K22, c23, r0, r1]
      · simp [ef4, aw, K17, K18, K19, K20, K20f, K21, K18m, A, q0, q1, fillL, zeros, ll, K22, r0, r1, c23]
    · simp only [humE, r0, if_false] at K22
      by_cases q1 : chkC m = 0
      · simp [ef4, aw, K17, K18, K19, K20, K20f, K21, K18m, A, q0, q1, fillL, zeros, ll, r0]
        refine wpC_loop (fun q st => ∃ i : Nat, q = m.length - i ∧ i ≤ m.length ∧ st = ⟨[(0, v), (3, .pointer (some ⟨bs.length, 0, none⟩)), (5, i64 (chkC l)), (6, .slice (some ⟨bs.length + 1, 0, none⟩) (l.length + 1) 2), (7, .slice (some ⟨bs.length + 2, 0, none⟩) (l.length + 1) 2), (10, i64 (i : Int))], bs.freeze ++ [some ⟨[i64 x, i64 y], true⟩, some ⟨cS enc2 m, true⟩, some ⟨cS enc2 m, true⟩]⟩) m.length (by show m.length < 2 ^ 64; omega) ?_ ?_
        · simp [-collect_own1, St.tidy, collect_box, s.own, r, cp]
          exact ⟨0, by omega, by omega, rfl⟩
        · rintro q hq _ ⟨i, rfl, hi, rfl⟩
          by_cases hlt : i < m.length
          · have w1' := w1 (i := i) (by omega)
            have p := c2_part hlt
            have k2 : i * 2 + 2 ≤ m.length * 2 := by omega
            have hlti : (i : Int) < (l.length : Int) + 1 := by omega
            have hltn : i < l.length + 1 := by omega
            simp [-collect_own1, hlti, hltn, Nat.not_le.2 hltn, p, cm, k2, w1', St.tidy, collect_box, s.own, r, cp]
            exact ⟨m.length - (i + 1), by omega, i + 1, by omega, by omega, by omega⟩
          · have hlti : ¬ (i : Int) < (l.length : Int) + 1 := by omega
            have hltn : ¬ i < l.length + 1 := by omega
            simp [hlti, hltn, Int.not_lt.1 hlti, Nat.not_lt.1 hltn, K20f, K22, c23, r0]
      · simp [ef4, aw, K17, K18, K19, K20, K20f, K21, K18m, A, q0, q1, fillL, zeros, ll, K22, r0, c23]
  exact fin (by by_cases a : chkC l = 0 <;> by_cases b : within x 0 100000 = true <;> simp [a, b])
end U
end Go.Abs
