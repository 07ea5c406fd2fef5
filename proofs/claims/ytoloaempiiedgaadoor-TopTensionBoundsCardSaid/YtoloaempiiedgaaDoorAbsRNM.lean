--
import Derived.Test.YtoloaempiiedgaaDoorAbsRUN
set_option linter.unusedSimpArgs false
set_option linter.unusedVariables false
namespace Go.Abs
namespace R
set_option maxRecDepth 100000
set_option maxHeartbeats 0
def ggI (l : List Int) (i : Nat) : Int := if within (gx l i) 100 3000 = false then 2 else if i = 0 then 0 else if gx l i ≤ gx l (i - 1) then 9 else 0
def ggL (l : List Int) (i : Nat) : Int := if i < l.length then (if ggI l i = 0 then ggL l (i + 1) else ggI l i) else 0
termination_by l.length - i
theorem ggL_lt {l : List Int} {i : Nat} (h : i < l.length) : ggL l i = if ggI l i = 0 then ggL l (i + 1) else ggI l i := by rw [ggL, if_pos h]
theorem ggL_ge {l : List Int} {i : Nat} (h : ¬ i < l.length) : ggL l i = 0 := by rw [ggL, if_neg h]
def ggE (l : List Int) : Int := if l.length = 0 then 8 else if 20 < l.length then 8 else ggL l 0
theorem c41 {d lim : Nat} {h : Heap} {v : Value} {l : List Int} (s : SlI' h v l) : E.call (d + 2) lim 41 [v] h = some (i64 (ggE l), h) := by
 have r := s.rules2
 have so := s.own
 have k69 := fun lim hh a b c => c44 (d := d) (lim := lim) (h := hh) (a := a) (b := b) (c := c)
 refine call1 fn41 rfl (by simp [ef41]) ?_
 unfold ggE
 by_cases h0 : l.length = 0
 ·have i0 : (l.length : Int) = 0 := by omega
  simp [ef41, r, h0, i0]
 have i0 : ¬ (l.length : Int) = 0 := by omega
 by_cases h20 : 20 < l.length
 ·have i1 : (20 : Int) < l.length := by omega
  simp [ef41, r, h0, i0, h20, i1, Int.not_le.2 i1, Nat.not_le.2 h20]
 have i1 : ¬ (20 : Int) < l.length := by omega
 have ne : l ≠ [] := fun e => h0 (by rw [e]; rfl)
 generalize hC : ggL l 0 = C0
 simp [ef41, r, h0, i0, ne, h20, i1, Int.not_lt.1 i1, Nat.not_lt.1 h20]
 refine wpC_loop (fun y st => ∃ i, y = l.length - i ∧ i ≤ l.length ∧ ggL l i = C0 ∧ st = ⟨[(0, v), (13, v), (14, i64 (l.length : Int)), (15, i64 (i : Nat))], h.freeze⟩) l.length (by show l.length < 2 ^ 64; omega) ?_ ?_
 ·simp [St.tidy, so, r]
  exact ⟨0, by omega, by omega, hC, rfl⟩
 ·rintro y hy _ ⟨i, rfl, hi, hc, rfl⟩
  by_cases hlt : i < l.length
  ·have w1' := w1 (i := i) (by omega)
   simp only [W] at w1'
   have hlti : (i : Int) < l.length := by omega
   have q0 : ∀ hh, (cI l)[i]'hh = i64 (gx l i) := fun hh => by simp [cI, gx, List.getD_eq_getElem?_getD, List.getElem?_eq_getElem hlt]
   rw [ggL_lt hlt] at hc
   unfold ggI at hc
   rcases q1 : within (gx l i) 100 3000 with _ | _
   ·rw [q1] at hc
    simp at hc
    subst hc
    simp [hlt, hlti, r, q0, k69, q1]
   ·rw [q1] at hc
    rcases Nat.eq_zero_or_pos i with z | z
    ·subst z
     simp at hc
     have l0 : 0 < l.length := by omega
     have c0 := (Sl_freeze.2 s).cell 0 (by omega)
     have c0' := s.cell 0 (by omega)
     rw [Nat.add_zero, cI_gx l0] at c0 c0'
     simp [l0, ne, hlt, hlti, r, q0, c0, c0', k69, q1, St.tidy, so]
     exact ⟨l.length - 1, by omega, 1, by omega, by omega, hc, by omega⟩
    ·have z0 : i ≠ 0 := by omega
     have zi : (0 : Int) < i := by omega
     have wi := w1s z (by omega)
     have ipl : ((i - 1 : Nat) : Int) < l.length := by omega
     have ipn : i - 1 < l.length := by omega
     have qp : ∀ hh, (cI l)[i - 1]'hh = i64 (gx l (i - 1)) := fun hh => by simp [cI, gx, List.getD_eq_getElem?_getD, List.getElem?_eq_getElem ipn]
     simp only [z0, if_false] at hc
     generalize i - 1 = m at *
     by_cases q2 : gx l i ≤ gx l m
     ·simp [q2] at hc
      subst hc
      simp [hlt, hlti, r, q0, qp, z, zi, z0, wi, ipl, ipn, k69, q1, q2]
     ·simp [q2] at hc
      simp [hlt, hlti, r, q0, qp, z, zi, z0, wi, ipl, ipn, k69, q1, q2, Int.not_le.1 q2, w1', St.tidy, so]
      exact ⟨l.length - (i + 1), by omega, i + 1, by omega, by omega, hc, by omega⟩
  ·obtain rfl : i = l.length := by omega
   rw [ggL_ge (by omega)] at hc
   subst hc
   simp
theorem c42 {d lim b o : Nat} {h : Heap} {wl : List Wi} (s : SlW h (.slice (some ⟨b, o, none⟩) wl.length 4) wl) (hl : wl.length ≤ 1000) :
  E.call (d + 1) lim 42 [.slice (some ⟨b, o, none⟩) wl.length 4] h = some (.slice (some ⟨h.length, 0, none⟩) wl.length 4, h ++ [some ⟨cS encW wl, true⟩]) := by
 have pw := cW_plain wl
 have ow := cW_one wl
 refine call_pure fn42 rfl (by simp [ef42]) ?_
 rcases Nat.eq_zero_or_pos wl.length with z | z
 ·have el : wl = [] := List.eq_nil_of_length_eq_zero z
  subst el
  simp [ef42, E.append, E.added, zeros, fillL, cS, Blk_addrs_nil, Blk_ren_nil]
 ·obtain ⟨b', o', kc, e, G, g1, g2, hb'⟩ := s.blkF (by omega) (by decide)
  simp at e
  obtain ⟨rfl, rfl⟩ := e
  have n0 : wl.length ≠ 0 := by omega
  have m1 : wl.length * 40 ≤ 140737488355328 := by omega
  have m2 : wl.length ≤ 9223372036854775807 := by omega
  simp [ef42, E.append, E.added, zeros, fillL, G, g1, g2, n0, ow, pw, m1, m2, maxLen]
theorem c43 {d lim b o : Nat} {h : Heap} {l : List Un} (s : SlN h (.slice (some ⟨b, o, none⟩) l.length 10) l) (hl : l.length ≤ 1000) :
  E.call (d + 1) lim 43 [.slice (some ⟨b, o, none⟩) l.length 10] h = some (.slice (some ⟨h.length, 0, none⟩) l.length 10, h ++ [some ⟨cS encN l, true⟩]) := by
 have pw := cU_plain l
 have ow := cU_one l
 refine call_pure fn43 rfl (by simp [ef43]) ?_
 rcases Nat.eq_zero_or_pos l.length with z | z
 ·have el : l = [] := List.eq_nil_of_length_eq_zero z
  subst el
  simp [ef43, E.append, E.added, zeros, fillL, cS, Blk_addrs_nil, Blk_ren_nil]
 ·obtain ⟨b', o', kc, e, G, g1, g2, hb'⟩ := s.blkF (by omega) (by decide)
  simp at e
  obtain ⟨rfl, rfl⟩ := e
  have n0 : l.length ≠ 0 := by omega
  have m1 : l.length * 96 ≤ 140737488355328 := by omega
  have m2 : l.length ≤ 9223372036854775807 := by omega
  simp [ef43, E.append, E.added, zeros, fillL, G, g1, g2, n0, ow, pw, m1, m2, maxLen]
end R
end Go.Abs
namespace Go.Abs
namespace R
set_option maxRecDepth 100000
set_option maxHeartbeats 0
end R
end Go.Abs
namespace Go.Abs
namespace R
set_option maxRecDepth 100000
set_option maxHeartbeats 0
theorem c23 {d lim : Nat} {h : Heap} {v : Value} {l : List Int} (s : SlI' h v l) : E.call (d + 2) lim 23 [v] h = some (i64 (ggE l), h) := by
 have r := s.rules2
 have so := s.own
 have k18 := fun lim hh a b c => c21 (d := d) (lim := lim) (h := hh) (a := a) (b := b) (c := c)
 refine call1 fn23 rfl (by simp [ef23]) ?_
 unfold ggE
 by_cases h0 : l.length = 0
 ·have i0 : (l.length : Int) = 0 := by omega
  simp [ef23, r, h0, i0]
 have i0 : ¬ (l.length : Int) = 0 := by omega
 by_cases h20 : 20 < l.length
 ·have i1 : (20 : Int) < l.length := by omega
  simp [ef23, r, h0, i0, h20, i1, Int.not_le.2 i1, Nat.not_le.2 h20]
 have i1 : ¬ (20 : Int) < l.length := by omega
 have ne : l ≠ [] := fun e => h0 (by rw [e]; rfl)
 generalize hC : ggL l 0 = C0
 simp [ef23, r, h0, i0, ne, h20, i1, Int.not_lt.1 i1, Nat.not_lt.1 h20]
 refine wpC_loop (fun y st => ∃ i, y = l.length - i ∧ i ≤ l.length ∧ ggL l i = C0 ∧ st = ⟨[(0, v), (3, i64 (i : Nat))], h.freeze⟩) l.length (by show l.length < 2 ^ 64; omega) ?_ ?_
 ·simp [St.tidy, so, r]
  exact ⟨0, by omega, by omega, hC, rfl⟩
 ·rintro y hy _ ⟨i, rfl, hi, hc, rfl⟩
  by_cases hlt : i < l.length
  ·have w1' := w1 (i := i) (by omega)
   simp only [W] at w1'
   have hlti : (i : Int) < l.length := by omega
   have q0 : ∀ hh, (cI l)[i]'hh = i64 (gx l i) := fun hh => by simp [cI, gx, List.getD_eq_getElem?_getD, List.getElem?_eq_getElem hlt]
   rw [ggL_lt hlt] at hc
   unfold ggI at hc
   rcases q1 : within (gx l i) 100 3000 with _ | _
   ·rw [q1] at hc
    simp at hc
    subst hc
    rcases Nat.eq_zero_or_pos i with z | z
    ·subst z
     have l0 : 0 < l.length := by omega
     have c0' := s.cell 0 (by omega)
     rw [Nat.add_zero, cI_gx l0] at c0'
     simp [l0, ne, hlt, Nat.not_le.2 l0, hlti, r, q0, c0', k18, q1]
    ·simp [hlt, Nat.not_le.2 hlt, hlti, r, q0, k18, q1]
   ·rw [q1] at hc
    rcases Nat.eq_zero_or_pos i with z | z
    ·subst z
     simp at hc
     have l0 : 0 < l.length := by omega
     have c0 := (Sl_freeze.2 s).cell 0 (by omega)
     have c0' := s.cell 0 (by omega)
     rw [Nat.add_zero, cI_gx l0] at c0 c0'
     simp [l0, ne, hlt, Nat.not_le.2 l0, hlti, r, q0, c0, c0', k18, q1, St.tidy, so]
     exact ⟨l.length - 1, by omega, 1, by omega, by omega, hc, by omega⟩
    ·have z0 : i ≠ 0 := by omega
     have zi : (0 : Int) < i := by omega
     have wi := w1s z (by omega)
     have ipl : ((i - 1 : Nat) : Int) < l.length := by omega
     have ipn : i - 1 < l.length := by omega
     have qp : ∀ hh, (cI l)[i - 1]'hh = i64 (gx l (i - 1)) := fun hh => by simp [cI, gx, List.getD_eq_getElem?_getD, List.getElem?_eq_getElem ipn]
     simp only [z0, if_false] at hc
     generalize i - 1 = m at *
     by_cases q2 : gx l i ≤ gx l m
     ·simp [q2] at hc
      subst hc
      simp [hlt, Nat.not_le.2 hlt, hlti, r, q0, qp, z, zi, z0, wi, ipl, ipn, k18, q1, q2]
     ·simp [q2] at hc
      simp [hlt, Nat.not_le.2 hlt, hlti, r, q0, qp, z, zi, z0, wi, ipl, ipn, k18, q1, q2, Int.not_le.1 q2, w1', St.tidy, so]
      exact ⟨l.length - (i + 1), by omega, i + 1, by omega, by omega, hc, by omega⟩
  ·obtain rfl : i = l.length := by omega
   rw [ggL_ge (by omega)] at hc
   subst hc
   simp [r]
def upC (u : Un) (c : Int) : Un := ⟨u.two, u.three, u.five, u.den, u.count, ⟨u.sd.len, c, u.sd.over, u.sd.wire, u.sd.wrap⟩⟩
theorem cU_set {L : List Un} {k : Nat} (h : k < L.length) (c : Int) : (cS encN L).set (k * 10 + 6) (i64 c) = cS encN (L.set k (upC (atN L k) c)) := by
 have hf : ∀ u : Un, (encN u).length = 10 := fun _ => rfl
 apply List.ext_getElem?
 intro m
 rw [List.getElem?_set]
 rcases Nat.lt_or_ge m (L.length * 10) with z | z
 ·have hi : m / 10 < L.length := by omega
  have hj : m % 10 < 10 := by omega
  have e : m = m / 10 * 10 + m % 10 := by omega
  generalize m / 10 = i at *
  generalize m % 10 = j at *
  subst e
  have hi' : i < (L.set k (upC (atN L k) c)).length := by simpa using hi
  rw [cS_get hf L i j hi hj, cS_get hf _ i j hi' hj, List.getElem_set]
  by_cases q : k = i
  ·subst q
   by_cases q2 : j = 6
   ·subst q2
    rw [if_pos rfl, if_pos (by rw [cN_len']; omega), if_pos rfl]; rfl
   ·rw [if_neg (by omega), if_pos rfl, atN_get hi]
    have : j = 0 ∨ j = 1 ∨ j = 2 ∨ j = 3 ∨ j = 4 ∨ j = 5 ∨ j = 7 ∨ j = 8 ∨ j = 9 := by omega
    rcases this with rfl | rfl | rfl | rfl | rfl | rfl | rfl | rfl | rfl <;> rfl
  ·rw [if_neg (by omega), if_neg q]
 ·rw [List.getElem?_eq_none (by rw [cN_len']; omega), List.getElem?_eq_none (by rw [cN_len', List.length_set]; omega)]
  split
  ·omega
  ·rfl
def setU (l : List Un) (g ix : List Int) : Nat → List Un
 | 0 => l
 | k + 1 => (setU l g ix k).set k (upC (atN (setU l g ix k) k) (gx g (gx ix k).toNat))
theorem setU_len (l : List Un) (g ix : List Int) : ∀ k, (setU l g ix k).length = l.length
 | 0 => rfl
 | k + 1 => by rw [setU, List.length_set, setU_len l g ix k]
def ixL (g ix : List Int) (i : Nat) : Int := if i < ix.length then (if within (gx ix i) 0 ((g.length : Int) - 1) = true then ixL g ix (i + 1) else 6) else 0
termination_by ix.length - i
theorem ixL_lt {g ix : List Int} {i : Nat} (h : i < ix.length) : ixL g ix i = if within (gx ix i) 0 ((g.length : Int) - 1) = true then ixL g ix (i + 1) else 6 := by rw [ixL, if_pos h]
theorem ixL_ge {g ix : List Int} {i : Nat} (h : ¬ i < ix.length) : ixL g ix i = 0 := by rw [ixL, if_neg h]
end R
end Go.Abs
