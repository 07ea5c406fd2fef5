--
import Derived.Test.YtoloaempiiedgaaDoorAbsRNM
set_option linter.unusedSimpArgs false
set_option linter.unusedVariables false
namespace Go.Abs
namespace R
set_option maxRecDepth 100000
set_option maxHeartbeats 0
abbrev st0 : Value := .agg #[i64 0, .slice none 0 0, .slice none 0 0]
end R
end Go.Abs
namespace Go.Abs
namespace R
set_option maxRecDepth 100000
set_option maxHeartbeats 0
theorem ggE_len {g : List Int} (h : ggE g = 0) : 1 ≤ g.length ∧ g.length ≤ 20 := by
 unfold ggE at h
 split at h
 ·cases h
 ·split at h
  ·cases h
  ·omega
theorem c12 {d lim bv ov bw ow : Nat} {h : Heap} {vg vx R : Value} {bs : List (Option Blk)} {wl : List Wi} {l : List Un} {g ix : List Int} {t : Int} (sp : Pr h) (s : SlW h (.slice (some ⟨bv, ov, none⟩) wl.length 4) wl) (q : SlN h (.slice (some ⟨bw, ow, none⟩) l.length 10) l)
  (sg : SlI' h vg g) (sx : SlI' h vx ix) (hwl : wl.length ≤ 1000) (hnm : Nms wl) (he : (stE t wl l).2 = 0) (hg : ggE g = 0) (hx : ix.length = l.length) (hx0 : ix.length ≠ 0)
  (hR : (ixL g ix 0 ≠ 0 ∧ R = .tuple #[st0, i64 6] ∧ bs = []) ∨ (ixL g ix 0 = 0 ∧ (stE t wl (setU l g ix l.length)).2 ≠ 0 ∧ R = .tuple #[st0, i64 (stE t wl (setU l g ix l.length)).2] ∧ bs = []) ∨
   (ixL g ix 0 = 0 ∧ (stE t wl (setU l g ix l.length)).2 = 0 ∧ R = .tuple #[stV t (.slice (some ⟨h.length, 0, none⟩) wl.length 4) (.slice (some ⟨h.length + 1, 0, none⟩) l.length 10), i64 0] ∧ bs = [some ⟨cS encW wl, true⟩, some ⟨cS encN (setU l g ix l.length), true⟩])) :
  E.call (d + 9) lim 12 [stV t (.slice (some ⟨bv, ov, none⟩) wl.length 4) (.slice (some ⟨bw, ow, none⟩) l.length 10), vg, vx] h = some (R, h ++ bs) := by
 have O := StOk.of he
 have l90 := O.few
 obtain ⟨gl1, gl2⟩ := ggE_len hg
 obtain ⟨bg, og, rfl⟩ : ∃ bg og, vg = .slice (some ⟨bg, og, none⟩) g.length 1 := ⟨_, _, sg.addr (by omega)⟩
 obtain ⟨bx, ox, rfl⟩ : ∃ bx ox, vx = .slice (some ⟨bx, ox, none⟩) ix.length 1 := ⟨_, _, sx.addr hx0⟩
 have hbg := sg.lt (by omega)
 have hbx := sx.lt hx0
 have r := q.rules2
 have rg := sg.rules2
 have rx := sx.rules2
 simp only [slB_some, slO_some] at rg rx hbg hbx r
 simp only [hx] at rx
 have spA := fun A => (Sl_freeze.2 sp).app A
 have k21 := fun lim L => c40 (d := d) (lim := lim) (t := t) ((Sl_freeze.2 sp).app L) ((Sl_freeze.2 s).app L) ((Sl_freeze.2 q).app L) hwl hnm
 have k79 := fun lim L => c41 (d := d + 6) (lim := lim) ((Sl_freeze.2 sg).app L)
 have k80 := fun lim A => c42 (d := d + 7) (lim := lim) (Sl_freeze.2 ((Sl_freeze.2 s).app A)) (by omega)
 have k81 := fun lim A => c43 (d := d + 7) (lim := lim) (Sl_freeze.2 ((Sl_freeze.2 q).app A)) (by omega)
 have k69 := fun lim hh a b c => c44 (d := d + 7) (lim := lim) (h := hh) (a := a) (b := b) (c := c)
 have wn := wlen (n := g.length) (by omega)
 have pw := cW_plain wl
 have hxi : (ix.length : Int) = l.length := by omega
 generalize hC : ixL g ix 0 = C0 at *
 refine call_pure fn12 rfl (by simp [ef12]) ?_
 simp [ef12, k21, he, k79, hg, r, rx, hx, k80, k81, Nat.add_assoc]
 refine wpC_loop (fun y st => ∃ k, y = l.length - k ∧ k ≤ l.length ∧ ixL g ix k = C0 ∧ st = ⟨[(1, .slice (some ⟨bg, og, none⟩) g.length 1), (6, .pointer (some ⟨h.length, 0, none⟩)), (11, .pointer (some ⟨h.length + 1, 0, none⟩)), (47, .slice (some ⟨bx, ox, none⟩) l.length 1), (48, i64 (l.length : Int)), (49, i64 (k : Nat))],
  h.freeze ++ [some ⟨[i64 0, .slice none 0 0, .slice none 0 0], true⟩, some ⟨[i64 t, .slice (some ⟨h.length + 2, 0, none⟩) wl.length 4, .slice (some ⟨h.length + 3, 0, none⟩) l.length 10], true⟩, some ⟨cS encW wl, true⟩, some ⟨cS encN (setU l g ix k), true⟩]⟩) l.length (by show l.length < 2 ^ 64; omega) ?_ ?_
 ·have pu := cU_plain l
  simp [St.tidy, hbg, hbx, pw, pu, Nat.add_assoc]
  exact ⟨0, by omega, by omega, hC, rfl, rfl⟩
 ·rintro y hy _ ⟨k, rfl, hk, hc, rfl⟩
  have pu := cU_plain (setU l g ix k)
  have lu : (cS encN (setU l g ix k)).length = l.length * 10 := by rw [cN_len', setU_len]
  by_cases hlt : k < l.length
  ·have w1' := w1 (i := k) (by omega)
   simp only [W] at w1'
   have hlti : (k : Int) < l.length := by omega
   have hkx : k < ix.length := by omega
   have q0 : ∀ hh, (cI ix)[k]'hh = i64 (gx ix k) := fun hh => by simp [cI, gx, List.getD_eq_getElem?_getD, List.getElem?_eq_getElem hkx]
   have k6 : k * 10 + 6 < l.length * 10 := by omega
   have st := cU_set (L := setU l g ix k) (k := k) (by rw [setU_len]; exact hlt) (gx g (gx ix k).toNat)
   have nx : setU l g ix (k + 1) = (setU l g ix k).set k (upC (atN (setU l g ix k) k) (gx g (gx ix k).toNat)) := rfl
   rw [← nx] at st
   have pn := cU_plain (setU l g ix (k + 1))
   have c0 := cI_gx (x := ix) (v := k) hkx
   rw [ixL_lt hkx] at hc
   generalize hm : gx ix k = m at *
   rcases q1 : within m 0 ((g.length : Int) - 1) with _ | _
   ·rw [q1] at hc
    simp at hc
    subst hc
    rcases hR with ⟨_, rfl, rfl⟩ | ⟨z, _⟩ | ⟨z, _⟩
    ·simp [hlt, hlti, rx, rg, q0, c0, k69, wn, q1]
    ·cases z
    ·cases z
   ·rw [q1] at hc
    simp at hc
    have hm' : 0 ≤ m ∧ m ≤ (g.length : Int) - 1 := by simpa [within] using q1
    obtain ⟨n, rfl⟩ : ∃ n : Nat, m = (n : Int) := ⟨m.toNat, by omega⟩
    have hn : n < g.length := by omega
    have hni : (n : Int) < g.length := by omega
    have q2 : ∀ hh, (cI g)[n]'hh = i64 (gx g n) := fun hh => by simp [cI, gx, List.getD_eq_getElem?_getD, List.getElem?_eq_getElem hn]
    simp only [Int.toNat_natCast] at st
    have c2 := cI_gx (x := g) (v := n) hn
    simp [hlt, hlti, rx, rg, q0, c0, k69, wn, q1, hn, hni, q2, c2, lu, k6, w1', st, St.tidy, hbg, hbx, pw, pu, pn, Nat.add_assoc]
    exact ⟨by omega, l.length - (k + 1), by omega, k + 1, by omega, by omega, hc, by omega, rfl⟩
  ·obtain rfl : k = l.length := by omega
   rw [ixL_ge (by omega)] at hc
   subst hc
   have kE := fun lim T1 T2 => c40 (d := d) (lim := lim) (t := t) (spA [T1, T2, some ⟨cS encW wl, true⟩, some ⟨cS encN (setU l g ix l.length), true⟩]) (ownW (l := wl) [T1, T2, some ⟨cS encW wl, true⟩, some ⟨cS encN (setU l g ix l.length), true⟩] (k := 2) rfl) (ownN (l := setU l g ix l.length) [T1, T2, some ⟨cS encW wl, true⟩, some ⟨cS encN (setU l g ix l.length), true⟩] (k := 3) rfl) hwl hnm
   simp only [setU_len] at kE
   rcases hR with ⟨z, _⟩ | ⟨_, e2, rfl, rfl⟩ | ⟨_, e2, rfl, rfl⟩
   ·exact absurd rfl z
   ·simp [kE, e2]
   ·simp [kE, e2, pw, pu]
theorem c12z {d lim bv ov bw ow : Nat} {h : Heap} {vg vx : Value} {wl : List Wi} {g ix : List Int} {t : Int} (sp : Pr h) (s : SlW h (.slice (some ⟨bv, ov, none⟩) wl.length 4) wl) (q : SlN h (.slice (some ⟨bw, ow, none⟩) 0 10) [])
  (sg : SlI' h vg g) (sx : SlI' h vx ix) (hwl : wl.length ≤ 1000) (hnm : Nms wl) (he : (stE t wl []).2 = 0) (hg : ggE g = 0) (hx0 : ix.length = 0) :
  E.call (d + 9) lim 12 [stV t (.slice (some ⟨bv, ov, none⟩) wl.length 4) (.slice (some ⟨bw, ow, none⟩) 0 10), vg, vx] h = some (.tuple #[stV t (.slice (some ⟨h.length, 0, none⟩) wl.length 4) (.slice (some ⟨h.length + 1, 0, none⟩) 0 10), i64 0], h ++ [some ⟨cS encW wl, true⟩, some ⟨cS encN [], true⟩]) := by
 obtain ⟨gl1, gl2⟩ := ggE_len hg
 obtain ⟨bg, og, rfl⟩ : ∃ bg og, vg = .slice (some ⟨bg, og, none⟩) g.length 1 := ⟨_, _, sg.addr (by omega)⟩
 have hbg := sg.lt (by omega)
 have rx := sx.rules2
 simp only [slB_some] at hbg
 have spA := fun A => (Sl_freeze.2 sp).app A
 have k21 := fun lim L => c40 (d := d) (lim := lim) (t := t) ((Sl_freeze.2 sp).app L) ((Sl_freeze.2 s).app L) ((Sl_freeze.2 q).app L) hwl hnm
 have k79 := fun lim L => c41 (d := d + 6) (lim := lim) ((Sl_freeze.2 sg).app L)
 have k80 := fun lim A => c42 (d := d + 7) (lim := lim) (Sl_freeze.2 ((Sl_freeze.2 s).app A)) (by omega)
 have k81 := fun lim A => c43 (d := d + 7) (lim := lim) (l := ([] : List Un)) (b := bw) (o := ow) (Sl_freeze.2 ((Sl_freeze.2 q).app A)) (by simp)
 have kE := fun lim T1 T2 => c40 (d := d) (lim := lim) (t := t) (spA [T1, T2, some ⟨cS encW wl, true⟩, some ⟨cS encN [], true⟩]) (ownW (l := wl) [T1, T2, some ⟨cS encW wl, true⟩, some ⟨cS encN [], true⟩] (k := 2) rfl) (ownN (l := []) [T1, T2, some ⟨cS encW wl, true⟩, some ⟨cS encN [], true⟩] (k := 3) rfl) hwl hnm
 have pw := cW_plain wl
 have pu := cU_plain []
 have ei : ix = [] := List.eq_nil_of_length_eq_zero hx0
 subst ei
 refine call_pure fn12 rfl (by simp [ef12]) ?_
 simp at k21 k81 kE
 rcases sx.low with rfl | ⟨bx, ox, mx, tx, rfl, hbx⟩
 ·simp [ef12, k21, he, k79, hg, k80, k81, Nat.add_assoc]
  rw [wpC_unroll, wpI_step (by simp [E_fuel'])]
  simp [St.tidy, hbg, pw, pu, kE, he, Nat.add_assoc]
 ·obtain rfl : mx = 0 := by simpa using sx.len
  simp [ef12, k21, he, k79, hg, k80, k81, Nat.add_assoc]
  rw [wpC_unroll, wpI_step (by simp [E_fuel'])]
  simp [St.tidy, hbg, hbx, pw, pu, kE, he, Nat.add_assoc]
end R
end Go.Abs
