/- Chapter 2: gauges chosen: the program. -/
import Derived.Test.YtodofkolnmoliaaDoorAbsXNM
set_option linter.unusedSimpArgs false
set_option linter.unusedVariables false
/- Chapter 2: gauges chosen: the program. -/
namespace Go.Abs
namespace X
set_option maxRecDepth 100000
set_option maxHeartbeats 0
/-- The error of a choice, before the stringing that it gives is looked at. -/
def wiE (l : List Un) (g ix : List Int) : Int := if ggE g ≠ 0 then ggE g else if ix.length ≠ l.length then 10 else ixL g ix 0
theorem ixL_all {g ix : List Int} : ∀ (k i : Nat), ix.length - i = k → ixL g ix i = 0 → ∀ j, i ≤ j → j < ix.length → within (gx ix j) 0 ((g.length : Int) - 1) = true
  | 0, i, hk, _, j, h1, h2 => by omega
  | k + 1, i, hk, h, j, h1, h2 => by
    rw [ixL_lt (by omega)] at h
    split at h
    · rename_i e
      rcases Nat.eq_or_lt_of_le h1 with rfl | h3
      · exact e
      · exact ixL_all k (i + 1) (by omega) h j h3 h2
    · cases h
abbrev st0 : Value := .agg #[i64 0, .slice none 0 0, .slice none 0 0]
theorem c32a {d lim bv ov bw ow : Nat} {h : Heap} {vg vx : Value} {wl : List Wi} {l : List Un} {g ix : List Int} {t : Int} (sp : Pr h) (s : SlW h (.slice (some ⟨bv, ov, none⟩) wl.length 4) wl) (q : SlN h (.slice (some ⟨bw, ow, none⟩) l.length 10) l)
    (sg : SlI' h vg g) (sx : SlI' h vx ix) (hwl : wl.length ≤ 1000) (hnm : Nms wl) (he : (stE t wl l).2 ≠ 0) :
    E.call (d + 9) lim 32 [stV t (.slice (some ⟨bv, ov, none⟩) wl.length 4) (.slice (some ⟨bw, ow, none⟩) l.length 10), vg, vx] h = some (.tuple #[st0, i64 (stE t wl l).2], h) := by
  have k21 := fun lim L => c21 (d := d) (lim := lim) (t := t) ((Sl_freeze.2 sp).app L) ((Sl_freeze.2 s).app L) ((Sl_freeze.2 q).app L) hwl hnm
  refine call1 fn32 rfl (by simp [ef32]) ?_
  simp [ef32, k21, he]
theorem c32b {d lim bv ov bw ow : Nat} {h : Heap} {vg vx : Value} {wl : List Wi} {l : List Un} {g ix : List Int} {t : Int} (sp : Pr h) (s : SlW h (.slice (some ⟨bv, ov, none⟩) wl.length 4) wl) (q : SlN h (.slice (some ⟨bw, ow, none⟩) l.length 10) l)
    (sg : SlI' h vg g) (sx : SlI' h vx ix) (hwl : wl.length ≤ 1000) (hnm : Nms wl) (he : (stE t wl l).2 = 0) (hg : ggE g ≠ 0 ∨ ix.length ≠ l.length) :
    E.call (d + 9) lim 32 [stV t (.slice (some ⟨bv, ov, none⟩) wl.length 4) (.slice (some ⟨bw, ow, none⟩) l.length 10), vg, vx] h = some (.tuple #[st0, i64 (wiE l g ix)], h) := by
  have r := q.rules2
  have rx := sx.rules2
  have k21 := fun lim L => c21 (d := d) (lim := lim) (t := t) ((Sl_freeze.2 sp).app L) ((Sl_freeze.2 s).app L) ((Sl_freeze.2 q).app L) hwl hnm
  have k79 := fun lim L => c79 (d := d + 6) (lim := lim) ((Sl_freeze.2 sg).app L)
  refine call1 fn32 rfl (by simp [ef32]) ?_
  unfold wiE
  by_cases e : ggE g ≠ 0
  · simp [ef32, k21, he, k79, e]
  · have e' : ggE g = 0 := by omega
    have hx : ix.length ≠ l.length := by
      rcases hg with z | z
      · exact absurd e' z
      · exact z
    have ix' : ¬ (ix.length : Int) = l.length := by omega
    simp [ef32, k21, he, k79, e', rx, hx, ix']
end X
end Go.Abs
/- Chapter 2: gauges chosen: the program, choices of the right number. -/
namespace Go.Abs
namespace X
set_option maxRecDepth 100000
set_option maxHeartbeats 0
theorem ggE_len {g : List Int} (h : ggE g = 0) : 1 ≤ g.length ∧ g.length ≤ 20 := by
  unfold ggE at h
  split at h
  · cases h
  · split at h
    · cases h
    · omega
theorem c32 {d lim bv ov bw ow : Nat} {h : Heap} {vg vx R : Value} {bs : List (Option Blk)} {wl : List Wi} {l : List Un} {g ix : List Int} {t : Int} (sp : Pr h) (s : SlW h (.slice (some ⟨bv, ov, none⟩) wl.length 4) wl) (q : SlN h (.slice (some ⟨bw, ow, none⟩) l.length 10) l)
    (sg : SlI' h vg g) (sx : SlI' h vx ix) (hwl : wl.length ≤ 1000) (hnm : Nms wl) (he : (stE t wl l).2 = 0) (hg : ggE g = 0) (hx : ix.length = l.length) (hx0 : ix.length ≠ 0)
    (hR : (ixL g ix 0 ≠ 0 ∧ R = .tuple #[st0, i64 6] ∧ bs = []) ∨ (ixL g ix 0 = 0 ∧ (stE t wl (setU l g ix l.length)).2 ≠ 0 ∧ R = .tuple #[st0, i64 (stE t wl (setU l g ix l.length)).2] ∧ bs = []) ∨
      (ixL g ix 0 = 0 ∧ (stE t wl (setU l g ix l.length)).2 = 0 ∧ R = .tuple #[stV t (.slice (some ⟨h.length, 0, none⟩) wl.length 4) (.slice (some ⟨h.length + 1, 0, none⟩) l.length 10), i64 0] ∧ bs = [some ⟨cS encW wl, true⟩, some ⟨cS encN (setU l g ix l.length), true⟩])) :
    E.call (d + 9) lim 32 [stV t (.slice (some ⟨bv, ov, none⟩) wl.length 4) (.slice (some ⟨bw, ow, none⟩) l.length 10), vg, vx] h = some (R, h ++ bs) := by
  have O := StOk.of he
  have l90 := O.few
  obtain ⟨gl1, gl2⟩ := ggE_len hg
  obtain ⟨bg, og, rfl⟩ : ∃ bg og, vg = .slice (some ⟨bg, og, none⟩) g.length 1 := ⟨_, _, sg.addr (by omega)⟩
  obtain ⟨bx, ox, rfl⟩ : ∃ bx ox, vx = .slice (some ⟨bx, ox, none⟩) ix.length 1 := ⟨_, _, sx.addr hx0⟩
  have hbg := sg.lt (by omega)
  have hbx := sx.lt hx0
  have r := q.rules2
  have rg := sg.rules2
  have rx := sx.rules2
  simp only [slB_some, slO_some] at rg rx hbg hbx r
  simp only [hx] at rx
  have spA := fun A => (Sl_freeze.2 sp).app A
  have k21 := fun lim L => c21 (d := d) (lim := lim) (t := t) ((Sl_freeze.2 sp).app L) ((Sl_freeze.2 s).app L) ((Sl_freeze.2 q).app L) hwl hnm
  have k79 := fun lim L => c79 (d := d + 6) (lim := lim) ((Sl_freeze.2 sg).app L)
  have k80 := fun lim A => c80 (d := d + 7) (lim := lim) (Sl_freeze.2 ((Sl_freeze.2 s).app A)) (by omega)
  have k81 := fun lim A => c81 (d := d + 7) (lim := lim) (Sl_freeze.2 ((Sl_freeze.2 q).app A)) (by omega)
  have k69 := fun lim hh a b c => c69 (d := d + 7) (lim := lim) (h := hh) (a := a) (b := b) (c := c)
  have wn := wlen (n := g.length) (by omega)
  have pw := cW_plain wl
  have hxi : (ix.length : Int) = l.length := by omega
  generalize hC : ixL g ix 0 = C0 at *
  refine call_pure fn32 rfl (by simp [ef32]) ?_
  simp [ef32, k21, he, k79, hg, r, rx, hx, k80, k81, Nat.add_assoc]
  refine wpC_loop (fun y st => ∃ k, y = l.length - k ∧ k ≤ l.length ∧ ixL g ix k = C0 ∧ st = ⟨[(1, .slice (some ⟨bg, og, none⟩) g.length 1), (6, .pointer (some ⟨h.length, 0, none⟩)), (11, .pointer (some ⟨h.length + 1, 0, none⟩)), (47, .slice (some ⟨bx, ox, none⟩) l.length 1), (48, i64 (l.length : Int)), (49, i64 (k : Nat))],
    h.freeze ++ [some ⟨[i64 0, .slice none 0 0, .slice none 0 0], true⟩, some ⟨[i64 t, .slice (some ⟨h.length + 2, 0, none⟩) wl.length 4, .slice (some ⟨h.length + 3, 0, none⟩) l.length 10], true⟩, some ⟨cS encW wl, true⟩, some ⟨cS encN (setU l g ix k), true⟩]⟩) l.length (by show l.length < 2 ^ 64; omega) ?_ ?_
  · have pu := cU_plain l
    simp [St.tidy, hbg, hbx, pw, pu, Nat.add_assoc]
    exact ⟨0, by omega, by omega, hC, rfl, rfl⟩
  · rintro y hy _ ⟨k, rfl, hk, hc, rfl⟩
    have pu := cU_plain (setU l g ix k)
    have lu : (cS encN (setU l g ix k)).length = l.length * 10 := by rw [cN_len', setU_len]
    by_cases hlt : k < l.length
    · have w1' := w1 (i := k) (by omega)
      simp only [W] at w1'
      have hlti : (k : Int) < l.length := by omega
      have hkx : k < ix.length := by omega
      have q0 : ∀ hh, (cI ix)[k]'hh = i64 (gx ix k) := fun hh => by simp [cI, gx, List.getD_eq_getElem?_getD, List.getElem?_eq_getElem hkx]
      have k6 : k * 10 + 6 < l.length * 10 := by omega
      have st := cU_set (L := setU l g ix k) (k := k) (by rw [setU_len]; exact hlt) (gx g (gx ix k).toNat)
      have nx : setU l g ix (k + 1) = (setU l g ix k).set k (upC (atN (setU l g ix k) k) (gx g (gx ix k).toNat)) := rfl
      rw [← nx] at st
      have pn := cU_plain (setU l g ix (k + 1))
      have c0 := cI_gx (x := ix) (v := k) hkx
      rw [ixL_lt hkx] at hc
      generalize hm : gx ix k = m at *
      rcases q1 : within m 0 ((g.length : Int) - 1) with _ | _
      · rw [q1] at hc
        simp at hc
        subst hc
        rcases hR with ⟨_, rfl, rfl⟩ | ⟨z, _⟩ | ⟨z, _⟩
        · simp [hlt, hlti, rx, rg, q0, c0, k69, wn, q1]
        · cases z
        · cases z
      · rw [q1] at hc
        simp at hc
        have hm' : 0 ≤ m ∧ m ≤ (g.length : Int) - 1 := by simpa [within] using q1
        obtain ⟨n, rfl⟩ : ∃ n : Nat, m = (n : Int) := ⟨m.toNat, by omega⟩
        have hn : n < g.length := by omega
        have hni : (n : Int) < g.length := by omega
        have q2 : ∀ hh, (cI g)[n]'hh = i64 (gx g n) := fun hh => by simp [cI, gx, List.getD_eq_getElem?_getD, List.getElem?_eq_getElem hn]
        simp only [Int.toNat_natCast] at st
        have c2 := cI_gx (x := g) (v := n) hn
        simp [hlt, hlti, rx, rg, q0, c0, k69, wn, q1, hn, hni, q2, c2, lu, k6, w1', st, St.tidy, hbg, hbx, pw, pu, pn, Nat.add_assoc]
        exact ⟨by omega, l.length - (k + 1), by omega, k + 1, by omega, by omega, hc, by omega, rfl⟩
    · obtain rfl : k = l.length := by omega
      rw [ixL_ge (by omega)] at hc
      subst hc
      have kE := fun lim T1 T2 => c21 (d := d) (lim := lim) (t := t) (spA [T1, T2, some ⟨cS encW wl, true⟩, some ⟨cS encN (setU l g ix l.length), true⟩]) (ownW (l := wl) [T1, T2, some ⟨cS encW wl, true⟩, some ⟨cS encN (setU l g ix l.length), true⟩] (k := 2) rfl) (ownN (l := setU l g ix l.length) [T1, T2, some ⟨cS encW wl, true⟩, some ⟨cS encN (setU l g ix l.length), true⟩] (k := 3) rfl) hwl hnm
      simp only [setU_len] at kE
      rcases hR with ⟨z, _⟩ | ⟨_, e2, rfl, rfl⟩ | ⟨_, e2, rfl, rfl⟩
      · exact absurd rfl z
      · simp [kE, e2]
      · simp [kE, e2, pw, pu]
theorem c32z {d lim bv ov bw ow : Nat} {h : Heap} {vg vx : Value} {wl : List Wi} {g ix : List Int} {t : Int} (sp : Pr h) (s : SlW h (.slice (some ⟨bv, ov, none⟩) wl.length 4) wl) (q : SlN h (.slice (some ⟨bw, ow, none⟩) 0 10) [])
    (sg : SlI' h vg g) (sx : SlI' h vx ix) (hwl : wl.length ≤ 1000) (hnm : Nms wl) (he : (stE t wl []).2 = 0) (hg : ggE g = 0) (hx0 : ix.length = 0) :
    E.call (d + 9) lim 32 [stV t (.slice (some ⟨bv, ov, none⟩) wl.length 4) (.slice (some ⟨bw, ow, none⟩) 0 10), vg, vx] h = some (.tuple #[stV t (.slice (some ⟨h.length, 0, none⟩) wl.length 4) (.slice (some ⟨h.length + 1, 0, none⟩) 0 10), i64 0], h ++ [some ⟨cS encW wl, true⟩, some ⟨cS encN [], true⟩]) := by
  obtain ⟨gl1, gl2⟩ := ggE_len hg
  obtain ⟨bg, og, rfl⟩ : ∃ bg og, vg = .slice (some ⟨bg, og, none⟩) g.length 1 := ⟨_, _, sg.addr (by omega)⟩
  have hbg := sg.lt (by omega)
  have rx := sx.rules2
  simp only [slB_some] at hbg
  have spA := fun A => (Sl_freeze.2 sp).app A
  have k21 := fun lim L => c21 (d := d) (lim := lim) (t := t) ((Sl_freeze.2 sp).app L) ((Sl_freeze.2 s).app L) ((Sl_freeze.2 q).app L) hwl hnm
  have k79 := fun lim L => c79 (d := d + 6) (lim := lim) ((Sl_freeze.2 sg).app L)
  have k80 := fun lim A => c80 (d := d + 7) (lim := lim) (Sl_freeze.2 ((Sl_freeze.2 s).app A)) (by omega)
  have k81 := fun lim A => c81 (d := d + 7) (lim := lim) (l := ([] : List Un)) (b := bw) (o := ow) (Sl_freeze.2 ((Sl_freeze.2 q).app A)) (by simp)
  have kE := fun lim T1 T2 => c21 (d := d) (lim := lim) (t := t) (spA [T1, T2, some ⟨cS encW wl, true⟩, some ⟨cS encN [], true⟩]) (ownW (l := wl) [T1, T2, some ⟨cS encW wl, true⟩, some ⟨cS encN [], true⟩] (k := 2) rfl) (ownN (l := []) [T1, T2, some ⟨cS encW wl, true⟩, some ⟨cS encN [], true⟩] (k := 3) rfl) hwl hnm
  have pw := cW_plain wl
  have pu := cU_plain []
  have ei : ix = [] := List.eq_nil_of_length_eq_zero hx0
  subst ei
  refine call_pure fn32 rfl (by simp [ef32]) ?_
  simp at k21 k81 kE
  rcases sx.low with rfl | ⟨bx, ox, mx, tx, rfl, hbx⟩
  · simp [ef32, k21, he, k79, hg, k80, k81, Nat.add_assoc]
    rw [wpC_unroll, wpI_step (by simp [E_fuel'])]
    simp [St.tidy, hbg, pw, pu, kE, he, Nat.add_assoc]
  · obtain rfl : mx = 0 := by simpa using sx.len
    simp [ef32, k21, he, k79, hg, k80, k81, Nat.add_assoc]
    rw [wpC_unroll, wpI_step (by simp [E_fuel'])]
    simp [St.tidy, hbg, hbx, pw, pu, kE, he, Nat.add_assoc]
end X
end Go.Abs
/- Chapter 2: gauges chosen: the reference. -/
namespace Go.Abs
namespace X
set_option maxRecDepth 100000
set_option maxHeartbeats 0
theorem c34a {d lim : Nat} {h : Heap} {v w vg vx : Value} {wl : List Wi} {l : List Un} {g ix : List Int} {t : Int} (q : SlN h w l) (sg : SlI' h vg g) (sx : SlI' h vx ix) (hg : ggE g ≠ 0 ∨ ix.length ≠ l.length) :
    E.call (d + 7) lim 34 [stV t v w, vg, vx] h = some (.tuple #[st0, i64 (wiE l g ix)], h) := by
  have r := q.rules2
  have rx := sx.rules2
  have k56 := fun lim L => c56 (d := d + 4) (lim := lim) ((Sl_freeze.2 sg).app L)
  refine call1 fn34 rfl (by simp [ef34]) ?_
  unfold wiE
  by_cases e : ggE g ≠ 0
  · simp [ef34, k56, e]
  · have e' : ggE g = 0 := by omega
    have hx : ix.length ≠ l.length := by
      rcases hg with z | z
      · exact absurd e' z
      · exact z
    have ix' : ¬ (ix.length : Int) = l.length := by omega
    simp [ef34, k56, e', rx, r, hx, ix']
theorem c34 {d lim : Nat} {h : Heap} {v w vg vx R : Value} {bs : List (Option Blk)} {wl : List Wi} {l : List Un} {g ix : List Int} {t : Int} (s : SlW h v wl) (q : SlN h w l)
    (sg : SlI' h vg g) (sx : SlI' h vx ix) (hwl : wl.length ≤ 1000) (hl : l.length ≤ 1000) (hg : ggE g = 0) (hx : ix.length = l.length) (hx0 : ix.length ≠ 0)
    (hR : (ixL g ix 0 ≠ 0 ∧ R = .tuple #[st0, i64 6] ∧ bs = []) ∨ (ixL g ix 0 = 0 ∧ (stE t wl (setU l g ix l.length)).2 ≠ 0 ∧ R = .tuple #[st0, i64 (stE t wl (setU l g ix l.length)).2] ∧ bs = []) ∨
      (ixL g ix 0 = 0 ∧ (stE t wl (setU l g ix l.length)).2 = 0 ∧ R = .tuple #[stV t (.slice (some ⟨h.length, 0, none⟩) wl.length 4) (.slice (some ⟨h.length + 1, 0, none⟩) l.length 10), i64 0] ∧ bs = [some ⟨cS encW wl, true⟩, some ⟨cS encN (setU l g ix l.length), true⟩])) :
    E.call (d + 7) lim 34 [stV t v w, vg, vx] h = some (R, h ++ bs) := by
  obtain ⟨gl1, gl2⟩ := ggE_len hg
  obtain ⟨bg, og, rfl⟩ : ∃ bg og, vg = .slice (some ⟨bg, og, none⟩) g.length 1 := ⟨_, _, sg.addr (by omega)⟩
  obtain ⟨bx, ox, rfl⟩ : ∃ bx ox, vx = .slice (some ⟨bx, ox, none⟩) ix.length 1 := ⟨_, _, sx.addr hx0⟩
  have hbg := sg.lt (by omega)
  have hbx := sx.lt hx0
  have rs := s.rules2
  have r := q.rules2
  have so := s.own
  have qo := q.own
  have rg := sg.rules2
  have rx := sx.rules2
  simp only [slB_some, slO_some] at rg rx hbg hbx
  simp only [hx] at rx
  have k56 := fun lim L => c56 (d := d + 4) (lim := lim) ((Sl_freeze.2 sg).app L)
  have k18 := fun lim hh a b c => c18 (d := d + 5) (lim := lim) (h := hh) (a := a) (b := b) (c := c)
  have k22 := fun lim A => c22 (d := d + 5) (lim := lim) (t := t) ((Sl_freeze.2 s).app A) ((Sl_freeze.2 q).app A) hwl hl
  have wn := wlen (n := g.length) (by omega)
  have pw := cW_plain wl
  have hxi : (ix.length : Int) = l.length := by omega
  have ixa := ixL_all (g := g) (ix := ix) ix.length 0 (by omega)
  generalize hC : ixL g ix 0 = C0 at *
  refine call_pure fn34 rfl (by simp [ef34]) ?_
  simp [ef34, k56, hg, rs, r, rx, hx, Nat.add_assoc]
  refine wpC_loop (fun y st => ∃ k, y = l.length - k ∧ k ≤ l.length ∧ ixL g ix k = C0 ∧ st = ⟨[(1, .slice (some ⟨bg, og, none⟩) g.length 1), (2, .slice (some ⟨bx, ox, none⟩) l.length 1), (3, .pointer (some ⟨h.length, 0, none⟩)), (6, .pointer (some ⟨h.length + 1, 0, none⟩)), (9, i64 (k : Nat))],
    h.freeze ++ [some ⟨[i64 t, v, w], true⟩, some ⟨[i64 0, .slice none 0 0, .slice none 0 0], true⟩]⟩) l.length (by show l.length < 2 ^ 64; omega) ?_ ?_
  · simp [-collect_own1, St.tidy, collect_box, so, qo, rs, r, hbg, hbx]
    exact ⟨0, by omega, by omega, hC, rfl⟩
  · rintro y hy _ ⟨k, rfl, hk, hc, rfl⟩
    by_cases hlt : k < l.length
    · have w1' := w1 (i := k) (by omega)
      simp only [W] at w1'
      have hlti : (k : Int) < l.length := by omega
      have hkx : k < ix.length := by omega
      have q0 : ∀ hh, (cI ix)[k]'hh = i64 (gx ix k) := fun hh => by simp [cI, gx, List.getD_eq_getElem?_getD, List.getElem?_eq_getElem hkx]
      have c0 := cI_gx (x := ix) (v := k) hkx
      rw [ixL_lt hkx] at hc
      generalize hm : gx ix k = m at *
      rcases q1 : within m 0 ((g.length : Int) - 1) with _ | _
      · rw [q1] at hc
        simp at hc
        subst hc
        rcases hR with ⟨_, rfl, rfl⟩ | ⟨z, _⟩ | ⟨z, _⟩
        · simp [hlt, Nat.not_le.2 hlt, hlti, rx, rg, q0, c0, k18, wn, q1]
        · cases z
        · cases z
      · rw [q1] at hc
        simp at hc
        simp [-collect_own1, hlt, Nat.not_le.2 hlt, hlti, rx, rg, q0, c0, k18, wn, q1, w1', St.tidy, collect_box, so, qo, rs, r, hbg, hbx]
        exact ⟨l.length - (k + 1), by omega, k + 1, by omega, by omega, hc, by omega⟩
    · obtain rfl : k = l.length := by omega
      rw [ixL_ge (by omega)] at hc
      subst hc
      have ixb := ixa rfl
      simp [k22, rx, Nat.add_assoc]
      refine wpC_loop (fun y st => ∃ k, y = l.length - k ∧ k ≤ l.length ∧ st = ⟨[(1, .slice (some ⟨bg, og, none⟩) g.length 1), (2, .slice (some ⟨bx, ox, none⟩) l.length 1), (6, .pointer (some ⟨h.length, 0, none⟩)), (10, .pointer (some ⟨h.length + 1, 0, none⟩)), (11, i64 (k : Nat))],
        h.freeze ++ [some ⟨[i64 0, .slice none 0 0, .slice none 0 0], true⟩, some ⟨[i64 t, .slice (some ⟨h.length + 2, 0, none⟩) wl.length 4, .slice (some ⟨h.length + 3, 0, none⟩) l.length 10], true⟩, some ⟨cS encW wl, true⟩, some ⟨cS encN (setU l g ix k), true⟩]⟩) l.length (by show l.length < 2 ^ 64; omega) ?_ ?_
      · have pu := cU_plain l
        simp [St.tidy, hbg, hbx, pw, pu, Nat.add_assoc]
        exact ⟨0, by omega, by omega, rfl, rfl⟩
      · rintro y2 hy2 _ ⟨k, rfl, hk, rfl⟩
        have pu := cU_plain (setU l g ix k)
        have lu : (cS encN (setU l g ix k)).length = l.length * 10 := by rw [cN_len', setU_len]
        by_cases hlt : k < l.length
        · have w1' := w1 (i := k) (by omega)
          simp only [W] at w1'
          have hlti : (k : Int) < l.length := by omega
          have hkx : k < ix.length := by omega
          have q0 : ∀ hh, (cI ix)[k]'hh = i64 (gx ix k) := fun hh => by simp [cI, gx, List.getD_eq_getElem?_getD, List.getElem?_eq_getElem hkx]
          have c0 := cI_gx (x := ix) (v := k) hkx
          have k6 : k * 10 + 6 < l.length * 10 := by omega
          have st := cU_set (L := setU l g ix k) (k := k) (by rw [setU_len]; exact hlt) (gx g (gx ix k).toNat)
          have nx : setU l g ix (k + 1) = (setU l g ix k).set k (upC (atN (setU l g ix k) k) (gx g (gx ix k).toNat)) := rfl
          rw [← nx] at st
          have pn := cU_plain (setU l g ix (k + 1))
          have q1 := ixb k (by omega) hkx
          generalize hm : gx ix k = m at *
          have hm' : 0 ≤ m ∧ m ≤ (g.length : Int) - 1 := by simpa [within] using q1
          obtain ⟨n, rfl⟩ : ∃ n : Nat, m = (n : Int) := ⟨m.toNat, by omega⟩
          have hn : n < g.length := by omega
          have hni : (n : Int) < g.length := by omega
          have q2 : ∀ hh, (cI g)[n]'hh = i64 (gx g n) := fun hh => by simp [cI, gx, List.getD_eq_getElem?_getD, List.getElem?_eq_getElem hn]
          simp only [Int.toNat_natCast] at st
          have c2 := cI_gx (x := g) (v := n) hn
          simp [hlt, Nat.not_le.2 hlt, hlti, rx, rg, q0, c0, hn, hni, q2, c2, lu, k6, w1', st, St.tidy, hbg, hbx, pw, pu, pn, Nat.add_assoc]
          exact ⟨by omega, l.length - (k + 1), by omega, k + 1, by omega, by omega, by omega, rfl⟩
        · obtain rfl : k = l.length := by omega
          have kE := fun lim T1 T2 => c26 (d := d) (lim := lim) (t := t) (ownW (h := h) (l := wl) [T1, T2, some ⟨cS encW wl, true⟩, some ⟨cS encN (setU l g ix l.length), true⟩] (k := 2) rfl) (ownN (l := setU l g ix l.length) [T1, T2, some ⟨cS encW wl, true⟩, some ⟨cS encN (setU l g ix l.length), true⟩] (k := 3) rfl) hwl
          simp only [setU_len] at kE
          rcases hR with ⟨z, _⟩ | ⟨_, e2, rfl, rfl⟩ | ⟨_, e2, rfl, rfl⟩
          · exact absurd rfl z
          · simp [kE, e2, rx]
          · simp [kE, e2, rx, pw, pu]
theorem c34z {d lim : Nat} {h : Heap} {v w vg vx : Value} {wl : List Wi} {g ix : List Int} {t : Int} (s : SlW h v wl) (q : SlN h w [])
    (sg : SlI' h vg g) (sx : SlI' h vx ix) (hwl : wl.length ≤ 1000) (he : (stE t wl []).2 = 0) (hg : ggE g = 0) (hx0 : ix.length = 0) :
    E.call (d + 7) lim 34 [stV t v w, vg, vx] h = some (.tuple #[stV t (.slice (some ⟨h.length, 0, none⟩) wl.length 4) (.slice (some ⟨h.length + 1, 0, none⟩) 0 10), i64 0], h ++ [some ⟨cS encW wl, true⟩, some ⟨cS encN [], true⟩]) := by
  obtain ⟨gl1, gl2⟩ := ggE_len hg
  obtain ⟨bg, og, rfl⟩ : ∃ bg og, vg = .slice (some ⟨bg, og, none⟩) g.length 1 := ⟨_, _, sg.addr (by omega)⟩
  have hbg := sg.lt (by omega)
  have rs := s.rules2
  have r := q.rules2
  have so := s.own
  have qo := q.own
  simp only [slB_some] at hbg
  have k56 := fun lim L => c56 (d := d + 4) (lim := lim) ((Sl_freeze.2 sg).app L)
  have k22 := fun lim A => c22 (d := d + 5) (lim := lim) (t := t) ((Sl_freeze.2 s).app A) ((Sl_freeze.2 q).app A) hwl (by simp)
  have kE := fun lim T1 T2 => c26 (d := d) (lim := lim) (t := t) (ownW (h := h) (l := wl) [T1, T2, some ⟨cS encW wl, true⟩, some ⟨cS encN [], true⟩] (k := 2) rfl) (ownN (l := []) [T1, T2, some ⟨cS encW wl, true⟩, some ⟨cS encN [], true⟩] (k := 3) rfl) hwl
  have pw := cW_plain wl
  have pu := cU_plain []
  have ei : ix = [] := List.eq_nil_of_length_eq_zero hx0
  subst ei
  refine call_pure fn34 rfl (by simp [ef34]) ?_
  simp at k22 kE
  rcases sx.low with rfl | ⟨bx, ox, mx, tx, rfl, hbx⟩
  · simp [ef34, k56, hg, r]
    rw [wpC_unroll, wpI_step (by simp [E_fuel'])]
    simp [-collect_own1, St.tidy, collect_box, so, qo, rs, r, hbg, k22, Nat.add_assoc]
    rw [wpC_unroll, wpI_step (by simp [E_fuel'])]
    simp [St.tidy, hbg, pw, pu, kE, he, Nat.add_assoc]
  · obtain rfl : mx = 0 := by simpa using sx.len
    simp [ef34, k56, hg, r]
    rw [wpC_unroll, wpI_step (by simp [E_fuel'])]
    simp [-collect_own1, St.tidy, collect_box, so, qo, rs, r, hbg, hbx, k22, Nat.add_assoc]
    rw [wpC_unroll, wpI_step (by simp [E_fuel'])]
    simp [St.tidy, hbg, hbx, pw, pu, kE, he, Nat.add_assoc]
end X
end Go.Abs
/- The law ScaleWith. -/
namespace Go.Abs
namespace X
set_option maxRecDepth 100000
set_option maxHeartbeats 0
def fewG (g : List Int) : Bool := if g.length ≤ 6 then true else if 20 < g.length then decide (g.length ≤ 25) else false
theorem c31 {d lim : Nat} {h : Heap} {v : Value} {g : List Int} (s : SlI' h v g) : E.call (d + 1) lim 31 [v] h = some (.bool (fewG g), h) := by
  have r := s.rules2
  refine call1 fn31 rfl (by simp [ef31]) ?_
  unfold fewG
  by_cases a : g.length ≤ 6
  · have ai : (g.length : Int) ≤ 6 := by omega
    simp [ef31, r, a, ai, Int.not_lt.2 ai]
  have ai : ¬ (g.length : Int) ≤ 6 := by omega
  by_cases b : 20 < g.length
  · have bi : (20 : Int) < g.length := by omega
    by_cases c : g.length ≤ 25
    · have ci : (g.length : Int) ≤ 25 := by omega
      simp [ef31, r, a, ai, Int.not_le.1 ai, b, bi, c, ci]
    · have ci : ¬ (g.length : Int) ≤ 25 := by omega
      simp [ef31, r, a, ai, Int.not_le.1 ai, b, bi, c, ci]
  · have bi : ¬ (20 : Int) < g.length := by omega
    simp [ef31, r, a, ai, Int.not_le.1 ai, b, bi]
theorem fewG_le {g : List Int} (h : fewG g = true) : g.length ≤ 25 := by
  unfold fewG at h
  split at h
  · omega
  · split at h
    · exact of_decide_eq_true h
    · cases h
abbrev qI (l : List Int) : Option Blk := some ⟨cI l, true⟩
theorem c5 {d lim : Nat} {h : Heap} {v w vg vx : Value} {wl : List Wi} {l : List Un} {g ix : List Int} {t : Int} (sp : Pr h) (s : SlW h v wl) (q : SlN h w l) (sg : SlI' h vg g) (sx : SlI' h vx ix) :
    E.call (d + 10) lim 5 [stV t v w, vg, vx] h = some (.bool true, h) := by
  have rs := s.rules2
  have r := q.rules2
  have rx := sx.rules2
  have k19 := fun lim hh => c19 (d := d + 1) (lim := lim) (h := hh)
  have k20 := fun lim A => c20 (d := d + 7) (lim := lim) (t := t) ((Sl_freeze.2 s).app A) ((Sl_freeze.2 q).app A)
  have k31 := fun lim A => c31 (d := d + 8) (lim := lim) ((Sl_freeze.2 sg).app A)
  have spA := fun A => (Sl_freeze.2 sp).app A
  refine call1 fn5 rfl (by simp [ef5]) ?_
  rcases fw : fewB wl l with _ | _
  · simp [ef5, k19, k20, fw]
  rcases fg : fewG g with _ | _
  · simp [ef5, k19, k20, fw, k31, fg]
  by_cases x10 : 10 < ix.length
  · have i10 : (10 : Int) < ix.length := by omega
    simp [ef5, k19, k20, fw, k31, fg, rx, x10, i10, Int.not_le.2 i10, Nat.not_le.2 x10]
  have i10 : ¬ (10 : Int) < ix.length := by omega
  obtain ⟨lw, hnm, l6⟩ := few_ok fw
  have g25 := fewG_le fg
  have k22 := fun lim A => c22 (d := d + 8) (lim := lim) (t := t) ((Sl_freeze.2 s).app A) ((Sl_freeze.2 q).app A) (by omega) (by omega)
  have kg := fun lim A => c17g (d := d + 8) (lim := lim) ((Sl_freeze.2 sg).app A) (by omega)
  have kx := fun lim A => c17g (d := d + 8) (lim := lim) ((Sl_freeze.2 sx).app A) (by omega)
  have k26 := fun lim A => c26 (d := d + 3) (lim := lim) (t := t) ((Sl_freeze.2 s).app A) ((Sl_freeze.2 q).app A) (by omega)
  have A5 : ∀ P : List (Option Blk), P = [qB t v w, qW wl, qN l, qI g, qI ix] → SlW (h.freeze ++ P) (.slice (some ⟨h.length + 1, 0, none⟩) wl.length 4) wl ∧ SlN (h.freeze ++ P) (.slice (some ⟨h.length + 2, 0, none⟩) l.length 10) l ∧ SlI' (h.freeze ++ P) (.slice (some ⟨h.length + 3, 0, none⟩) g.length 1) g ∧ SlI' (h.freeze ++ P) (.slice (some ⟨h.length + 4, 0, none⟩) ix.length 1) ix := by
    rintro _ rfl
    exact ⟨ownW _ (k := 1) rfl, ownN _ (k := 2) rfl, ownI _ (k := 3) rfl rfl, ownI _ (k := 4) rfl rfl⟩
  obtain ⟨b1, b2, b3, b4⟩ := A5 _ rfl
  have gnW : ∀ hh : Heap, SlW hh (.slice none 0 0) [] := fun hh => ⟨rfl, rfl, fun q => absurd rfl q, .inl rfl, fun k hk => by simp at hk⟩
  have gnN : ∀ hh : Heap, SlN hh (.slice none 0 0) [] := fun hh => ⟨rfl, rfl, fun q => absurd rfl q, .inl rfl, fun k hk => by simp at hk⟩
  have k33 := fun lim hh => c33 (d := d + 8) (lim := lim) (t := 0) (gnW hh) (gnN hh) (gnW hh) (gnN hh) (by simp) (by simp)
  by_cases he : (stE t wl l).2 ≠ 0
  · have k32 := fun lim => c32a (d := d) (lim := lim) (spA _) b1 b2 b3 b4 (by omega) hnm he
    simp [ef5, k19, k20, fw, k31, fg, rx, x10, i10, Int.not_lt.1 i10, Nat.not_lt.1 x10, k22, kg, kx, k32, k26, k33, he, Nat.add_assoc]
  have he' : (stE t wl l).2 = 0 := by omega
  by_cases hg : ggE g ≠ 0 ∨ ix.length ≠ l.length
  · have k32 := fun lim => c32b (d := d) (lim := lim) (spA _) b1 b2 b3 b4 (by omega) hnm he' hg
    have k34 := fun lim A => c34a (d := d + 2) (lim := lim) (v := v) (t := t) (wl := wl) ((Sl_freeze.2 q).app A) ((Sl_freeze.2 sg).app A) ((Sl_freeze.2 sx).app A) hg
    simp [ef5, k19, k20, fw, k31, fg, rx, x10, i10, Int.not_lt.1 i10, Nat.not_lt.1 x10, k22, kg, kx, k32, k34, k26, k33, he', Nat.add_assoc]
  have hg0 : ggE g = 0 := by
    by_cases z : ggE g = 0
    · exact z
    · exact absurd (.inl z) hg
  have hx : ix.length = l.length := by
    by_cases z : ix.length = l.length
    · exact z
    · exact absurd (.inr z) hg
  by_cases hx0 : ix.length = 0
  · have el : l = [] := List.eq_nil_of_length_eq_zero (by omega)
    subst el
    have k32 := fun lim => c32z (d := d) (lim := lim) (spA _) b1 b2 b3 b4 (by omega) hnm he' hg0 hx0
    have k34 := fun lim A => c34z (d := d + 2) (lim := lim) ((Sl_freeze.2 s).app A) ((Sl_freeze.2 q).app A) ((Sl_freeze.2 sg).app A) ((Sl_freeze.2 sx).app A) (by omega) he' hg0 hx0
    have kS := fun lim T7 T11 => c33 (d := d + 8) (lim := lim) (t := t)
      (ownW (h := h) (l := wl) [qB t v w, qW wl, qN [], qI g, qI ix, qW wl, qN [], T7, qW wl, qN [], T11] (k := 5) rfl) (ownN (l := []) [qB t v w, qW wl, qN [], qI g, qI ix, qW wl, qN [], T7, qW wl, qN [], T11] (k := 6) rfl)
      (ownW (l := wl) [qB t v w, qW wl, qN [], qI g, qI ix, qW wl, qN [], T7, qW wl, qN [], T11] (k := 8) rfl) (ownN (l := []) [qB t v w, qW wl, qN [], qI g, qI ix, qW wl, qN [], T7, qW wl, qN [], T11] (k := 9) rfl) (by omega) (by simp)
    simp at k22 k32 k34 kS
    simp [ef5, k19, k20, fw, k31, fg, rx, x10, i10, Int.not_lt.1 i10, Nat.not_lt.1 x10, k22, kg, kx, k32, k34, k26, kS, he', Nat.add_assoc]
  · rcases hc : decide (ixL g ix 0 = 0) with _ | _
    · have hc' : ixL g ix 0 ≠ 0 := by simpa using hc
      have k32 := fun lim => c32 (d := d) (lim := lim) (spA _) b1 b2 b3 b4 (by omega) hnm he' hg0 hx hx0 (.inl ⟨hc', rfl, rfl⟩)
      have k34 := fun lim A => c34 (d := d + 2) (lim := lim) (t := t) ((Sl_freeze.2 s).app A) ((Sl_freeze.2 q).app A) ((Sl_freeze.2 sg).app A) ((Sl_freeze.2 sx).app A) (by omega) (by omega) hg0 hx hx0 (.inl ⟨hc', rfl, rfl⟩)
      simp at k32 k34
      simp [ef5, k19, k20, fw, k31, fg, rx, x10, i10, Int.not_lt.1 i10, Nat.not_lt.1 x10, k22, kg, kx, k32, k34, k26, k33, he', Nat.add_assoc]
    · have hc' : ixL g ix 0 = 0 := by simpa using hc
      by_cases e2 : (stE t wl (setU l g ix l.length)).2 ≠ 0
      · have k32 := fun lim => c32 (d := d) (lim := lim) (spA _) b1 b2 b3 b4 (by omega) hnm he' hg0 hx hx0 (.inr (.inl ⟨hc', e2, rfl, rfl⟩))
        have k34 := fun lim A => c34 (d := d + 2) (lim := lim) (t := t) ((Sl_freeze.2 s).app A) ((Sl_freeze.2 q).app A) ((Sl_freeze.2 sg).app A) ((Sl_freeze.2 sx).app A) (by omega) (by omega) hg0 hx hx0 (.inr (.inl ⟨hc', e2, rfl, rfl⟩))
        simp at k32 k34
        simp [ef5, k19, k20, fw, k31, fg, rx, x10, i10, Int.not_lt.1 i10, Nat.not_lt.1 x10, k22, kg, kx, k32, k34, k26, k33, he', Nat.add_assoc]
      · have e2' : (stE t wl (setU l g ix l.length)).2 = 0 := by omega
        have k32 := fun lim => c32 (d := d) (lim := lim) (spA _) b1 b2 b3 b4 (by omega) hnm he' hg0 hx hx0 (.inr (.inr ⟨hc', e2', rfl, rfl⟩))
        have k34 := fun lim A => c34 (d := d + 2) (lim := lim) (t := t) ((Sl_freeze.2 s).app A) ((Sl_freeze.2 q).app A) ((Sl_freeze.2 sg).app A) ((Sl_freeze.2 sx).app A) (by omega) (by omega) hg0 hx hx0 (.inr (.inr ⟨hc', e2', rfl, rfl⟩))
        have ul := setU_len l g ix l.length
        have kS := fun lim T7 T11 => c33 (d := d + 8) (lim := lim) (t := t)
          (ownW (h := h) (l := wl) [qB t v w, qW wl, qN l, qI g, qI ix, qW wl, qN (setU l g ix l.length), T7, qW wl, qN (setU l g ix l.length), T11] (k := 5) rfl) (ownN (l := setU l g ix l.length) [qB t v w, qW wl, qN l, qI g, qI ix, qW wl, qN (setU l g ix l.length), T7, qW wl, qN (setU l g ix l.length), T11] (k := 6) rfl)
          (ownW (l := wl) [qB t v w, qW wl, qN l, qI g, qI ix, qW wl, qN (setU l g ix l.length), T7, qW wl, qN (setU l g ix l.length), T11] (k := 8) rfl) (ownN (l := setU l g ix l.length) [qB t v w, qW wl, qN l, qI g, qI ix, qW wl, qN (setU l g ix l.length), T7, qW wl, qN (setU l g ix l.length), T11] (k := 9) rfl) (by omega) (by omega)
        simp only [ul] at kS
        simp at k32 k34
        simp [ef5, k19, k20, fw, k31, fg, rx, x10, i10, Int.not_lt.1 i10, Nat.not_lt.1 x10, k22, kg, kx, k32, k34, k26, kS, he', Nat.add_assoc]
end X
end Go.Abs
