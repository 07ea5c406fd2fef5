/- Chapter 2: stringings: tensions. -/
import Derived.Test.YtodofkolnmoliaaDoorAbsXUM
set_option linter.unusedSimpArgs false
set_option linter.unusedVariables false
/- Chapter 2: stringings: tensions. -/
namespace Go.Abs
namespace X
set_option maxRecDepth 100000
set_option maxHeartbeats 0
noncomputable def ten (wl : List Wi) (t : Int) (u : Un) : XR := (tenL wl u.sd (fL u t), tenH wl u.sd (fH u t))
noncomputable def frq (t : Int) (u : Un) : XR := (fL u t, fH u t)
noncomputable def mapU (f : Un → XR) (l : List Un) : List XR := l.map f
theorem mapU_len (f : Un → XR) (l : List Un) : (mapU f l).length = l.length := by simp [mapU]
theorem mapU_at {f : Un → XR} {l : List Un} {i : Nat} (h : i < l.length) : atR (mapU f l) i = f (atN l i) := by
  rw [← atR_get (by rw [mapU_len]; exact h), ← atN_get h]; simp [mapU]
theorem mapU_snoc {f : Un → XR} {l : List Un} {i : Nat} (h : i < l.length) : cS encR ((mapU f l).take i) ++ [i64 (f (atN l i)).1, i64 (f (atN l i)).2] = cS encR ((mapU f l).take (i + 1)) := by
  have hl : i < (mapU f l).length := by rw [mapU_len]; exact h
  rw [List.take_succ_eq_append_getElem hl, atR_get hl, mapU_at h]
  simp [cS, encR]
theorem mapU_tk {f : Un → XR} {l : List Un} {i : Nat} (h : i ≤ l.length) : (cS encR ((mapU f l).take i)).length = i * 2 := by
  rw [cR_len, List.length_take, mapU_len]; omega
theorem mapU_all {f : Un → XR} {l : List Un} : (mapU f l).take l.length = mapU f l := by rw [List.take_of_length_le]; rw [mapU_len]; exact Nat.le_refl _
/-- A slice of ranges that a function makes by appending. -/
abbrev newV (n : Nat) (l : List XR) : Value := if l.length = 0 then .slice none 0 0 else .slice (some ⟨n, 0, none⟩) l.length 2
abbrev newK (l : List XR) : List (Option Blk) := if l.length = 0 then [] else [some ⟨cS encR l, true⟩]
theorem c23a {d lim : Nat} {h : Heap} {v w : Value} {wl : List Wi} {l : List Un} {t : Int} (sp : Pr h) (s : SlW h v wl) (q : SlN h w l) (hwl : wl.length ≤ 1000) (hnm : Nms wl) (he : (stE t wl l).2 ≠ 0) :
    E.call (d + 9) lim 23 [stV t v w] h = some (.tuple #[.slice none 0 0, i64 (stE t wl l).2], h) := by
  have k21 := fun lim L => c21 (d := d) (lim := lim) (t := t) ((Sl_freeze.2 sp).app L) ((Sl_freeze.2 s).app L) ((Sl_freeze.2 q).app L) hwl hnm
  refine call1 fn23 rfl (by simp [ef23]) ?_
  simp [ef23, k21, he]
theorem c23 {d lim : Nat} {h : Heap} {v w : Value} {wl : List Wi} {l : List Un} {t : Int} (sp : Pr h) (s : SlW h v wl) (q : SlN h w l) (hwl : wl.length ≤ 1000) (hnm : Nms wl) (he : (stE t wl l).2 = 0) :
    E.call (d + 9) lim 23 [stV t v w] h = some (.tuple #[newV h.length (mapU (ten wl t) l), i64 0], h ++ newK (mapU (ten wl t) l)) := by
  have O := StOk.of he
  have rs := s.rules2
  have r := q.rules2
  have so := s.own
  have qo := q.own
  have l90 := O.few
  have k21 := fun lim L => c21 (d := d) (lim := lim) (t := t) ((Sl_freeze.2 sp).app L) ((Sl_freeze.2 s).app L) ((Sl_freeze.2 q).app L) hwl hnm
  have k72 := fun lim L i hi => c72 (d := d + 1) (lim := lim) (i := i) ((Sl_freeze.2 sp).app L) ((Sl_freeze.2 s).app L) ((Sl_freeze.2 q).app L) O hi
  refine call_pure fn23 rfl (by simp [ef23]) ?_
  unfold newV newK
  rw [mapU_len]
  simp [ef23, k21, he, r]
  refine wpC_loop (fun y st => ∃ i, y = l.length - i ∧ i ≤ l.length ∧ st = ⟨[(1, .pointer (some ⟨h.length, 0, none⟩)), (6, if i = 0 then .slice none 0 0 else .slice (some ⟨h.length + 1, 0, none⟩) i 2), (18, i64 (l.length : Int)), (19, i64 (i : Nat))],
    h.freeze ++ (some ⟨[i64 t, v, w], true⟩ :: if i = 0 then [] else [some ⟨cS encR ((mapU (ten wl t) l).take i), true⟩])⟩) l.length (by show l.length < 2 ^ 64; omega) ?_ ?_
  · simp [St.tidy, collect_box, so, qo, rs, r]
    exact ⟨0, by omega, by omega, ⟨rfl, rfl⟩, rfl⟩
  · rintro y hy _ ⟨i, rfl, hi, rfl⟩
    by_cases hlt : i < l.length
    · have w1' := w1 (i := i) (by omega)
      simp only [W] at w1'
      have hlti : (i : Int) < l.length := by omega
      have km := fun lim L => k72 lim L i hlt
      have sn := mapU_snoc (f := ten wl t) hlt
      have len := mapU_tk (f := ten wl t) hi
      have pl := cR_plain ((mapU (ten wl t) l).take i)
      rcases Nat.eq_zero_or_pos i with z | z
      · subst z
        rw [show cS encR ((mapU (ten wl t) l).take 0) = [] from rfl, List.nil_append] at sn
        have l0 : 0 < l.length := by omega
        simp only [Int.ofNat_zero] at km
        simp [l0, hlt, hlti, km, ten, E.append, E.added, Value.oneCell', maxLen, zeros, St.tidy, collect_box, so, qo, rs, r]
        exact ⟨l.length - 1, by omega, 1, by omega, by omega, ⟨by rw [if_neg (by omega)], by omega⟩, by rw [if_neg (by omega)]; exact congrArg (fun c => [some (Blk.mk c true)]) sn⟩
      · have zi : i ≠ 0 := by omega
        simp [hlt, hlti, zi, km, len, ten, E.append, E.added, Value.oneCell', maxLen, zeros, St.tidy, collect_box, so, qo, rs, r, w1', pl, Nat.add_assoc]
        exact ⟨⟨by omega, by omega⟩, l.length - (i + 1), by omega, i + 1, by omega, by omega, ⟨by rw [if_neg (by omega)], by omega⟩, by rw [if_neg (by omega)]; exact congrArg (fun c => [some (Blk.mk c true)]) sn⟩
    · obtain rfl : i = l.length := by omega
      have pl := cR_plain (mapU (ten wl t) l)
      rw [mapU_all]
      rcases Nat.eq_zero_or_pos l.length with z | z
      · have el : l = [] := List.eq_nil_of_length_eq_zero z
        subst el
        simp
      · have zi : l.length ≠ 0 := by omega
        have ne : l ≠ [] := fun e => zi (by rw [e]; rfl)
        simp [zi, ne, pl]
end X
end Go.Abs
/- Chapter 2: stringings: the sum, the frequency. -/
namespace Go.Abs
namespace X
set_option maxRecDepth 100000
set_option maxHeartbeats 0
/-- Sums over the first unisons. -/
def totF (f : Un → Int) (l : List Un) : Nat → Int
  | 0 => 0
  | i + 1 => IntKind.wrap .i64 (totF f l i + IntKind.wrap .i64 ((atN l i).count * f (atN l i)))
noncomputable def totL (wl : List Wi) (t : Int) (l : List Un) (i : Nat) : Int := totF (fun u => (ten wl t u).1) l i
noncomputable def totH (wl : List Wi) (t : Int) (l : List Un) (i : Nat) : Int := totF (fun u => (ten wl t u).2) l i
theorem totL_s (wl : List Wi) (t : Int) (l : List Un) (i : Nat) : totL wl t l (i + 1) = IntKind.wrap .i64 (totL wl t l i + IntKind.wrap .i64 ((atN l i).count * (ten wl t (atN l i)).1)) := rfl
theorem totH_s (wl : List Wi) (t : Int) (l : List Un) (i : Nat) : totH wl t l (i + 1) = IntKind.wrap .i64 (totH wl t l i + IntKind.wrap .i64 ((atN l i).count * (ten wl t (atN l i)).2)) := rfl
theorem c24a {d lim : Nat} {h : Heap} {v w : Value} {wl : List Wi} {l : List Un} {t : Int} (sp : Pr h) (s : SlW h v wl) (q : SlN h w l) (hwl : wl.length ≤ 1000) (hnm : Nms wl) (he : (stE t wl l).2 ≠ 0) :
    E.call (d + 10) lim 24 [stV t v w] h = some (.tuple #[rgV 0 0, i64 (stE t wl l).2], h) := by
  have rs := s.rules2
  have r := q.rules2
  have so := s.own
  have qo := q.own
  have k23 := fun lim L => c23a (d := d) (lim := lim) (t := t) ((Sl_freeze.2 sp).app L) ((Sl_freeze.2 s).app L) ((Sl_freeze.2 q).app L) hwl hnm he
  refine call1 fn24 rfl (by simp [ef24]) ?_
  simp [ef24, k23]
  rw [wpC_unroll, wpI_step (by simp [E_fuel'])]
  simp [St.tidy, collect_box, so, qo, rs, r]
theorem c24 {d lim : Nat} {h : Heap} {v w : Value} {wl : List Wi} {l : List Un} {t : Int} (sp : Pr h) (s : SlW h v wl) (q : SlN h w l) (hwl : wl.length ≤ 1000) (hnm : Nms wl) (he : (stE t wl l).2 = 0) :
    E.call (d + 10) lim 24 [stV t v w] h = some (.tuple #[rgV (totL wl t l l.length) (totH wl t l l.length), i64 0], h) := by
  have O := StOk.of he
  have rs := s.rules2
  have r := q.rules2
  have so := s.own
  have qo := q.own
  have l90 := O.few
  have k23 := fun lim L => c23 (d := d) (lim := lim) (t := t) ((Sl_freeze.2 sp).app L) ((Sl_freeze.2 s).app L) ((Sl_freeze.2 q).app L) hwl hnm he
  unfold newV newK at k23
  rw [mapU_len] at k23
  refine call1 fn24 rfl (by simp [ef24]) ?_
  rcases Nat.eq_zero_or_pos l.length with z | z
  · have el : l = [] := List.eq_nil_of_length_eq_zero z
    subst el
    simp at k23
    simp [ef24, k23]
    rw [wpC_unroll, wpI_step (by simp [E_fuel'])]
    simp [St.tidy, collect_box, so, qo, rs, r]
    exact ⟨rfl, rfl⟩
  · have zi : l.length ≠ 0 := by omega
    have ne : l ≠ [] := fun e => zi (by rw [e]; rfl)
    simp only [if_neg zi] at k23
    have pl := cR_plain (mapU (ten wl t) l)
    have cl := cR_len (mapU (ten wl t) l)
    rw [mapU_len] at cl
    simp [ef24, k23]
    refine wpC_loop (fun y st => ∃ i, y = l.length - i ∧ i ≤ l.length ∧ st = ⟨[(1, .pointer (some ⟨h.length, 0, none⟩)), (2, .pointer (some ⟨h.length + 1, 0, none⟩)), (5, i64 0), (6, .pointer (some ⟨h.length + 2, 0, none⟩)), (14, .slice (some ⟨h.length + 3, 0, none⟩) l.length 2), (15, i64 (l.length : Int)), (16, i64 (i : Nat))],
      h.freeze ++ [some ⟨[i64 t, v, w], true⟩, some ⟨[i64 0, i64 0], true⟩, some ⟨[i64 (totL wl t l i), i64 (totH wl t l i)], true⟩, some ⟨cS encR (mapU (ten wl t) l), true⟩]⟩) l.length (by show l.length < 2 ^ 64; omega) ?_ ?_
    · simp [St.tidy, collect_box, so, qo, rs, r, pl]
      exact ⟨0, by omega, by omega, rfl, ⟨rfl, rfl⟩⟩
    · rintro y hy _ ⟨i, rfl, hi, rfl⟩
      by_cases hlt : i < l.length
      · have w1' := w1 (i := i) (by omega)
        simp only [W] at w1'
        have hlti : (i : Int) < l.length := by omega
        have p := cR_part (l := mapU (ten wl t) l) (i := i) (by rw [mapU_len]; exact hlt)
        rw [mapU_at hlt] at p
        have k2 : i * 2 + 2 ≤ l.length * 2 := by omega
        have k4 : i * 10 + 4 < l.length * 10 := by omega
        have cc := cN_c (l := l) (i := i) hlt
        have e1 := totL_s wl t l i
        have e2 := totH_s wl t l i
        simp [-collect_own1, hlt, hlti, p, k2, k4, cc, cl, pl, w1', St.tidy, so, qo, rs, r, Nat.add_assoc]
        rw [collect_box (by simp [rs, r]) (by simp [rs, r, pl]) (by simp) (by simp)]
        simp [hlt, rs, r, pl, so, qo]
        exact ⟨l.length - (i + 1), by omega, i + 1, by omega, by omega, by omega, e1.symm, e2.symm⟩
      · obtain rfl : i = l.length := by omega
        simp [cl, pl]
noncomputable def atE (wl : List Wi) (t : Int) (l : List Un) (j : Int) : Int := if (stE t wl l).2 ≠ 0 then (stE t wl l).2 else if within j 0 ((l.length : Int) - 1) = false then 6 else 0
theorem atE_lt {wl : List Wi} {t : Int} {l : List Un} {j : Int} (h : atE wl t l j = 0) : (stE t wl l).2 = 0 ∧ 0 ≤ j ∧ j.toNat < l.length := by
  unfold atE at h
  split at h
  · rename_i q; exact absurd h q
  · rename_i q
    split at h
    · cases h
    · rename_i q2
      simp only [Bool.not_eq_false] at q2
      have : 0 ≤ j ∧ j ≤ (l.length : Int) - 1 := by simpa [within] using q2
      exact ⟨by omega, by omega, by omega⟩
theorem wlen {n : Nat} (h : n ≤ 1000) : IntKind.wrap .i64 ((n : Int) - 1) = (n : Int) - 1 := wrap_eq (by omega) (by omega)
theorem c73 {d lim : Nat} {h : Heap} {v w : Value} {wl : List Wi} {l : List Un} {t j : Int} (sp : Pr h) (s : SlW h v wl) (q : SlN h w l) (hwl : wl.length ≤ 1000) (hnm : Nms wl) :
    E.call (d + 9) lim 73 [stV t v w, i64 j] h = some (i64 (atE wl t l j), h) := by
  have r := q.rules2
  have k21 := fun lim L => c21 (d := d) (lim := lim) (t := t) ((Sl_freeze.2 sp).app L) ((Sl_freeze.2 s).app L) ((Sl_freeze.2 q).app L) hwl hnm
  have k69 := fun lim hh a b c => c69 (d := d + 7) (lim := lim) (h := hh) (a := a) (b := b) (c := c)
  refine call1 fn73 rfl (by simp [ef73]) ?_
  unfold atE
  by_cases he : (stE t wl l).2 ≠ 0
  · simp [ef73, k21, he]
  · have he' : (stE t wl l).2 = 0 := by omega
    have wn := wlen (n := l.length) (by have := (StOk.of he').few; omega)
    rcases e : within j 0 ((l.length : Int) - 1) with _ | _
    · simp [ef73, k21, he', r, wn, k69, e]
    · simp [ef73, k21, he', r, wn, k69, e]
noncomputable def frV (wl : List Wi) (t : Int) (l : List Un) (j : Int) : Value := if atE wl t l j ≠ 0 then rgV 0 0 else rgV (frq t (atN l j.toNat)).1 (frq t (atN l j.toNat)).2
theorem c25 {d lim : Nat} {h : Heap} {v w : Value} {wl : List Wi} {l : List Un} {t j : Int} (sp : Pr h) (s : SlW h v wl) (q : SlN h w l) (hwl : wl.length ≤ 1000) (hnm : Nms wl) :
    E.call (d + 10) lim 25 [stV t v w, i64 j] h = some (.tuple #[frV wl t l j, i64 (atE wl t l j)], h) := by
  have k73 := fun lim L => c73 (d := d) (lim := lim) (t := t) (j := j) ((Sl_freeze.2 sp).app L) ((Sl_freeze.2 s).app L) ((Sl_freeze.2 q).app L) hwl hnm
  refine call1 fn25 rfl (by simp [ef25]) ?_
  unfold frV
  by_cases he : atE wl t l j ≠ 0
  · simp [ef25, k73, he]
  · have he' : atE wl t l j = 0 := by omega
    obtain ⟨h1, h2, h3⟩ := atE_lt he'
    have k74 := fun lim L => c74 (d := d + 3) (lim := lim) (v := v) (i := j.toNat) ((Sl_freeze.2 sp).app L) ((Sl_freeze.2 q).app L) (StOk.of h1) h3
    rw [show ((j.toNat : Nat) : Int) = j by omega] at k74
    simp [ef25, k73, he', k74, frq]
end X
end Go.Abs
/- Chapter 2: stringings: the reference. -/
namespace Go.Abs
namespace X
set_option maxRecDepth 100000
set_option maxHeartbeats 0
abbrev knV (t : Int) (v w f : Value) : Value := .agg #[i64 t, v, w, f]
theorem c27 {d lim : Nat} {h : Heap} {v w : Value} {wl : List Wi} {l : List Un} {t : Int} (s : SlW h v wl) (q : SlN h w l) (he : (stE t wl l).2 = 0) :
    E.call (d + 5) lim 27 [stV t v w] h = some (knV t v w (newV h.length (mapU (frq t) l)), h ++ newK (mapU (frq t) l)) := by
  have O := StOk.of he
  have l90 := O.few
  unfold newV newK
  rw [mapU_len]
  refine call_pure fn27 rfl (by simp [ef27]) ?_
  rcases Nat.eq_zero_or_pos l.length with z | z
  · have rs := s.rules2
    have r := q.rules2
    have so := s.own
    have qo := q.own
    have el : l = [] := List.eq_nil_of_length_eq_zero z
    subst el
    rcases s.low with rfl | ⟨bv, ov, mv, tv, rfl, hbv⟩ <;> rcases q.low with rfl | ⟨bw, ow, mw, tw, rfl, hbw⟩
    · simp [ef27]
      rw [wpC_unroll, wpI_step (by simp [E_fuel'])]
      simp [St.tidy]
    · obtain rfl : mw = 0 := by simpa using q.len
      simp [ef27]
      rw [wpC_unroll, wpI_step (by simp [E_fuel'])]
      simp [St.tidy, hbw]
    · simp [ef27]
      rw [wpC_unroll, wpI_step (by simp [E_fuel'])]
      simp [St.tidy, hbv]
    · obtain rfl : mw = 0 := by simpa using q.len
      simp [ef27]
      rw [wpC_unroll, wpI_step (by simp [E_fuel'])]
      simp [St.tidy, hbv, hbw]
  · have zi : l.length ≠ 0 := by omega
    have ne : l ≠ [] := fun e => zi (by rw [e]; rfl)
    have wn : wl.length ≠ 0 := by
      have := (O.u 0 z).sd.wir
      intro e
      have el : wl = [] := List.eq_nil_of_length_eq_zero e
      subst el
      simp [hasW, idxW] at this
    obtain ⟨bv, ov, rfl⟩ : ∃ bv ov, v = .slice (some ⟨bv, ov, none⟩) wl.length 4 := ⟨_, _, s.addr wn⟩
    obtain ⟨bw, ow, rfl⟩ : ∃ bw ow, w = .slice (some ⟨bw, ow, none⟩) l.length 10 := ⟨_, _, q.addr zi⟩
    have hbv := s.lt wn
    have hbw := q.lt zi
    have rs := s.rules2
    have r := q.rules2
    simp only [slB_some, slO_some] at rs r hbv hbw
    simp [ef27]
    refine wpC_loop (fun y st => ∃ i, y = l.length - i ∧ i ≤ l.length ∧ st = ⟨[(1, .pointer (some ⟨h.length, 0, none⟩)), (2, .pointer (some ⟨h.length + 1, 0, none⟩)), (3, .pointer (some ⟨h.length + 2, 0, none⟩)), (4, i64 (i : Nat))],
      h.freeze ++ (some ⟨[i64 t, .slice (some ⟨bv, ov, none⟩) wl.length 4, .slice (some ⟨bw, ow, none⟩) l.length 10], true⟩ :: some ⟨[i64 0, .slice none 0 0, .slice none 0 0, .slice none 0 0], true⟩ ::
        some ⟨[i64 t, .slice (some ⟨bv, ov, none⟩) wl.length 4, .slice (some ⟨bw, ow, none⟩) l.length 10, if i = 0 then .slice none 0 0 else .slice (some ⟨h.length + 3, 0, none⟩) i 2], true⟩ :: if i = 0 then [] else [some ⟨cS encR ((mapU (frq t) l).take i), true⟩])⟩) l.length (by show l.length < 2 ^ 64; omega) ?_ ?_
    · simp [St.tidy, hbv, hbw]
      exact ⟨0, by omega, by omega, rfl, rfl⟩
    · rintro y hy _ ⟨i, rfl, hi, rfl⟩
      by_cases hlt : i < l.length
      · have w1' := w1 (i := i) (by omega)
        simp only [W] at w1'
        have U := O.u i hlt
        have hlti : (i : Int) < l.length := by omega
        have p4 := cN_p4 (l := l) (i := i) hlt
        have k4 : i * 10 + 4 ≤ l.length * 10 := by omega
        have sn := mapU_snoc (f := frq t) hlt
        have len := mapU_tk (f := frq t) hi
        have pl := cR_plain ((mapU (frq t) l).take i)
        have k77 := fun lim hh => enc_ref (d := d) (lim := lim) (h := hh) U.p O.fork
        rw [U.e] at k77
        generalize hu : atN l i = u at *
        rcases Nat.eq_zero_or_pos i with zz | zz
        · subst zz
          rw [show cS encR ((mapU (frq t) l).take 0) = [] from rfl, List.nil_append] at sn
          have l0 : 0 < l.length := by omega
          have pp := fun L => ((Sl_freeze.2 q).app L).part (k := 0) (m := 4) (by omega) (by omega)
          simp only [Nat.zero_mul, List.drop_zero] at p4
          simp only [slB_some, slO_some, Nat.add_zero, List.drop_zero, p4] at pp
          simp [l0, hlt, Nat.not_le.2 l0, hlti, r, pp, p4, k4, k77, frq, E.append, E.added, Value.oneCell', maxLen, zeros, St.tidy, hbv, hbw]
          exact ⟨l.length - 1, by omega, 1, by omega, by omega, by omega, by rw [if_neg (by omega)], by rw [if_neg (by omega)]; exact congrArg (fun c => [some (Blk.mk c true)]) sn⟩
        · have zi : i ≠ 0 := by omega
          simp [hlt, Nat.not_le.2 hlt, hlti, zi, r, p4, k4, k77, len, frq, E.append, E.added, Value.oneCell', maxLen, zeros, St.tidy, hbv, hbw, pl, w1', Nat.add_assoc]
          exact ⟨⟨by omega, by omega⟩, l.length - (i + 1), by omega, i + 1, by omega, by omega, by omega, by rw [if_neg (by omega)], by rw [if_neg (by omega)]; exact congrArg (fun c => [some (Blk.mk c true)]) sn⟩
      · obtain rfl : i = l.length := by omega
        have pl := cR_plain (mapU (frq t) l)
        rw [mapU_all]
        simp [zi, ne, r, pl, hbv, hbw]
theorem c78 {d lim : Nat} {h : Heap} {v w f : Value} {wl : List Wi} {l : List Un} {t : Int} {i : Nat} (s : SlW h v wl) (g : SlR h f (mapU (frq t) l)) (O : StOk t wl l) (hi : i < l.length) :
    E.call (d + 6) lim 78 [knV t v w f, i64 (i : Int), sdV (atN l i).sd] h = some (rgV (ten wl t (atN l i)).1 (ten wl t (atN l i)).2, h) := by
  have rs := s.rules2
  have gl : i < (mapU (frq t) l).length := by rw [mapU_len]; exact hi
  have rg := g.rules2
  have p := cR_part gl
  rw [mapU_at hi] at p
  rw [mapU_len] at rg
  have U := O.u i hi
  have k2 : i * 2 + 2 ≤ l.length * 2 := by omega
  have hii : (i : Int) < l.length := by omega
  have k144 := fun lim L => c144 (d := d) (lim := lim) ((Sl_freeze.2 s).app L) U.sd U.f
  simp only [frq] at p
  generalize hu : atN l i = u at *
  refine call1 fn78 rfl (by simp [ef78]) ?_
  rcases Nat.eq_zero_or_pos i with z | z
  · subst z
    have pp := fun L => ((Sl_freeze.2 g).app L).part (k := 0) (m := 2) (by rw [mapU_len]; omega) (by omega)
    simp only [Nat.zero_mul, List.drop_zero] at p
    simp only [Nat.add_zero, List.drop_zero, p] at pp
    have l0 : 0 < l.length := by omega
    simp [ef78, rg, l0, hii, k2, pp, p, k144, ten]
  · simp [ef78, rg, hii, k2, p, k144, ten]
theorem c29 {d lim : Nat} {h : Heap} {v w f : Value} {wl : List Wi} {l : List Un} {t : Int} (s : SlW h v wl) (q : SlN h w l) (g : SlR h f (mapU (frq t) l)) (O : StOk t wl l) :
    E.call (d + 7) lim 29 [knV t v w f] h = some (newV h.length (mapU (ten wl t) l), h ++ newK (mapU (ten wl t) l)) := by
  have rs := s.rules2
  have r := q.rules2
  have rg := g.rules2
  have so := s.own
  have qo := q.own
  have go := g.own
  have l90 := O.few
  have k78 := fun lim L i hi => c78 (d := d) (lim := lim) (w := w) (i := i) (Sl_freeze.2 ((Sl_freeze.2 s).app L)) (Sl_freeze.2 ((Sl_freeze.2 g).app L)) O hi
  have k78' := fun lim L i hi => c78 (d := d) (lim := lim) (w := w) (i := i) (((Sl_freeze.2 s).app L)) (((Sl_freeze.2 g).app L)) O hi
  refine call_pure fn29 rfl (by simp [ef29]) ?_
  unfold newV newK
  rw [mapU_len]
  simp [ef29, r]
  refine wpC_loop (fun y st => ∃ i, y = l.length - i ∧ i ≤ l.length ∧ st = ⟨[(1, .pointer (some ⟨h.length, 0, none⟩)), (3, if i = 0 then .slice none 0 0 else .slice (some ⟨h.length + 1, 0, none⟩) i 2), (4, i64 (i : Nat))],
    h.freeze ++ (some ⟨[i64 t, v, w, f], true⟩ :: if i = 0 then [] else [some ⟨cS encR ((mapU (ten wl t) l).take i), true⟩])⟩) l.length (by show l.length < 2 ^ 64; omega) ?_ ?_
  · simp [St.tidy, collect_box, so, qo, go, rs, r, rg]
    exact ⟨0, by omega, by omega, ⟨rfl, rfl⟩, rfl⟩
  · rintro y hy _ ⟨i, rfl, hi, rfl⟩
    by_cases hlt : i < l.length
    · have w1' := w1 (i := i) (by omega)
      simp only [W] at w1'
      have hlti : (i : Int) < l.length := by omega
      have km := fun lim L => k78 lim L i hlt
      have km' := fun lim L => k78' lim L i hlt
      have p5 := cN_s5 (l := l) (i := i) hlt
      have k5 : i * 10 + 5 + 5 ≤ l.length * 10 := by omega
      have sn := mapU_snoc (f := ten wl t) hlt
      have len := mapU_tk (f := ten wl t) hi
      have pl := cR_plain ((mapU (ten wl t) l).take i)
      simp only [sdV] at km km'
      rcases Nat.eq_zero_or_pos i with z | z
      · subst z
        rw [show cS encR ((mapU (ten wl t) l).take 0) = [] from rfl, List.nil_append] at sn
        have l0 : 0 < l.length := by omega
        simp only [Int.ofNat_zero] at km km'
        have pp := fun L => ((Sl_freeze.2 q).app L).part (k := 5) (m := 5) (by omega) (by omega)
        simp only [Nat.zero_mul, Nat.zero_add, List.drop_zero] at p5
        simp only [p5] at pp
        simp [-collect_own1, Nat.add_assoc, l0, hlt, Nat.not_le.2 l0, hlti, km, km', pp, p5, k5, E.append, E.added, Value.oneCell', maxLen, zeros, St.tidy, collect_box, so, qo, go, rs, r, rg]
        exact ⟨l.length - 1, by omega, 1, by omega, by omega, ⟨by rw [if_neg (by omega)], by omega⟩, by rw [if_neg (by omega)]; exact congrArg (fun c => [some (Blk.mk c true)]) sn⟩
      · have zi : i ≠ 0 := by omega
        simp [-collect_own1, hlt, hlti, Nat.not_le.2 hlt, zi, km, km', p5, k5, len, E.append, E.added, Value.oneCell', maxLen, zeros, St.tidy, collect_box, so, qo, go, rs, r, rg, w1', pl, Nat.add_assoc]
        refine ⟨⟨by omega, by omega⟩, ?_⟩
        exact ⟨l.length - (i + 1), by omega, i + 1, by omega, by omega, ⟨by rw [if_neg (by omega)], by omega⟩, by rw [if_neg (by omega)]; exact congrArg (fun c => [some (Blk.mk c true)]) sn⟩
    · obtain rfl : i = l.length := by omega
      have pl := cR_plain (mapU (ten wl t) l)
      rw [mapU_all]
      rcases Nat.eq_zero_or_pos l.length with z | z
      · have el : l = [] := List.eq_nil_of_length_eq_zero z
        subst el
        simp [r]
      · have zi : l.length ≠ 0 := by omega
        have ne : l ≠ [] := fun e => zi (by rw [e]; rfl)
        simp [zi, ne, pl, r]
end X
end Go.Abs
/- Chapter 2: stringings: the reference's sum; ranges compared. -/
namespace Go.Abs
namespace X
set_option maxRecDepth 100000
set_option maxHeartbeats 0
theorem c30 {d lim : Nat} {h : Heap} {v w f : Value} {wl : List Wi} {l : List Un} {t : Int} (s : SlW h v wl) (q : SlN h w l) (g : SlR h f (mapU (frq t) l)) (O : StOk t wl l) :
    E.call (d + 8) lim 30 [knV t v w f] h = some (rgV (totL wl t l l.length) (totH wl t l l.length), h) := by
  have rs := s.rules2
  have r := q.rules2
  have rg := g.rules2
  have so := s.own
  have qo := q.own
  have go := g.own
  have l90 := O.few
  have k29 := fun lim L => c29 (d := d) (lim := lim) ((Sl_freeze.2 s).app L) ((Sl_freeze.2 q).app L) ((Sl_freeze.2 g).app L) O
  unfold newV newK at k29
  rw [mapU_len] at k29
  refine call1 fn30 rfl (by simp [ef30]) ?_
  rcases Nat.eq_zero_or_pos l.length with z | z
  · have el : l = [] := List.eq_nil_of_length_eq_zero z
    subst el
    simp at k29
    simp [ef30, k29]
    rw [wpC_unroll, wpI_step (by simp [E_fuel'])]
    simp [-collect_own1, St.tidy, collect_box, so, qo, go, rs, r, rg]
    exact ⟨rfl, rfl⟩
  · have zi : l.length ≠ 0 := by omega
    have ne : l ≠ [] := fun e => zi (by rw [e]; rfl)
    simp only [if_neg zi] at k29
    have pl := cR_plain (mapU (ten wl t) l)
    have cl := cR_len (mapU (ten wl t) l)
    rw [mapU_len] at cl
    simp [ef30, k29]
    refine wpC_loop (fun y st => ∃ i, y = l.length - i ∧ i ≤ l.length ∧ st = ⟨[(1, .pointer (some ⟨h.length, 0, none⟩)), (2, .pointer (some ⟨h.length + 1, 0, none⟩)), (3, .slice (some ⟨h.length + 2, 0, none⟩) l.length 2), (4, .pointer (some ⟨h.length + 3, 0, none⟩)), (5, i64 (i : Nat))],
      h.freeze ++ [some ⟨[i64 t, v, w, f], true⟩, some ⟨[i64 0, i64 0], true⟩, some ⟨cS encR (mapU (ten wl t) l), true⟩, some ⟨[i64 (totL wl t l i), i64 (totH wl t l i)], true⟩]⟩) l.length (by show l.length < 2 ^ 64; omega) ?_ ?_
    · simp [-collect_own1, St.tidy, collect_box, so, qo, go, rs, r, rg, pl]
      exact ⟨0, by omega, by omega, rfl, ⟨rfl, rfl⟩⟩
    · rintro y hy _ ⟨i, rfl, hi, rfl⟩
      by_cases hlt : i < l.length
      · have w1' := w1 (i := i) (by omega)
        simp only [W] at w1'
        have hlti : (i : Int) < l.length := by omega
        have k0 : i * 2 < l.length * 2 := by omega
        have k1 : i * 2 + 1 < l.length * 2 := by omega
        have k4 : i * 10 + 4 < l.length * 10 := by omega
        have cc := cN_c (l := l) (i := i) hlt
        have hm : i < (mapU (ten wl t) l).length := by rw [mapU_len]; exact hlt
        have a0 := cS_get (f := encR) (es := 2) (fun _ => rfl) (mapU (ten wl t) l) i 0 hm (by omega)
        have a1 := cS_get (f := encR) (es := 2) (fun _ => rfl) (mapU (ten wl t) l) i 1 hm (by omega)
        rw [atR_get hm, mapU_at hlt] at a0 a1
        simp only [encR, Nat.add_zero, List.getElem?_cons_zero, List.getElem?_cons_succ] at a0 a1
        have v0 : ∀ hh, (cS encR (mapU (ten wl t) l))[i * 2]'hh = .int .i64 (ten wl t (atN l i)).1 := fun hh => by have := List.getElem?_eq_getElem hh; rw [a0] at this; exact (Option.some.inj this).symm
        have v1 : ∀ hh, (cS encR (mapU (ten wl t) l))[i * 2 + 1]'hh = .int .i64 (ten wl t (atN l i)).2 := fun hh => by have := List.getElem?_eq_getElem hh; rw [a1] at this; exact (Option.some.inj this).symm
        have e1 := totL_s wl t l i
        have e2 := totH_s wl t l i
        simp [-collect_own1, collect_box, hlt, hlti, Nat.not_le.2 hlt, k0, k1, k4, a0, a1, v0, v1, cc, cl, pl, w1', St.tidy, so, qo, go, rs, r, rg, Nat.add_assoc]
        exact ⟨l.length - (i + 1), by omega, i + 1, by omega, by omega, by omega, e1.symm, e2.symm⟩
      · obtain rfl : i = l.length := by omega
        simp [cl, pl]
theorem c28 {d lim : Nat} {h : Heap} {v w : Value} {l : List XR} (s : SlR h v l) (q : SlR h w l) (hl : l.length ≤ 1000) : E.call (d + 1) lim 28 [v, w] h = some (.bool true, h) := by
  have rs := s.rules2
  have r := q.rules2
  have so := s.own
  have qo := q.own
  refine call1 fn28 rfl (by simp [ef28]) ?_
  simp [ef28, rs, r]
  refine wpC_loop (fun y st => ∃ i, y = l.length - i ∧ i ≤ l.length ∧ st = ⟨[(0, v), (1, w), (5, i64 (i : Nat))], h.freeze⟩) l.length (by show l.length < 2 ^ 64; omega) ?_ ?_
  · simp [St.tidy, so, qo, rs, r]
    exact ⟨0, by omega, by omega, rfl⟩
  · rintro y hy _ ⟨i, rfl, hi, rfl⟩
    by_cases hlt : i < l.length
    · have w1' := w1 (i := i) (by omega)
      simp only [W] at w1'
      have hlti : (i : Int) < l.length := by omega
      have p := cR_part hlt
      have k2 : i * 2 + 2 ≤ l.length * 2 := by omega
      rcases Nat.eq_zero_or_pos i with z | z
      · subst z
        have pv := fun L => ((Sl_freeze.2 s).app L).part (k := 0) (m := 2) (by omega) (by omega)
        have pw := fun L => ((Sl_freeze.2 q).app L).part (k := 0) (m := 2) (by omega) (by omega)
        have pv' := (Sl_freeze.2 s).part (k := 0) (m := 2) (by omega) (by omega)
        have pw' := (Sl_freeze.2 q).part (k := 0) (m := 2) (by omega) (by omega)
        simp only [Nat.zero_mul, List.drop_zero] at p
        simp only [Nat.add_zero, List.drop_zero, p] at pv pw pv' pw'
        have l0 : 0 < l.length := by omega
        simp [l0, hlt, Nat.not_le.2 l0, hlti, pv, pw, pv', pw', p, St.tidy, so, qo, rs, r]
        exact ⟨l.length - 1, by omega, 1, by omega, by omega, rfl⟩
      · simp [hlt, hlti, Nat.not_le.2 hlt, p, k2, w1', St.tidy, so, qo, rs, r]
        exact ⟨l.length - (i + 1), by omega, i + 1, by omega, by omega, by omega⟩
    · obtain rfl : i = l.length := by omega
      simp [rs]
end X
end Go.Abs
/- The law ScaleStringings. -/
namespace Go.Abs
namespace X
set_option maxRecDepth 100000
set_option maxHeartbeats 0
theorem ownW {h : Heap} {l : List Wi} (A : List (Option Blk)) {k : Nat} (hk : A[k]? = some (some ⟨cS encW l, true⟩)) : SlW (h.freeze ++ A) (.slice (some ⟨h.length + k, 0, none⟩) l.length 4) l :=
  Sl_own (f := encW) (es := 4) (fun _ => rfl) (by rw [hget_base (by simp), hk]; rfl) rfl
theorem ownN {h : Heap} {l : List Un} (A : List (Option Blk)) {k : Nat} (hk : A[k]? = some (some ⟨cS encN l, true⟩)) : SlN (h.freeze ++ A) (.slice (some ⟨h.length + k, 0, none⟩) l.length 10) l :=
  Sl_own (f := encN) (es := 10) (fun _ => rfl) (by rw [hget_base (by simp), hk]; rfl) rfl
abbrev qB (t : Int) (v w : Value) : Option Blk := some ⟨[i64 t, v, w], true⟩
abbrev qW (wl : List Wi) : Option Blk := some ⟨cS encW wl, true⟩
abbrev qN (l : List Un) : Option Blk := some ⟨cS encN l, true⟩
abbrev qR (l : List XR) : Option Blk := some ⟨cS encR l, true⟩
theorem Sl_one {es : Nat} {h : Heap} {v : Value} {n : Nat} {cs : List Value} (s : Sl es h v n cs) : Value.oneCell' v = true := by
  rcases s.low with rfl | ⟨bv, ov, mv, tv, rfl, hbv⟩ <;> rfl
theorem c4 {d lim : Nat} {h : Heap} {v w : Value} {wl : List Wi} {l : List Un} {t j : Int} (sp : Pr h) (s : SlW h v wl) (q : SlN h w l) : E.call (d + 11) lim 4 [stV t v w, i64 j] h = some (.bool true, h) := by
  have rs := s.rules2
  have r := q.rules2
  have k19 := fun lim hh => c19 (d := d + 2) (lim := lim) (h := hh)
  have k18 := fun lim hh a b c => c18 (d := d + 9) (lim := lim) (h := hh) (a := a) (b := b) (c := c)
  have k20 := fun lim L => c20 (d := d + 8) (lim := lim) (t := t) ((Sl_freeze.2 s).app L) ((Sl_freeze.2 q).app L)
  have spA := fun A => (Sl_freeze.2 sp).app A
  refine call1 fn4 rfl (by simp [ef4]) ?_
  rcases fw : fewB wl l with _ | _
  · simp [ef4, k19, k20, fw]
  obtain ⟨lw, hnm, l6⟩ := few_ok fw
  have k22 := fun lim L => c22 (d := d + 9) (lim := lim) (t := t) ((Sl_freeze.2 s).app L) ((Sl_freeze.2 q).app L) (by omega) (by omega)
  have k21 := fun lim => c21 (d := d + 2) (lim := lim) (t := t) (spA [qB t v w, qW wl, qN l]) (ownW (l := wl) [qB t v w, qW wl, qN l] (k := 1) rfl) (ownN (l := l) [qB t v w, qW wl, qN l] (k := 2) rfl) (by omega) hnm
  have k26 := fun lim L => c26 (d := d + 4) (lim := lim) (t := t) ((Sl_freeze.2 s).app L) ((Sl_freeze.2 q).app L) (by omega)
  by_cases he : (stE t wl l).2 ≠ 0
  · have ae : atE wl t l j = (stE t wl l).2 := by unfold atE; rw [if_pos he]
    have fe : frV wl t l j = rgV 0 0 := by unfold frV; rw [ae, if_pos he]
    have k23 := fun lim => c23a (d := d + 1) (lim := lim) (t := t) (spA [qB t v w, qW wl, qN l, qW wl, qN l]) (ownW (l := wl) [qB t v w, qW wl, qN l, qW wl, qN l] (k := 3) rfl) (ownN (l := l) [qB t v w, qW wl, qN l, qW wl, qN l] (k := 4) rfl) (by omega) hnm he
    have k24 := fun lim => c24a (d := d) (lim := lim) (t := t) (spA [qB t v w, qW wl, qN l, qW wl, qN l, qW wl, qN l]) (ownW (l := wl) [qB t v w, qW wl, qN l, qW wl, qN l, qW wl, qN l] (k := 5) rfl) (ownN (l := l) [qB t v w, qW wl, qN l, qW wl, qN l, qW wl, qN l] (k := 6) rfl) (by omega) hnm he
    have k25 := fun lim T => c25 (d := d) (lim := lim) (t := t) (j := j) (spA [qB t v w, qW wl, qN l, qW wl, qN l, qW wl, qN l, T, qW wl, qN l]) (ownW (l := wl) [qB t v w, qW wl, qN l, qW wl, qN l, qW wl, qN l, T, qW wl, qN l] (k := 8) rfl) (ownN (l := l) [qB t v w, qW wl, qN l, qW wl, qN l, qW wl, qN l, T, qW wl, qN l] (k := 9) rfl) (by omega) hnm
    simp only [ae, fe] at k25
    simp [ef4, k19, k20, fw, k22, k21, k23, k24, k25, k26, he, Nat.add_assoc]
  have he' : (stE t wl l).2 = 0 := by omega
  have O := StOk.of he'
  have wn := wlen (n := l.length) (by omega)
  rcases Nat.eq_zero_or_pos l.length with z | z
  · have el : l = [] := List.eq_nil_of_length_eq_zero z
    subst el
    have hj : within j 0 (-1) = false := by simp [within]; omega
    have ae : atE wl t [] j = 6 := by unfold atE; rw [if_neg he]; rw [if_pos (by simpa using hj)]
    have fe : frV wl t [] j = rgV 0 0 := by unfold frV; rw [ae, if_pos (by decide)]
    have gn : ∀ hh : Heap, SlR hh (.slice none 0 0) [] := fun hh => ⟨rfl, rfl, fun q => absurd rfl q, .inl rfl, fun k hk => by simp at hk⟩
    have k23 := fun lim => c23 (d := d + 1) (lim := lim) (t := t) (spA [qB t v w, qW wl, qN [], qW wl, qN []]) (ownW (l := wl) [qB t v w, qW wl, qN [], qW wl, qN []] (k := 3) rfl) (ownN (l := []) [qB t v w, qW wl, qN [], qW wl, qN []] (k := 4) rfl) (by omega) hnm he'
    have k24 := fun lim => c24 (d := d) (lim := lim) (t := t) (spA [qB t v w, qW wl, qN [], qW wl, qN [], qW wl, qN []]) (ownW (l := wl) [qB t v w, qW wl, qN [], qW wl, qN [], qW wl, qN []] (k := 5) rfl) (ownN (l := []) [qB t v w, qW wl, qN [], qW wl, qN [], qW wl, qN []] (k := 6) rfl) (by omega) hnm he'
    have k25 := fun lim T8 => c25 (d := d) (lim := lim) (t := t) (j := j) (spA [qB t v w, qW wl, qN [], qW wl, qN [], qW wl, qN [], T8, qW wl, qN []]) (ownW (l := wl) [qB t v w, qW wl, qN [], qW wl, qN [], qW wl, qN [], T8, qW wl, qN []] (k := 8) rfl) (ownN (l := []) [qB t v w, qW wl, qN [], qW wl, qN [], qW wl, qN [], T8, qW wl, qN []] (k := 9) rfl) (by omega) hnm
    have k27 := fun lim L => c27 (d := d + 5) (lim := lim) ((Sl_freeze.2 s).app L) ((Sl_freeze.2 q).app L) he'
    have k29 := fun lim L => c29 (d := d + 3) (lim := lim) ((Sl_freeze.2 s).app L) ((Sl_freeze.2 q).app L) (gn _) O
    have k28 := fun lim hh => c28 (d := d + 9) (lim := lim) (gn hh) (gn hh) (by simp)
    have k30 := fun lim L => c30 (d := d + 2) (lim := lim) (Sl_freeze.2 ((Sl_freeze.2 s).app L)) (Sl_freeze.2 ((Sl_freeze.2 q).app L)) (gn _) O
    have w0 : IntKind.wrap .i64 (0 - 1) = -1 := rfl
    simp only [ae, fe] at k25
    simp [mapU, newV, newK] at k22 k21 k23 k24 k25 k26 k27 k29 k28 k30
    simp [ef4, k19, k20, fw, k22, k21, k23, k24, k25, k26, k27, k28, k29, k30, k18, hj, he', r, w0, Nat.add_assoc]
    exact ⟨⟨Sl_one s, Sl_one q⟩, by rw [show IntKind.wrap .i64 (-1) = -1 from rfl]; exact hj⟩
  have zi : l.length ≠ 0 := by omega
  have tl := mapU_len (ten wl t) l
  have fl := mapU_len (frq t) l
  have k23 := fun lim => c23 (d := d + 1) (lim := lim) (t := t) (spA [qB t v w, qW wl, qN l, qW wl, qN l]) (ownW (l := wl) [qB t v w, qW wl, qN l, qW wl, qN l] (k := 3) rfl) (ownN (l := l) [qB t v w, qW wl, qN l, qW wl, qN l] (k := 4) rfl) (by omega) hnm he'
  have k24 := fun lim T5 => c24 (d := d) (lim := lim) (t := t) (spA [qB t v w, qW wl, qN l, qW wl, qN l, T5, qW wl, qN l]) (ownW (l := wl) [qB t v w, qW wl, qN l, qW wl, qN l, T5, qW wl, qN l] (k := 6) rfl) (ownN (l := l) [qB t v w, qW wl, qN l, qW wl, qN l, T5, qW wl, qN l] (k := 7) rfl) (by omega) hnm he'
  have k25 := fun lim T5 T8 => c25 (d := d) (lim := lim) (t := t) (j := j) (spA [qB t v w, qW wl, qN l, qW wl, qN l, T5, qW wl, qN l, T8, qW wl, qN l]) (ownW (l := wl) [qB t v w, qW wl, qN l, qW wl, qN l, T5, qW wl, qN l, T8, qW wl, qN l] (k := 9) rfl) (ownN (l := l) [qB t v w, qW wl, qN l, qW wl, qN l, T5, qW wl, qN l, T8, qW wl, qN l] (k := 10) rfl) (by omega) hnm
  have k27 := fun lim L => c27 (d := d + 5) (lim := lim) ((Sl_freeze.2 s).app L) ((Sl_freeze.2 q).app L) he'
  have gF := fun T5 T8 T11 T13 => ownR (h := h) (l := mapU (frq t) l) [qB t v w, qW wl, qN l, qW wl, qN l, T5, qW wl, qN l, T8, qW wl, qN l, T11, qR (mapU (frq t) l), T13] (k := 12) rfl
  have gF2 := fun T5 T8 T11 T13 T14 => ownR (h := h) (l := mapU (frq t) l) [qB t v w, qW wl, qN l, qW wl, qN l, T5, qW wl, qN l, T8, qW wl, qN l, T11, qR (mapU (frq t) l), T13, T14] (k := 12) rfl
  have gA := fun T8 T11 T12 T13 => ownR (h := h) (l := mapU (ten wl t) l) [qB t v w, qW wl, qN l, qW wl, qN l, qR (mapU (ten wl t) l), qW wl, qN l, T8, qW wl, qN l, T11, T12, T13, qR (mapU (ten wl t) l)] (k := 5) rfl
  have gB := fun T8 T11 T12 T13 => ownR (h := h) (l := mapU (ten wl t) l) [qB t v w, qW wl, qN l, qW wl, qN l, qR (mapU (ten wl t) l), qW wl, qN l, T8, qW wl, qN l, T11, T12, T13, qR (mapU (ten wl t) l)] (k := 14) rfl
  have k29 := fun lim T5 T8 T11 T13 => c29 (d := d + 3) (lim := lim) ((Sl_freeze.2 s).app _) ((Sl_freeze.2 q).app _) (gF T5 T8 T11 T13) O
  have k28 := fun lim T8 T11 T12 T13 => c28 (d := d + 9) (lim := lim) (gA T8 T11 T12 T13) (gB T8 T11 T12 T13) (by rw [tl]; omega)
  have k30 := fun lim T5 T8 T11 T13 T14 => c30 (d := d + 2) (lim := lim) (Sl_freeze.2 ((Sl_freeze.2 s).app _)) (Sl_freeze.2 ((Sl_freeze.2 q).app _)) (Sl_freeze.2 (gF2 T5 T8 T11 T13 T14)) O
  unfold newV newK at k23 k27 k29
  simp only [tl, fl, if_neg zi] at k23 k27 k29 k28 k30
  simp at k23 k24 k25 k27 k29 k28 k30
  have cf : (cS encR (mapU (frq t) l)).length = l.length * 2 := by rw [cR_len, fl]
  rcases hj : within j 0 ((l.length : Int) - 1) with _ | _
  · have ae : atE wl t l j = 6 := by unfold atE; rw [if_neg he, if_pos hj]
    have fe : frV wl t l j = rgV 0 0 := by unfold frV; rw [ae, if_pos (by decide)]
    simp only [ae, fe] at k25
    simp [ef4, k19, k20, fw, k22, k21, k23, k24, k25, k26, k27, k28, k29, k30, k18, hj, he', r, wn, Nat.add_assoc]
    exact ⟨Sl_one s, Sl_one q⟩
  · have hj' : 0 ≤ j ∧ j ≤ (l.length : Int) - 1 := by simpa [within] using hj
    obtain ⟨i, rfl⟩ : ∃ i : Nat, j = (i : Int) := ⟨j.toNat, by omega⟩
    have hi : i < l.length := by omega
    have ae : atE wl t l (i : Int) = 0 := by unfold atE; rw [if_neg he, if_neg (by rw [hj]; simp)]
    have fe : frV wl t l (i : Int) = rgV (frq t (atN l i)).1 (frq t (atN l i)).2 := by unfold frV; rw [if_neg (by rw [ae]; simp), Int.toNat_natCast]
    have p := cR_part (l := mapU (frq t) l) (i := i) (by rw [fl]; exact hi)
    rw [mapU_at hi] at p
    have k2 : i * 2 + 2 ≤ l.length * 2 := by omega
    have hii : (i : Int) < l.length := by omega
    simp only [ae, fe] at k25
    simp [ef4, k19, k20, fw, k22, k21, k23, k24, k25, k26, k27, k28, k29, k30, k18, hj, he', r, wn, p, k2, hi, hii, cf, Nat.add_assoc]
    exact ⟨Sl_one s, Sl_one q⟩
end X
end Go.Abs
