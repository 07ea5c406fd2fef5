/- Chapter 2: limits: what is right, one unison, both sides. -/
import Derived.Test.YtodofkolnmoliaaDoorAbsXUN
set_option linter.unusedSimpArgs false
set_option linter.unusedVariables false
/- Chapter 2: limits: what is right, one unison, both sides. -/
namespace Go.Abs
namespace X
set_option maxRecDepth 100000
set_option maxHeartbeats 0
structure Lm where
  lo : Int
  hi : Int
  sh : Int
  jp : Int
abbrev lmV (L : Lm) : Value := .agg #[i64 L.lo, i64 L.hi, i64 L.sh, i64 L.jp]
def lmE (L : Lm) : Int := if within L.lo 0 1000000000000000 = false then 2 else if within L.hi 0 1000000000000000 = false then 2 else if within L.jp 0 1000000000000000 = false then 2 else if within L.sh 0 1000000 = false then 2 else if L.hi < L.lo then 9 else 0
theorem c37 {d lim : Nat} {h : Heap} {L : Lm} : E.call (d + 2) lim 37 [lmV L] h = some (i64 (lmE L), h) := by
  have k := fun lim hh a b c => c69 (d := d) (lim := lim) (h := hh) (a := a) (b := b) (c := c)
  refine call1 fn37 rfl (by simp [ef37]) ?_
  unfold lmE
  rcases q1 : within L.lo 0 1000000000000000 with _ | _
  · simp [ef37, k, q1]
  rcases q2 : within L.hi 0 1000000000000000 with _ | _
  · simp [ef37, k, q1, q2]
  rcases q3 : within L.jp 0 1000000000000000 with _ | _
  · simp [ef37, k, q1, q2, q3]
  rcases q4 : within L.sh 0 1000000 with _ | _
  · simp [ef37, k, q1, q2, q3, q4]
  by_cases q5 : L.hi < L.lo
  · simp [ef37, k, q1, q2, q3, q4, q5]
  · simp [ef37, k, q1, q2, q3, q4, q5]
theorem c36 {d lim : Nat} {h : Heap} {L : Lm} : E.call (d + 2) lim 36 [lmV L] h = some (i64 (lmE L), h) := by
  have k := fun lim hh a b c => c18 (d := d) (lim := lim) (h := hh) (a := a) (b := b) (c := c)
  refine call1 fn36 rfl (by simp [ef36]) ?_
  unfold lmE
  rcases q1 : within L.lo 0 1000000000000000 with _ | _
  · simp [ef36, k, q1]
  rcases q2 : within L.hi 0 1000000000000000 with _ | _
  · simp [ef36, k, q1, q2]
  rcases q3 : within L.jp 0 1000000000000000 with _ | _
  · simp [ef36, k, q1, q2, q3]
  rcases q4 : within L.sh 0 1000000 with _ | _
  · simp [ef36, k, q1, q2, q3, q4]
  by_cases q5 : L.hi < L.lo
  · simp [ef36, k, q1, q2, q3, q4, q5]
  · simp [ef36, k, q1, q2, q3, q4, q5]
def jmp (p q : XR) : Int := max (IntKind.wrap .i64 (p.2 - q.1)) (IntKind.wrap .i64 (q.2 - p.1))
theorem c83 {d lim : Nat} {h : Heap} {p q : XR} : E.call (d + 1) lim 83 [rgV p.1 p.2, rgV q.1 q.2] h = some (i64 (jmp p q), h) := by
  refine call1 fn83 rfl (by simp [ef83]) ?_
  simp [ef83, jmp]
theorem c85 {d lim : Nat} {h : Heap} {p q : XR} : E.call (d + 1) lim 85 [rgV p.1 p.2, rgV q.1 q.2] h = some (i64 (jmp p q), h) := by
  refine call1 fn85 rfl (by simp [ef85]) ?_
  simp [ef85, jmp]
noncomputable def kpB (wl : List Wi) (t : Int) (u : Un) (L : Lm) : Bool := if (ten wl t u).1 < L.lo then false else if L.hi < (ten wl t u).2 then false else decide (shH wl u.sd (ten wl t u).2 ≤ L.sh)
theorem c82 {d lim : Nat} {h : Heap} {wl : List Wi} {t : Int} {u : Un} {L : Lm} (O : SdOk wl u.sd) (F : FOk (fL u t) (fH u t)) : E.call (d + 4) lim 82 [soV wl u.sd (fL u t) (fH u t), lmV L] h = some (.bool (kpB wl t u L), h) := by
  have k90 := fun lim hh => c90 (d := d) (lim := lim) (h := hh) O F
  refine call1 fn82 rfl (by simp [ef82]) ?_
  unfold kpB ten
  simp only [soV] at k90 ⊢
  generalize hA : tenL wl u.sd (fL u t) = A at *
  generalize hB : tenH wl u.sd (fH u t) = B at *
  by_cases q1 : A < L.lo
  · simp [ef82, q1, Int.not_le.2 q1, hA]
  by_cases q2 : L.hi < B
  · simp [ef82, q1, Int.not_lt.1 q1, q2, Int.not_le.2 q2, hA, hB]
  by_cases q3 : shH wl u.sd B ≤ L.sh
  · simp [ef82, q1, Int.not_lt.1 q1, q2, Int.not_lt.1 q2, q3, k90, hA, hB]
  · simp [ef82, q1, Int.not_lt.1 q1, q2, Int.not_lt.1 q2, q3, k90, hA, hB]
theorem c84 {d lim : Nat} {h : Heap} {v w f : Value} {wl : List Wi} {l : List Un} {t : Int} {i : Nat} {L : Lm} (s : SlW h v wl) (g : SlR h f (mapU (frq t) l)) (O : StOk t wl l) (hi : i < l.length) :
    E.call (d + 7) lim 84 [knV t v w f, i64 (i : Int), sdV (atN l i).sd, lmV L] h = some (.bool (kpB wl t (atN l i) L), h) := by
  have rs := s.rules2
  have gl : i < (mapU (frq t) l).length := by rw [mapU_len]; exact hi
  have rg := g.rules2
  have p := cR_part gl
  rw [mapU_at hi] at p
  rw [mapU_len] at rg
  have U := O.u i hi
  have k2 : i * 2 + 2 ≤ l.length * 2 := by omega
  have hii : (i : Int) < l.length := by omega
  have k93 := fun lim L => c93 (d := d) (lim := lim) (Sl_freeze.2 ((Sl_freeze.2 s).app L)) U.sd U.f
  have k78 := fun lim L => c78 (d := d) (lim := lim) (w := w) ((Sl_freeze.2 s).app L) ((Sl_freeze.2 g).app L) O hi
  simp only [frq] at p
  refine call1 fn84 rfl (by simp [ef84]) ?_
  unfold kpB
  unfold ten at k78 ⊢
  simp only at k78
  generalize hu : atN l i = u at *
  have pp := fun (z : i = 0) L => ((Sl_freeze.2 g).app L).part (k := 0) (m := 2) (by rw [mapU_len]; omega) (by omega)
  generalize hA : tenL wl u.sd (fL u t) = A at *
  generalize hB : tenH wl u.sd (fH u t) = B at *
  by_cases q1 : A < L.lo
  · simp [ef84, k78, q1, Int.not_le.2 q1]
  by_cases q2 : L.hi < B
  · simp [ef84, k78, q1, Int.not_lt.1 q1, q2, Int.not_le.2 q2]
  rcases Nat.eq_zero_or_pos i with z | z
  · subst z
    have pp := pp rfl
    simp only [Nat.zero_mul, List.drop_zero] at p
    simp only [Nat.add_zero, List.drop_zero, p] at pp
    have l0 : 0 < l.length := by omega
    simp only [Int.ofNat_zero] at k78
    by_cases q3 : shH wl u.sd B ≤ L.sh
    · simp [ef84, k78, q1, Int.not_lt.1 q1, q2, Int.not_lt.1 q2, q3, k93, rg, l0, hii, k2, pp, p]
    · simp [ef84, k78, q1, Int.not_lt.1 q1, q2, Int.not_lt.1 q2, q3, k93, rg, l0, hii, k2, pp, p]
  · by_cases q3 : shH wl u.sd B ≤ L.sh
    · simp [ef84, k78, q1, Int.not_lt.1 q1, q2, Int.not_lt.1 q2, q3, k93, rg, hii, k2, p]
    · simp [ef84, k78, q1, Int.not_lt.1 q1, q2, Int.not_lt.1 q2, q3, k93, rg, hii, k2, p]
end X
end Go.Abs
/- Chapter 2: limits: the first unison that breaks them, both sides. -/
namespace Go.Abs
namespace X
set_option maxRecDepth 100000
set_option maxHeartbeats 0
noncomputable def badI (wl : List Wi) (t : Int) (l : List Un) (L : Lm) (i : Nat) : Bool := if kpB wl t (atN l i) L = false then true else if i = 0 then false else decide (L.jp < jmp (ten wl t (atN l (i - 1))) (ten wl t (atN l i)))
/-- The first unison that breaks limits; -1 if none does. -/
noncomputable def frst (wl : List Wi) (t : Int) (l : List Un) (L : Lm) (i : Nat) : Int := if i < l.length then (if badI wl t l L i = false then frst wl t l L (i + 1) else (i : Int)) else -1
termination_by l.length - i
theorem frst_lt {wl : List Wi} {t : Int} {l : List Un} {L : Lm} {i : Nat} (h : i < l.length) : frst wl t l L i = if badI wl t l L i = false then frst wl t l L (i + 1) else (i : Int) := by rw [frst, if_pos h]
theorem frst_ge {wl : List Wi} {t : Int} {l : List Un} {L : Lm} {i : Nat} (h : ¬ i < l.length) : frst wl t l L i = -1 := by rw [frst, if_neg h]
noncomputable def kpI (wl : List Wi) (t : Int) (l : List Un) (L : Lm) : Int := if (stE t wl l).2 ≠ 0 then 0 else if lmE L ≠ 0 then 0 else frst wl t l L 0
noncomputable def kpE (wl : List Wi) (t : Int) (l : List Un) (L : Lm) : Int := if (stE t wl l).2 ≠ 0 then (stE t wl l).2 else if lmE L ≠ 0 then lmE L else if frst wl t l L 0 = -1 then 0 else 26
theorem c35 {d lim : Nat} {h : Heap} {v w : Value} {wl : List Wi} {l : List Un} {t : Int} {L : Lm} (sp : Pr h) (s : SlW h v wl) (q : SlN h w l) (hwl : wl.length ≤ 1000) (hnm : Nms wl) :
    E.call (d + 10) lim 35 [stV t v w, lmV L] h = some (.tuple #[i64 (kpI wl t l L), i64 (kpE wl t l L)], h) := by
  have rs := s.rules2
  have r := q.rules2
  have so := s.own
  have qo := q.own
  have k37 := fun lim hh => c37 (d := d + 7) (lim := lim) (h := hh) (L := L)
  refine call1 fn35 rfl (by simp [ef35]) ?_
  unfold kpI kpE
  by_cases he : (stE t wl l).2 ≠ 0
  · have k23 := fun lim L => c23a (d := d) (lim := lim) (t := t) ((Sl_freeze.2 sp).app L) ((Sl_freeze.2 s).app L) ((Sl_freeze.2 q).app L) hwl hnm he
    simp [ef35, k23, he]
  have he' : (stE t wl l).2 = 0 := by omega
  have O := StOk.of he'
  have l90 := O.few
  have k23 := fun lim L => c23 (d := d) (lim := lim) (t := t) ((Sl_freeze.2 sp).app L) ((Sl_freeze.2 s).app L) ((Sl_freeze.2 q).app L) hwl hnm he'
  unfold newV newK at k23
  rw [mapU_len] at k23
  by_cases hm : lmE L ≠ 0
  · simp only [he', hm]
    rcases Nat.eq_zero_or_pos l.length with z | z
    · simp only [if_pos z] at k23
      simp [ef35, k23, k37, hm]
    · simp only [if_neg (show l.length ≠ 0 by omega)] at k23
      simp [ef35, k23, k37, hm]
  have hm' : lmE L = 0 := by omega
  have k82 := fun lim hh i (hi : i < l.length) => c82 (d := d + 5) (lim := lim) (h := hh) (t := t) (u := atN l i) (L := L) (O.u i hi).sd (O.u i hi).f
  have k83 := fun lim hh p q => c83 (d := d + 8) (lim := lim) (h := hh) (p := p) (q := q)
  have k72 := fun lim A i hi => c72 (d := d + 2) (lim := lim) (i := i) (v := v) (Sl_freeze.2 ((Sl_freeze.2 sp).app A)) (Sl_freeze.2 ((Sl_freeze.2 s).app A)) (Sl_freeze.2 ((Sl_freeze.2 q).app A)) O hi
  rw [if_neg he, if_neg he, if_neg hm, if_neg hm]
  generalize hC : frst wl t l L 0 = C0
  rcases Nat.eq_zero_or_pos l.length with z | z
  · rw [frst_ge (by omega)] at hC
    subst hC
    simp only [if_pos z] at k23
    simp [ef35, k23, k37, hm']
    rw [wpC_unroll, wpI_step (by simp [E_fuel'])]
    simp [-collect_own1, St.tidy, collect_box, so, qo, rs, r]
  have zi : l.length ≠ 0 := by omega
  simp only [if_neg zi] at k23
  have pl := cR_plain (mapU (ten wl t) l)
  have cl := cR_len (mapU (ten wl t) l)
  rw [mapU_len] at cl
  simp [ef35, k23, k37, hm']
  refine wpC_loop (fun y st => ∃ i, y = l.length - i ∧ i ≤ l.length ∧ frst wl t l L i = C0 ∧ st = ⟨[(2, .pointer (some ⟨h.length, 0, none⟩)), (3, .pointer (some ⟨h.length + 1, 0, none⟩)), (6, .slice (some ⟨h.length + 2, 0, none⟩) l.length 2), (24, .slice (some ⟨h.length + 2, 0, none⟩) l.length 2), (25, i64 (l.length : Int)), (26, i64 (i : Nat))],
    h.freeze ++ [some ⟨[i64 t, v, w], true⟩, some ⟨[i64 L.lo, i64 L.hi, i64 L.sh, i64 L.jp], true⟩, some ⟨cS encR (mapU (ten wl t) l), true⟩]⟩) l.length (by show l.length < 2 ^ 64; omega) ?_ ?_
  · simp [-collect_own1, St.tidy, collect_box, so, qo, rs, r, pl]
    exact ⟨0, by omega, by omega, hC, rfl⟩
  · rintro y hy _ ⟨i, rfl, hi, hc, rfl⟩
    by_cases hlt : i < l.length
    · have w1' := w1 (i := i) (by omega)
      simp only [W] at w1'
      have hlti : (i : Int) < l.length := by omega
      have U := O.u i hlt
      have k2 : i * 2 + 2 ≤ l.length * 2 := by omega
      have p := cR_part (l := mapU (ten wl t) l) (i := i) (by rw [mapU_len]; exact hlt)
      rw [mapU_at hlt] at p
      have kx := fun lim hh => k82 lim hh i hlt
      have ky := fun lim A => k72 lim A i hlt
      rw [frst_lt hlt] at hc
      unfold badI at hc
      simp only [soV] at kx ky
      by_cases e1 : kpB wl t (atN l i) L = false
      · rw [if_pos e1, if_neg (by simp)] at hc
        subst hc
        have ni : ¬ ((i : Int) = -1) := by omega
        simp [hlt, hlti, p, k2, cl, kx, ky, e1, w1', ni]
      · rw [if_neg e1] at hc
        have e1' : kpB wl t (atN l i) L = true := by simpa using e1
        rcases Nat.eq_zero_or_pos i with z0 | z0
        · subst z0
          simp only [Int.ofNat_zero] at ky
          rw [if_pos rfl, if_pos rfl] at hc
          simp only [Nat.zero_mul, List.drop_zero] at p
          simp [-collect_own1, z, hlt, hlti, p, k2, cl, pl, kx, ky, e1', St.tidy, collect_box, so, qo, rs, r, Nat.add_assoc]
          exact ⟨l.length - 1, by omega, 1, by omega, by omega, hc, by omega⟩
        · have zi0 : i ≠ 0 := by omega
          rw [if_neg zi0] at hc
          have ip : (0 : Int) < i := by omega
          have wi := w1s z0 (by omega)
          have ipl : ((i - 1 : Nat) : Int) < l.length := by omega
          have k2p : (i - 1) * 2 + 2 ≤ l.length * 2 := by omega
          have pp := cR_part (l := mapU (ten wl t) l) (i := i - 1) (by rw [mapU_len]; omega)
          rw [mapU_at (by omega)] at pp
          generalize hA : ten wl t (atN l i) = A at *
          generalize hB : ten wl t (atN l (i - 1)) = B at *
          have k83' := fun lim hh => k83 lim hh B A
          generalize hip : i - 1 = m at *
          by_cases e2 : L.jp < jmp B A
          · rw [if_neg (by simp [e2])] at hc
            subst hc
            have ni : ¬ ((i : Int) = -1) := by omega
            simp [hlt, hlti, p, k2, cl, kx, ky, e1', w1', ip, z0, wi, ipl, k2p, pp, k83', e2, ni]
          · rw [if_pos (by simpa using e2)] at hc
            simp [-collect_own1, hlt, hlti, p, k2, cl, pl, kx, ky, e1', w1', ip, z0, wi, ipl, k2p, pp, k83', e2, St.tidy, collect_box, so, qo, rs, r, Nat.add_assoc]
            exact ⟨l.length - (i + 1), by omega, i + 1, by omega, by omega, hc, by omega⟩
    · obtain rfl : i = l.length := by omega
      rw [frst_ge (by omega)] at hc
      subst hc
      simp
end X
end Go.Abs
/- The law ScaleKeeps. -/
namespace Go.Abs
namespace X
set_option maxRecDepth 100000
set_option maxHeartbeats 0
theorem c38 {d lim : Nat} {h : Heap} {v w f : Value} {wl : List Wi} {l : List Un} {t : Int} {L : Lm} (s : SlW h v wl) (q : SlN h w l) (g : SlR h f (mapU (frq t) l)) (O : StOk t wl l) :
    E.call (d + 8) lim 38 [knV t v w f, lmV L] h = some (i64 (frst wl t l L 0), h) := by
  have rs := s.rules2
  have r := q.rules2
  have rg := g.rules2
  have so := s.own
  have qo := q.own
  have go := g.own
  have l90 := O.few
  have k29 := fun lim A => c29 (d := d) (lim := lim) ((Sl_freeze.2 s).app A) ((Sl_freeze.2 q).app A) ((Sl_freeze.2 g).app A) O
  unfold newV newK at k29
  rw [mapU_len] at k29
  have k85 := fun lim hh p q => c85 (d := d + 6) (lim := lim) (h := hh) (p := p) (q := q)
  have k84 := fun lim A i hi => c84 (d := d) (lim := lim) (i := i) (w := w) (L := L) (((Sl_freeze.2 s).app A)) (((Sl_freeze.2 g).app A)) O hi
  refine call1 fn38 rfl (by simp [ef38]) ?_
  generalize hC : frst wl t l L 0 = C0
  rcases Nat.eq_zero_or_pos l.length with z | z
  · rw [frst_ge (by omega)] at hC
    subst hC
    simp only [if_pos z] at k29
    simp [ef38, k29]
    rw [wpC_unroll, wpI_step (by simp [E_fuel'])]
    simp [-collect_own1, St.tidy, collect_box, so, qo, go, rs, r, rg]
  have zi : l.length ≠ 0 := by omega
  have ne : l ≠ [] := fun e => zi (by rw [e]; rfl)
  simp only [if_neg zi] at k29
  have pl := cR_plain (mapU (ten wl t) l)
  have cl := cR_len (mapU (ten wl t) l)
  rw [mapU_len] at cl
  simp [ef38, k29]
  refine wpC_loop (fun y st => ∃ i, y = l.length - i ∧ i ≤ l.length ∧ frst wl t l L i = C0 ∧ st = ⟨[(2, .pointer (some ⟨h.length, 0, none⟩)), (3, .pointer (some ⟨h.length + 1, 0, none⟩)), (5, .slice (some ⟨h.length + 2, 0, none⟩) l.length 2), (6, i64 (i : Nat))],
    h.freeze ++ [some ⟨[i64 t, v, w, f], true⟩, some ⟨[i64 L.lo, i64 L.hi, i64 L.sh, i64 L.jp], true⟩, some ⟨cS encR (mapU (ten wl t) l), true⟩]⟩) l.length (by show l.length < 2 ^ 64; omega) ?_ ?_
  · simp [-collect_own1, St.tidy, collect_box, so, qo, go, rs, r, rg, pl]
    exact ⟨0, by omega, by omega, hC, rfl⟩
  · rintro y hy _ ⟨i, rfl, hi, hc, rfl⟩
    by_cases hlt : i < l.length
    · have w1' := w1 (i := i) (by omega)
      simp only [W] at w1'
      have hlti : (i : Int) < l.length := by omega
      have k2 : i * 2 + 2 ≤ l.length * 2 := by omega
      have p := cR_part (l := mapU (ten wl t) l) (i := i) (by rw [mapU_len]; exact hlt)
      rw [mapU_at hlt] at p
      have p5 := cN_s5 (l := l) (i := i) hlt
      have k5 : i * 10 + 5 + 5 ≤ l.length * 10 := by omega
      have kx := fun lim A => k84 lim A i hlt
      rw [frst_lt hlt] at hc
      unfold badI at hc
      simp only [sdV] at kx
      rcases Nat.eq_zero_or_pos i with z0 | z0
      · subst z0
        have q5 := fun A => ((Sl_freeze.2 q).app A).part (k := 5) (m := 5) (by omega) (by omega)
        simp only [Nat.zero_mul, Nat.zero_add, List.drop_zero] at p5
        simp only [p5] at q5
        simp only [Int.ofNat_zero] at kx
        by_cases e1 : kpB wl t (atN l 0) L = false
        · rw [if_pos e1, if_neg (by simp)] at hc
          subst hc
          simp [z, ne, hlt, Nat.not_le.2 z, hlti, p, k2, cl, kx, e1, rg, r, q5, p5, k5]
        · rw [if_neg e1, if_pos rfl, if_pos rfl] at hc
          have e1' : kpB wl t (atN l 0) L = true := by simpa using e1
          simp only [Nat.zero_mul, List.drop_zero] at p
          simp [-collect_own1, z, ne, hlt, Nat.not_le.2 z, hlti, p, k2, cl, pl, kx, e1', q5, p5, k5, St.tidy, collect_box, so, qo, go, rs, r, rg, Nat.add_assoc]
          exact ⟨l.length - 1, by omega, 1, by omega, by omega, hc, by omega⟩
      · by_cases e1 : kpB wl t (atN l i) L = false
        · rw [if_pos e1, if_neg (by simp)] at hc
          subst hc
          simp [hlt, Nat.not_le.2 hlt, hlti, p, k2, cl, kx, e1, w1', rg, r, p5, k5]
        · rw [if_neg e1] at hc
          have e1' : kpB wl t (atN l i) L = true := by simpa using e1
          have zi0 : i ≠ 0 := by omega
          rw [if_neg zi0] at hc
          have ip : (0 : Int) < i := by omega
          have wi := w1s z0 (by omega)
          have ipl : ((i - 1 : Nat) : Int) < l.length := by omega
          have k2p : (i - 1) * 2 + 2 ≤ l.length * 2 := by omega
          have pp := cR_part (l := mapU (ten wl t) l) (i := i - 1) (by rw [mapU_len]; omega)
          rw [mapU_at (by omega)] at pp
          generalize hA : ten wl t (atN l i) = A at *
          generalize hB : ten wl t (atN l (i - 1)) = B at *
          have k85' := fun lim hh => k85 lim hh B A
          generalize hip : i - 1 = m at *
          by_cases e2 : L.jp < jmp B A
          · rw [if_neg (by simp [e2])] at hc
            subst hc
            simp [hlt, Nat.not_le.2 hlt, hlti, p, k2, cl, kx, e1', w1', ip, z0, wi, ipl, k2p, pp, k85', e2, p5, k5, r, rg]
          · rw [if_pos (by simpa using e2)] at hc
            simp [-collect_own1, hlt, Nat.not_le.2 hlt, hlti, p, k2, cl, pl, kx, e1', w1', ip, z0, wi, ipl, k2p, pp, k85', e2, p5, k5, St.tidy, collect_box, so, qo, go, rs, r, rg, Nat.add_assoc]
            exact ⟨l.length - (i + 1), by omega, i + 1, by omega, by omega, hc, by omega⟩
    · obtain rfl : i = l.length := by omega
      rw [frst_ge (by omega)] at hc
      subst hc
      simp
theorem frst_ok {wl : List Wi} {t : Int} {l : List Un} {L : Lm} : ∀ (k i : Nat), l.length - i = k → frst wl t l L i = -1 ∨ 0 ≤ frst wl t l L i
  | 0, i, hk => .inl (frst_ge (by omega))
  | k + 1, i, hk => by
    rw [frst_lt (by omega)]
    split
    · exact frst_ok k (i + 1) (by omega)
    · right; omega
abbrev qL (L : Lm) : Option Blk := some ⟨[i64 L.lo, i64 L.hi, i64 L.sh, i64 L.jp], true⟩
theorem c6 {d lim : Nat} {h : Heap} {v w : Value} {wl : List Wi} {l : List Un} {t : Int} {L : Lm} (sp : Pr h) (s : SlW h v wl) (q : SlN h w l) : E.call (d + 11) lim 6 [stV t v w, lmV L] h = some (.bool true, h) := by
  have rs := s.rules2
  have r := q.rules2
  have k19 := fun lim hh => c19 (d := d + 2) (lim := lim) (h := hh)
  have k20 := fun lim A => c20 (d := d + 8) (lim := lim) (t := t) ((Sl_freeze.2 s).app A) ((Sl_freeze.2 q).app A)
  have k36 := fun lim hh => c36 (d := d + 8) (lim := lim) (h := hh) (L := L)
  have k37 := fun lim hh => c37 (d := d + 8) (lim := lim) (h := hh) (L := L)
  have spA := fun A => (Sl_freeze.2 sp).app A
  refine call1 fn6 rfl (by simp [ef6]) ?_
  rcases fw : fewB wl l with _ | _
  · simp [ef6, k19, k20, fw]
  obtain ⟨lw, hnm, l6⟩ := few_ok fw
  have k22 := fun lim A => c22 (d := d + 9) (lim := lim) (t := t) (Sl_freeze.2 ((Sl_freeze.2 s).app A)) (Sl_freeze.2 ((Sl_freeze.2 q).app A)) (by omega) (by omega)
  have k35 := fun lim => c35 (d := d) (lim := lim) (t := t) (L := L) (spA [qB t v w, qL L, qW wl, qN l]) (ownW (l := wl) [qB t v w, qL L, qW wl, qN l] (k := 2) rfl) (ownN (l := l) [qB t v w, qL L, qW wl, qN l] (k := 3) rfl) (by omega) hnm
  have k26 := fun lim A => c26 (d := d + 4) (lim := lim) (t := t) ((Sl_freeze.2 s).app A) ((Sl_freeze.2 q).app A) (by omega)
  unfold kpI kpE at k35
  by_cases he : (stE t wl l).2 ≠ 0
  · simp only [if_pos he] at k35
    simp [ef6, k19, k20, fw, k22, k35, k36, k37, k26, he, Nat.add_assoc]
  have he' : (stE t wl l).2 = 0 := by omega
  have O := StOk.of he'
  simp only [if_neg he] at k35
  by_cases hm : lmE L ≠ 0
  · simp only [if_pos hm] at k35
    simp [ef6, k19, k20, fw, k22, k35, k36, k37, k26, he', hm, Nat.add_assoc]
  have hm' : lmE L = 0 := by omega
  simp only [if_neg hm] at k35
  have k27 := fun lim A => c27 (d := d + 5) (lim := lim) (Sl_freeze.2 ((Sl_freeze.2 s).app A)) (Sl_freeze.2 ((Sl_freeze.2 q).app A)) he'
  unfold newV newK at k27
  have fl := mapU_len (frq t) l
  simp only [fl] at k27
  have fo := frst_ok (wl := wl) (t := t) (l := l) (L := L) l.length 0 (by omega)
  rcases Nat.eq_zero_or_pos l.length with z | z
  · have el : l = [] := List.eq_nil_of_length_eq_zero z
    subst el
    have gn : ∀ hh : Heap, SlR hh (.slice none 0 0) [] := fun hh => ⟨rfl, rfl, fun q => absurd rfl q, .inl rfl, fun k hk => by simp at hk⟩
    have k38 := fun lim A => c38 (d := d + 2) (lim := lim) (L := L) ((Sl_freeze.2 s).app A) ((Sl_freeze.2 q).app A) (gn _) O
    have f0 : frst wl t [] L 0 = -1 := frst_ge (by simp)
    simp [f0] at k22 k26 k27 k35 k38
    simp [ef6, k19, k20, fw, k22, k35, k36, k37, k26, he', hm', k27, k38, Nat.add_assoc]
  · have zi : l.length ≠ 0 := by omega
    simp only [if_neg zi] at k27
    have k38 := fun lim => c38 (d := d + 2) (lim := lim) (L := L) ((Sl_freeze.2 s).app [qB t v w, qL L, qW wl, qN l, qR (mapU (frq t) l)]) ((Sl_freeze.2 q).app _) (ownR (h := h) (l := mapU (frq t) l) [qB t v w, qL L, qW wl, qN l, qR (mapU (frq t) l)] (k := 4) rfl) O
    simp only [fl] at k38
    generalize frst wl t l L 0 = F at *
    rcases fo with rfl | fo
    · simp [ef6, k19, k20, fw, k22, k35, k36, k37, k26, he', hm', k27, k38, Nat.add_assoc]
    · have fn : ¬ F = -1 := by omega
      simp [ef6, k19, k20, fw, k22, k35, k36, k37, k26, he', hm', k27, k38, fo, fn, Nat.add_assoc]
end X
end Go.Abs
