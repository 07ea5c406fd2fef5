--
import Derived.Test.YtoloaempiiedgaaDoorAbsRUN
set_option linter.unusedSimpArgs false
set_option linter.unusedVariables false
namespace Go.Abs
namespace R
set_option maxRecDepth 100000
set_option maxHeartbeats 0
structure Lm where
 lo : Int
 hi : Int
 sh : Int
 jp : Int
abbrev lmV (L : Lm) : Value := .agg #[i64 L.lo, i64 L.hi, i64 L.sh, i64 L.jp]
def lmE (L : Lm) : Int := if within L.lo 0 1000000000000000 = false then 2 else if within L.hi 0 1000000000000000 = false then 2 else if within L.jp 0 1000000000000000 = false then 2 else if within L.sh 0 1000000 = false then 2 else if L.hi < L.lo then 9 else 0
theorem c46 {d lim : Nat} {h : Heap} {L : Lm} : E.call (d + 2) lim 46 [lmV L] h = some (i64 (lmE L), h) := by
 have k := fun lim hh a b c => c44 (d := d) (lim := lim) (h := hh) (a := a) (b := b) (c := c)
 refine call1 fn46 rfl (by simp [ef46]) ?_
 unfold lmE
 rcases q1 : within L.lo 0 1000000000000000 with _ | _
 ·simp [ef46, k, q1]
 rcases q2 : within L.hi 0 1000000000000000 with _ | _
 ·simp [ef46, k, q1, q2]
 rcases q3 : within L.jp 0 1000000000000000 with _ | _
 ·simp [ef46, k, q1, q2, q3]
 rcases q4 : within L.sh 0 1000000 with _ | _
 ·simp [ef46, k, q1, q2, q3, q4]
 by_cases q5 : L.hi < L.lo
 ·simp [ef46, k, q1, q2, q3, q4, q5]
 ·simp [ef46, k, q1, q2, q3, q4, q5]
theorem c22 {d lim : Nat} {h : Heap} {L : Lm} : E.call (d + 2) lim 22 [lmV L] h = some (i64 (lmE L), h) := by
 have k := fun lim hh a b c => c21 (d := d) (lim := lim) (h := hh) (a := a) (b := b) (c := c)
 refine call1 fn22 rfl (by simp [ef22]) ?_
 unfold lmE
 rcases q1 : within L.lo 0 1000000000000000 with _ | _
 ·simp [ef22, k, q1]
 rcases q2 : within L.hi 0 1000000000000000 with _ | _
 ·simp [ef22, k, q1, q2]
 rcases q3 : within L.jp 0 1000000000000000 with _ | _
 ·simp [ef22, k, q1, q2, q3]
 rcases q4 : within L.sh 0 1000000 with _ | _
 ·simp [ef22, k, q1, q2, q3, q4]
 by_cases q5 : L.hi < L.lo
 ·simp [ef22, k, q1, q2, q3, q4, q5]
 ·simp [ef22, k, q1, q2, q3, q4, q5]
def jmp (p q : XR) : Int := max (IntKind.wrap .i64 (p.2 - q.1)) (IntKind.wrap .i64 (q.2 - p.1))
theorem c49 {d lim : Nat} {h : Heap} {p q : XR} : E.call (d + 1) lim 49 [rgV p.1 p.2, rgV q.1 q.2] h = some (i64 (jmp p q), h) := by
 refine call1 fn49 rfl (by simp [ef49]) ?_
 simp [ef49, jmp]
noncomputable def kpB (wl : List Wi) (t : Int) (u : Un) (L : Lm) : Bool := if (ten wl t u).1 < L.lo then false else if L.hi < (ten wl t u).2 then false else decide (shH wl u.sd (ten wl t u).2 ≤ L.sh)
theorem c48 {d lim : Nat} {h : Heap} {wl : List Wi} {t : Int} {u : Un} {L : Lm} (O : SdOk wl u.sd) (F : FOk (fL u t) (fH u t)) : E.call (d + 4) lim 48 [soV wl u.sd (fL u t) (fH u t), lmV L] h = some (.bool (kpB wl t u L), h) := by
 have k90 := fun lim hh => c81 (d := d) (lim := lim) (h := hh) O F
 refine call1 fn48 rfl (by simp [ef48]) ?_
 unfold kpB ten
 simp only [soV] at k90 ⊢
 generalize hA : tenL wl u.sd (fL u t) = A at *
 generalize hB : tenH wl u.sd (fH u t) = B at *
 by_cases q1 : A < L.lo
 ·simp [ef48, q1, Int.not_le.2 q1, hA]
 by_cases q2 : L.hi < B
 ·simp [ef48, q1, Int.not_lt.1 q1, q2, Int.not_le.2 q2, hA, hB]
 by_cases q3 : shH wl u.sd B ≤ L.sh
 ·simp [ef48, q1, Int.not_lt.1 q1, q2, Int.not_lt.1 q2, q3, k90, hA, hB]
 ·simp [ef48, q1, Int.not_lt.1 q1, q2, Int.not_lt.1 q2, q3, k90, hA, hB]
end R
end Go.Abs
namespace Go.Abs
namespace R
set_option maxRecDepth 100000
set_option maxHeartbeats 0
noncomputable def badI (wl : List Wi) (t : Int) (l : List Un) (L : Lm) (i : Nat) : Bool := if kpB wl t (atN l i) L = false then true else if i = 0 then false else decide (L.jp < jmp (ten wl t (atN l (i - 1))) (ten wl t (atN l i)))
noncomputable def frst (wl : List Wi) (t : Int) (l : List Un) (L : Lm) (i : Nat) : Int := if i < l.length then (if badI wl t l L i = false then frst wl t l L (i + 1) else (i : Int)) else -1
termination_by l.length - i
theorem frst_lt {wl : List Wi} {t : Int} {l : List Un} {L : Lm} {i : Nat} (h : i < l.length) : frst wl t l L i = if badI wl t l L i = false then frst wl t l L (i + 1) else (i : Int) := by rw [frst, if_pos h]
theorem frst_ge {wl : List Wi} {t : Int} {l : List Un} {L : Lm} {i : Nat} (h : ¬ i < l.length) : frst wl t l L i = -1 := by rw [frst, if_neg h]
noncomputable def kpI (wl : List Wi) (t : Int) (l : List Un) (L : Lm) : Int := if (stE t wl l).2 ≠ 0 then 0 else if lmE L ≠ 0 then 0 else frst wl t l L 0
noncomputable def kpE (wl : List Wi) (t : Int) (l : List Un) (L : Lm) : Int := if (stE t wl l).2 ≠ 0 then (stE t wl l).2 else if lmE L ≠ 0 then lmE L else if frst wl t l L 0 = -1 then 0 else 26
theorem c13 {d lim : Nat} {h : Heap} {v w : Value} {wl : List Wi} {l : List Un} {t : Int} {L : Lm} (sp : Pr h) (s : SlW h v wl) (q : SlN h w l) (hwl : wl.length ≤ 1000) (hnm : Nms wl) :
  E.call (d + 10) lim 13 [stV t v w, lmV L] h = some (.tuple #[i64 (kpI wl t l L), i64 (kpE wl t l L)], h) := by
 have rs := s.rules2
 have r := q.rules2
 have so := s.own
 have qo := q.own
 have k37 := fun lim hh => c46 (d := d + 7) (lim := lim) (h := hh) (L := L)
 refine call1 fn13 rfl (by simp [ef13]) ?_
 unfold kpI kpE
 by_cases he : (stE t wl l).2 ≠ 0
 ·have k23 := fun lim L => c45a (d := d) (lim := lim) (t := t) ((Sl_freeze.2 sp).app L) ((Sl_freeze.2 s).app L) ((Sl_freeze.2 q).app L) hwl hnm he
  simp [ef13, k23, he]
 have he' : (stE t wl l).2 = 0 := by omega
 have O := StOk.of he'
 have l90 := O.few
 have k23 := fun lim L => c45 (d := d) (lim := lim) (t := t) ((Sl_freeze.2 sp).app L) ((Sl_freeze.2 s).app L) ((Sl_freeze.2 q).app L) hwl hnm he'
 unfold newV newK at k23
 rw [mapU_len] at k23
 by_cases hm : lmE L ≠ 0
 ·simp only [he', hm]
  rcases Nat.eq_zero_or_pos l.length with z | z
  ·simp only [if_pos z] at k23
   simp [ef13, k23, k37, hm]
  ·simp only [if_neg (show l.length ≠ 0 by omega)] at k23
   simp [ef13, k23, k37, hm]
 have hm' : lmE L = 0 := by omega
 have k82 := fun lim hh i (hi : i < l.length) => c48 (d := d + 5) (lim := lim) (h := hh) (t := t) (u := atN l i) (L := L) (O.u i hi).sd (O.u i hi).f
 have k83 := fun lim hh p q => c49 (d := d + 8) (lim := lim) (h := hh) (p := p) (q := q)
 have k72 := fun lim A i hi => c47 (d := d + 2) (lim := lim) (i := i) (v := v) (Sl_freeze.2 ((Sl_freeze.2 sp).app A)) (Sl_freeze.2 ((Sl_freeze.2 s).app A)) (Sl_freeze.2 ((Sl_freeze.2 q).app A)) O hi
 rw [if_neg he, if_neg he, if_neg hm, if_neg hm]
 generalize hC : frst wl t l L 0 = C0
 rcases Nat.eq_zero_or_pos l.length with z | z
 ·rw [frst_ge (by omega)] at hC
  subst hC
  simp only [if_pos z] at k23
  simp [ef13, k23, k37, hm']
  rw [wpC_unroll, wpI_step (by simp [E_fuel'])]
  simp [-collect_own1, St.tidy, collect_box, so, qo, rs, r]
 have zi : l.length ≠ 0 := by omega
 simp only [if_neg zi] at k23
 have pl := cR_plain (mapU (ten wl t) l)
 have cl := cR_len (mapU (ten wl t) l)
 rw [mapU_len] at cl
 simp [ef13, k23, k37, hm']
 refine wpC_loop (fun y st => ∃ i, y = l.length - i ∧ i ≤ l.length ∧ frst wl t l L i = C0 ∧ st = ⟨[(2, .pointer (some ⟨h.length, 0, none⟩)), (3, .pointer (some ⟨h.length + 1, 0, none⟩)), (6, .slice (some ⟨h.length + 2, 0, none⟩) l.length 2), (24, .slice (some ⟨h.length + 2, 0, none⟩) l.length 2), (25, i64 (l.length : Int)), (26, i64 (i : Nat))],
  h.freeze ++ [some ⟨[i64 t, v, w], true⟩, some ⟨[i64 L.lo, i64 L.hi, i64 L.sh, i64 L.jp], true⟩, some ⟨cS encR (mapU (ten wl t) l), true⟩]⟩) l.length (by show l.length < 2 ^ 64; omega) ?_ ?_
 ·simp [-collect_own1, St.tidy, collect_box, so, qo, rs, r, pl]
  exact ⟨0, by omega, by omega, hC, rfl⟩
 ·rintro y hy _ ⟨i, rfl, hi, hc, rfl⟩
  by_cases hlt : i < l.length
  ·have w1' := w1 (i := i) (by omega)
   simp only [W] at w1'
   have hlti : (i : Int) < l.length := by omega
   have U := O.u i hlt
   have k2 : i * 2 + 2 ≤ l.length * 2 := by omega
   have p := cR_part (l := mapU (ten wl t) l) (i := i) (by rw [mapU_len]; exact hlt)
   rw [mapU_at hlt] at p
   have kx := fun lim hh => k82 lim hh i hlt
   have ky := fun lim A => k72 lim A i hlt
   rw [frst_lt hlt] at hc
   unfold badI at hc
   simp only [soV] at kx ky
   by_cases e1 : kpB wl t (atN l i) L = false
   ·rw [if_pos e1, if_neg (by simp)] at hc
    subst hc
    have ni : ¬ ((i : Int) = -1) := by omega
    simp [hlt, hlti, p, k2, cl, kx, ky, e1, w1', ni]
   ·rw [if_neg e1] at hc
    have e1' : kpB wl t (atN l i) L = true := by simpa using e1
    rcases Nat.eq_zero_or_pos i with z0 | z0
    ·subst z0
     simp only [Int.ofNat_zero] at ky
     rw [if_pos rfl, if_pos rfl] at hc
     simp only [Nat.zero_mul, List.drop_zero] at p
     simp [-collect_own1, z, hlt, hlti, p, k2, cl, pl, kx, ky, e1', St.tidy, collect_box, so, qo, rs, r, Nat.add_assoc]
     exact ⟨l.length - 1, by omega, 1, by omega, by omega, hc, by omega⟩
    ·have zi0 : i ≠ 0 := by omega
     rw [if_neg zi0] at hc
     have ip : (0 : Int) < i := by omega
     have wi := w1s z0 (by omega)
     have ipl : ((i - 1 : Nat) : Int) < l.length := by omega
     have k2p : (i - 1) * 2 + 2 ≤ l.length * 2 := by omega
     have pp := cR_part (l := mapU (ten wl t) l) (i := i - 1) (by rw [mapU_len]; omega)
     rw [mapU_at (by omega)] at pp
     generalize hA : ten wl t (atN l i) = A at *
     generalize hB : ten wl t (atN l (i - 1)) = B at *
     have k83' := fun lim hh => k83 lim hh B A
     generalize hip : i - 1 = m at *
     by_cases e2 : L.jp < jmp B A
     ·rw [if_neg (by simp [e2])] at hc
      subst hc
      have ni : ¬ ((i : Int) = -1) := by omega
      simp [hlt, hlti, p, k2, cl, kx, ky, e1', w1', ip, z0, wi, ipl, k2p, pp, k83', e2, ni]
     ·rw [if_pos (by simpa using e2)] at hc
      simp [-collect_own1, hlt, hlti, p, k2, cl, pl, kx, ky, e1', w1', ip, z0, wi, ipl, k2p, pp, k83', e2, St.tidy, collect_box, so, qo, rs, r, Nat.add_assoc]
      exact ⟨l.length - (i + 1), by omega, i + 1, by omega, by omega, hc, by omega⟩
  ·obtain rfl : i = l.length := by omega
   rw [frst_ge (by omega)] at hc
   subst hc
   simp
end R
end Go.Abs
namespace Go.Abs
namespace R
set_option maxRecDepth 100000
set_option maxHeartbeats 0
abbrev qL (L : Lm) : Option Blk := some ⟨[i64 L.lo, i64 L.hi, i64 L.sh, i64 L.jp], true⟩
end R
end Go.Abs
