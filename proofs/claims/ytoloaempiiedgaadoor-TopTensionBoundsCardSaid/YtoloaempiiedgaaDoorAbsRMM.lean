--
import Derived.Test.YtoloaempiiedgaaDoorAbsRKP
import Derived.Test.YtoloaempiiedgaaDoorAbsRNN
import Derived.Test.YtoloaempiiedgaaDoorAbsRVM
import Derived.Test.YtoloaempiiedgaaDoorAbsRZ1
import Derived.Test.YtoloaempiiedgaaDoorAbsRKO
import Derived.Test.YtoloaempiiedgaaDoorAbsRKN
import Derived.Test.YtoloaempiiedgaaDoorAbsRT1
set_option linter.unusedSimpArgs false
set_option linter.unusedVariables false
namespace Go.Abs
namespace R
set_option maxRecDepth 100000
section
variable {A A' : Nat → List Bool} {P P' : Nat → List XR} {jp : Int} {m m' n : Nat}
structure Cho (A : Nat → List Bool) (P : Nat → List XR) (jp : Int) (m n : Nat) (C : List Int) : Prop where
 len : C.length = n
 al : ∀ i, i < n → ∃ g : Nat, gx C i = g ∧ g < m ∧ bx (A i) g = true
 tg : ∀ i, i + 1 < n → togB A P jp i (gx C i).toNat (gx C (i + 1)).toNat = true
theorem cho_ok {h : Heap} {ga po : Value} {c e' : Int} (ha : ∀ i, i < n → (A i).length = m) (hm : m ≤ 1000) (S : choS A P jp m n 0 h ga po c e') :
  (fsN (badR A P jp m) n 0 < n ∧ ga = .slice none 0 0 ∧ po = .slice none 0 0 ∧ c = (fsN (badR A P jp m) n 0 : Int) ∧ e' = 12) ∨
  (¬ fsN (badR A P jp m) n 0 < n ∧ e' = 0 ∧ (0 < n → c = gx (potR A P jp m (n - 1)) (pg A P jp m n (n - 1))) ∧ (n = 0 → c = 0) ∧ ∃ C, SlI' h ga C ∧ Cho A P jp m n C ∧ slN po = some n) := by
 unfold choS at S
 by_cases n0 : n = 0
 ·rw [if_pos (.inr n0)] at S
  obtain ⟨rfl, rfl, rfl, rfl⟩ := S
  subst n0
  exact .inr ⟨by omega, rfl, fun h => by omega, fun _ => rfl, [], ⟨rfl, rfl, fun q => absurd rfl q, .inl rfl, fun k hk => by simp at hk⟩, ⟨rfl, fun i hi => by omega, fun i hi => by omega⟩, rfl⟩
 ·rw [if_neg (by omega)] at S
  by_cases q : fsN (badR A P jp m) n 0 < n
  ·rw [if_pos q] at S
   exact .inl ⟨q, S⟩
  ·rw [if_neg q] at S
   obtain ⟨sg, ⟨us, np⟩, rfl, rfl⟩ := S
   have nbl : badR A P jp m (n - 1) = false := (fsN_spec (p := badR A P jp m) (n := n) n 0 rfl (Nat.zero_le _)).2.2.2 (n - 1) (Nat.zero_le _) (by omega)
   have pk := fun j hj => pq_ok (P := P) (jp := jp) ha hm nbl j hj
   have Cg : ∀ i, i < n → gx (glS A P jp m n 0) i = (pg A P jp m n i : Int) := fun i hi => by rw [glS_gx hi, if_pos (Nat.zero_le _)]
   refine .inr ⟨q, rfl, fun _ => rfl, fun z => absurd z n0, _, sg, ⟨glS_len, fun i hi => ?_, fun i hi => ?_⟩, np.sl.len⟩
   ·obtain ⟨h1, h2, _⟩ := pk (n - 1 - i) (by omega)
    rw [show n - 1 - (n - 1 - i) = i by omega] at h2
    exact ⟨_, Cg i hi, h1, h2⟩
   ·obtain ⟨_, _, _, h4⟩ := pk (n - 1 - i) (by omega)
    have := (h4 (n - 1 - (i + 1)) (by omega)).1
    rw [show n - 1 - (n - 1 - i) = i by omega] at this
    rw [Cg i (by omega), Cg (i + 1) hi, Int.toNat_natCast, Int.toNat_natCast]
    exact this
end
theorem setU_at {l : List Un} {g ix : List Int} : ∀ (k i : Nat), i < l.length → atN (setU l g ix k) i = if i < k then upC (atN l i) (gx g (gx ix i).toNat) else atN l i
 | 0, i, hi => by rw [if_neg (by omega)]; rfl
 | k + 1, i, hi => by
  have ih := setU_at (l := l) (g := g) (ix := ix) k i hi
  have sl := setU_len l g ix k
  rw [setU]
  by_cases e : i = k
  ·subst e
   rw [if_neg (by omega)] at ih
   rw [if_pos (by omega), ih]
   unfold atN
   rw [List.getElem?_set_self (by omega)]
   rfl
  ·have : atN ((setU l g ix k).set k (upC (atN (setU l g ix k) k) (gx g (gx ix k).toNat))) i = atN (setU l g ix k) i := by
    unfold atN
    rw [List.getElem?_set_ne (Ne.symm e)]
   rw [this, ih]
   by_cases z : i < k
   ·rw [if_pos z, if_pos (by omega)]
   ·rw [if_neg z, if_neg (by omega)]
theorem with_ok {wl : List Wi} {t : Int} {l : List Un} {L : Lm} {G C : List Int} (he : erA t wl l L G = 0) (hc : Cho (fun i => alR wl t (atN l i) L G) (fun i => plR wl t (atN l i) G) L.jp G.length l.length C) :
  ixL G C 0 = 0 ∧ (stE t wl (setU l G C l.length)).2 = 0 ∧ kpI wl t (setU l G C l.length) L = -1 ∧ kpE wl t (setU l G C l.length) L = 0 := by
 obtain ⟨he1, he2, he3⟩ := erA_parts he
 have O := StOk.of he1
 have ck : ∀ j, j < l.length → uErr wl t l j = 0 := by
  have h := he1
  unfold stE at h
  rw [if_neg (by rw [O.fork]; decide), if_neg (by rw [O.w]; decide), if_neg (by have := O.few; omega)] at h
  exact fun j hj => chkUL_all l.length 0 rfl h j (Nat.zero_le _) hj
 have al : ∀ i, i < l.length → ∃ g : Nat, gx C i = g ∧ g < G.length ∧ sErr wl (cor (atN l i) (gx G g)).sd = 0 ∧ kpB wl t (cor (atN l i) (gx G g)) L = true := fun i hi => by
  obtain ⟨g, e, gm, gb⟩ := hc.al i hi
  have gb : bx (alR wl t (atN l i) L G) g = true := gb
  have e2 : bx (alR wl t (atN l i) L G) g = alB wl t (atN l i) L (gx G g) := by simp [bx, alR, gx, gm]
  rw [e2] at gb
  unfold alB at gb
  simp only [Bool.and_eq_true, decide_eq_true_eq] at gb
  exact ⟨g, e, gm, gb.1, gb.2⟩
 have at' : ∀ i, i < l.length → atN (setU l G C l.length) i = cor (atN l i) (gx G (gx C i).toNat) := fun i hi => by
  rw [setU_at _ _ hi, if_pos hi]; rfl
 have ix0 : ∀ (k i : Nat), C.length - i = k → i ≤ C.length → ixL G C i = 0 := by
  intro k
  induction k with
  | zero => intro i h1 h2; exact ixL_ge (by omega)
  | succ k ih =>
   intro i h1 h2
   have hl := hc.len
   obtain ⟨g, e, gm, _⟩ := al i (by omega)
   rw [ixL_lt (by omega), if_pos (by unfold within; rw [e]; exact decide_eq_true (by omega))]
   exact ih (i + 1) (by omega) (by omega)
 have u0 : ∀ i, i < l.length → uErr wl t (setU l G C l.length) i = 0 := fun i hi => by
  obtain ⟨g, e, gm, s0, _⟩ := al i hi
  have h := ck i hi
  have hp : 0 < i → ordU (atN (setU l G C l.length) i) (atN (setU l G C l.length) (i - 1)) = ordU (atN l i) (atN l (i - 1)) := fun z => by
   rw [at' i hi, at' (i - 1) (by omega)]; rfl
  unfold uErr at h ⊢
  have o : (0 < i ∧ ordU (atN (setU l G C l.length) i) (atN (setU l G C l.length) (i - 1)) ≤ 0) = (0 < i ∧ ordU (atN l i) (atN l (i - 1)) ≤ 0) := by
   by_cases z : 0 < i
   ·rw [hp z]
   ·simp [z]
  simp only [o]
  rw [at' i hi, e, Int.toNat_natCast]
  have e1 : isP (cor (atN l i) (gx G g)) = isP (atN l i) := rfl
  have e2 : (cor (atN l i) (gx G g)).count = (atN l i).count := rfl
  have e3 : fE (cor (atN l i) (gx G g)) t = fE (atN l i) t := rfl
  have e4 : fL (cor (atN l i) (gx G g)) t = fL (atN l i) t := rfl
  have e5 : fH (cor (atN l i) (gx G g)) t = fH (atN l i) t := rfl
  rw [e1, e2, e3, e4, e5, s0]
  by_cases a1 : isP (atN l i) = false
  ·rw [if_pos a1] at h; exact absurd h (by decide)
  rw [if_neg a1] at h ⊢
  by_cases a2 : within (atN l i).count 1 4 = false
  ·rw [if_pos a2] at h; exact absurd h (by decide)
  rw [if_neg a2] at h ⊢
  rw [if_neg (by simp)]
  by_cases a3 : sErr wl (atN l i).sd ≠ 0
  ·rw [if_pos a3] at h; exact absurd h a3
  rw [if_neg a3] at h
  exact h
 have sl := setU_len l G C l.length
 have ch0 : ∀ (k i : Nat), l.length - i = k → chkUL wl t (setU l G C l.length) i = (0, 0) := by
  intro k
  induction k with
  | zero => intro i h1; exact chkUL_ge (by rw [sl]; omega)
  | succ k ih =>
   intro i h1
   rw [chkUL_lt (by rw [sl]; omega), if_pos (u0 i (by omega))]
   exact ih (i + 1) (by omega)
 have st0 : (stE t wl (setU l G C l.length)).2 = 0 := by
  unfold stE
  rw [if_neg (by rw [O.fork]; decide), if_neg (by rw [O.w]; decide), if_neg (by have := O.few; rw [sl]; omega), ch0 l.length 0 rfl]
 have bad0 : ∀ i, i < l.length → badI wl t (setU l G C l.length) L i = false := fun i hi => by
  obtain ⟨g, e, gm, s0, kb⟩ := al i hi
  unfold badI
  rw [at' i hi, e, Int.toNat_natCast, kb, if_neg (by decide)]
  by_cases z : i = 0
  ·rw [if_pos z]
  ·rw [if_neg z, at' (i - 1) (by omega)]
   obtain ⟨g', e', gm', s0', _⟩ := al (i - 1) (by omega)
   have tg := hc.tg (i - 1) (by omega)
   rw [show i - 1 + 1 = i by omega, e, e', Int.toNat_natCast, Int.toNat_natCast] at tg
   unfold togB at tg
   simp only [Bool.and_eq_true, decide_eq_true_eq, show i - 1 + 1 = i by omega] at tg
   have f1 : ∀ (u : Un) (x : Nat), x < G.length → sErr wl (cor u (gx G x)).sd = 0 → atR (plR wl t u G) x = ten wl t (cor u (gx G x)) := fun u x hx h0 => by
    have e : atR (plR wl t u G) x = plX wl t u (gx G x) := by simp [atR, plR, gx, hx]
    rw [e]; unfold plX; rw [if_pos h0]
   rw [f1 _ _ gm s0, f1 _ _ gm' s0'] at tg
   rw [e', Int.toNat_natCast]
   exact decide_eq_false (by omega)
 have fr : ∀ (k i : Nat), l.length - i = k → frst wl t (setU l G C l.length) L i = -1 := by
  intro k
  induction k with
  | zero => intro i h1; exact frst_ge (by rw [sl]; omega)
  | succ k ih =>
   intro i h1
   rw [frst_lt (by rw [sl]; omega), if_pos (bad0 i (by omega))]
   exact ih (i + 1) (by omega)
 have f0 := fr l.length 0 rfl
 refine ⟨ix0 C.length 0 rfl (Nat.zero_le _), st0, ?_, ?_⟩
 ·unfold kpI
  rw [if_neg (by simpa using st0), if_neg (by simpa using he2), f0]
 ·unfold kpE
  rw [if_neg (by simpa using st0), if_neg (by simpa using he2), f0]
  rfl
end R
end Go.Abs
namespace Go.Abs
namespace R
set_option maxRecDepth 100000
set_option maxHeartbeats 0
theorem Sl_unf {es : Nat} {X : Heap} {K : List (Option Blk)} {v : Value} {n : Nat} {cs : List Value} (s : Sl es (X.freeze ++ K) v n cs) : Sl es (X ++ K) v n cs := by
 have e : Heap.freeze (X.freeze ++ K) = Heap.freeze (X ++ K) := by
  unfold Heap.freeze
  rw [List.map_append, List.map_append, List.map_map]
  congr 1
  apply List.map_congr_left
  intro a _
  cases a <;> rfl
 have t := Sl_freeze.2 s
 rw [e] at t
 exact Sl_freeze.1 t
theorem cho_one {A : Nat → List Bool} {P : Nat → List XR} {jp : Int} {m n : Nat} {h : Heap} {ga po : Value} {c e' : Int} (S : choS A P jp m n 0 h ga po c e') : Value.oneCell' ga = true ∧ Value.oneCell' po = true := by
 unfold choS at S
 split at S
 ·obtain ⟨rfl, rfl, _⟩ := S; exact ⟨rfl, rfl⟩
 ·split at S
  ·obtain ⟨rfl, rfl, _⟩ := S; exact ⟨rfl, rfl⟩
  ·obtain ⟨sg, ⟨us, np⟩, _⟩ := S
   exact ⟨Sl_one sg, Sl_one np.sl⟩
theorem c12g {d lim bv ov bw ow : Nat} {h : Heap} {vg vx : Value} {wl : List Wi} {l : List Un} {G C : List Int} {t : Int} {L : Lm} (sp : Pr h) (s : SlW h (.slice (some ⟨bv, ov, none⟩) wl.length 4) wl) (q : SlN h (.slice (some ⟨bw, ow, none⟩) l.length 10) l)
  (sg : SlI' h vg G) (sx : SlI' h vx C) (hwl : wl.length ≤ 1000) (hnm : Nms wl) (he : erA t wl l L G = 0) (hc : Cho (fun i => alR wl t (atN l i) L G) (fun i => plR wl t (atN l i) G) L.jp G.length l.length C) :
  E.call (d + 9) lim 12 [stV t (.slice (some ⟨bv, ov, none⟩) wl.length 4) (.slice (some ⟨bw, ow, none⟩) l.length 10), vg, vx] h = some (.tuple #[stV t (.slice (some ⟨h.length, 0, none⟩) wl.length 4) (.slice (some ⟨h.length + 1, 0, none⟩) l.length 10), i64 0], h ++ [some ⟨cS encW wl, true⟩, some ⟨cS encN (setU l G C l.length), true⟩]) := by
 obtain ⟨he1, he2, he3⟩ := erA_parts he
 obtain ⟨w1, w2, _⟩ := with_ok he hc
 have hl := hc.len
 rcases Nat.eq_zero_or_pos l.length with z | z
 ·have el : l = [] := List.eq_nil_of_length_eq_zero z
  subst el
  exact c12z sp s q sg sx hwl hnm he1 he3 (by omega)
 ·exact c12 sp s q sg sx hwl hnm he1 he3 hl (by omega) (.inr (.inr ⟨w1, w2, rfl, rfl⟩))
end R
end Go.Abs
namespace Go.Abs
namespace R
set_option maxRecDepth 100000
section
variable {A : Nat → List Bool} {P : Nat → List XR} {jp : Int} {m n : Nat}
theorem path_pot {g : Nat → Nat} (ha : ∀ i, i < n → (A i).length = m) (hm : m ≤ 1000) : ∀ i, i < n → (∀ j, j ≤ i → g j < m ∧ bx (A j) (g j) = true) → (∀ j, j < i → togB A P jp j (g j) (g (j + 1)) = true) → gx (potR A P jp m i) (g i) ≤ 1000 * (i : Int)
 | 0, h, hg, ht => by rw [pot_0 ha h (hg 0 (Nat.le_refl _)).1]; omega
 | i + 1, h, hg, ht => by
  have ih := path_pot (g := g) ha hm i (by omega) (fun j hj => hg j (by omega)) (fun j hj => ht j (by omega))
  obtain ⟨g1, g2⟩ := hg (i + 1) (Nat.le_refl _)
  obtain ⟨f1, _⟩ := hg i (by omega)
  have := (pot_next (P := P) (jp := jp) ha hm h g1).1 g2 (g i) f1 (ht i (by omega))
  have := gp_bd f1 g1
  omega
theorem path_bad {g : Nat → Nat} {i : Nat} (ha : ∀ i, i < n → (A i).length = m) (hm : m ≤ 1000) (hn : n ≤ 100) (hi : i < n) (hb : badR A P jp m i = true) (hg : ∀ j, j ≤ i → g j < m ∧ bx (A j) (g j) = true) (ht : ∀ j, j < i → togB A P jp j (g j) (g (j + 1)) = true) : False := by
 have p := path_pot (P := P) (jp := jp) ha hm i hi hg ht
 have hb := of_decide_eq_true hb
 obtain ⟨g1, g2⟩ := hg i (Nat.le_refl _)
 rcases lsI_spec (R := A i) (l := potR A P jp m i) m with ⟨_, h2⟩ | ⟨b, h1, _⟩
 ·exact h2 (g i) g1 g2 (by omega)
 ·omega
end
theorem uErr_s {wl : List Wi} {t : Int} {l : List Un} {i : Nat} (h : uErr wl t l i = 0) : sErr wl (atN l i).sd = 0 := by
 unfold uErr at h
 by_cases a1 : isP (atN l i) = false
 ·rw [if_pos a1] at h; exact absurd h (by decide)
 rw [if_neg a1] at h
 by_cases a2 : within (atN l i).count 1 4 = false
 ·rw [if_pos a2] at h; exact absurd h (by decide)
 rw [if_neg a2] at h
 by_cases a3 : sErr wl (atN l i).sd ≠ 0
 ·rw [if_pos a3] at h; exact h
 ·omega
theorem frst_all {wl : List Wi} {t : Int} {l : List Un} {L : Lm} : ∀ (k i : Nat), l.length - i = k → frst wl t l L i = -1 → ∀ j, i ≤ j → j < l.length → badI wl t l L j = false
 | 0, i, hk, _, j, h1, h2 => by omega
 | k + 1, i, hk, h, j, h1, h2 => by
  rw [frst_lt (by omega)] at h
  rcases q : badI wl t l L i with _ | _
  ·rw [if_pos q] at h
   by_cases e : j = i
   ·subst e; exact q
   ·exact frst_all k (i + 1) (by omega) h j (by omega) h2
  ·rw [if_neg (by rw [q]; decide)] at h; omega
theorem kp_bad {wl : List Wi} {t : Int} {l lx : List Un} {L : Lm} {G : List Int} {r : Nat} {g : Nat → Nat} (hm : G.length ≤ 1000) (hl : l.length ≤ 100) (hr : r < l.length) (hb : badR (fun i => alR wl t (atN l i) L G) (fun i => plR wl t (atN l i) G) L.jp G.length r = true)
  (len : lx.length = r + 1) (hx : ∀ i, i ≤ r → g i < G.length ∧ atN lx i = cor (atN l i) (gx G (g i))) : kpE wl t lx L ≠ 0 := by
 intro h
 unfold kpE at h
 by_cases h1 : (stE t wl lx).2 ≠ 0
 ·rw [if_pos h1] at h; exact h1 h
 rw [if_neg h1] at h
 by_cases h2 : lmE L ≠ 0
 ·rw [if_pos h2] at h; exact h2 h
 rw [if_neg h2] at h
 by_cases h3 : frst wl t lx L 0 = -1
 ·have O := StOk.of (show (stE t wl lx).2 = 0 by omega)
  have fa := frst_all lx.length 0 rfl h3
  have ck : ∀ j, j < lx.length → uErr wl t lx j = 0 := by
   have h : (stE t wl lx).2 = 0 := by omega
   unfold stE at h
   rw [if_neg (by rw [O.fork]; decide), if_neg (by rw [O.w]; decide), if_neg (by have := O.few; omega)] at h
   exact fun j hj => chkUL_all lx.length 0 rfl h j (Nat.zero_le _) hj
  have al : ∀ i, i ≤ r → sErr wl (cor (atN l i) (gx G (g i))).sd = 0 ∧ kpB wl t (cor (atN l i) (gx G (g i))) L = true := fun i hi => by
   have U := uErr_s (ck i (by omega))
   have b := fa i (Nat.zero_le _) (by omega)
   rw [(hx i hi).2] at U
   unfold badI at b
   rw [(hx i hi).2] at b
   refine ⟨?_, ?_⟩
   ·exact U
   ·rcases q : kpB wl t (cor (atN l i) (gx G (g i))) L with _ | _
    ·rw [if_pos q] at b; cases b
    ·rfl
  have at0 : ∀ i, i ≤ r → bx (alR wl t (atN l i) L G) (g i) = true := fun i hi => by
   obtain ⟨g1, _⟩ := hx i hi
   have e : bx (alR wl t (atN l i) L G) (g i) = alB wl t (atN l i) L (gx G (g i)) := by simp [bx, alR, gx, g1]
   rw [e]; unfold alB
   rw [(al i hi).1, (al i hi).2]; rfl
  have pl : ∀ i, i ≤ r → atR (plR wl t (atN l i) G) (g i) = ten wl t (cor (atN l i) (gx G (g i))) := fun i hi => by
   obtain ⟨g1, _⟩ := hx i hi
   have e : atR (plR wl t (atN l i) G) (g i) = plX wl t (atN l i) (gx G (g i)) := by simp [atR, plR, gx, g1]
   rw [e]; unfold plX; rw [if_pos (al i hi).1]
  refine path_bad (g := g) (n := l.length) (fun i _ => alR_len ..) hm hl hr hb (fun j hj => ⟨(hx j hj).1, at0 j hj⟩) fun j hj => ?_
  have b := fa (j + 1) (Nat.zero_le _) (by omega)
  unfold badI at b
  rw [(hx (j + 1) (by omega)).2, (al (j + 1) (by omega)).2, if_neg (by decide), if_neg (by omega), Nat.add_sub_cancel, (hx j (by omega)).2] at b
  unfold togB
  rw [at0 j (by omega), at0 (j + 1) (by omega), pl j (by omega), pl (j + 1) (by omega)]
  have := of_decide_eq_false b
  simp only [Bool.and_self, Bool.true_and, decide_eq_true_eq]
  omega
 ·rw [if_neg h3] at h; exact absurd h (by decide)
end R
end Go.Abs
namespace Go.Abs
namespace R
set_option maxRecDepth 100000
def OutE (base : Nat) (L : List (Option Blk)) (c : Nat) (v : Value) (l : List Un) : Prop :=
 (l = [] ∧ v = .slice none 0 0) ∨ (l ≠ [] ∧ v = .slice (some ⟨base + c, 0, none⟩) l.length 10 ∧ L[c]? = some (some ⟨cS encN l, true⟩))
theorem OutE.keep {base : Nat} {L L' : List (Option Blk)} {c : Nat} {v : Value} {l : List Un} (g : OutE base L c v l) (k : l ≠ [] → L'[c]? = L[c]?) : OutE base L' c v l := by
 rcases g with g | ⟨h1, h2, h3⟩
 ·exact .inl g
 ·exact .inr ⟨h1, h2, by rw [k h1, h3]⟩
theorem OutE.lt {base : Nat} {L : List (Option Blk)} {c : Nat} {v : Value} {l : List Un} (g : OutE base L c v l) (h : l ≠ []) : c < L.length := by
 rcases g with g | ⟨_, _, h3⟩
 ·exact absurd g.1 h
 ·exact lget_lt h3
theorem encN_len (u : Un) : (encN u).length = 10 := rfl
theorem OutE.sl {H : Heap} {L : List (Option Blk)} {c : Nat} {v : Value} {l : List Un} (g : OutE H.length L c v l) : SlN (H ++ L) v l := by
 rcases g with ⟨rfl, rfl⟩ | ⟨_, rfl, h⟩
 ·exact ⟨rfl, rfl, fun q => absurd rfl q, .inl rfl, fun k hk => by simp at hk⟩
 ·exact Sl_own (f := encN) (es := 10) encN_len (by rw [hget_base rfl, h]; rfl) rfl
theorem OutE.appendT {B : Heap} {M : List (Option Blk)} {c : Nat} {v : Value} {l : List Un} {u : Un} (g : OutE B.length M c v l) (hl : l.length ≤ 1000) :
  ∃ o M', E.append (Heap.trim (B ++ (M ++ [some ⟨encN u, true⟩])) v) 10 96 v (.slice (some ⟨B.length + M.length, 0, none⟩) 1 10) = some o ∧ o.val = .slice (some ⟨B.length + (M.length + 1), 0, none⟩) (l.length + 1) 10 ∧
   o.eff.apply (B ++ (M ++ [some ⟨encN u, true⟩])) = B ++ M' ∧ o.eff.writes = (if l = [] then [] else [B.length + c]) ∧ M'.length = M.length + 2 ∧ M'[M.length + 1]? = some (some ⟨cS encN (l ++ [u]), true⟩) ∧ (∀ j, j < M.length → (l ≠ [] → j ≠ c) → M'[j]? = M[j]?) := by
 have gx : Heap.get (B ++ (M ++ [some ⟨encN u, true⟩])) (B.length + M.length) = some ⟨encN u, true⟩ := by rw [hget_base rfl, lget_right0 rfl]; rfl
 have ln : (B ++ (M ++ [some (Blk.mk (encN u) true)])).length = B.length + (M.length + 1) := by simp
 have a1 : (encN u).all Value.oneCell' = true := rfl
 have cl : (cS encN l).length = l.length * 10 := cS_len encN_len l
 have ca : cS encN (l ++ [u]) = cS encN l ++ encN u := by simp [cS]
 rcases g with ⟨rfl, rfl⟩ | ⟨hne, rfl, hg⟩
 ·rw [show Heap.trim (B ++ (M ++ [some (Blk.mk (encN u) true)])) (.slice none 0 0) = B ++ (M ++ [some (Blk.mk (encN u) true)]) from rfl]
  refine ⟨_, M ++ [some ⟨encN u, true⟩, some ⟨encN u, true⟩], app_one0 gx (encN_len u) a1 (by decide) (by decide), by simp only [ln]; rfl, by simp [Eff.apply, Heap.push], rfl, by simp, by rw [lget_right rfl]; simp [cS], fun j hj _ => lget_left hj⟩
 ·have lc := lget_lt hg
  have gc : Heap.get (B ++ (M ++ [some ⟨encN u, true⟩])) (B.length + c) = some ⟨cS encN l, true⟩ := by rw [hget_base rfl, lget_left lc, hg]; rfl
  have tr : Heap.trim (B ++ (M ++ [some ⟨encN u, true⟩])) (.slice (some ⟨B.length + c, 0, none⟩) l.length 10) = B ++ (M ++ [some ⟨encN u, true⟩]) := by
   unfold Heap.trim
   simp only [gc]
   rw [Nat.zero_add, ← cl, List.take_length, hput_base rfl]
   congr 1
   apply List.ext_getElem?
   intro j
   by_cases q : c = j
   ·subst q; rw [List.getElem?_set_self (by simp; omega), lget_left lc, hg]
   ·rw [List.getElem?_set_ne q]
  rw [tr]
  refine ⟨_, M.set c none ++ [some ⟨encN u, true⟩, some ⟨cS encN (l ++ [u]), true⟩], app_one gc (by rw [cl]) (by decide) gx (encN_len u) a1 (by omega) (by omega), by simp only [ln], ?_, by rw [if_neg hne]; rfl, by simp, ?_, fun j hj h => ?_⟩
  ·simp only [Eff.apply]
   rw [hput_base rfl, lset_left lc, ca]
   simp [Heap.push]
  ·rw [show M.length + 1 = (M.set c none).length + 1 by simp, lget_right rfl]; rfl
  ·rw [lget_left (by simpa using hj), List.getElem?_set_ne (fun e => h hne e.symm)]
end R
end Go.Abs
namespace Go.Abs
namespace R
set_option maxRecDepth 100000
set_option maxHeartbeats 0
theorem c43e {d : Nat} {h : Heap} {w : Value} (q : SlN h w []) : ∃ w' bs, (∀ lim, E.call (d + 1) lim 43 [w] h = some (w', h ++ bs)) ∧ ((w' = .slice none 0 0 ∧ bs = []) ∨ (w' = .slice (some ⟨h.length, 0, none⟩) 0 10 ∧ bs = [some ⟨cS encN [], true⟩])) := by
 rcases q.low with rfl | ⟨b, o, m, t, rfl, hb⟩
 ·exact ⟨.slice none 0 0, [], fun lim => call_pure fn43 rfl (by simp [ef43]) (by simp [ef43]), .inl ⟨rfl, rfl⟩⟩
 ·obtain rfl : m = 0 := by have := q.len; simpa using this
  exact ⟨.slice (some ⟨h.length, 0, none⟩) 0 10, [some ⟨cS encN [], true⟩], fun lim => call_pure fn43 rfl (by simp [ef43]) (by simp [ef43, E.append, E.added, zeros, fillL, cS, Blk_addrs_nil, Blk_ren_nil]), .inr ⟨rfl, rfl⟩⟩
theorem c42e {d : Nat} {h : Heap} {v : Value} {wl : List Wi} (s : SlW h v wl) (hl : wl.length ≤ 1000) : ∃ v' bs, (∀ lim, E.call (d + 1) lim 42 [v] h = some (v', h ++ bs)) ∧ ((wl = [] ∧ v' = .slice none 0 0 ∧ bs = []) ∨ (v' = .slice (some ⟨h.length, 0, none⟩) wl.length 4 ∧ bs = [some ⟨cS encW wl, true⟩])) := by
 rcases Nat.eq_zero_or_pos wl.length with z | z
 ·have el : wl = [] := List.eq_nil_of_length_eq_zero z
  subst el
  rcases s.low with rfl | ⟨b, o, m, t, rfl, hb⟩
  ·exact ⟨.slice none 0 0, [], fun lim => call_pure fn42 rfl (by simp [ef42]) (by simp [ef42]), .inl ⟨rfl, rfl, rfl⟩⟩
  ·obtain rfl : m = 0 := by have := s.len; simpa using this
   exact ⟨.slice (some ⟨h.length, 0, none⟩) 0 4, [some ⟨cS encW [], true⟩], fun lim => call_pure fn42 rfl (by simp [ef42]) (by simp [ef42, E.append, E.added, zeros, fillL, cS, Blk_addrs_nil, Blk_ren_nil]), .inr ⟨rfl, rfl⟩⟩
 ·obtain ⟨bv, ov, rfl⟩ : ∃ bv ov, v = .slice (some ⟨bv, ov, none⟩) wl.length 4 := ⟨_, _, s.addr (by omega)⟩
  exact ⟨_, _, fun lim => c42 s hl, .inr ⟨rfl, rfl⟩⟩
theorem c12n {d lim : Nat} {h : Heap} {v w vg : Value} {wl : List Wi} {g : List Int} {t : Int} (sp : Pr h) (s : SlW h v wl) (q : SlN h w []) (sg : SlI' h vg g) (hwl : wl.length ≤ 1000) (hnm : Nms wl) (he : (stE t wl []).2 = 0) (hg : ggE g = 0) :
  ∃ v' w' bs, E.call (d + 9) lim 12 [stV t v w, vg, .slice none 0 0] h = some (.tuple #[stV t v' w', i64 0], h ++ bs) ∧ slN w' = some 0 ∧ Value.oneCell' v' = true ∧ Value.oneCell' w' = true := by
 obtain ⟨gl1, gl2⟩ := ggE_len hg
 obtain ⟨bg, og, rfl⟩ : ∃ bg og, vg = .slice (some ⟨bg, og, none⟩) g.length 1 := ⟨_, _, sg.addr (by omega)⟩
 have hbg := sg.lt (by omega)
 simp only [slB_some] at hbg
 have so := s.own
 have qo := q.own
 have rs := s.rules2
 have rq := q.rules2
 have spA := fun A => (Sl_freeze.2 sp).app A
 have k21 := fun lim L => c40 (d := d) (lim := lim) (t := t) ((Sl_freeze.2 sp).app L) ((Sl_freeze.2 s).app L) ((Sl_freeze.2 q).app L) hwl hnm
 have k79 := fun lim L => c41 (d := d + 6) (lim := lim) ((Sl_freeze.2 sg).app L)
 have pw := cW_plain wl
 have pu := cU_plain []
 have nW : ∀ hh : Heap, SlW hh (.slice none 0 0) [] := fun hh => ⟨rfl, rfl, fun q => absurd rfl q, .inl rfl, fun k hk => by simp at hk⟩
 have nN : ∀ hh : Heap, SlN hh (.slice none 0 0) [] := fun hh => ⟨rfl, rfl, fun q => absurd rfl q, .inl rfl, fun k hk => by simp at hk⟩
 have o1 := Sl_one s
 have o2 := Sl_one q
 simp only [Value.oneCell'] at o1 o2
 obtain ⟨v1, b1, k42, c42'⟩ := c42e (d := d + 7) (Sl_freeze.2 ((Sl_freeze.2 s).app [qB t v w, some ⟨[i64 0, .slice none 0 0, .slice none 0 0], true⟩])) hwl
 obtain ⟨w1, b2, k43, c43'⟩ := c43e (d := d + 7) (Sl_freeze.2 ((Sl_freeze.2 q).app ([qB t v w, some ⟨[i64 0, .slice none 0 0, .slice none 0 0], true⟩] ++ b1)))
 rcases c42' with ⟨rfl, rfl, rfl⟩ | ⟨rfl, rfl⟩
 ·rcases c43' with ⟨rfl, rfl⟩ | ⟨rfl, rfl⟩
  ·have kE := fun lim T1 T2 => c40 (d := d) (lim := lim) (t := t) (spA [T1, T2]) (nW _) (nN _) hwl hnm
   simp at k42
   simp at k43
   try simp at kE
   refine ⟨_, _, _, call_pure (v := .tuple #[stV t (.slice none 0 0) (.slice none 0 0), i64 0]) (bs := []) fn12 rfl (by simp [ef12]) ?_, rfl, rfl, rfl⟩
   simp [ef12, k21, he, k79, hg, rq, k42, k43, o1, o2, Nat.add_assoc]
   rw [wpC_unroll, wpI_step (by simp [E_fuel'])]
   simp [St.tidy, hbg, pw, pu, kE, he, Nat.add_assoc]
  ·have kE := fun lim T1 T2 => c40 (d := d) (lim := lim) (t := t) (spA [T1, T2, some ⟨cS encN [], true⟩]) (nW _) (ownN (l := []) [T1, T2, some ⟨cS encN [], true⟩] (k := 2) rfl) hwl hnm
   simp at k42
   simp at k43
   try simp at kE
   refine ⟨_, _, _, call_pure (v := .tuple #[stV t (.slice none 0 0) (.slice (some ⟨h.length, 0, none⟩) 0 10), i64 0]) (bs := [some ⟨cS encN [], true⟩]) fn12 rfl (by simp [ef12]) ?_, rfl, rfl, rfl⟩
   simp [ef12, k21, he, k79, hg, rq, k42, k43, o1, o2, Nat.add_assoc]
   rw [wpC_unroll, wpI_step (by simp [E_fuel'])]
   simp [St.tidy, hbg, pw, pu, kE, he, Nat.add_assoc]
 ·rcases c43' with ⟨rfl, rfl⟩ | ⟨rfl, rfl⟩
  ·have kE := fun lim T1 T2 => c40 (d := d) (lim := lim) (t := t) (spA [T1, T2, some ⟨cS encW wl, true⟩]) (ownW (l := wl) [T1, T2, some ⟨cS encW wl, true⟩] (k := 2) rfl) (nN _) hwl hnm
   simp at k42
   simp at k43
   try simp at kE
   refine ⟨_, _, _, call_pure (v := .tuple #[stV t (.slice (some ⟨h.length, 0, none⟩) wl.length 4) (.slice none 0 0), i64 0]) (bs := [some ⟨cS encW wl, true⟩]) fn12 rfl (by simp [ef12]) ?_, rfl, rfl, rfl⟩
   simp [ef12, k21, he, k79, hg, rq, k42, k43, o1, o2, Nat.add_assoc]
   rw [wpC_unroll, wpI_step (by simp [E_fuel'])]
   simp [St.tidy, hbg, pw, pu, kE, he, Nat.add_assoc]
  ·have kE := fun lim T1 T2 => c40 (d := d) (lim := lim) (t := t) (spA [T1, T2, some ⟨cS encW wl, true⟩, some ⟨cS encN [], true⟩]) (ownW (l := wl) [T1, T2, some ⟨cS encW wl, true⟩, some ⟨cS encN [], true⟩] (k := 2) rfl) (ownN (l := []) [T1, T2, some ⟨cS encW wl, true⟩, some ⟨cS encN [], true⟩] (k := 3) rfl) hwl hnm
   simp at k42
   simp at k43
   try simp at kE
   refine ⟨_, _, _, call_pure (v := .tuple #[stV t (.slice (some ⟨h.length, 0, none⟩) wl.length 4) (.slice (some ⟨h.length + 1, 0, none⟩) 0 10), i64 0]) (bs := [some ⟨cS encW wl, true⟩, some ⟨cS encN [], true⟩]) fn12 rfl (by simp [ef12]) ?_, rfl, rfl, rfl⟩
   simp [ef12, k21, he, k79, hg, rq, k42, k43, o1, o2, Nat.add_assoc]
   rw [wpC_unroll, wpI_step (by simp [E_fuel'])]
   simp [St.tidy, hbg, pw, pu, kE, he, Nat.add_assoc]
end R
end Go.Abs
namespace Go.Abs
namespace R
set_option maxRecDepth 100000
set_option maxHeartbeats 0
def dgt (m k : Nat) : Nat → Nat
 | 0 => k
 | i + 1 => dgt m k i / m
def lxN (l : List Un) (G : List Int) (m k i : Nat) : List Un := (List.range i).map fun j => cor (atN l j) (gx G (dgt m k j % m))
theorem lxN_len {l : List Un} {G : List Int} {m k i : Nat} : (lxN l G m k i).length = i := by simp [lxN]
theorem lxN_snoc {l : List Un} {G : List Int} {m k i : Nat} : lxN l G m k (i + 1) = lxN l G m k i ++ [cor (atN l i) (gx G (dgt m k i % m))] := by
 unfold lxN; rw [List.range_succ, List.map_append]; rfl
theorem lxN_at {l : List Un} {G : List Int} {m k i j : Nat} (h : j < i) : atN (lxN l G m k i) j = cor (atN l j) (gx G (dgt m k j % m)) := by
 unfold lxN atN; simp [h]
theorem dgt_le {m k : Nat} : ∀ i, dgt m k i ≤ k
 | 0 => Nat.le_refl _
 | i + 1 => Nat.le_trans (Nat.div_le_self _ _) (dgt_le i)
theorem put_self {T : Heap} {b : Nat} {k : Blk} (e : T.get b = some k) : Heap.put T b (some k) = T := by
 apply List.ext_getElem?
 intro j
 have hb := Heap.get_lt e
 unfold Heap.put
 by_cases q : j = b
 ·subst q
  rw [List.getElem?_set_self hb]
  unfold Heap.get at e
  rcases z : T[j]? with _ | x
  ·rw [z] at e; cases e
  ·rw [z] at e; rw [← e]; rfl
 ·rw [List.getElem?_set_ne (Ne.symm q)]
theorem c27 {d lim : Nat} {h : Heap} {a b x y j : Int} : E.call (d + 1) lim 27 [rgV a b, rgV x y, i64 j] h = some (.bool (decide (j < IntKind.wrap .i64 (b - x)) || decide (j < IntKind.wrap .i64 (y - a))), h) := by
 refine call1 fn27 rfl (by simp [ef27]) ?_
 simp [ef27]
 exact ⟨fun h => .inl h, fun h1 h2 => by omega⟩
def pwN (m : Nat) : Nat → Nat
 | 0 => 1
 | i + 1 => pwN m i * m
theorem pwN_le {m : Nat} (h : m ≤ 3) : ∀ i, pwN m i ≤ 3 ^ i
 | 0 => Nat.le_refl _
 | i + 1 => by rw [pwN, Nat.pow_succ]; exact Nat.mul_le_mul (pwN_le h i) h
theorem pwN_81 {m i : Nat} (h : m ≤ 3) (hi : i ≤ 4) : pwN m i ≤ 81 := Nat.le_trans (pwN_le h i) (Nat.pow_le_pow_right (by decide) hi)
theorem c5 {d lim : Nat} {h : Heap} {v w gv : Value} {wl : List Wi} {l : List Un} {t : Int} {L : Lm} {G : List Int} (sp : Pr h) (s : SlW h v wl) (q : SlN h w l) (p : SlI' h gv G) (hlim : lim ≤ h.length) : ∃ h', E.call (d + 12) lim 5 [stV t v w, lmV L, gv] h = some (.bool true, h') := by
 have key : ∃ r h', E.call (d + 12) lim 5 [stV t v w, lmV L, gv] h = some (r, h') ∧ r = .bool true := by
  have rs := s.rules2
  have rq := q.rules2
  have rg := p.rules2
  have vc : v.cells = #[v] := by rcases s.low with e | ⟨_, _, _, _, e, _⟩ <;> rw [e] <;> rfl
  simp only [Value.cells] at vc
  have hpu : ∀ b, Heap.push h b = h ++ [some b] := fun _ => rfl
  have k20 := fun (M : Heap) lim => c20 (d := d + 3) (lim := lim) (sp.app M)
  have k7 := fun (M : Heap) lim => c7 (d := d + 9) (lim := lim) (t := t) (s.app M) (q.app M)
  have k21 := fun lim hh a b c => c21 (d := d + 10) (lim := lim) (h := hh) (a := a) (b := b) (c := c)
  have k22 := fun lim hh => c22 (d := d + 9) (lim := lim) (h := hh) (L := L)
  have k23 := fun (M : Heap) lim => c23 (d := d + 9) (lim := lim) (p.app M)
  refine full_ex fn5 rfl (by simp [ef5]) ?_
  rcases fw : fewB wl l with _ | _
  ·simp [ef5, hpu, k20, k7, fw]
  obtain ⟨lw, hnm, l6⟩ := few_ok fw
  by_cases l4 : 4 < l.length
  ·have l4i : (4 : Int) < l.length := by omega
   simp [ef5, hpu, k20, k7, fw, rq, l4, l4i, Int.not_le.2 l4i]
   done
  have l4i : ¬ (4 : Int) < l.length := by omega
  rcases g3 : within (G.length : Int) 1 3 with _ | _
  ·simp [ef5, hpu, k20, k7, fw, rq, l4, l4i, Int.not_lt.1 l4i, rg, k21, g3]
   done
  have g3' : 1 ≤ G.length ∧ G.length ≤ 3 := by unfold within at g3; have := of_decide_eq_true g3; omega
  by_cases q1 : lmE L = 0
  ·by_cases q2 : ggE G = 0
   ·have k24 := fun (M : Heap) lim => c24 (d := d + 5) (lim := lim) (t := t) (s.app M) (q.app M) (by omega)
    by_cases q3 : (stE t wl l).2 = 0
    ·have er : erA t wl l L G = 0 := by unfold erA; rw [if_neg (by simpa using q3), if_neg (by simpa using q1)]; exact q2
     have O := StOk.of q3
     have k11 := fun lim => c11g (d := d + 10) (lim := lim) (Sl_freeze.2 (p.app [qB t v w, qL L])) (by omega)
     have yI : SlI' (h ++ [qB t v w, qL L, qI G]) (.slice (some ⟨h.length + 2, 0, none⟩) G.length 1) G := SlI'_own (by rw [hget_base rfl]; rfl) rfl
     obtain ⟨ga, po, c, e1, K, k9, ch⟩ := c9 (d := d + 1) (lim := lim) (t := t) (X := L) (Sl_freeze.2 (sp.app [qB t v w, qL L, qI G])) (Sl_freeze.2 (s.app [qB t v w, qL L, qI G])) (Sl_freeze.2 (q.app [qB t v w, qL L, qI G])) (Sl_freeze.2 yI) (by omega) hnm (by simp; omega)
     obtain ⟨T9, hT9⟩ : ∃ T9, T9 = h ++ ([qB t v w, qL L, qI G] ++ K) := ⟨_, rfl⟩
     have T9l : T9.length = h.length + (K.length + 3) := by rw [hT9]; simp
     obtain ⟨T, hT⟩ : ∃ T, T = T9 ++ [some ⟨[ga, po], true⟩] := ⟨_, rfl⟩
     have hT2 : T = h ++ (([qB t v w, qL L, qI G] ++ K) ++ [some ⟨[ga, po], true⟩]) := by rw [hT, hT9, List.append_assoc]
     have sT : SlW T v wl := hT2 ▸ s.app _
     have qT : SlN T w l := hT2 ▸ q.app _
     have pT : SlI' T gv G := hT2 ▸ p.app _
     have spT : Pr T := hT2 ▸ sp.app _
     have g0 : T.get h.length = some ⟨[i64 t, v, w], true⟩ := by rw [hT2, hget_base0 rfl]; rfl
     have g1 : T.get (h.length + 1) = some ⟨[i64 L.lo, i64 L.hi, i64 L.sh, i64 L.jp], true⟩ := by rw [hT2, hget_base rfl]; rfl
     have g7 : T.get T9.length = some ⟨[ga, po], true⟩ := by rw [hT, hget_base0 rfl]; rfl
     have hTe : h ++ some ⟨[i64 t, v, w], true⟩ :: some ⟨[i64 L.lo, i64 L.hi, i64 L.sh, i64 L.jp], true⟩ :: some ⟨cI G, true⟩ :: K = T9 := by rw [hT9]; rfl
     have hpu9 : ∀ b, Heap.push T9 b = T9 ++ [some b] := fun _ => rfl
     have hT09 : T9 ++ [some ⟨[ga, po], true⟩] = T := hT.symm
     have T0c := fun o => cell_get (o := o) g0
     have le9 : lim ≤ T9.length := by omega
     have leT : lim ≤ T.length := by rw [hT, List.length_append]; omega
     rw [er] at ch
     obtain ⟨o3, o4⟩ := cho_one ch
     have o1 := Sl_one s
     have o2 := Sl_one q
     simp only [Value.oneCell'] at o1 o2 o3 o4
     have rqT := qT.rules2
     have rpT := pT.rules2
     simp at k9 k11
     rcases cho_ok (m := G.length) (fun i _ => alR_len ..) (by omega) ch with ⟨qq, rfl, rfl, rfl, rfl⟩ | ⟨qq, rfl, c1, c2, C, sC, hC, _⟩
     ·have bad := (fsN_spec (p := badR (fun i => alR wl t (atN l i) L G) (fun i => plR wl t (atN l i) G) L.jp G.length) (n := l.length) l.length 0 rfl (Nat.zero_le _)).2.2.1 qq
      generalize fsN (badR (fun i => alR wl t (atN l i) L G) (fun i => plR wl t (atN l i) G) L.jp G.length) l.length 0 = R at *
      obtain ⟨m, hm⟩ : ∃ m, m = G.length := ⟨_, rfl⟩
      rw [← hm] at g3'
      have wl1 : IntKind.wrap .i64 ((l.length : Int) - 1) = (l.length : Int) - 1 := wrap_eq (by omega) (by omega)
      have wi : within (R : Int) 0 ((l.length : Int) - 1) = true := by unfold within; exact decide_eq_true (by omega)
      simp [ef5, hpu, k20, k7, fw, rq, l4, l4i, Int.not_lt.1 l4i, rg, k21, g3, k22, q1, k23, q2, k24, q3, k11, k9, hTe, hpu9, hT09, o1, o2, o3, o4, le9, Nat.add_assoc, g7, put_self g7, T0c, rqT, wl1, wi]
      have m3 : m ≤ 3 := by omega
      rw [← hm] at rpT
      have R3 : R < 4 := by omega
      refine wpC_loop (fun y st => ∃ i : Nat, y = R + 1 - i ∧ i ≤ R + 1 ∧ st = ⟨[(2, gv), (3, pB h.length), (4, pB (h.length + 1)), (10, i64 (R : Int)), (25, i64 (pwN m i : Int)), (26, i64 (i : Int))], T⟩) (R + 1) (by show R + 1 < 2 ^ 64; omega) ?_ ?_
      ·simp [St.tidy]
       exact ⟨0, by omega, by omega, rfl, rfl⟩
      ·rintro y hy _ ⟨i, rfl, hi, rfl⟩
       by_cases lt : i ≤ R
       ·have lti : (i : Int) ≤ R := by omega
        have w1' := w1 (i := i) (by omega)
        simp only [W] at w1'
        have b1 := pwN_81 (i := i) m3 (by omega)
        have b2 := pwN_81 (i := i + 1) m3 (by omega)
        have e : pwN m (i + 1) = pwN m i * m := rfl
        have wmu : IntKind.wrap .i64 ((pwN m i : Int) * (m : Int)) = ((pwN m (i + 1) : Nat) : Int) := by
         have : (pwN m i : Int) * (m : Int) = ((pwN m (i + 1) : Nat) : Int) := by rw [e]; simp
         rw [this, wrap_eq (by omega) (by omega)]
        simp [lt, lti, Nat.not_lt.2 lt, rpT, wmu, w1', St.tidy]
        exact ⟨R + 1 - (i + 1), by omega, i + 1, rfl, by omega, rfl, rfl⟩
       ·obtain rfl : i = R + 1 := by omega
        have ni : ¬ ((R : Int) + 1 ≤ R) := by omega
        have alb := pwN_81 (i := R + 1) m3 (by omega)
        generalize pwN m (R + 1) = al at *
        simp [ni, show ¬ (R + 1 ≤ R) by omega]
        refine wpC_loop (fun y st => ∃ (k : Nat) (M : List (Option Blk)), y = al - k ∧ k ≤ al ∧ st = ⟨[(2, gv), (3, pB h.length), (4, pB (h.length + 1)), (10, i64 (R : Int)), (25, i64 (al : Int)), (27, i64 (k : Int))], T ++ M⟩) al (by show al < 2 ^ 64; omega) ?_ ?_
        ·simp [St.tidy]
         exact ⟨0, by omega, by omega, rfl⟩
        ·rintro y hy _ ⟨k, M, rfl, hk, rfl⟩
         by_cases lk : k < al
         ·have lki : (k : Int) < al := by omega
          have wk := w1 (i := k) (by omega)
          simp only [W] at wk
          obtain ⟨X, hX⟩ : ∃ X, X = T ++ M := ⟨_, rfl⟩
          have g0X : X.get h.length = _ := hX ▸ hget_append (l := M) g0
          have g1X : X.get (h.length + 1) = _ := hX ▸ hget_append (l := M) g1
          have sX : SlW X v wl := hX ▸ sT.app _
          have qX : SlN X w l := hX ▸ qT.app _
          have pX : SlI' X gv G := hX ▸ pT.app _
          have spX : Pr X := hX ▸ spT.app _
          have leX : lim ≤ X.length := by rw [hX, List.length_append]; omega
          have glX : ∀ j, lim ≤ X.length + j := fun j => by omega
          have rqX := qX.rules2
          have rpX := pX.rules2
          rw [← hm] at rpX
          have X0c := fun o => cell_get (o := o) g0X
          have X0cM := fun (N : Heap) o => cell_get (o := o) (hget_append (l := N) g0X)
          have X1M := fun (N : Heap) o n => part_get (o := o) (n := n) (hget_append (l := N) g1X)
          have hpX : ∀ b, Heap.push X b = X ++ [some b] := fun _ => rfl
          rw [← hX]
          simp [lk, lki, Nat.not_le.2 lk, X0c, hpX, leX, o1, vc]
          refine wpC_loop (fun y st => ∃ (i : Nat) (N : List (Option Blk)) (ov : Value) (bo : Nat), y = R + 1 - i ∧ i ≤ R + 1 ∧ N[0]? = some (some ⟨[i64 t, v, ov], true⟩) ∧ OutE X.length N bo ov (lxN l G m k i) ∧ 1 ≤ bo ∧
           st = ⟨[(2, gv), (3, pB h.length), (4, pB (h.length + 1)), (10, i64 (R : Int)), (25, i64 (al : Int)), (27, i64 (k : Int)), (28, pB X.length), (29, i64 (dgt m k i : Int)), (30, i64 (i : Int))], X ++ N⟩) (R + 1) (by show R + 1 < 2 ^ 64; omega) ?_ ?_
          ·simp [St.tidy]
           exact ⟨0, by omega, by omega, _, .slice none 0 0, rfl, 1, .inl ⟨rfl, rfl⟩, by omega, ⟨rfl, rfl⟩, rfl⟩
          ·rintro y hy _ ⟨i, N, ov, bo, rfl, hi, N0, out, hbo, rfl⟩
           have L0 := lget_lt N0
           by_cases lt : i ≤ R
           ·have lti : (i : Int) ≤ R := by omega
            have iL : i < l.length := by omega
            have iLi : (i : Int) < l.length := by omega
            have wi' := w1 (i := i) (by omega)
            simp only [W] at wi'
            have pN := cN_part iL
            have k10 : i * 10 + 10 ≤ l.length * 10 := by omega
            have ed : dgt m k (i + 1) = dgt m k i / m := rfl
            have dle := dgt_le (m := m) (k := k) i
            have snoc := lxN_snoc (l := l) (G := G) (m := m) (k := k) (i := i)
            generalize dgt m k i = dg at *
            obtain ⟨gd, hgd⟩ : ∃ gd, gd = dg % m := ⟨_, rfl⟩
            have gm : gd < m := by rw [hgd]; exact Nat.mod_lt _ (by omega)
            have gmi : (gd : Int) < m := by omega
            rw [← hgd] at snoc
            have qm : qmod (dg : Int) (m : Int) = (gd : Int) := by unfold qmod; rw [Int.tmod_eq_emod_of_nonneg (by omega), hgd]; simp
            have qd : IntKind.wrap .i64 (qdiv (dg : Int) (m : Int)) = ((dg / m : Nat) : Int) := by
             have e : qdiv (dg : Int) (m : Int) = ((dg / m : Nat) : Int) := by rw [qdiv_nn (by omega)]; simp
             have := Nat.div_le_self dg m
             rw [e, wrap_eq (by omega) (by omega)]
            have mz : ¬ (m : Int) = 0 := by omega
            have mzn : ¬ m = 0 := by omega
            have wg : IntKind.wrap .i64 (gd : Int) = gd := wrap_eq (by omega) (by omega)
            have cG := cI_gx (x := G) (v := gd) (by omega)
            have qG := cI_gxe (l := G) (k := gd) (by omega)
            obtain ⟨u, hu⟩ : ∃ u, u = atN l i := ⟨_, rfl⟩
            rw [← hu] at pN snoc
            simp only [encN] at pN
            obtain ⟨N1, hN1⟩ : ∃ N1, N1 = N ++ [some (Blk.mk (encN (cor u (gx G gd))) true)] := ⟨_, rfl⟩
            have N1l : N1.length = N.length + 1 := by rw [hN1]; simp
            have lxl := lxN_len (l := l) (G := G) (m := m) (k := k) (i := i)
            obtain ⟨o, N', o1', o2', o3', o4', n1, n2, n3⟩ := (out.keep (L' := N1) fun e => by rw [hN1, lget_left (out.lt e)]).appendT (u := cor u (gx G gd)) (by omega)
            rw [N1l] at o1' o2' n1 n2 n3
            rw [hN1] at o1' o3'
            simp only [List.append_assoc, List.cons_append, List.nil_append, Nat.add_assoc, lxl] at o1' o2' o3' n1 n2
            simp only [encN, cor] at o1' o3'
            have n30 : N'[0]? = some (some ⟨[i64 t, v, ov], true⟩) := by rw [n3 0 (by omega) (fun _ => by omega), hN1, lget_left L0, N0]
            have l30 : 0 < N'.length := by omega
            have edi : (dg : Int) / (m : Int) = ((dgt m k (i + 1) : Nat) : Int) := by rw [ed]; simp
            simp [-Eff.apply, -Eff.writes, eff_none, eff_push, eff_write, effw_none, effw_push, effw_write, fillL, zeros, lt, lti, Nat.not_lt.2 lt, iL, iLi, X0cM, rqX, rpX, pN, k10, qm, qd, mz, mzn, wg, cG, qG, gm, gmi, N0, lgetE N0, L0, lget_left, lget_right, lget_right0, lset_left, lset_right, lset_right0, glX, leX, KOp_eq, Log.clash, o1', o2', o3', o4', n30, lgetE n30, l30, wi', St.tidy]
            refine ⟨R + 1 - (i + 1), by omega, i + 1, rfl, by omega, _, .slice (some ⟨X.length + (N.length + 2), 0, none⟩) (i + 1) 10, List.getElem?_set_self l30, N.length + 2, .inr ⟨?_, ?_, ?_⟩, by omega, ⟨edi, rfl⟩, rfl⟩
            ·rw [snoc]; simp
            ·rw [lxN_len]
            ·rw [List.getElem?_set_ne (by omega), n2, snoc]
           ·obtain rfl : i = R + 1 := by omega
            have ni : ¬ ((R : Int) + 1 ≤ R) := by omega
            have sl := out.sl
            have kb := kp_bad (lx := lxN l G m k (R + 1)) (g := fun j => dgt m k j % m) (by omega) (by omega) qq bad lxN_len (fun j hj => ⟨by rw [← hm]; exact Nat.mod_lt _ (by omega), lxN_at (by omega)⟩)
            have k13 := fun lim => c13 (d := d + 1) (lim := lim) (t := t) (L := L) (spX.app N) (sX.app N) sl (by omega) hnm
            simp [ni, show ¬ (R + 1 ≤ R) by omega, N0, lgetE N0, L0, X1M, k13, kb, wk, St.tidy]
            exact ⟨al - (k + 1), by omega, k + 1, rfl, by omega, rfl, M ++ N, by rw [hX, List.append_assoc]⟩
         ·obtain rfl : k = al := by omega
          simp
     ·have sC9 : SlI' T9 ga C := by have := Sl_unf sC; rw [List.append_assoc] at this; rw [hT9]; exact this
      have sCT : SlI' T ga C := hT ▸ sC9.app _
      have T0 := fun o n => part_get (o := o) (n := n) g0
      have T7c := fun o => cell_get (o := o) g7
      rcases Nat.eq_zero_or_pos l.length with z | z
      ·have el : l = [] := List.eq_nil_of_length_eq_zero z
       subst el
       unfold choS at ch
       rw [if_pos (.inr rfl)] at ch
       obtain ⟨rfl, rfl, _, _⟩ := ch
       obtain ⟨v', w', bs, k12, sn, ov1, ow1⟩ := c12n (d := d + 2) (lim := lim) spT sT qT pT (by omega) hnm q3 q2
       have pT7 := put_self g7
       simp only [Value.oneCell'] at ov1 ow1
       have gl : ∀ j, lim ≤ T.length + j := fun j => by omega
       have g0M := fun (N : Heap) o => cell_get (o := o) (hget_append (l := N) g0)
       have lb : ∀ j, lim ≤ T.length + (bs.length + j) := fun j => by omega
       have lb0 : lim ≤ T.length + bs.length := by omega
       simp [ef5, hpu, k20, k7, fw, rq, l4, l4i, Int.not_lt.1 l4i, rg, k21, g3, k22, q1, k23, q2, k24, q3, k11, k9, hTe, hpu9, hT09, o1, o2, o3, o4, le9, Nat.add_assoc, g7, pT7, T0, T7c, k12, ov1, ow1, sn, g0M, lget_left, lget_right, lget_right0, lset_left, lset_right, lset_right0, lb, lb0]
       rw [wpC_unroll, wpI_step (by simp [E_fuel'])]
       simp [St.tidy, sn, g0M, lget_left, lget_right, lget_right0, lset_left, lset_right, lset_right0]
      ·have wz : wl.length ≠ 0 := by
        have := (O.u 0 z).sd.wir
        intro e
        have ew : wl = [] := List.eq_nil_of_length_eq_zero e
        subst ew
        unfold hasW at this
        simp at this
       obtain ⟨bv, ov, rfl⟩ : ∃ bv ov, v = .slice (some ⟨bv, ov, none⟩) wl.length 4 := ⟨_, _, s.addr wz⟩
       obtain ⟨bw, ow, rfl⟩ : ∃ bw ow, w = .slice (some ⟨bw, ow, none⟩) l.length 10 := ⟨_, _, q.addr (by omega)⟩
       have k12 := fun lim => c12g (d := d + 2) (lim := lim) (t := t) (L := L) spT sT qT pT sCT (by omega) hnm er hC
       obtain ⟨w1', w2', w3', w4'⟩ := with_ok er hC
       obtain ⟨l', hl'⟩ : ∃ l', l' = setU l G C l.length := ⟨_, rfl⟩
       have ll : l'.length = l.length := by rw [hl', setU_len]
       rw [← hl'] at k12 w2' w3'
       have O' := StOk.of w2'
       have fr : frst wl t l' L 0 = -1 := by unfold kpI at w3'; rw [if_neg (by simpa using w2'), if_neg (by simpa using q1)] at w3'; exact w3'
       have bad0 := frst_all l'.length 0 rfl fr
       obtain ⟨B, hB⟩ : ∃ B, B = T ++ [qW wl, qN l', some ⟨[i64 t, .slice (some ⟨T.length, 0, none⟩) wl.length 4, .slice (some ⟨T.length + 1, 0, none⟩) l.length 10], true⟩] := ⟨_, rfl⟩
       have Bl : B.length = T.length + 3 := by rw [hB]; simp
       have g12 : B.get (T.length + 2) = some ⟨[i64 t, .slice (some ⟨T.length, 0, none⟩) wl.length 4, .slice (some ⟨T.length + 1, 0, none⟩) l.length 10], true⟩ := by rw [hB, hget_base rfl]; rfl
       have g1B : B.get (h.length + 1) = _ := hB ▸ hget_append g1
       have sB : SlW B (.slice (some ⟨T.length, 0, none⟩) wl.length 4) wl := hB ▸ Sl_own (f := encW) (es := 4) (fun _ => rfl) (by rw [hget_base0 rfl]; rfl) rfl
       have qB' : SlN B (.slice (some ⟨T.length + 1, 0, none⟩) l.length 10) l' := by
        rw [← ll, hB]
        exact Sl_own (f := encN) (es := 10) (fun _ => rfl) (by rw [hget_base rfl]; rfl) rfl
       have spB : Pr B := hB ▸ spT.app _
       have c12M := fun (N : Heap) o => cell_get (o := o) (hget_append (l := N) g12)
       have c1M := fun (N : Heap) o => cell_get (o := o) (hget_append (l := N) g1B)
       have rqB := qB'.rules2
       simp only [slB_some, slO_some, Nat.zero_add] at rqB
       have hBe : T ++ [qW wl, qN l', some ⟨[i64 t, .slice (some ⟨T.length, 0, none⟩) wl.length 4, .slice (some ⟨T.length + 1, 0, none⟩) l.length 10], true⟩] = B := hB.symm
       have hpB : ∀ b, Heap.push B b = B ++ [some b] := fun _ => rfl
       have leB : lim ≤ B.length := by omega
       have glB : ∀ j, lim ≤ B.length + j := fun j => by omega
       have leT2 : lim ≤ T.length + 2 := by omega
       have c12B := fun o => cell_get (o := o) g12
       have g0B : B.get h.length = _ := hB ▸ hget_append g0
       have c0B := fun o => cell_get (o := o) g0B
       simp [ef5, hpu, k20, k7, fw, rq, l4, l4i, Int.not_lt.1 l4i, rg, k21, g3, k22, q1, k23, q2, k24, q3, k11, k9, hTe, hpu9, hT09, o1, o2, o3, o4, le9, Nat.add_assoc, T0, T7c, k12, leT2, hBe, hpB, c12B, c0B]
       refine wpC_loop (fun y st => ∃ (i : Nat) (N : List (Option Blk)) (x x2 : Int), y = l'.length - i ∧ i ≤ l'.length ∧ N[0]? = some (some ⟨[i64 x, i64 x2], true⟩) ∧ (0 < i → (x, x2) = ten wl t (atN l' (i - 1))) ∧
        st = ⟨[(4, pB (h.length + 1)), (12, pB (T.length + 2)), (14, pB B.length), (15, i64 (i : Int))], B ++ N⟩) l'.length (by show l'.length < 2 ^ 64; omega) ?_ ?_
       ·simp [St.tidy]
        exact ⟨0, by omega, by omega, _, 0, 0, rfl, fun z => by omega, rfl, rfl⟩
       ·rintro y hy _ ⟨i, N, x, x2, rfl, hi, N0, hbf, rfl⟩
        have L0 := lget_lt N0
        by_cases lt : i < l'.length
        ·have lti : (i : Int) < l'.length := by omega
         have wi' := w1 (i := i) (by omega)
         simp only [W] at wi'
         have pN := cN_part lt
         have k10 : i * 10 + 10 ≤ l'.length * 10 := by omega
         have U := O'.u i lt
         have bd := bad0 i (Nat.zero_le _) lt
         unfold badI at bd
         have kb : kpB wl t (atN l' i) L = true := by
          rcases z : kpB wl t (atN l' i) L with _ | _
          ·rw [if_pos z] at bd; cases bd
          ·rfl
         rw [if_neg (by rw [kb]; decide)] at bd
         have hb' : ∀ j, i = j + 1 → ¬ L.jp < jmp (ten wl t (atN l' j)) (ten wl t (atN l' i)) := fun j e => by
          rw [if_neg (by omega), show i - 1 = j by omega] at bd
          exact of_decide_eq_false bd
         obtain ⟨u, hu⟩ : ∃ u, u = atN l' i := ⟨_, rfl⟩
         have Up := U.p
         have Uf := U.f
         have Ue := U.e
         rw [← hu] at pN Up Uf Ue kb hb'
         have k25 := fun (M : Heap) lim => enc_prog (d := d + 6) (lim := lim) (u := u) (spB.app M) Up O.fork
         have hF := Uf
         have fr1 : freqB (fL u t) (fH u t) = true := by simp [freqB]; exact ⟨hF.h1, hF.h2, hF.h3⟩
         have fr2 : freqB (fL u t) (fL u t) = true := by have := hF.h1; have := hF.h2; have := hF.h3; simp [freqB]; omega
         have fr3 : freqB (fH u t) (fH u t) = true := by have := hF.h1; have := hF.h2; have := hF.h3; simp [freqB]; omega
         have he : ∀ a b, freqB a b = true → heardE wl u.sd a b = 0 := fun a b hf => by
          unfold heardE
          have : chkD wl u.sd = 0 := by
           have h0 := uErr_s (show uErr wl t l' i = 0 by
            have hh := w2'
            unfold stE at hh
            rw [if_neg (by rw [O'.fork]; decide), if_neg (by rw [O'.w]; decide), if_neg (by have := O'.few; omega)] at hh
            exact chkUL_all l'.length 0 rfl hh i (Nat.zero_le _) lt)
           rw [← hu] at h0
           unfold chkD
           rw [if_pos O'.w]
           exact h0
          rw [if_pos this, if_pos hf]
         have k26 := fun (M : Heap) lim a b => c26 (d := d + 4) (lim := lim) (s := u.sd) (a := a) (b := b) (sB.app M) (by omega) hnm
         have k26a := fun (M : Heap) lim => k26 M lim (fL u t) (fH u t)
         have k26b := fun (M : Heap) lim => k26 M lim (fL u t) (fL u t)
         have k26c := fun (M : Heap) lim => k26 M lim (fH u t) (fH u t)
         simp only [he _ _ fr1, rgE, if_true] at k26a
         simp only [he _ _ fr2, rgE, if_true] at k26b
         simp only [he _ _ fr3, rgE, if_true] at k26c
         have kp := kb
         unfold kpB at kp
         have kp1 : ¬ tenL wl u.sd (fL u t) < L.lo := fun z => by rw [if_pos (show (ten wl t u).1 < L.lo from z)] at kp; cases kp
         rw [if_neg (show ¬ (ten wl t u).1 < L.lo from kp1)] at kp
         have kp2 : ¬ L.hi < tenH wl u.sd (fH u t) := fun z => by rw [if_pos (show L.hi < (ten wl t u).2 from z)] at kp; cases kp
         have e0 := Ue
         have k27 := fun lim hh a b => c27 (d := d + 10) (lim := lim) (h := hh) (a := a) (b := b) (x := tenL wl u.sd (fL u t)) (y := tenH wl u.sd (fH u t)) (j := L.jp)
         simp only [encN] at pN
         rcases Nat.eq_zero_or_pos i with i0 | ip
         ·have hz : (i = 0) = True := by simp [i0]
          have hz2 : (0 < i) = False := by simp [i0]
          simp [lt, lti, Nat.not_le.2 lt, c12M, rqB, pN, k10, N0, lgetE N0, L0, lget_left, lget_right, lget_right0, lset_left, lset_right, lset_right0, glB, leB, k25, e0, k26a, k26b, k26c, c1M, kp1, kp2, Int.not_lt.1 kp1, Int.not_lt.1 kp2, k27, Nat.add_assoc, wi', St.tidy, hz, hz2]
          refine ⟨l'.length - (i + 1), by omega, i + 1, rfl, by omega, _, tenL wl u.sd (fL u t), tenH wl u.sd (fH u t), ?_, fun _ => by rw [Nat.add_sub_cancel, ← hu]; rfl, rfl, rfl⟩
          rw [lget_left (by simpa using L0), List.getElem?_set_self L0]
         ·obtain ⟨j, ij⟩ : ∃ j, i = j + 1 := ⟨i - 1, by omega⟩
          have hj := hb' j ij
          have xe := hbf ip
          rw [show i - 1 = j by omega] at xe
          rw [← xe] at hj
          have j1 : IntKind.wrap .i64 (x2 - tenL wl u.sd (fL u t)) ≤ L.jp := by
           unfold jmp at hj
           have : IntKind.wrap .i64 (x2 - tenL wl u.sd (fL u t)) ≤ max (IntKind.wrap .i64 (x2 - tenL wl u.sd (fL u t))) (IntKind.wrap .i64 (tenH wl u.sd (fH u t) - x)) := Int.le_max_left ..
           have h3 : ¬ L.jp < max (IntKind.wrap .i64 (x2 - tenL wl u.sd (fL u t))) (IntKind.wrap .i64 (tenH wl u.sd (fH u t) - x)) := hj
           omega
          have j2 : IntKind.wrap .i64 (tenH wl u.sd (fH u t) - x) ≤ L.jp := by
           unfold jmp at hj
           have : IntKind.wrap .i64 (tenH wl u.sd (fH u t) - x) ≤ max (IntKind.wrap .i64 (x2 - tenL wl u.sd (fL u t))) (IntKind.wrap .i64 (tenH wl u.sd (fH u t) - x)) := Int.le_max_right ..
           have h3 : ¬ L.jp < max (IntKind.wrap .i64 (x2 - tenL wl u.sd (fL u t))) (IntKind.wrap .i64 (tenH wl u.sd (fH u t) - x)) := hj
           omega
          have ipi : (0 : Int) < i := by omega
          have nz : ¬ i = 0 := by omega
          simp [lt, lti, Nat.not_le.2 lt, c12M, rqB, pN, k10, N0, lgetE N0, L0, lget_left, lget_right, lget_right0, lset_left, lset_right, lset_right0, glB, leB, k25, e0, k26a, k26b, k26c, c1M, kp1, kp2, Int.not_lt.1 kp1, Int.not_lt.1 kp2, k27, Nat.add_assoc, wi', St.tidy, ip, ipi, nz, j1, j2, Int.not_lt.2 j1, Int.not_lt.2 j2]
          refine ⟨l'.length - (i + 1), by omega, i + 1, rfl, by omega, _, tenL wl u.sd (fL u t), tenH wl u.sd (fH u t), ?_, fun _ => by rw [Nat.add_sub_cancel, ← hu]; rfl, rfl, rfl⟩
          rw [lget_left (by simpa using L0), List.getElem?_set_self L0]
        ·obtain rfl : i = l'.length := by omega
         simp [c12M, rqB]
    ·simp [ef5, hpu, k20, k7, fw, rq, l4, l4i, Int.not_lt.1 l4i, rg, k21, g3, k22, q1, k23, q2, k24, q3]
     done
   ·simp [ef5, hpu, k20, k7, fw, rq, l4, l4i, Int.not_lt.1 l4i, rg, k21, g3, k22, q1, k23, q2]
    done
  ·simp [ef5, hpu, k20, k7, fw, rq, l4, l4i, Int.not_lt.1 l4i, rg, k21, g3, k22, q1]
   done
 obtain ⟨_, h', e, rfl⟩ := key
 exact ⟨h', e⟩
end R
end Go.Abs
