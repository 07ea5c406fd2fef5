--
import Derived.Test.YtoloaempiiedgaaDoorAbsRKP
import Derived.Test.YtoloaempiiedgaaDoorAbsRNN
import Derived.Test.YtoloaempiiedgaaDoorAbsRVM
import Derived.Test.YtoloaempiiedgaaDoorAbsRZ1
import Derived.Test.YtoloaempiiedgaaDoorAbsRKO
set_option linter.unusedSimpArgs false
set_option linter.unusedVariables false
namespace Go.Abs
namespace R
set_option maxRecDepth 100000
section
variable {A A' : Nat → List Bool} {P P' : Nat → List XR} {jp : Int} {m m' n : Nat}
theorem tog_pre (hA : ∀ i k, k < m' → bx (A' i) k = bx (A i) k) (hP : ∀ i k, k < m' → atR (P' i) k = atR (P i) k) {i a b : Nat} (ha : a < m') (hb : b < m') : togB A' P' jp i a b = togB A P jp i a b := by
 unfold togB
 rw [hA _ _ ha, hA _ _ hb, hP _ _ ha, hP _ _ hb]
theorem pot_mono (hA : ∀ i k, k < m' → bx (A' i) k = bx (A i) k) (hP : ∀ i k, k < m' → atR (P' i) k = atR (P i) k) (ha : ∀ i, i < n → (A i).length = m) (ha' : ∀ i, i < n → (A' i).length = m') (hm : m ≤ 1000) (hmm : m' ≤ m) : ∀ i, i < n → ∀ k, k < m' → bx (A i) k = true → gx (potR A P jp m i) k ≤ gx (potR A' P' jp m' i) k
 | 0, h, k, hk, hb => by rw [pot_0 ha h (show k < m by omega), pot_0 ha' h hk]; exact Int.le_refl _
 | i + 1, h, k, hk, hb => by
  have p1 := (pot_next (P := P) (jp := jp) ha hm h (show k < m by omega)).1 hb
  rcases (pot_next (P := P') (jp := jp) ha' (by omega) h hk).2 (by rw [hA _ _ hk]; exact hb) with e | ⟨a, am, t, e⟩
  ·have := (pot_bd (P := P) (jp := jp) ha hm (i + 1) h k (by omega)).2
   omega
  ·rw [tog_pre hA hP am hk] at t
   have h1 := p1 a (by omega) t
   have h2 := pot_mono hA hP ha ha' hm hmm i (by omega) a am (tog_A t).1
   omega
theorem bad_mono (hA : ∀ i k, k < m' → bx (A' i) k = bx (A i) k) (hP : ∀ i k, k < m' → atR (P' i) k = atR (P i) k) (ha : ∀ i, i < n → (A i).length = m) (ha' : ∀ i, i < n → (A' i).length = m') (hm : m ≤ 1000) (hmm : m' ≤ m) {i : Nat} (hi : i < n) (hb : badR A' P' jp m' i = false) : badR A P jp m i = false := by
 have hb := of_decide_eq_false hb
 rcases lsI_spec (R := A' i) (l := potR A' P' jp m' i) m' with ⟨h1, _⟩ | ⟨b, h1, h2, h3, h4, _⟩
 ·omega
 ·rw [hA _ _ h2] at h3
  have := pot_mono (jp := jp) hA hP ha ha' hm hmm i hi b h2 h3
  rcases lsI_spec (R := A i) (l := potR A P jp m i) m with ⟨g1, g2⟩ | ⟨c, g1, _⟩
  ·exact absurd (show gx (potR A P jp m i) b < 1000000 by omega) (g2 b (by omega) h3)
  ·exact decide_eq_false (by omega)
theorem pg_min (h0 : 0 < n) (hb : badR A P jp m (n - 1) = false) : pg A P jp m n (n - 1) < m ∧ bx (A (n - 1)) (pg A P jp m n (n - 1)) = true ∧ ∀ j, j < m → bx (A (n - 1)) j = true → gx (potR A P jp m (n - 1)) (pg A P jp m n (n - 1)) ≤ gx (potR A P jp m (n - 1)) j := by
 have hb := of_decide_eq_false hb
 have e : (pg A P jp m n (n - 1) : Int) = lsI (A (n - 1)) (potR A P jp m (n - 1)) m := by
  unfold pg
  rw [Nat.sub_self]
  show (((lsI (A (n - 1)) (potR A P jp m (n - 1)) m).toNat : Nat) : Int) = _
  omega
 rcases lsI_spec (R := A (n - 1)) (l := potR A P jp m (n - 1)) m with ⟨h1, _⟩ | ⟨b, h1, h2, h3, h4, h5⟩
 ·omega
 ·rw [show pg A P jp m n (n - 1) = b by omega]
  exact ⟨h2, h3, h5⟩
structure Cho (A : Nat → List Bool) (P : Nat → List XR) (jp : Int) (m n : Nat) (C : List Int) : Prop where
 len : C.length = n
 al : ∀ i, i < n → ∃ g : Nat, gx C i = g ∧ g < m ∧ bx (A i) g = true
 tg : ∀ i, i + 1 < n → togB A P jp i (gx C i).toNat (gx C (i + 1)).toNat = true
theorem cho_ok {h : Heap} {ga po : Value} {c e' : Int} (ha : ∀ i, i < n → (A i).length = m) (hm : m ≤ 1000) (S : choS A P jp m n 0 h ga po c e') :
  (fsN (badR A P jp m) n 0 < n ∧ ga = .slice none 0 0 ∧ po = .slice none 0 0 ∧ c = (fsN (badR A P jp m) n 0 : Int) ∧ e' = 12) ∨
  (¬ fsN (badR A P jp m) n 0 < n ∧ e' = 0 ∧ (0 < n → c = gx (potR A P jp m (n - 1)) (pg A P jp m n (n - 1))) ∧ (n = 0 → c = 0) ∧ ∃ C, SlI' h ga C ∧ Cho A P jp m n C ∧ slN po = some n) := by
 unfold choS at S
 by_cases n0 : n = 0
 ·rw [if_pos (.inr n0)] at S
  obtain ⟨rfl, rfl, rfl, rfl⟩ := S
  subst n0
  exact .inr ⟨by omega, rfl, fun h => by omega, fun _ => rfl, [], ⟨rfl, rfl, fun q => absurd rfl q, .inl rfl, fun k hk => by simp at hk⟩, ⟨rfl, fun i hi => by omega, fun i hi => by omega⟩, rfl⟩
 ·rw [if_neg (by omega)] at S
  by_cases q : fsN (badR A P jp m) n 0 < n
  ·rw [if_pos q] at S
   exact .inl ⟨q, S⟩
  ·rw [if_neg q] at S
   obtain ⟨sg, ⟨us, np⟩, rfl, rfl⟩ := S
   have nbl : badR A P jp m (n - 1) = false := (fsN_spec (p := badR A P jp m) (n := n) n 0 rfl (Nat.zero_le _)).2.2.2 (n - 1) (Nat.zero_le _) (by omega)
   have pk := fun j hj => pq_ok (P := P) (jp := jp) ha hm nbl j hj
   have Cg : ∀ i, i < n → gx (glS A P jp m n 0) i = (pg A P jp m n i : Int) := fun i hi => by rw [glS_gx hi, if_pos (Nat.zero_le _)]
   refine .inr ⟨q, rfl, fun _ => rfl, fun z => absurd z n0, _, sg, ⟨glS_len, fun i hi => ?_, fun i hi => ?_⟩, np.sl.len⟩
   ·obtain ⟨h1, h2, _⟩ := pk (n - 1 - i) (by omega)
    rw [show n - 1 - (n - 1 - i) = i by omega] at h2
    exact ⟨_, Cg i hi, h1, h2⟩
   ·obtain ⟨_, _, _, h4⟩ := pk (n - 1 - i) (by omega)
    have := (h4 (n - 1 - (i + 1)) (by omega)).1
    rw [show n - 1 - (n - 1 - i) = i by omega] at this
    rw [Cg i (by omega), Cg (i + 1) hi, Int.toNat_natCast, Int.toNat_natCast]
    exact this
theorem chg_law {h h' : Heap} {ga po ga' po' : Value} {c e c' e' : Int} (hA : ∀ i k, k < m' → bx (A' i) k = bx (A i) k) (hP : ∀ i k, k < m' → atR (P' i) k = atR (P i) k) (ha : ∀ i, i < n → (A i).length = m) (ha' : ∀ i, i < n → (A' i).length = m') (hm : m ≤ 1000) (hmm : m' ≤ m)
  (S : choS A P jp m n 0 h ga po c e) (S' : choS A' P' jp m' n 0 h' ga' po' c' e') :
  (e = 0 ∨ e = 12) ∧ (e' = 0 ∨ e' = 12) ∧ (e' = 0 → e = 0 ∧ c ≤ c' ∧ slN ga' = some n) ∧ (e ≠ 0 → e' ≠ 0 → c' ≤ c) ∧ (e = 0 → ∃ C, SlI' h ga C ∧ Cho A P jp m n C) := by
 have bm := fun i hi => bad_mono (jp := jp) hA hP ha ha' hm hmm (i := i) hi
 have sp := fsN_spec (p := badR A P jp m) (n := n) n 0 rfl (Nat.zero_le _)
 have sp' := fsN_spec (p := badR A' P' jp m') (n := n) n 0 rfl (Nat.zero_le _)
 have mono : fsN (badR A P jp m) n 0 < n → fsN (badR A' P' jp m') n 0 ≤ fsN (badR A P jp m) n 0 := fun q => by
  rcases Nat.lt_or_ge (fsN (badR A P jp m) n 0) (fsN (badR A' P' jp m') n 0) with z | z
  ·have h1 := sp'.2.2.2 _ (Nat.zero_le _) z
   have h2 := bm _ q h1
   rw [sp.2.2.1 q] at h2
   cases h2
  ·exact z
 rcases cho_ok ha hm S with ⟨q, rfl, rfl, rfl, rfl⟩ | ⟨q, rfl, c1, c2, C, sC, hC, _⟩
 ·rcases cho_ok ha' (by omega) S' with ⟨q', rfl, rfl, rfl, rfl⟩ | ⟨q', rfl, _⟩
  ·have := mono q
   exact ⟨.inr rfl, .inr rfl, fun h => by omega, fun _ _ => by omega, fun h => by omega⟩
  ·have := mono q
   omega
 ·rcases cho_ok ha' (by omega) S' with ⟨q', rfl, rfl, rfl, rfl⟩ | ⟨q', rfl, c1', c2', C', sC', hC', _⟩
  ·exact ⟨.inl rfl, .inr rfl, fun h => by omega, fun h => absurd rfl h, fun _ => ⟨C, sC, hC⟩⟩
  ·refine ⟨.inl rfl, .inl rfl, fun _ => ⟨rfl, ?_, by rw [sC'.len, hC'.len]⟩, fun h => absurd rfl h, fun _ => ⟨C, sC, hC⟩⟩
   rcases Nat.eq_zero_or_pos n with z | z
   ·rw [c2 z, c2' z]; exact Int.le_refl _
   ·rw [c1 z, c1' z]
    have nb : badR A P jp m (n - 1) = false := sp.2.2.2 (n - 1) (Nat.zero_le _) (by omega)
    have nb' : badR A' P' jp m' (n - 1) = false := sp'.2.2.2 (n - 1) (Nat.zero_le _) (by omega)
    obtain ⟨_, _, g3⟩ := pg_min z nb
    obtain ⟨f1, f2, _⟩ := pg_min z nb'
    rw [hA _ _ f1] at f2
    have h1 := g3 _ (by omega) f2
    have h2 := pot_mono (jp := jp) hA hP ha ha' hm hmm (n - 1) (by omega) _ f1 f2
    omega
end
theorem alR_take {wl : List Wi} {t : Int} {u : Un} {L : Lm} {G : List Int} {k m' : Nat} (h : k < m') : bx (alR wl t u L (G.take m')) k = bx (alR wl t u L G) k := by
 simp [alR, bx, List.map_take, List.getElem?_take, h]
theorem plR_take {wl : List Wi} {t : Int} {u : Un} {G : List Int} {k m' : Nat} (h : k < m') : atR (plR wl t u (G.take m')) k = atR (plR wl t u G) k := by
 simp [plR, atR, List.map_take, List.getElem?_take, h]
theorem setU_at {l : List Un} {g ix : List Int} : ∀ (k i : Nat), i < l.length → atN (setU l g ix k) i = if i < k then upC (atN l i) (gx g (gx ix i).toNat) else atN l i
 | 0, i, hi => by rw [if_neg (by omega)]; rfl
 | k + 1, i, hi => by
  have ih := setU_at (l := l) (g := g) (ix := ix) k i hi
  have sl := setU_len l g ix k
  rw [setU]
  by_cases e : i = k
  ·subst e
   rw [if_neg (by omega)] at ih
   rw [if_pos (by omega), ih]
   unfold atN
   rw [List.getElem?_set_self (by omega)]
   rfl
  ·have : atN ((setU l g ix k).set k (upC (atN (setU l g ix k) k) (gx g (gx ix k).toNat))) i = atN (setU l g ix k) i := by
    unfold atN
    rw [List.getElem?_set_ne (Ne.symm e)]
   rw [this, ih]
   by_cases z : i < k
   ·rw [if_pos z, if_pos (by omega)]
   ·rw [if_neg z, if_neg (by omega)]
theorem with_ok {wl : List Wi} {t : Int} {l : List Un} {L : Lm} {G C : List Int} (he : erA t wl l L G = 0) (hc : Cho (fun i => alR wl t (atN l i) L G) (fun i => plR wl t (atN l i) G) L.jp G.length l.length C) :
  ixL G C 0 = 0 ∧ (stE t wl (setU l G C l.length)).2 = 0 ∧ kpI wl t (setU l G C l.length) L = -1 ∧ kpE wl t (setU l G C l.length) L = 0 := by
 obtain ⟨he1, he2, he3⟩ := erA_parts he
 have O := StOk.of he1
 have ck : ∀ j, j < l.length → uErr wl t l j = 0 := by
  have h := he1
  unfold stE at h
  rw [if_neg (by rw [O.fork]; decide), if_neg (by rw [O.w]; decide), if_neg (by have := O.few; omega)] at h
  exact fun j hj => chkUL_all l.length 0 rfl h j (Nat.zero_le _) hj
 have al : ∀ i, i < l.length → ∃ g : Nat, gx C i = g ∧ g < G.length ∧ sErr wl (cor (atN l i) (gx G g)).sd = 0 ∧ kpB wl t (cor (atN l i) (gx G g)) L = true := fun i hi => by
  obtain ⟨g, e, gm, gb⟩ := hc.al i hi
  have gb : bx (alR wl t (atN l i) L G) g = true := gb
  have e2 : bx (alR wl t (atN l i) L G) g = alB wl t (atN l i) L (gx G g) := by simp [bx, alR, gx, gm]
  rw [e2] at gb
  unfold alB at gb
  simp only [Bool.and_eq_true, decide_eq_true_eq] at gb
  exact ⟨g, e, gm, gb.1, gb.2⟩
 have at' : ∀ i, i < l.length → atN (setU l G C l.length) i = cor (atN l i) (gx G (gx C i).toNat) := fun i hi => by
  rw [setU_at _ _ hi, if_pos hi]; rfl
 have ix0 : ∀ (k i : Nat), C.length - i = k → i ≤ C.length → ixL G C i = 0 := by
  intro k
  induction k with
  | zero => intro i h1 h2; exact ixL_ge (by omega)
  | succ k ih =>
   intro i h1 h2
   have hl := hc.len
   obtain ⟨g, e, gm, _⟩ := al i (by omega)
   rw [ixL_lt (by omega), if_pos (by unfold within; rw [e]; exact decide_eq_true (by omega))]
   exact ih (i + 1) (by omega) (by omega)
 have u0 : ∀ i, i < l.length → uErr wl t (setU l G C l.length) i = 0 := fun i hi => by
  obtain ⟨g, e, gm, s0, _⟩ := al i hi
  have h := ck i hi
  have hp : 0 < i → ordU (atN (setU l G C l.length) i) (atN (setU l G C l.length) (i - 1)) = ordU (atN l i) (atN l (i - 1)) := fun z => by
   rw [at' i hi, at' (i - 1) (by omega)]; rfl
  unfold uErr at h ⊢
  have o : (0 < i ∧ ordU (atN (setU l G C l.length) i) (atN (setU l G C l.length) (i - 1)) ≤ 0) = (0 < i ∧ ordU (atN l i) (atN l (i - 1)) ≤ 0) := by
   by_cases z : 0 < i
   ·rw [hp z]
   ·simp [z]
  simp only [o]
  rw [at' i hi, e, Int.toNat_natCast]
  have e1 : isP (cor (atN l i) (gx G g)) = isP (atN l i) := rfl
  have e2 : (cor (atN l i) (gx G g)).count = (atN l i).count := rfl
  have e3 : fE (cor (atN l i) (gx G g)) t = fE (atN l i) t := rfl
  have e4 : fL (cor (atN l i) (gx G g)) t = fL (atN l i) t := rfl
  have e5 : fH (cor (atN l i) (gx G g)) t = fH (atN l i) t := rfl
  rw [e1, e2, e3, e4, e5, s0]
  by_cases a1 : isP (atN l i) = false
  ·rw [if_pos a1] at h; exact absurd h (by decide)
  rw [if_neg a1] at h ⊢
  by_cases a2 : within (atN l i).count 1 4 = false
  ·rw [if_pos a2] at h; exact absurd h (by decide)
  rw [if_neg a2] at h ⊢
  rw [if_neg (by simp)]
  by_cases a3 : sErr wl (atN l i).sd ≠ 0
  ·rw [if_pos a3] at h; exact absurd h a3
  rw [if_neg a3] at h
  exact h
 have sl := setU_len l G C l.length
 have ch0 : ∀ (k i : Nat), l.length - i = k → chkUL wl t (setU l G C l.length) i = (0, 0) := by
  intro k
  induction k with
  | zero => intro i h1; exact chkUL_ge (by rw [sl]; omega)
  | succ k ih =>
   intro i h1
   rw [chkUL_lt (by rw [sl]; omega), if_pos (u0 i (by omega))]
   exact ih (i + 1) (by omega)
 have st0 : (stE t wl (setU l G C l.length)).2 = 0 := by
  unfold stE
  rw [if_neg (by rw [O.fork]; decide), if_neg (by rw [O.w]; decide), if_neg (by have := O.few; rw [sl]; omega), ch0 l.length 0 rfl]
 have bad0 : ∀ i, i < l.length → badI wl t (setU l G C l.length) L i = false := fun i hi => by
  obtain ⟨g, e, gm, s0, kb⟩ := al i hi
  unfold badI
  rw [at' i hi, e, Int.toNat_natCast, kb, if_neg (by decide)]
  by_cases z : i = 0
  ·rw [if_pos z]
  ·rw [if_neg z, at' (i - 1) (by omega)]
   obtain ⟨g', e', gm', s0', _⟩ := al (i - 1) (by omega)
   have tg := hc.tg (i - 1) (by omega)
   rw [show i - 1 + 1 = i by omega, e, e', Int.toNat_natCast, Int.toNat_natCast] at tg
   unfold togB at tg
   simp only [Bool.and_eq_true, decide_eq_true_eq, show i - 1 + 1 = i by omega] at tg
   have f1 : ∀ (u : Un) (x : Nat), x < G.length → sErr wl (cor u (gx G x)).sd = 0 → atR (plR wl t u G) x = ten wl t (cor u (gx G x)) := fun u x hx h0 => by
    have e : atR (plR wl t u G) x = plX wl t u (gx G x) := by simp [atR, plR, gx, hx]
    rw [e]; unfold plX; rw [if_pos h0]
   rw [f1 _ _ gm s0, f1 _ _ gm' s0'] at tg
   rw [e', Int.toNat_natCast]
   exact decide_eq_false (by omega)
 have fr : ∀ (k i : Nat), l.length - i = k → frst wl t (setU l G C l.length) L i = -1 := by
  intro k
  induction k with
  | zero => intro i h1; exact frst_ge (by rw [sl]; omega)
  | succ k ih =>
   intro i h1
   rw [frst_lt (by rw [sl]; omega), if_pos (bad0 i (by omega))]
   exact ih (i + 1) (by omega)
 have f0 := fr l.length 0 rfl
 refine ⟨ix0 C.length 0 rfl (Nat.zero_le _), st0, ?_, ?_⟩
 ·unfold kpI
  rw [if_neg (by simpa using st0), if_neg (by simpa using he2), f0]
 ·unfold kpE
  rw [if_neg (by simpa using st0), if_neg (by simpa using he2), f0]
  rfl
end R
end Go.Abs
namespace Go.Abs
namespace R
set_option maxRecDepth 100000
set_option maxHeartbeats 0
theorem Sl_unf {es : Nat} {X : Heap} {K : List (Option Blk)} {v : Value} {n : Nat} {cs : List Value} (s : Sl es (X.freeze ++ K) v n cs) : Sl es (X ++ K) v n cs := by
 have e : Heap.freeze (X.freeze ++ K) = Heap.freeze (X ++ K) := by
  unfold Heap.freeze
  rw [List.map_append, List.map_append, List.map_map]
  congr 1
  apply List.map_congr_left
  intro a _
  cases a <;> rfl
 have t := Sl_freeze.2 s
 rw [e] at t
 exact Sl_freeze.1 t
theorem SlI_take {h : Heap} {b o m' : Nat} {G : List Int} (s : SlI' h (.slice (some ⟨b, o, none⟩) G.length 1) G) (hm : m' ≤ G.length) (h0 : 0 < m') : SlI' h (.slice (some ⟨b, o, none⟩) m' 1) (G.take m') := by
 have hl : (G.take m').length = m' := by rw [List.length_take]; omega
 have hb := s.lt (by omega)
 unfold SlI'
 rw [hl]
 refine ⟨rfl, by simp [cI]; omega, fun _ => rfl, .inr ⟨b, o, m', 1, rfl, hb⟩, fun k hk => ?_⟩
 have := s.cell k (by omega)
 simp only [slB_some, slO_some] at this ⊢
 rw [this]
 simp [cI, List.getElem?_take, show k < m' by omega]
theorem ggL_all {l : List Int} : ∀ (k i : Nat), l.length - i = k → ggL l i = 0 → ∀ j, i ≤ j → j < l.length → ggI l j = 0
 | 0, i, hk, _, j, h1, h2 => by omega
 | k + 1, i, hk, h, j, h1, h2 => by
  rw [ggL_lt (by omega)] at h
  by_cases q : ggI l i = 0
  ·rw [if_pos q] at h
   by_cases e : j = i
   ·subst e; exact q
   ·exact ggL_all k (i + 1) (by omega) h j (by omega) h2
  ·rw [if_neg q] at h; exact absurd h q
theorem ggE_take {G : List Int} {m' : Nat} (h : ggE G = 0) (h0 : 0 < m') (hm : m' ≤ G.length) : ggE (G.take m') = 0 := by
 have hl : (G.take m').length = m' := by rw [List.length_take]; omega
 obtain ⟨g1, g2⟩ := ggE_0 h
 unfold ggE at h ⊢
 rw [if_neg (by omega), if_neg (by omega)] at h
 rw [if_neg (by omega), if_neg (by omega)]
 have gt : ∀ i, i < m' → gx (G.take m') i = gx G i := fun i hi => by simp [gx, List.getElem?_take, hi]
 have all : ∀ (k i : Nat), m' - i = k → ggL (G.take m') i = 0 := by
  intro k
  induction k with
  | zero => intro i h1; exact ggL_ge (by omega)
  | succ k ih =>
   intro i h1
   have a := ggL_all G.length 0 rfl h i (Nat.zero_le _) (by omega)
   have e : ggI (G.take m') i = ggI G i := by unfold ggI; rw [gt i (by omega), gt (i - 1) (by omega)]
   rw [ggL_lt (by omega), e, if_pos a]
   exact ih (i + 1) (by omega)
 exact all m' 0 rfl
theorem cho_one {A : Nat → List Bool} {P : Nat → List XR} {jp : Int} {m n : Nat} {h : Heap} {ga po : Value} {c e' : Int} (S : choS A P jp m n 0 h ga po c e') : Value.oneCell' ga = true ∧ Value.oneCell' po = true := by
 unfold choS at S
 split at S
 ·obtain ⟨rfl, rfl, _⟩ := S; exact ⟨rfl, rfl⟩
 ·split at S
  ·obtain ⟨rfl, rfl, _⟩ := S; exact ⟨rfl, rfl⟩
  ·obtain ⟨sg, ⟨us, np⟩, _⟩ := S
   exact ⟨Sl_one sg, Sl_one np.sl⟩
theorem c12g {d lim bv ov bw ow : Nat} {h : Heap} {vg vx : Value} {wl : List Wi} {l : List Un} {G C : List Int} {t : Int} {L : Lm} (sp : Pr h) (s : SlW h (.slice (some ⟨bv, ov, none⟩) wl.length 4) wl) (q : SlN h (.slice (some ⟨bw, ow, none⟩) l.length 10) l)
  (sg : SlI' h vg G) (sx : SlI' h vx C) (hwl : wl.length ≤ 1000) (hnm : Nms wl) (he : erA t wl l L G = 0) (hc : Cho (fun i => alR wl t (atN l i) L G) (fun i => plR wl t (atN l i) G) L.jp G.length l.length C) :
  E.call (d + 9) lim 12 [stV t (.slice (some ⟨bv, ov, none⟩) wl.length 4) (.slice (some ⟨bw, ow, none⟩) l.length 10), vg, vx] h = some (.tuple #[stV t (.slice (some ⟨h.length, 0, none⟩) wl.length 4) (.slice (some ⟨h.length + 1, 0, none⟩) l.length 10), i64 0], h ++ [some ⟨cS encW wl, true⟩, some ⟨cS encN (setU l G C l.length), true⟩]) := by
 obtain ⟨he1, he2, he3⟩ := erA_parts he
 obtain ⟨w1, w2, _⟩ := with_ok he hc
 have hl := hc.len
 rcases Nat.eq_zero_or_pos l.length with z | z
 ·have el : l = [] := List.eq_nil_of_length_eq_zero z
  subst el
  exact c12z sp s q sg sx hwl hnm he1 he3 (by omega)
 ·exact c12 sp s q sg sx hwl hnm he1 he3 hl (by omega) (.inr (.inr ⟨w1, w2, rfl, rfl⟩))
theorem c3 {d lim : Nat} {h : Heap} {v w gv : Value} {wl : List Wi} {l : List Un} {t : Int} {L : Lm} {G : List Int} (sp : Pr h) (s : SlW h v wl) (q : SlN h w l) (p : SlI' h gv G) : E.call (d + 12) lim 3 [stV t v w, lmV L, gv] h = some (.bool true, h) := by
 have rs := s.rules2
 have rq := q.rules2
 have rg := p.rules2
 have k6 := fun lim hh => c6 (d := d + 3) (lim := lim) (h := hh)
 have k7 := fun lim A => c7 (d := d + 9) (lim := lim) (t := t) ((Sl_freeze.2 s).app A) ((Sl_freeze.2 q).app A)
 have spA := fun A => (Sl_freeze.2 sp).app A
 refine call1 fn3 rfl (by simp [ef3]) ?_
 rcases fw : fewB wl l with _ | _
 ·simp [ef3, k6, k7, fw]
 obtain ⟨lw, hnm, l6⟩ := few_ok fw
 by_cases G2 : G.length < 2
 ·have G2i : (G.length : Int) < 2 := by omega
  simp [ef3, k6, k7, fw, rg, G2, G2i, Int.not_le.2 G2i]
  done
 have G2i : ¬ (G.length : Int) < 2 := by omega
 by_cases G6 : 6 < G.length
 ·have G6i : (6 : Int) < G.length := by omega
  simp [ef3, k6, k7, fw, rg, G2, G2i, Int.not_lt.1 G2i, G6, G6i, Int.not_le.2 G6i]
  done
 have G6i : ¬ (6 : Int) < G.length := by omega
 have k8 := fun lim A => c8 (d := d + 4) (lim := lim) (t := t) (L := L) ((Sl_freeze.2 s).app A) ((Sl_freeze.2 q).app A) ((Sl_freeze.2 p).app A) (by omega)
 by_cases he : erA t wl l L G = 0
 ·obtain ⟨he1, he2, he3⟩ := erA_parts he
  have O := StOk.of he1
  obtain ⟨bg, og, rfl⟩ : ∃ bg og, gv = .slice (some ⟨bg, og, none⟩) G.length 1 := ⟨_, _, p.addr (by omega)⟩
  obtain ⟨m', hG⟩ : ∃ m', G.length = m' + 1 := ⟨G.length - 1, by omega⟩
  have wG : IntKind.wrap .i64 ((G.length : Int) - 1) = (m' : Int) := by rw [wrap_eq (by omega) (by omega)]; omega
  obtain ⟨G', hG'⟩ : ∃ G', G' = G.take m' := ⟨_, rfl⟩
  have Gl' : G'.length = m' := by rw [hG', List.length_take]; omega
  have k10 := fun lim A => c10 (d := d + 10) (lim := lim) (t := t) (Sl_freeze.2 ((Sl_freeze.2 s).app A)) (Sl_freeze.2 ((Sl_freeze.2 q).app A)) (by omega) (by omega)
  have k11 := fun lim A => c11g (d := d + 10) (lim := lim) (Sl_freeze.2 ((Sl_freeze.2 p).app A)) (by omega)
  obtain ⟨ga, po, c, e1, K, k9, ch⟩ := c9 (d := d + 1) (lim := h.length) (t := t) (X := L) (Sl_freeze.2 (spA [qB t v w, qL L, qW wl, qN l, qI G])) (Sl_freeze.2 (ownW (h := h) (l := wl) [qB t v w, qL L, qW wl, qN l, qI G] (k := 2) rfl)) (Sl_freeze.2 (ownN (h := h) (l := l) [qB t v w, qL L, qW wl, qN l, qI G] (k := 3) rfl)) (Sl_freeze.2 (ownI (h := h) (l := G) [qB t v w, qL L, qW wl, qN l, qI G] (k := 4) rfl rfl)) (by omega) hnm (by simp)
  obtain ⟨T9, hT9⟩ : ∃ T9, T9 = h.freeze ++ ([qB t v w, qL L, qW wl, qN l, qI G] ++ K) := ⟨_, rfl⟩
  have T9l : T9.length = h.length + (K.length + 5) := by rw [hT9]; simp
  obtain ⟨T, hT⟩ : ∃ T, T = T9 ++ [some ⟨[ga, po], true⟩] := ⟨_, rfl⟩
  have Tl : T.length = h.length + (K.length + 6) := by rw [hT, List.length_append, T9l]; rfl
  have hT2 : T = h.freeze ++ (([qB t v w, qL L, qW wl, qN l, qI G] ++ K) ++ [some ⟨[ga, po], true⟩]) := by rw [hT, hT9, List.append_assoc]
  have sT : SlW T v wl := hT2 ▸ (Sl_freeze.2 s).app _
  have qT : SlN T w l := hT2 ▸ (Sl_freeze.2 q).app _
  have pT : SlI' T (.slice (some ⟨bg, og, none⟩) G.length 1) G := hT2 ▸ (Sl_freeze.2 p).app _
  have spT : Pr T := hT2 ▸ spA _
  have pT' : SlI' T (.slice (some ⟨bg, og, none⟩) m' 1) G' := hG' ▸ SlI_take pT (by omega) (by omega)
  have k10T := fun lim => c10 (d := d + 10) (lim := lim) (t := t) (Sl_freeze.2 sT) (Sl_freeze.2 qT) (by omega) (by omega)
  have k11T := fun lim => c11g (d := d + 10) (lim := lim) (Sl_freeze.2 (pT'.app [qW wl, qN l])) (by omega)
  have yW : SlW (T ++ [qW wl, qN l, qI G']) (.slice (some ⟨T.length, 0, none⟩) wl.length 4) wl := Sl_own (f := encW) (es := 4) (fun _ => rfl) (by rw [hget_base0 rfl]; rfl) rfl
  have yN : SlN (T ++ [qW wl, qN l, qI G']) (.slice (some ⟨T.length + 1, 0, none⟩) l.length 10) l := Sl_own (f := encN) (es := 10) (fun _ => rfl) (by rw [hget_base rfl]; rfl) rfl
  have yI : SlI' (T ++ [qW wl, qN l, qI G']) (.slice (some ⟨T.length + 2, 0, none⟩) G'.length 1) G' := SlI'_own (by rw [hget_base rfl]; rfl) rfl
  obtain ⟨ga', po', c', e2, K', k9', ch'⟩ := c9 (d := d + 1) (lim := h.length) (t := t) (X := L) (Sl_freeze.2 (spT.app [qW wl, qN l, qI G'])) (Sl_freeze.2 yW) (Sl_freeze.2 yN) (Sl_freeze.2 yI) (by omega) hnm (by simp; omega)
  obtain ⟨U, hU⟩ : ∃ U, U = T ++ ([qW wl, qN l, qI G'] ++ K') := ⟨_, rfl⟩
  obtain ⟨V, hV⟩ : ∃ V, V = U ++ [some ⟨[ga', po'], true⟩] := ⟨_, rfl⟩
  have eG : erA t wl l L G' = 0 := by
   unfold erA
   rw [if_neg (by simpa using he1), if_neg (by simpa using he2), hG']
   exact ggE_take he3 (by omega) (by omega)
  rw [he] at ch
  rw [eG] at ch'
  obtain ⟨l1, l2, l3, l4, l5⟩ := chg_law (m := G.length) (m' := G'.length) (fun i k hk => by rw [hG']; exact alR_take (by omega)) (fun i k hk => by rw [hG']; exact plR_take (by omega)) (fun i _ => alR_len ..) (fun i _ => alR_len ..) (by omega) (by omega) ch ch'
  obtain ⟨o3, o4⟩ := cho_one ch
  obtain ⟨o5, o6⟩ := cho_one ch'
  have mle : m' ≤ G.length := by omega
  have hTe : h.freeze ++ some ⟨[i64 t, v, w], true⟩ :: some ⟨[i64 L.lo, i64 L.hi, i64 L.sh, i64 L.jp], true⟩ :: some ⟨cS encW wl, true⟩ :: some ⟨cS encN l, true⟩ :: some ⟨cI G, true⟩ :: K = T9 := by rw [hT9]; rfl
  have hpu9 : ∀ b, Heap.push T9 b = T9 ++ [some b] := fun _ => rfl
  have hpuU : ∀ b, Heap.push U b = U ++ [some b] := fun _ => rfl
  have hT09 : T9 ++ [some ⟨[ga, po], true⟩] = T := hT.symm
  have hUe : T ++ qW wl :: qN l :: qI G' :: K' = U := by rw [hU]; rfl
  have hVe : U ++ [some ⟨[ga', po'], true⟩] = V := hV.symm
  have g0 : T.get h.length = some ⟨[i64 t, v, w], true⟩ := by rw [hT2, hget_base0 (by simp)]; rfl
  have g1 : T.get (h.length + 1) = some ⟨[i64 L.lo, i64 L.hi, i64 L.sh, i64 L.jp], true⟩ := by rw [hT2, hget_base (by simp)]; rfl
  have g7 : T.get T9.length = some ⟨[ga, po], true⟩ := by rw [hT, hget_base0 rfl]; rfl
  have T0 := fun o n => part_get (o := o) (n := n) g0
  have T1 := fun (M : Heap) o n => part_get (o := o) (n := n) (hget_append (l := M) g1)
  have T1' := fun o n => part_get (o := o) (n := n) g1
  have le9 : h.length ≤ T9.length := by omega
  have leU : h.length ≤ U.length := by rw [hU, List.length_append]; omega
  have o1 := Sl_one s
  have o2 := Sl_one q
  simp only [Value.oneCell'] at o1 o2 o3 o4 o5 o6
  simp at k9 k10 k10T k11T k9'
  rcases l1 with rfl | rfl
  ·obtain ⟨C, sC, hC⟩ := l5 rfl
   have sC9 : SlI' T9 ga C := by have := Sl_unf sC; rw [List.append_assoc] at this; rw [hT9]; exact this
   obtain ⟨Z, hZ⟩ : ∃ Z, V = T ++ Z := ⟨[qW wl, qN l, qI G'] ++ K' ++ [some ⟨[ga', po'], true⟩], by rw [hV, hU]; simp⟩
   have spV : Pr V := hZ ▸ spT.app _
   have sV : SlW V v wl := hZ ▸ sT.app _
   have qV : SlN V w l := hZ ▸ qT.app _
   have pV : SlI' V (.slice (some ⟨bg, og, none⟩) G.length 1) G := hZ ▸ pT.app _
   have sCV : SlI' V ga C := by rw [hZ, hT, List.append_assoc]; exact sC9.app _
   have g0V : V.get h.length = _ := hZ ▸ hget_append (l := Z) g0
   have g1V : V.get (h.length + 1) = _ := hZ ▸ hget_append (l := Z) g1
   have g7V : V.get T9.length = _ := hZ ▸ hget_append (l := Z) g7
   have gUV : V.get U.length = some ⟨[ga', po'], true⟩ := by rw [hV, hget_base0 rfl]; rfl
   have V0 := fun o n => part_get (o := o) (n := n) g0V
   have V0c := fun o => cell_get (o := o) g0V
   have V1M := fun (M : Heap) o n => part_get (o := o) (n := n) (hget_append (l := M) g1V)
   have V7M := fun (M : Heap) o => cell_get (o := o) (hget_append (l := M) g7V)
   have VU := fun o => cell_get (o := o) gUV
   have k10V := fun lim => c10 (d := d + 10) (lim := lim) (t := t) (Sl_freeze.2 sV) (Sl_freeze.2 qV) (by omega) (by omega)
   have k11V := fun lim => c11g (d := d + 10) (lim := lim) (Sl_freeze.2 (pV.app [qW wl, qN l])) (by omega)
   have zW : SlW (V ++ [qW wl, qN l, qI G]) (.slice (some ⟨V.length, 0, none⟩) wl.length 4) wl := Sl_own (f := encW) (es := 4) (fun _ => rfl) (by rw [hget_base0 rfl]; rfl) rfl
   have zN : SlN (V ++ [qW wl, qN l, qI G]) (.slice (some ⟨V.length + 1, 0, none⟩) l.length 10) l := Sl_own (f := encN) (es := 10) (fun _ => rfl) (by rw [hget_base rfl]; rfl) rfl
   have zI : SlI' (V ++ [qW wl, qN l, qI G]) (.slice (some ⟨V.length + 2, 0, none⟩) G.length 1) G := SlI'_own (by rw [hget_base rfl]; rfl) rfl
   have k12 := fun lim => c12g (d := d + 2) (lim := lim) (t := t) (L := L) (Sl_freeze.2 (spV.app [qW wl, qN l, qI G])) (Sl_freeze.2 zW) (Sl_freeze.2 zN) (Sl_freeze.2 zI) (Sl_freeze.2 (sCV.app [qW wl, qN l, qI G])) (by omega) hnm he hC
   obtain ⟨w1, w2, w3, w4⟩ := with_ok he hC
   have sl := setU_len l G C l.length
   have k13 := fun lim => c13 (d := d + 1) (lim := lim) (t := t) (L := L) (h := V ++ [qW wl, qN l, qI G, qW wl, qN (setU l G C l.length), some ⟨[i64 t, .slice (some ⟨V.length + 3, 0, none⟩) wl.length 4, .slice (some ⟨V.length + 4, 0, none⟩) (setU l G C l.length).length 10], true⟩]) (v := .slice (some ⟨V.length + 3, 0, none⟩) wl.length 4) (w := .slice (some ⟨V.length + 4, 0, none⟩) (setU l G C l.length).length 10) (spV.app _) (Sl_own (f := encW) (es := 4) (fun _ => rfl) (by rw [hget_base rfl]; rfl) rfl) (Sl_own (f := encN) (es := 10) (l := setU l G C l.length) (fun _ => rfl) (by rw [hget_base rfl]; rfl) rfl) (by omega) hnm
   rw [w3, w4, sl] at k13
   have leV : h.length ≤ V.length := by rw [hV, List.length_append]; omega
   simp at k10V k11V k12 k13
   rcases l2 with rfl | rfl
   ·obtain ⟨_, cc, sn⟩ := l3 rfl
    simp [ef3, k6, k7, fw, rg, G2, G2i, Int.not_lt.1 G2i, G6, G6i, Int.not_lt.1 G6i, k8, he, k10, k11, k9, hTe, hpu9, hT09, T0, T1, T1', k10T, wG, k11T, k9', hUe, hpuU, hVe, le9, leU, Nat.add_assoc, E.bound, mle, o1, o2, o3, o4, o5, o6, cc, Int.not_lt.2 cc, VU, sn, V0, V0c, qV.rules2, V1M, V7M, k10V, k11V, k12, k13, leV]
    exact .inl (by omega)
   ·simp [ef3, k6, k7, fw, rg, G2, G2i, Int.not_lt.1 G2i, G6, G6i, Int.not_lt.1 G6i, k8, he, k10, k11, k9, hTe, hpu9, hT09, T0, T1, T1', k10T, wG, k11T, k9', hUe, hpuU, hVe, le9, leU, Nat.add_assoc, E.bound, mle, o1, o2, o3, o4, o5, o6, V0, V0c, V1M, V7M, k10V, k11V, k12, k13, leV]
    exact .inl (by omega)
  ·rcases l2 with rfl | rfl
   ·have := (l3 rfl).1
    simp at this
   ·have cc := l4 (by decide) (by decide)
    simp [ef3, k6, k7, fw, rg, G2, G2i, Int.not_lt.1 G2i, G6, G6i, Int.not_lt.1 G6i, k8, he, k10, k11, k9, hTe, hpu9, hT09, T0, T1, T1', k10T, wG, k11T, k9', hUe, hpuU, hVe, le9, leU, Nat.add_assoc, E.bound, mle, o1, o2, o3, o4, o5, o6, cc, Int.not_lt.2 cc]
 ·simp [ef3, k6, k7, fw, rg, G2, G2i, Int.not_lt.1 G2i, G6, G6i, Int.not_lt.1 G6i, k8, he]
  done
end R
end Go.Abs
