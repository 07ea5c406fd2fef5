--
import Derived.Test.YtoloaempiiedgaaDoorAbsRSM
import Derived.Test.YtoloaempiiedgaaDoorAbsRSN
set_option linter.unusedSimpArgs false
set_option linter.unusedVariables false
namespace Go.Abs
namespace R
set_option maxRecDepth 100000
set_option maxHeartbeats 0
def stepL (dl dh : Int) (o : List Int) (i : Nat) : List Int := (o.set i (min (gx o i) (gx o (i - 1) - dl))).set (i - 1) (min (gx o (i - 1)) (min (gx o i) (gx o (i - 1) - dl) + dh))
def passL (dl dh : Int) (o : List Int) : Nat → List Int
 | 0 => o
 | k + 1 => stepL dl dh (passL dl dh o k) (k + 1)
def rndL (dl dh : Int) (o : List Int) : Nat → List Int
 | 0 => o
 | r + 1 => passL dl dh (rndL dl dh o r) (o.length - 1)
theorem stepL_len (dl dh : Int) (o : List Int) (i : Nat) : (stepL dl dh o i).length = o.length := by simp [stepL]
def term (dl dh : Int) (H : Nat → Int) (i j : Nat) : Int := if j ≤ i then H j - ((i : Int) - j) * dl else H j + ((j : Int) - i) * dh
section
variable {dl dh : Int} {H : Nat → Int}
theorem term_self (i : Nat) : term dl dh H i i = H i := by simp [term]
theorem term_up {i j : Nat} (h : j ≤ i) : term dl dh H (i + 1) j = term dl dh H i j - dl := by
 unfold term
 rw [if_pos (by omega), if_pos h]
 have : (((i + 1 : Nat) : Int) - j) * dl = ((i : Int) - j) * dl + dl := by
  rw [show ((i + 1 : Nat) : Int) - (j : Int) = ((i : Int) - j) + 1 by omega, Int.add_mul, Int.one_mul]
 omega
theorem term_dn {i j : Nat} (h : i < j) : term dl dh H i j = term dl dh H (i + 1) j + dh := by
 unfold term
 rw [if_neg (by omega)]
 by_cases q : j ≤ i + 1
 ·obtain rfl : j = i + 1 := by omega
  rw [if_pos (by omega)]
  have e1 : (((i + 1 : Nat) : Int) - (i : Int)) = 1 := by omega
  have e2 : (((i + 1 : Nat) : Int) - ((i + 1 : Nat) : Int)) = 0 := by omega
  rw [e1, e2, Int.one_mul, Int.zero_mul]; omega
 ·rw [if_neg q]
  have : ((j : Int) - i) * dh = ((j : Int) - ((i + 1 : Nat) : Int)) * dh + dh := by
   rw [show (j : Int) - (i : Int) = ((j : Int) - ((i + 1 : Nat) : Int)) + 1 by omega, Int.add_mul, Int.one_mul]
  omega
theorem term_up_le (hd : dl ≤ dh) (i j : Nat) : term dl dh H (i + 1) j ≤ term dl dh H i j - dl := by
 by_cases q : j ≤ i
 ·rw [term_up q]; omega
 ·have := term_dn (dl := dl) (dh := dh) (H := H) (show i < j by omega)
  omega
theorem term_dn_le (hd : dl ≤ dh) (i j : Nat) : term dl dh H i j ≤ term dl dh H (i + 1) j + dh := by
 by_cases q : j ≤ i
 ·have := term_up (dl := dl) (dh := dh) (H := H) q
  omega
 ·have := term_dn (dl := dl) (dh := dh) (H := H) (show i < j by omega)
  omega
theorem gx_step {o : List Int} {m : Nat} (h0 : 1 ≤ m) (hm : m < o.length) (i : Nat) : gx (stepL dl dh o m) i =
  if i = m then min (gx o m) (gx o (m - 1) - dl) else if i = m - 1 then min (gx o (m - 1)) (min (gx o m) (gx o (m - 1) - dl) + dh) else gx o i := by
 unfold stepL
 rw [gx_set (by simp; omega), gx_set hm]
 by_cases q : i = m
 ·rw [if_neg (by omega), if_pos q.symm, if_pos q]
 ·rw [if_neg q]
  by_cases q2 : i = m - 1
  ·rw [if_pos q2.symm, if_pos q2]
  ·rw [if_neg (fun e => q2 e.symm), if_neg q2, if_neg (fun e => q e.symm)]
structure LI (dl dh : Int) (H : Nat → Int) (n r k : Nat) (o : List Int) : Prop where
 len : o.length = n
 at_ : ∀ i, i < n → ∃ j, j < n ∧ term dl dh H i j ≤ gx o i
 own : ∀ i, i < n → gx o i ≤ H i
 low : ∀ i j, i < n → j < i → 1 ≤ r ∨ i ≤ k → gx o i ≤ term dl dh H i j
 hig : ∀ i j, j < n → i < j → j ≤ i + r + (if i < k then 1 else 0) → gx o i ≤ term dl dh H i j
theorem LI.step {n r k : Nat} {o : List Int} (hd : dl ≤ dh) (L : LI dl dh H n r k o) (hk : k + 1 < n) : LI dl dh H n r (k + 1) (stepL dl dh o (k + 1)) := by
 have g := fun i => gx_step (dl := dl) (dh := dh) (o := o) (m := k + 1) (by omega) (by rw [L.len]; exact hk) i
 simp only [Nat.add_sub_cancel] at g
 have mono : ∀ i, gx (stepL dl dh o (k + 1)) i ≤ gx o i := fun i => by
  rw [g i]; split
  ·rename_i e; subst e; omega
  ·split
   ·rename_i e; subst e; omega
   ·omega
 refine ⟨by rw [stepL_len]; exact L.len, fun i hi => ?_, fun i hi => Int.le_trans (mono i) (L.own i hi), fun i j hi hj hq => ?_, fun i j hj hij hq => ?_⟩
 ·obtain ⟨j0, hj0, t0⟩ := L.at_ k (by omega)
  obtain ⟨j1, hj1, t1⟩ := L.at_ (k + 1) (by omega)
  have a0 := term_up_le (H := H) hd k j0
  have a1 := term_dn_le (H := H) hd k j1
  have a2 := term_dn_le (H := H) hd k j0
  rw [g i]
  split
  ·rename_i e; subst e
   rcases Int.lt_or_le (gx o k - dl) (gx o (k + 1)) with z | z
   ·exact ⟨j0, hj0, by omega⟩
   ·exact ⟨j1, hj1, by omega⟩
  ·split
   ·rename_i e; subst e
    rcases Int.lt_or_le (min (gx o (i + 1)) (gx o i - dl) + dh) (gx o i) with z | z
    ·rcases Int.lt_or_le (gx o i - dl) (gx o (i + 1)) with z2 | z2
     ·exact ⟨j0, hj0, by omega⟩
     ·exact ⟨j1, hj1, by omega⟩
    ·exact ⟨j0, hj0, by omega⟩
   ·exact L.at_ i hi
 ·by_cases e : i = k + 1
  ·subst e
   have a := term_up (dl := dl) (dh := dh) (H := H) (show j ≤ k by omega)
   have b : gx o k ≤ term dl dh H k j := by
    rcases Nat.lt_or_ge j k with z | z
    ·exact L.low k j (by omega) z (.inr (Nat.le_refl _))
    ·obtain rfl : j = k := by omega
     rw [term_self]; exact L.own j (by omega)
   rw [g, if_pos rfl]; omega
  ·exact Int.le_trans (mono i) (L.low i j hi hj (by omega))
 ·by_cases e : j ≤ i + r + (if i < k then 1 else 0)
  ·exact Int.le_trans (mono i) (L.hig i j hj hij e)
  ·have ek : i = k := by
    by_cases q : i < k
    ·rw [if_pos q] at e; split at hq <;> omega
    ·rw [if_neg q] at e
     split at hq <;> omega
   subst ek
   have a := term_dn (dl := dl) (dh := dh) (H := H) hij
   have b : gx o (i + 1) ≤ term dl dh H (i + 1) j := by
    rcases Nat.lt_or_ge (i + 1) j with z | z
    ·refine L.hig (i + 1) j hj z ?_
     rw [if_pos (by omega)] at hq
     omega
    ·obtain rfl : j = i + 1 := by omega
     rw [term_self]; exact L.own _ (by omega)
   rw [g, if_neg (by omega), if_pos rfl]; omega
theorem LI.pass {n r : Nat} {o : List Int} (hd : dl ≤ dh) (L : LI dl dh H n r 0 o) : ∀ k, k + 1 ≤ n → LI dl dh H n r k (passL dl dh o k)
 | 0, _ => L
 | k + 1, hk => (LI.pass hd L k (by omega)).step hd (by omega)
theorem LI.next {n r : Nat} {o : List Int} (L : LI dl dh H n r (n - 1) o) : LI dl dh H n (r + 1) 0 o :=
 ⟨L.len, L.at_, L.own, fun i j hi hj _ => L.low i j hi hj (.inr (by omega)), fun i j hj hij hq => L.hig i j hj hij (by rw [if_pos (by omega)]; simp at hq; omega)⟩
theorem LI.start {o : List Int} (h : ∀ i, i < o.length → gx o i = H i) : LI dl dh H o.length 0 0 o :=
 ⟨rfl, fun i hi => ⟨i, hi, by rw [term_self, h i hi]; exact Int.le_refl _⟩, fun i hi => by rw [h i hi]; exact Int.le_refl _, fun i j hi hj hq => absurd hq (by omega), fun i j hj hij hq => by simp at hq; omega⟩
theorem LI.rounds {o : List Int} (hd : dl ≤ dh) (h : ∀ i, i < o.length → gx o i = H i) : ∀ r, LI dl dh H o.length r 0 (rndL dl dh o r)
 | 0 => LI.start h
 | r + 1 => by
  have L := LI.rounds hd h r
  rcases Nat.eq_zero_or_pos o.length with z | z
  ·have e : rndL dl dh o (r + 1) = rndL dl dh o r := by rw [rndL, z]; rfl
   rw [e]
   exact ⟨L.len, L.at_, L.own, fun i j hi => absurd hi (by omega), fun i j hj => absurd hj (by omega)⟩
  ·exact (L.pass hd _ (by omega)).next
structure LSm (dl dh : Int) (H : Nat → Int) (n : Nat) (o : List Int) : Prop where
 len : o.length = n
 own : ∀ i, i < n → gx o i ≤ H i
 dn : ∀ i, i + 1 < n → gx o (i + 1) ≤ gx o i - dl
 up : ∀ i, i + 1 < n → gx o i ≤ gx o (i + 1) + dh
 tight : ∀ i, i < n → gx o i = H i ∨ (0 < i ∧ gx o i = gx o (i - 1) - dl) ∨ (i + 1 < n ∧ gx o i = gx o (i + 1) + dh)
 great : ∀ y : Nat → Int, (∀ i, i < n → y i ≤ H i) → (∀ i, i + 1 < n → y (i + 1) ≤ y i - dl) → (∀ i, i + 1 < n → y i ≤ y (i + 1) + dh) → ∀ i, i < n → y i ≤ gx o i
theorem LSm.of {n : Nat} {o : List Int} (hd : dl ≤ dh) (L : LI dl dh H n n 0 o) : LSm dl dh H n o := by
 have ub : ∀ i j, i < n → j < n → gx o i ≤ term dl dh H i j := fun i j hi hj => by
  rcases Nat.lt_trichotomy i j with z | z | z
  ·exact L.hig i j hj z (by simp; omega)
  ·subst z; rw [term_self]; exact L.own i hi
  ·exact L.low i j hi z (.inl (by omega))
 have d1 : ∀ i, i + 1 < n → gx o (i + 1) ≤ gx o i - dl := fun i hi => by
  obtain ⟨j, hj, t⟩ := L.at_ i (by omega)
  have a := ub (i + 1) j hi hj
  have b := term_up_le (H := H) hd i j
  omega
 have u1 : ∀ i, i + 1 < n → gx o i ≤ gx o (i + 1) + dh := fun i hi => by
  obtain ⟨j, hj, t⟩ := L.at_ (i + 1) hi
  have a := ub i j (by omega) hj
  have b := term_dn_le (H := H) hd i j
  omega
 refine ⟨L.len, L.own, d1, u1, fun i hi => ?_, fun y y0 y1 y2 i hi => ?_⟩
 ·obtain ⟨j, hj, t⟩ := L.at_ i hi
  rcases Nat.lt_trichotomy i j with z | z | z
  ·refine .inr (.inr ⟨by omega, ?_⟩)
   have a := term_dn (dl := dl) (dh := dh) (H := H) z
   have b := ub (i + 1) j (by omega) hj
   have c := u1 i (by omega)
   omega
  ·subst z; rw [term_self] at t; have := L.own i hi; exact .inl (by omega)
  ·refine .inr (.inl ⟨by omega, ?_⟩)
   obtain ⟨k, rfl⟩ : ∃ k, i = k + 1 := ⟨i - 1, by omega⟩
   have a := term_up (dl := dl) (dh := dh) (H := H) (show j ≤ k by omega)
   have b := ub k j (by omega) hj
   have c := d1 k (by omega)
   simp only [Nat.add_sub_cancel]
   omega
 ·obtain ⟨j, hj, t⟩ := L.at_ i hi
  have key1 : ∀ m, i + m < n → y i ≤ y (i + m) + (m : Int) * dh := fun m => by
   induction m with
   | zero => intro _; simp
   | succ m ih =>
    intro q
    have a := ih (by omega)
    have b := y2 (i + m) (by omega)
    have e : ((m + 1 : Nat) : Int) * dh = (m : Int) * dh + dh := by rw [show ((m + 1 : Nat) : Int) = (m : Int) + 1 by omega, Int.add_mul, Int.one_mul]
    rw [show i + (m + 1) = i + m + 1 by omega]
    omega
  have key2 : ∀ m, m ≤ i → y i ≤ y (i - m) - (m : Int) * dl := fun m => by
   induction m with
   | zero => intro _; simp
   | succ m ih =>
    intro q
    have a := ih (by omega)
    have b := y1 (i - (m + 1)) (by omega)
    have e : ((m + 1 : Nat) : Int) * dl = (m : Int) * dl + dl := by rw [show ((m + 1 : Nat) : Int) = (m : Int) + 1 by omega, Int.add_mul, Int.one_mul]
    rw [show i - (m + 1) + 1 = i - m by omega] at b
    omega
  by_cases q : j ≤ i
  ·have a := key2 (i - j) (by omega)
   rw [show i - (i - j) = j by omega, show ((i - j : Nat) : Int) = (i : Int) - j by omega] at a
   unfold term at t
   rw [if_pos q] at t
   have := y0 j hj
   omega
  ·have a := key1 (j - i) (by omega)
   rw [show i + (j - i) = j by omega, show ((j - i : Nat) : Int) = (j : Int) - i by omega] at a
   unfold term at t
   rw [if_neg q] at t
   have := y0 j hj
   omega
theorem LSm.still {n : Nat} {o : List Int} (S : LSm dl dh H n o) : ∀ k, k + 1 ≤ n → passL dl dh o k = o
 | 0, _ => rfl
 | k + 1, hk => by
  rw [passL, S.still k (by omega)]
  have a := S.dn k (by omega)
  have b := S.up k (by omega)
  unfold stepL
  simp only [Nat.add_sub_cancel]
  have e1 : min (gx o (k + 1)) (gx o k - dl) = gx o (k + 1) := by omega
  have e2 : min (gx o k) (gx o (k + 1) + dh) = gx o k := by omega
  rw [e1, e2]
  have s1 : ∀ j, j < o.length → o.set j (gx o j) = o := fun j hj => by
   have : gx o j = o[j] := by simp [gx, List.getD_eq_getElem?_getD, List.getElem?_eq_getElem hj]
   rw [this]; exact List.set_getElem_self hj
  rw [s1 (k + 1) (by rw [S.len]; omega), s1 k (by rw [S.len]; omega)]
theorem LI.bd {n r k : Nat} {o : List Int} (L : LI dl dh H n r k o) (h1 : -300000 ≤ dl ∧ dl ≤ 300000) (h2 : -300000 ≤ dh ∧ dh ≤ 300000) (hH : ∀ i, i < n → 0 ≤ H i ∧ H i ≤ 300000) (hn : n ≤ 100) {i : Nat} (hi : i < n) : -30000000 ≤ gx o i ∧ gx o i ≤ 300000 := by
 obtain ⟨j, hj, t⟩ := L.at_ i hi
 have a := L.own i hi
 have b := hH i hi
 have c := hH j hj
 have m : ∀ (e x : Int), 0 ≤ e → e ≤ 100 → -300000 ≤ x → x ≤ 300000 → -30000000 ≤ e * x ∧ e * x ≤ 30000000 := fun e x e0 e1 x0 x1 => by
  have p := Int.mul_le_mul_of_nonneg_left x1 e0
  have q := Int.mul_le_mul_of_nonneg_left x0 e0
  omega
 refine ⟨?_, by omega⟩
 unfold term at t
 split at t
 ·have := m ((i : Int) - j) dl (by omega) (by omega) h1.1 h1.2; omega
 ·have := m ((j : Int) - i) dh (by omega) (by omega) h2.1 h2.2; omega
end
end R
end Go.Abs
namespace Go.Abs
namespace R
set_option maxRecDepth 100000
set_option maxHeartbeats 0
abbrev XR := Int × Int
def atR (l : List XR) (i : Nat) : XR := l[i]?.getD (0, 0)
theorem atR_get {l : List XR} {i : Nat} (h : i < l.length) : l[i] = atR l i := by unfold atR; rw [List.getElem?_eq_getElem h]; rfl
def rErr (r : XR) : Int := if r.1 < 1000 ∨ r.2 < r.1 ∨ 300000 < r.2 then 2 else 0
def chkRL (l : List XR) (i : Nat) : Int := if i < l.length then (if rErr (atR l i) = 0 then chkRL l (i + 1) else rErr (atR l i)) else 0
termination_by l.length - i
theorem chkRL_lt {l : List XR} {i : Nat} (h : i < l.length) : chkRL l i = if rErr (atR l i) = 0 then chkRL l (i + 1) else rErr (atR l i) := by rw [chkRL, if_pos h]
theorem chkRL_all {l : List XR} : ∀ (k i : Nat), l.length - i = k → chkRL l i = 0 → ∀ j, i ≤ j → j < l.length → rErr (atR l j) = 0
 | 0, i, hk, _, j, h1, h2 => by omega
 | k + 1, i, hk, h, j, h1, h2 => by
  rw [chkRL_lt (by omega)] at h
  split at h
  ·rename_i e
   rcases Nat.eq_or_lt_of_le h1 with rfl | h3
   ·exact e
   ·exact chkRL_all k (i + 1) (by omega) h j h3 h2
  ·rename_i e; exact absurd h e
def lenE (l : List XR) (dl dh : Int) : Int := if 50 < l.length then 8 else if chkRL l 0 = 0 then (if dl < -300000 ∨ dh < dl ∨ 300000 < dh then 2 else 0) else chkRL l 0
structure LenOk (l : List XR) (dl dh : Int) : Prop where
 few : l.length ≤ 50
 rng : ∀ i, i < l.length → 1000 ≤ (atR l i).1 ∧ (atR l i).1 ≤ (atR l i).2 ∧ (atR l i).2 ≤ 300000
 d : -300000 ≤ dl ∧ dl ≤ dh ∧ dh ≤ 300000
theorem LenOk.of {l : List XR} {dl dh : Int} (h : lenE l dl dh = 0) : LenOk l dl dh := by
 unfold lenE at h
 split at h
 ·cases h
 ·split at h
  ·rename_i q1 q2
   split at h
   ·cases h
   ·refine ⟨by omega, fun i hi => ?_, by omega⟩
    have := chkRL_all _ 0 rfl q2 i (by omega) hi
    unfold rErr at this
    split at this
    ·cases this
    ·omega
  ·rename_i q; exact absurd h q
end R
end Go.Abs
