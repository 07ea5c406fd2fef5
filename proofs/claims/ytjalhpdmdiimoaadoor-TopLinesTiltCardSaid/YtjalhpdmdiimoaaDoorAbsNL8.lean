/- The best line is accepted. -/
import Derived.Test.YtjalhpdmdiimoaaDoorAbsNL7
import Derived.Test.YtjalhpdmdiimoaaDoorAbsNO3
set_option linter.unusedSimpArgs false
set_option linter.unusedVariables false
namespace Go.Abs.N
open Go Go.Abs
set_option maxRecDepth 100000
set_option maxHeartbeats 0
theorem commU_lcm {u d : Int} (hu : 1 ≤ u ∧ u ≤ 40000) (hd : 1 ≤ d ∧ d ≤ 1000000000) (hl : (Int.lcm u d : Int) ≤ 40000) : commU u d = (Int.lcm u d : Int) := by
  have hg := gcdL_eq (a := u) (b := d) ⟨by omega, by omega⟩ ⟨by omega, by omega⟩
  have hpos : 0 < Int.gcd u d := Int.gcd_pos_of_ne_zero_right _ (by omega)
  have h3 : Int.gcd u d ≤ u.natAbs := Nat.le_of_dvd (by omega) (by rw [Int.gcd_eq_natAbs_gcd_natAbs]; exact Nat.gcd_dvd_left _ _)
  have hg' : gcdL u d = (Int.gcd u d : Int) := by rw [hg]; exact wrap_eq (by omega) (by omega)
  obtain ⟨y, hy⟩ := Int.gcd_dvd_right u d
  have e1 : (Int.gcd u d : Int) * (Int.lcm u d : Int) = u * d := by
    rw [← Int.natCast_mul, Int.gcd_mul_lcm]
    rw [Int.natCast_mul, Int.natAbs_of_nonneg (show 0 ≤ u by omega), Int.natAbs_of_nonneg (show 0 ≤ d by omega)]
  generalize (Int.lcm u d : Int) = L at *
  generalize hgg : (Int.gcd u d : Int) = g at *
  have hg0 : 0 < g := by omega
  have q2 : d.tdiv g = y := by rw [hy]; exact Int.mul_tdiv_cancel_left _ (by omega)
  have e2 : u * y = L := by
    have : g * (u * y) = g * L := by rw [e1, Int.mul_left_comm, ← hy]
    exact Int.eq_of_mul_eq_mul_left (by omega) this
  have ypos : 0 < y := by
    rcases Int.lt_or_le 0 y with h | h
    · exact h
    · have : g * y ≤ 0 := Int.mul_nonpos_of_nonneg_of_nonpos (by omega) h
      omega
  have yle : y ≤ d := by
    have : 1 * y ≤ g * y := Int.mul_le_mul_of_nonneg_right (by omega) (by omega)
    omega
  have up : 0 ≤ u * y := Int.mul_nonneg (by omega) (by omega)
  unfold commU qdiv
  rw [hg', q2, wrap_eq (n := y) (by omega) (by omega), wrap_eq (by omega) (by omega), e2]
theorem commU_dvd {u d M : Int} (hu : 1 ≤ u ∧ u ≤ 40000) (hd : 1 ≤ d ∧ d ≤ 1000000000) (hM : 1 ≤ M ∧ M ≤ 40000) (h1 : u ∣ M) (h2 : d ∣ M) : commU u d ∣ M ∧ u ∣ commU u d ∧ d ∣ commU u d ∧ 1 ≤ commU u d ∧ commU u d ≤ M := by
  have hl2 : (Int.lcm u d : Int) ∣ M := Int.coe_lcm_dvd h1 h2
  have hle : (Int.lcm u d : Int) ≤ M := Int.le_of_dvd (by omega) hl2
  have hlp : 0 < (Int.lcm u d : Int) := by
    rcases Nat.eq_zero_or_pos (Int.lcm u d) with q | q
    · rw [q] at hl2; simp at hl2; omega
    · omega
  rw [commU_lcm hu hd (by omega)]
  exact ⟨hl2, Int.dvd_lcm_left u d, Int.dvd_lcm_right u d, by omega, hle⟩
theorem checkFrac_ok {a m : Int} (ha : a.natAbs ≤ 1000000000) (hm : 0 < m ∧ m ≤ 1000000000) : checkFrac (lowN a m) (lowD a m) = 0 := by
  obtain ⟨g, _, _, _, h1, h2, h3, h4⟩ := low_spec (a := a) (m := m) (by omega) (by omega)
  have hg : gcdL (lowN a m) (lowD a m) = 1 := by
    rw [gcdL_eq ⟨by omega, by omega⟩ ⟨by omega, by omega⟩, h4]; rfl
  simp [checkFrac, hg, within]; omega
theorem stN_eq (l : D2) (i j k : Nat) : stN l i j k = wid l i k * (dy l i + dy l j) - (dy l k - dy l i) * (dx l i + dx l j) := by
  unfold stN bent; grind
theorem stN_b {l : D2} (D : DotsOk l) {i j k : Nat} (h : i < j) (h' : j < k) (hk : k < l.length) : -800000000 ≤ stN l i j k ∧ stN l i j k ≤ 800000000 := by
  have w := wid_b D (show i < k by omega) hk
  have y1 := D.by_ i (by omega); have y2 := D.by_ j (by omega); have y3 := D.by_ k hk
  have x1 := D.bx i (by omega); have x2 := D.bx j (by omega)
  have a := mul_b (a := wid l i k) (b := dy l i + dy l j) (A := 20000) (B := 20000) (by omega) (by omega) (by omega) (by omega)
  have b := mul_b (a := dy l k - dy l i) (b := dx l i + dx l j) (A := 20000) (B := 20000) (by omega) (by omega) (by omega) (by omega)
  rw [stN_eq]; omega
/-- What is asked of a number over the common denominator. -/
theorem over_eq {U n m g t a M : Int} (hU : 1 ≤ U ∧ U ≤ 40000) (hm : 0 < m) (hd : m ∣ U) (hM : M = U * t) (hg : M = g * m) (ha : a = g * n) (ht : 0 < t) (hb : a.natAbs ≤ 2000000000) : t * overV U n m = a ∧ (overV U n m).natAbs ≤ 2000000000 := by
  obtain ⟨x, hx⟩ := hd
  have q1 : U.tdiv m = x := by rw [hx]; exact Int.mul_tdiv_cancel_left _ (by omega)
  have xpos : 0 < x := by
    rcases Int.lt_or_le 0 x with h | h
    · exact h
    · have : m * x ≤ 0 := Int.mul_nonpos_of_nonneg_of_nonpos (by omega) h
      omega
  have xle : x ≤ U := by
    have : 1 * x ≤ m * x := Int.mul_le_mul_of_nonneg_right (by omega) (by omega)
    omega
  have e1 : g = x * t := by
    have : m * (x * t) = m * g := by rw [← Int.mul_assoc, ← hx, ← hM, hg, Int.mul_comm]
    exact (Int.eq_of_mul_eq_mul_left (by omega) this).symm
  have e2 : t * (n * x) = a := by rw [ha, e1]; grind
  have hle : (n * x).natAbs ≤ 2000000000 := by
    have : a.natAbs = t.natAbs * (n * x).natAbs := by rw [← e2, Int.natAbs_mul]
    have h2 : 1 * (n * x).natAbs ≤ t.natAbs * (n * x).natAbs := Nat.mul_le_mul_right _ (by omega)
    omega
  have r : overV U n m = n * x := by
    unfold overV qdiv
    rw [q1, wrap_eq (n := x) (by omega) (by omega), wrap_eq (by omega) (by omega)]
  rw [r]; exact ⟨e2, hle⟩
section
variable {l : D2} {i j k : Nat} {U t oS oP oE sN sD pN pD eN eD : Int}
theorem wrong_key (hx : ∀ q, q < l.length → -10000 ≤ dx l q ∧ dx l q ≤ 10000) (hy : ∀ q, q < l.length → -10000 ≤ dy l q ∧ dy l q ≤ 10000) (hU : 1 ≤ U ∧ U ≤ 40000) (ht : 2 * wid l i k = U * t)
    (hS : overV U sN sD = oS) (hP : overV U pN pD = oP) (c1 : t * oS = stN l i j k) (c2 : t * oP = 2 * (dy l k - dy l i)) (b1 : oS.natAbs ≤ 2000000000) (b2 : oP.natAbs ≤ 40000) {q : Nat} (hq : q < l.length) :
    t * wrongV U sN sD pN pD (dx l q) (dy l q) = res l i j k q ∧ -3000000000 ≤ wrongV U sN sD pN pD (dx l q) (dy l q) ∧ wrongV U sN sD pN pD (dx l q) (dy l q) ≤ 3000000000 := by
  have x := hx q hq; have y := hy q hq
  have n1 := mul_b (a := dy l q) (b := U) (A := 10000) (B := 40000) (by omega) (by omega) (by omega) (by omega)
  have n2 := mul_b (a := oP) (b := dx l q) (A := 40000) (B := 10000) (by omega) (by omega) (by omega) (by omega)
  unfold wrongV
  rw [hS, hP]
  rw [wrap_eq (n := dy l q * U) (by omega) (by omega), wrap_eq (n := oP * dx l q) (by omega) (by omega), wrap_eq (n := dy l q * U - oS) (by omega) (by omega), wrap_eq (by omega) (by omega)]
  refine ⟨?_, by omega⟩
  unfold res
  rw [← c1, ← c2, ht, Int.mul_sub, Int.mul_sub]
  have m1' : t * (dy l q * U) = U * t * dy l q := by rw [Int.mul_comm U t, Int.mul_assoc, Int.mul_comm U]
  rw [m1', Int.mul_assoc t]
theorem abs_le {t a S : Int} (ht : 0 < t) (h : -(t * S) ≤ t * a ∧ t * a ≤ t * S) : -S ≤ a ∧ a ≤ S := by
  constructor
  · have : t * -S ≤ t * a := by rw [Int.mul_neg]; exact h.1
    exact Int.le_of_mul_le_mul_left this ht
  · exact Int.le_of_mul_le_mul_left h.2 ht
theorem wrap_n {x : Int} (h : -3000000000 ≤ x ∧ x ≤ 3000000000) : IntKind.wrap .i64 (-x) = -x := wrap_eq (by omega) (by omega)
theorem brk_false (W : Int) (key : ∀ q, q < l.length → (-W ≤ wrongV U sN sD pN pD (dx l q) (dy l q) ∧ wrongV U sN sD pN pD (dx l q) (dy l q) ≤ W) ∧ -3000000000 ≤ wrongV U sN sD pN pD (dx l q) (dy l q) ∧ wrongV U sN sD pN pD (dx l q) (dy l q) ≤ 3000000000) :
    ∀ m q, l.length - q = m → brk l U sN sD pN pD W q = false := by
  intro m
  induction m with
  | zero => intro q hq; exact brk_ge (by omega)
  | succ m ih =>
    intro q hq
    have k := key q (by omega)
    rw [brk_lt (by omega), wrap_n k.2, if_neg (by omega)]
    exact ih (q + 1) (by omega)
theorem prf_zero {W : Int} (ht : 0 < t) (c3 : t * W = sz l i j k) (hi : t * wrongV U sN sD pN pD (dx l i) (dy l i) = bent l i j k) (hj : t * wrongV U sN sD pN pD (dx l j) (dy l j) = -bent l i j k) (hk : t * wrongV U sN sD pN pD (dx l k) (dy l k) = bent l i j k)
    (bi : -3000000000 ≤ wrongV U sN sD pN pD (dx l i) (dy l i) ∧ wrongV U sN sD pN pD (dx l i) (dy l i) ≤ 3000000000) : prf l U sN sD pN pD W i j k = 0 := by
  have eqt : ∀ a b, t * a = t * b → a = b := fun a b q => Int.eq_of_mul_eq_mul_left (by omega) q
  have p2' : wrongV U sN sD pN pD (dx l j) (dy l j) = -wrongV U sN sD pN pD (dx l i) (dy l i) := eqt _ _ (by rw [Int.mul_neg, hj, hi])
  have p3' : wrongV U sN sD pN pD (dx l k) (dy l k) = wrongV U sN sD pN pD (dx l i) (dy l i) := eqt _ _ (by rw [hk, hi])
  have p1' : max (wrongV U sN sD pN pD (dx l i) (dy l i)) (-wrongV U sN sD pN pD (dx l i) (dy l i)) = W := by
    unfold sz at c3
    have W0 : 0 ≤ W := by
      rcases Int.lt_or_le W 0 with z | z
      · have := Int.mul_neg_of_pos_of_neg ht z; omega
      · exact z
    rcases Int.lt_or_le (bent l i j k) 0 with q | q
    · have e : W = -wrongV U sN sD pN pD (dx l i) (dy l i) := eqt _ _ (by rw [c3, Int.mul_neg, hi]; omega)
      omega
    · have e : W = wrongV U sN sD pN pD (dx l i) (dy l i) := eqt _ _ (by rw [c3, hi]; omega)
      omega
  unfold prf
  rw [wrap_n bi, if_pos ⟨p1', p2', p3'⟩]
theorem lineE_zero (hd : dotsV l = 0) (h3 : f3 sN sD pN pD eN eD = 0) (hE : commE sD pD eD = 0) (h5 : idx3 l.length i j k = true) (hij : i < j) (hjk : j < k) (hb : brk l (commV sD pD eD) sN sD pN pD (overV (commV sD pD eD) eN eD) 0 = false)
    (hp : prf l (commV sD pD eD) sN sD pN pD (overV (commV sD pD eD) eN eD) i j k = 0) : lineE l sN sD pN pD eN eD i j k = 0 := by
  unfold lineE
  rw [if_neg (by simp [hd]), if_neg (by simp [h3]), if_neg (by simp [hE]), if_neg (by simp [h5]), if_neg (by omega), hb]
  simpa using hp
theorem idx_ok {n : Nat} (hij : i < j) (hjk : j < k) (hk : k < n) : idx3 n i j k = true := by simp [idx3, within]; omega
theorem comm_ok {M : Int} (hM : 1 ≤ M ∧ M ≤ 40000) (d1 : 1 ≤ sD ∧ sD ≤ 1000000000) (d2 : 1 ≤ pD ∧ pD ≤ 1000000000) (d3 : 1 ≤ eD ∧ eD ≤ 1000000000) (v1 : sD ∣ M) (v2 : pD ∣ M) (v3 : eD ∣ M) :
    commE sD pD eD = 0 ∧ (1 ≤ commV sD pD eD ∧ commV sD pD eD ≤ 40000) ∧ commV sD pD eD ∣ M ∧ sD ∣ commV sD pD eD ∧ pD ∣ commV sD pD eD ∧ eD ∣ commV sD pD eD := by
  obtain ⟨x1, _, x3, x4, x5⟩ := commU_dvd (u := 1) (d := sD) (M := M) (by omega) d1 hM (Int.one_dvd _) v1
  obtain ⟨z1, z2, z3, z4, z5⟩ := commU_dvd (u := commU 1 sD) (d := pD) (M := M) (by omega) d2 hM x1 v2
  obtain ⟨o1, o2, o3, o4, o5⟩ := commU_dvd (u := commU (commU 1 sD) pD) (d := eD) (M := M) (by omega) d3 hM z1 v3
  have hV : commV sD pD eD = commU (commU (commU 1 sD) pD) eD := by unfold commV; rw [if_neg (by omega)]
  have hE : commE sD pD eD = 0 := by unfold commE; rw [if_neg (by omega)]
  rw [hV]
  exact ⟨hE, by omega, o1, Int.dvd_trans (Int.dvd_trans x3 z2) o2, Int.dvd_trans z3 o2, o3⟩
end
theorem accept {l : D2} (hd : dotsV l = 0) {i j k : Nat} (h : i < j) (h' : j < k) (hk : k < l.length) {sN sD pN pD eN eD g1 g2 g3 : Int} (DX : ∀ q, q < l.length → -10000 ≤ dx l q ∧ dx l q ≤ 10000) (DY : ∀ q, q < l.length → -10000 ≤ dy l q ∧ dy l q ≤ 10000)
    (hf : f3 sN sD pN pD eN eD = 0) (wb : 1 ≤ 2 * wid l i k ∧ 2 * wid l i k ≤ 40000) (d1 : 1 ≤ sD ∧ sD ≤ 1000000000) (d2 : 1 ≤ pD ∧ pD ≤ 1000000000) (d3 : 1 ≤ eD ∧ eD ≤ 1000000000) (v1 : sD ∣ 2 * wid l i k) (v2 : pD ∣ 2 * wid l i k) (v3 : eD ∣ 2 * wid l i k)
    (m1 : 2 * wid l i k = g1 * sD) (m2 : 2 * wid l i k = g2 * pD) (m3 : 2 * wid l i k = g3 * eD) (a1 : stN l i j k = g1 * sN) (a2 : 2 * (dy l k - dy l i) = g2 * pN) (a3 : sz l i j k = g3 * eN)
    (n1 : (stN l i j k).natAbs ≤ 2000000000) (n2 : (2 * (dy l k - dy l i)).natAbs ≤ 40000) (n3 : (sz l i j k).natAbs ≤ 2000000000)
    (ri : res l i j k i = bent l i j k) (rj : res l i j k j = -bent l i j k) (rk : res l i j k k = bent l i j k) (hle : ∀ q, q < l.length → -sz l i j k ≤ res l i j k q ∧ res l i j k q ≤ sz l i j k) : lineE l sN sD pN pD eN eD i j k = 0 := by
  obtain ⟨hE, hU, ⟨t, ht⟩, s1, s2, s3⟩ := comm_ok wb d1 d2 d3 v1 v2 v3
  have hb0 : ∀ U : Int, U = commV sD pD eD → (1 ≤ U ∧ U ≤ 40000) → 2 * wid l i k = U * t → sD ∣ U → pD ∣ U → eD ∣ U → brk l U sN sD pN pD (overV U eN eD) 0 = false ∧ prf l U sN sD pN pD (overV U eN eD) i j k = 0 := by
    intro U _ hU ht s1 s2 s3
    have tpos : 0 < t := by
      rcases Int.lt_or_le 0 t with q | q
      · exact q
      · have := Int.mul_nonpos_of_nonneg_of_nonpos (show 0 ≤ U by omega) q
        omega
    obtain ⟨c1, b1⟩ := over_eq hU (show 0 < sD by omega) s1 ht m1 a1 tpos n1
    obtain ⟨c2, b2⟩ := over_eq hU (show 0 < pD by omega) s2 ht m2 a2 tpos (by omega)
    obtain ⟨c3, b3⟩ := over_eq hU (show 0 < eD by omega) s3 ht m3 a3 tpos n3
    have hS : ∃ o, overV U sN sD = o := ⟨_, rfl⟩
    have hP : ∃ o, overV U pN pD = o := ⟨_, rfl⟩
    have hW : ∃ o, overV U eN eD = o := ⟨_, rfl⟩
    obtain ⟨oS, hS⟩ := hS
    obtain ⟨oP, hP⟩ := hP
    obtain ⟨oW, hW⟩ := hW
    rw [hS] at c1 b1
    rw [hP] at c2 b2
    rw [hW] at c3 b3 ⊢
    have b2' : oP.natAbs ≤ 40000 := by
      have e := congrArg Int.natAbs c2
      rw [Int.natAbs_mul] at e
      have h2 := Nat.mul_le_mul_right oP.natAbs (show 1 ≤ t.natAbs by omega)
      omega
    have key := fun q (hq : q < l.length) => wrong_key (i := i) (j := j) (k := k) DX DY hU ht hS hP c1 c2 b1 b2' hq
    refine ⟨brk_false _ (fun q hq => ⟨?_, (key q hq).2⟩) _ 0 rfl, prf_zero tpos c3 ((key i (by omega)).1.trans ri) ((key j (by omega)).1.trans rj) ((key k hk).1.trans rk) (key i (by omega)).2⟩
    have hl := hle q hq
    rw [← (key q hq).1, ← c3] at hl
    exact abs_le tpos hl
  obtain ⟨x1, x2⟩ := hb0 _ rfl hU ht s1 s2 s3
  exact lineE_zero hd hf hE (idx_ok h h' hk) h h' x1 x2
theorem line_ok {l : D2} (D : DotsOk l) (hd : dotsV l = 0) {i j k : Nat} (h : i < j) (h' : j < k) (hk : k < l.length) (hB : ∀ i' j' k', i' < j' → j' < k' → k' < l.length → Beats l (i, j, k) (i', j', k')) :
    lineE l (lowN (stN l i j k) (2 * wid l i k)) (lowD (stN l i j k) (2 * wid l i k)) (lowN (dy l k - dy l i) (wid l i k)) (lowD (dy l k - dy l i) (wid l i k)) (lowN (sz l i j k) (2 * wid l i k)) (lowD (sz l i j k) (2 * wid l i k)) i j k = 0 := by
  have w := wid_b D (show i < k by omega) hk
  have sb := sz_b D h h' hk
  have st := stN_b D h h' hk
  have y1 := D.by_ i (by omega); have y3 := D.by_ k hk
  have f1 := checkFrac_ok (a := stN l i j k) (m := 2 * wid l i k) (by omega) (by omega)
  have f2 := checkFrac_ok (a := dy l k - dy l i) (m := wid l i k) (by omega) (by omega)
  have f4 := checkFrac_ok (a := sz l i j k) (m := 2 * wid l i k) (by omega) (by omega)
  obtain ⟨g1, p1, a1, m1, d1, l1, _, _⟩ := low_spec (a := stN l i j k) (m := 2 * wid l i k) (by omega) (by omega)
  obtain ⟨g2, p2, a2, m2, d2, l2, _, _⟩ := low_spec (a := dy l k - dy l i) (m := wid l i k) (by omega) (by omega)
  obtain ⟨g3, p3, a3, m3, d3, l3, _, _⟩ := low_spec (a := sz l i j k) (m := 2 * wid l i k) (by omega) (by omega)
  have ri := res_i l i j k; have rj := res_j l i j k; have rk := res_k l i j k
  have hle := fun q (hq : q < l.length) => res_le D h h' hk hB hq
  have DX := D.bx; have DY := D.by_
  generalize lowN (stN l i j k) (2 * wid l i k) = sN at *
  generalize lowD (stN l i j k) (2 * wid l i k) = sD at *
  generalize lowN (dy l k - dy l i) (wid l i k) = pN at *
  generalize lowD (dy l k - dy l i) (wid l i k) = pD at *
  generalize lowN (sz l i j k) (2 * wid l i k) = eN at *
  generalize lowD (sz l i j k) (2 * wid l i k) = eD at *
  have v1 : sD ∣ 2 * wid l i k := ⟨g1, by rw [Int.mul_comm sD]; exact m1⟩
  have m2' : 2 * wid l i k = 2 * g2 * pD := by rw [Int.mul_assoc, ← m2]
  have v2 : pD ∣ 2 * wid l i k := ⟨2 * g2, by rw [Int.mul_comm pD]; exact m2'⟩
  have v3 : eD ∣ 2 * wid l i k := ⟨g3, by rw [Int.mul_comm eD]; exact m3⟩
  have a2' : 2 * (dy l k - dy l i) = 2 * g2 * pN := by rw [Int.mul_assoc, ← a2]
  have wb : 1 ≤ 2 * wid l i k ∧ 2 * wid l i k ≤ 40000 := by omega
  have d1b : 1 ≤ sD ∧ sD ≤ 1000000000 := by omega
  have d2b : 1 ≤ pD ∧ pD ≤ 1000000000 := by omega
  have d3b : 1 ≤ eD ∧ eD ≤ 1000000000 := by omega
  have n1 : (stN l i j k).natAbs ≤ 2000000000 := by omega
  have n2 : (2 * (dy l k - dy l i)).natAbs ≤ 40000 := by omega
  have n3 : (sz l i j k).natAbs ≤ 2000000000 := by omega
  exact accept hd h h' hk DX DY (by simp [f3, f1, f2, f4]) wb d1b d2b d3b v1 v2 v3 m1 m2' m3 a1 a2' a3 n1 n2 n3 ri rj rk hle
end Go.Abs.N
