/- Dots with a line added, and dots upside down. -/
import Derived.Test.YtjalhpdmdiimoaaDoorAbsNL8
import Derived.Test.YtjalhpdmdiimoaaDoorAbsNF5
set_option linter.unusedSimpArgs false
set_option linter.unusedVariables false
namespace Go.Abs.N
open Go Go.Abs
set_option maxRecDepth 100000
set_option maxHeartbeats 0
theorem dvd_cop {a b c : Int} (h : a ∣ b * c) (hc : Int.gcd b a = 1) : a ∣ c := by
  rw [← Int.natAbs_dvd_natAbs] at h ⊢
  rw [Int.natAbs_mul] at h
  refine Nat.Coprime.dvd_of_dvd_mul_left ?_ h
  rw [Int.gcd_eq_natAbs_gcd_natAbs] at hc
  exact (Nat.gcd_comm _ _).trans hc
theorem low_unique {n m n' m' : Int} (hn : -1000000000000000000 ≤ n ∧ n ≤ 1000000000000000000) (hm : 0 < m ∧ m ≤ 1000000000000000000) (hn' : -1000000000000000000 ≤ n' ∧ n' ≤ 1000000000000000000) (hm' : 0 < m' ∧ m' ≤ 1000000000000000000)
    (h : n * m' = n' * m) : lowN n m = lowN n' m' ∧ lowD n m = lowD n' m' := by
  obtain ⟨g, hg, a1, a2, a3, _, _, a4⟩ := low_spec hn hm
  obtain ⟨k, hk, b1, b2, b3, _, _, b4⟩ := low_spec hn' hm'
  generalize lowN n m = N at *
  generalize lowD n m = D at *
  generalize lowN n' m' = N' at *
  generalize lowD n' m' = D' at *
  have e : N * D' = N' * D := by
    have e1 : (g * k) * (N * D') = n * m' := by rw [a1, b2]; grind
    have e2 : (g * k) * (N' * D) = n' * m := by rw [b1, a2]; grind
    have : (g * k) * (N * D') = (g * k) * (N' * D) := by rw [e1, e2, h]
    exact Int.eq_of_mul_eq_mul_left (by have := Int.mul_pos hg hk; omega) this
  have d1 : D ∣ D' := by
    have : D ∣ N * D' := ⟨N', by rw [e, Int.mul_comm]⟩
    exact dvd_cop this a4
  have d2 : D' ∣ D := by
    have : D' ∣ N' * D := ⟨N, by rw [← e, Int.mul_comm]⟩
    exact dvd_cop this b4
  have eD : D = D' := by
    have := Int.le_of_dvd b3 d1; have := Int.le_of_dvd a3 d2; omega
  subst eD
  exact ⟨Int.eq_of_mul_eq_mul_right (by omega) e, rfl⟩
section
variable {n : Nat} {up up' : T3 → T3 → T3} (hup : ∀ b t, okT n b → okT n t → up b t = up' b t ∧ okT n (up b t))
include hup
theorem congrK {i j : Nat} (hij : i < j) : ∀ (m k : Nat) (b : T3), n - k = m → j < k → okT n b → foldK up n b i j k = foldK up' n b i j k ∧ okT n (foldK up n b i j k)
  | 0, k, b, hm, _, hb => by rw [foldK_ge (up := up) (k := k) (by omega), foldK_ge (up := up') (k := k) (by omega)]; exact ⟨rfl, hb⟩
  | m + 1, k, b, hm, hjk, hb => by
    have h := hup b (i, j, k) hb ⟨hij, hjk, by simp only; omega⟩
    rw [foldK_lt (up := up) (k := k) (by omega), foldK_lt (up := up') (k := k) (by omega), ← h.1]
    exact congrK hij m (k + 1) _ (by omega) (by omega) h.2
theorem congrJ {i : Nat} : ∀ (m j : Nat) (b : T3), n - j = m → i < j → okT n b → foldJ up n b i j = foldJ up' n b i j ∧ okT n (foldJ up n b i j)
  | 0, j, b, hm, _, hb => by rw [foldJ_ge (up := up) (j := j) (by omega), foldJ_ge (up := up') (j := j) (by omega)]; exact ⟨rfl, hb⟩
  | m + 1, j, b, hm, hij, hb => by
    have h := congrK hup hij _ (j + 1) b rfl (by omega) hb
    rw [foldJ_lt (up := up) (j := j) (by omega), foldJ_lt (up := up') (j := j) (by omega), ← h.1]
    exact congrJ m (j + 1) _ (by omega) (by omega) h.2
theorem congrI : ∀ (m i : Nat) (b : T3), n - i = m → okT n b → foldI up n b i = foldI up' n b i
  | 0, i, b, hm, hb => by rw [foldI_ge (up := up) (i := i) (by omega), foldI_ge (up := up') (i := i) (by omega)]
  | m + 1, i, b, hm, hb => by
    have h := congrJ hup (i := i) _ (i + 1) b rfl (by omega) hb
    rw [foldI_lt (up := up) (i := i) (by omega), foldI_lt (up := up') (i := i) (by omega), ← h.1]
    exact congrI m (i + 1) _ (by omega) h.2
end
theorem bestP_congr {l l' : D2} (hl : l'.length = l.length) (h3 : 3 ≤ l.length) (hs : ∀ i j k, i < j → j < k → k < l.length → sz l' i j k = sz l i j k) (hw : ∀ i k, i < k → k < l.length → wid l' i k = wid l i k) : bestP l' = bestP l := by
  unfold bestP
  rw [hl]
  refine congrI (fun b t hb ht => ?_) _ 0 (0, 1, 2) rfl ⟨by simp, by simp, by simp only; omega⟩
  have e : cmpP l' b t = cmpP l b t := by
    unfold cmpP
    rw [hs _ _ _ hb.1 hb.2.1 hb.2.2, hs _ _ _ ht.1 ht.2.1 ht.2.2, hw _ _ (Nat.lt_trans hb.1 hb.2.1) hb.2.2, hw _ _ (Nat.lt_trans ht.1 ht.2.1) ht.2.2]
  unfold upT
  rw [e]
  split
  · exact ⟨rfl, ht⟩
  · exact ⟨rfl, hb⟩
def moreD (l : D2) (s m : Int) : D2 := l.map fun p => (p.1, p.2 + s + m * p.1)
def downD (l : D2) : D2 := l.map fun p => (p.1, -p.2)
section
variable {l : D2} {s m : Int} {i j k : Nat}
theorem more_len : (moreD l s m).length = l.length := by simp [moreD]
theorem down_len : (downD l).length = l.length := by simp [downD]
theorem more_x (h : i < l.length) : dx (moreD l s m) i = dx l i := by simp [dx, moreD, h]
theorem more_y (h : i < l.length) : dy (moreD l s m) i = dy l i + s + m * dx l i := by simp [dx, dy, moreD, h]
theorem down_x (h : i < l.length) : dx (downD l) i = dx l i := by simp [dx, downD, h]
theorem down_y (h : i < l.length) : dy (downD l) i = -dy l i := by simp [dy, downD, h]
theorem dots_mk (h3 : 3 ≤ l.length) (h60 : l.length ≤ 60) (hx : ∀ i, i < l.length → -10000 ≤ dx l i ∧ dx l i ≤ 10000) (hy : ∀ i, i < l.length → -10000 ≤ dy l i ∧ dy l i ≤ 10000) (hu : ∀ i j, i < j → j < l.length → dx l i < dx l j) : dotsV l = 0 := by
  have key : ∀ m i, l.length - i = m → dotsL l i = 0 := by
    intro m
    induction m with
    | zero => intro i hi; unfold dotsL; rw [if_neg (by omega)]
    | succ m ih =>
      intro i hi
      have hlt : i < l.length := by omega
      have x := hx i hlt; have y := hy i hlt
      unfold dotsL
      rw [if_pos hlt, if_neg (by simp [within]; omega), if_neg (by rintro ⟨q1, q2⟩; have := hu (i - 1) i (by omega) hlt; omega)]
      exact ih (i + 1) (by omega)
  unfold dotsV
  rw [if_pos (by simp [within]; omega)]
  exact key _ 0 rfl
theorem more_ok (D : DotsOk l) (hx : ∀ i, i < l.length → -1000 ≤ dx l i ∧ dx l i ≤ 1000) (hy : ∀ i, i < l.length → -1000 ≤ dy l i ∧ dy l i ≤ 1000) (hs : -1000 ≤ s ∧ s ≤ 1000) (hm : -3 ≤ m ∧ m ≤ 3) : dotsV (moreD l s m) = 0 := by
  refine dots_mk (by rw [more_len]; exact D.n3) (by rw [more_len]; exact D.n60) (fun i hi => ?_) (fun i hi => ?_) (fun i j hij hj => ?_)
  · rw [more_len] at hi; rw [more_x hi]; have := hx i hi; omega
  · rw [more_len] at hi; rw [more_y hi]
    have a := hx i hi; have b := hy i hi
    have := mul_b (a := m) (b := dx l i) (A := 3) (B := 1000) (by omega) (by omega) (by omega) (by omega)
    omega
  · rw [more_len] at hj; rw [more_x (by omega), more_x hj]; exact D.up i j hij hj
theorem down_ok (D : DotsOk l) : dotsV (downD l) = 0 := by
  refine dots_mk (by rw [down_len]; exact D.n3) (by rw [down_len]; exact D.n60) (fun i hi => ?_) (fun i hi => ?_) (fun i j hij hj => ?_)
  · rw [down_len] at hi; rw [down_x hi]; exact D.bx i hi
  · rw [down_len] at hi; rw [down_y hi]; have := D.by_ i hi; omega
  · rw [down_len] at hj; rw [down_x (by omega), down_x hj]; exact D.up i j hij hj
theorem more_wid (h : i < k) (hk : k < l.length) : wid (moreD l s m) i k = wid l i k := by unfold wid; rw [more_x hk, more_x (by omega)]
theorem down_wid (h : i < k) (hk : k < l.length) : wid (downD l) i k = wid l i k := by unfold wid; rw [down_x hk, down_x (by omega)]
theorem more_bent (h : i < j) (h' : j < k) (hk : k < l.length) : bent (moreD l s m) i j k = bent l i j k := by
  unfold bent; rw [more_wid (by omega) hk, more_x (i := j) (by omega), more_x (i := i) (by omega), more_y (i := i) (by omega), more_y (i := j) (by omega), more_y hk]; unfold wid; grind
theorem down_bent (h : i < j) (h' : j < k) (hk : k < l.length) : bent (downD l) i j k = -bent l i j k := by
  unfold bent; rw [down_wid (by omega) hk, down_x (i := j) (by omega), down_x (i := i) (by omega), down_y (i := i) (by omega), down_y (i := j) (by omega), down_y hk]; unfold wid; grind
theorem more_sz (h : i < j) (h' : j < k) (hk : k < l.length) : sz (moreD l s m) i j k = sz l i j k := by unfold sz; rw [more_bent h h' hk]
theorem down_sz (h : i < j) (h' : j < k) (hk : k < l.length) : sz (downD l) i j k = sz l i j k := by unfold sz; rw [down_bent h h' hk]; omega
theorem more_st (h : i < j) (h' : j < k) (hk : k < l.length) : stN (moreD l s m) i j k = stN l i j k + 2 * wid l i k * s := by
  rw [stN_eq, stN_eq, more_wid (by omega) hk, more_x (i := j) (by omega), more_x (i := i) (by omega), more_y (i := i) (by omega), more_y (i := j) (by omega), more_y hk]; unfold wid; grind
theorem down_st (h : i < j) (h' : j < k) (hk : k < l.length) : stN (downD l) i j k = -stN l i j k := by
  rw [stN_eq, stN_eq, down_wid (by omega) hk, down_x (i := j) (by omega), down_x (i := i) (by omega), down_y (i := i) (by omega), down_y (i := j) (by omega), down_y hk]; grind
theorem more_best (D : DotsOk l) : bestP (moreD l s m) = bestP l := bestP_congr more_len D.n3 (fun _ _ _ => more_sz) (fun _ _ => more_wid)
theorem down_best (D : DotsOk l) : bestP (downD l) = bestP l := bestP_congr down_len D.n3 (fun _ _ _ => down_sz) (fun _ _ => down_wid)
end
/-- A fraction in lowest terms with a whole number added. -/
theorem add_low {n m s : Int} (hn : n.natAbs ≤ 1000000000) (hm : 0 < m ∧ m ≤ 40000) (hs : -1000 ≤ s ∧ s ≤ 1000) (hr : (n + m * s).natAbs ≤ 1000000000) :
    frN kAdd (lowN n m) (lowD n m) s 1 = lowN (n + m * s) m ∧ frD kAdd (lowN n m) (lowD n m) s 1 = lowD (n + m * s) m ∧ frE kAdd (lowN n m) (lowD n m) s 1 = 0 := by
  have f1 := checkFrac_ok (a := n) (m := m) hn (by omega)
  have f3 := checkFrac_ok (a := n + m * s) (m := m) hr (by omega)
  obtain ⟨g, hg, a1, a2, a3, a4, a5, _⟩ := low_spec (a := n) (m := m) (by omega) (by omega)
  have f2 : checkFrac s 1 = 0 := by
    have e : gcdL s 1 = 1 := by rw [gcdL_eq ⟨by omega, by omega⟩ ⟨by omega, by omega⟩]; simp
    simp [checkFrac, e, within]; omega
  have h2 : two (lowN n m) (lowD n m) s 1 = 0 := by simp [two, f1, f2]
  have b1 := mul_b (a := s) (b := lowD n m) (A := 1000) (B := 40000) (by omega) (by omega) (by omega) (by omega)
  have k1 : (kAdd (lowN n m) (lowD n m) s 1).1 = lowN n m + s * lowD n m := by
    simp only [kAdd, w, Int.mul_one]
    rw [wrap_eq (n := lowN n m) (by omega) (by omega), wrap_eq (n := s * lowD n m) (by omega) (by omega), wrap_eq (by omega) (by omega)]
  have k2 : (kAdd (lowN n m) (lowD n m) s 1).2 = lowD n m := by
    simp only [kAdd, w, Int.mul_one]
    rw [wrap_eq (by omega) (by omega)]
  have u := low_unique (n := lowN n m + s * lowD n m) (m := lowD n m) (n' := n + m * s) (m' := m) (by omega) (by omega) (by omega) (by omega) (by
    conv => lhs; rw [a2]
    have e : n + m * s = g * (lowN n m + lowD n m * s) := by conv => lhs; rw [a1, a2]
                                                             grind
    rw [e]; grind)
  unfold frN frD frE fitN fitD fitE
  rw [h2, k1, k2, u.1, u.2, f3]
  simp
/-- A fraction in lowest terms, turned round. -/
theorem neg_low {n m : Int} (hn : n.natAbs ≤ 1000000000) (hm : 0 < m ∧ m ≤ 40000) :
    frN kMul (lowN n m) (lowD n m) (-1) 1 = lowN (-n) m ∧ frD kMul (lowN n m) (lowD n m) (-1) 1 = lowD (-n) m ∧ frE kMul (lowN n m) (lowD n m) (-1) 1 = 0 := by
  have f1 := checkFrac_ok (a := n) (m := m) hn (by omega)
  have f3 := checkFrac_ok (a := -n) (m := m) (by omega) (by omega)
  obtain ⟨g, hg, a1, a2, a3, a4, a5, _⟩ := low_spec (a := n) (m := m) (by omega) (by omega)
  have f2 : checkFrac (-1) 1 = 0 := by
    have e : gcdL (-1) 1 = 1 := by rw [gcdL_eq ⟨by omega, by omega⟩ ⟨by omega, by omega⟩]; rfl
    simp [checkFrac, e, within]
  have h2 : two (lowN n m) (lowD n m) (-1) 1 = 0 := by simp [two, f1, f2]
  have k1 : (kMul (lowN n m) (lowD n m) (-1) 1).1 = -lowN n m := by
    simp only [kMul, w, Int.mul_neg, Int.mul_one]
    rw [wrap_eq (by omega) (by omega)]
  have k2 : (kMul (lowN n m) (lowD n m) (-1) 1).2 = lowD n m := by
    simp only [kMul, w, Int.mul_one]
    rw [wrap_eq (by omega) (by omega)]
  have u := low_unique (n := -lowN n m) (m := lowD n m) (n' := -n) (m' := m) (by omega) (by omega) (by omega) (by omega) (by
    rw [Int.neg_mul, Int.neg_mul]
    congr 1
    conv => lhs; rw [a2]
    conv => rhs; rw [a1]
    grind)
  unfold frN frD frE fitN fitD fitE
  rw [h2, k1, k2, u.1, u.2, f3]
  simp
end Go.Abs.N
