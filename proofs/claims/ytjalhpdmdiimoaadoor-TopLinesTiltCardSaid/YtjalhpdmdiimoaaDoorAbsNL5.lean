/- Both searches find the same three dots. -/
import Derived.Test.YtjalhpdmdiimoaaDoorAbsNL4
set_option linter.unusedSimpArgs false
set_option linter.unusedVariables false
namespace Go.Abs.N
open Go Go.Abs
set_option maxRecDepth 100000
set_option maxHeartbeats 0
theorem low_spec {a m : Int} (ha : -1000000000000000000 ≤ a ∧ a ≤ 1000000000000000000) (hm : 0 < m ∧ m ≤ 1000000000000000000) :
    ∃ g : Int, 0 < g ∧ a = g * lowN a m ∧ m = g * lowD a m ∧ 0 < lowD a m ∧ lowD a m ≤ m ∧ (lowN a m).natAbs ≤ a.natAbs ∧ Int.gcd (lowN a m) (lowD a m) = 1 := by
  have hg : gcdL a m = (Int.gcd a m : Int) := by
    rw [gcdL_eq ⟨by omega, by omega⟩ ⟨by omega, by omega⟩]
    have h2 : Int.gcd a m ≤ m.natAbs := Nat.le_of_dvd (by omega) (by rw [Int.gcd_eq_natAbs_gcd_natAbs]; exact Nat.gcd_dvd_right _ _)
    exact wrap_eq (by omega) (by omega)
  have hpos : 0 < Int.gcd a m := Int.gcd_pos_of_ne_zero_right _ (by omega)
  have hG : lowG a m = (Int.gcd a m : Int) := by unfold lowG; rw [if_neg (by omega), hg]
  obtain ⟨x, hx⟩ := Int.gcd_dvd_left a m
  obtain ⟨y, hy⟩ := Int.gcd_dvd_right a m
  generalize hgg : (Int.gcd a m : Int) = g at *
  have hg0 : 0 < g := by omega
  have q1 : a.tdiv g = x := by rw [hx]; exact Int.mul_tdiv_cancel_left _ (by omega)
  have q2 : m.tdiv g = y := by rw [hy]; exact Int.mul_tdiv_cancel_left _ (by omega)
  have ypos : 0 < y := by
    rcases Int.lt_or_le 0 y with h | h
    · exact h
    · have : g * y ≤ 0 := Int.mul_nonpos_of_nonneg_of_nonpos (by omega) h
      omega
  have yle : y ≤ m := by
    have : 1 * y ≤ g * y := Int.mul_le_mul_of_nonneg_right (by omega) (by omega)
    omega
  have xle : x.natAbs ≤ a.natAbs := by
    rw [hx, Int.natAbs_mul]
    exact Nat.le_mul_of_pos_left _ (by omega)
  have r1 : lowN a m = x := by unfold lowN qdiv; rw [hG, q1]; exact wrap_eq (by omega) (by omega)
  have r2 : lowD a m = y := by unfold lowD qdiv; rw [hG, q2]; exact wrap_eq (by omega) (by omega)
  rw [r1, r2]
  refine ⟨g, hg0, hx, hy, ypos, yle, xle, ?_⟩
  have e : Int.gcd (g * x) (g * y) = g.natAbs * Int.gcd x y := Int.gcd_mul_left _ _ _
  rw [← hx, ← hy] at e
  have : Int.gcd a m = g.natAbs := by omega
  rw [this] at e
  have h3 : g.natAbs * Int.gcd x y = g.natAbs * 1 := by omega
  exact Nat.eq_of_mul_eq_mul_left (by omega) h3
theorem cross {a m b n : Int} {N D M K g k : Int} (hg : 0 < g) (hk : 0 < k) (ha : a = g * N) (hm : m = g * D) (hb : b = k * M) (hn : n = k * K) : M * D < N * K ↔ b * m < a * n := by
  have e1 : b * m = (g * k) * (M * D) := by rw [hb, hm]; rw [Int.mul_assoc, Int.mul_left_comm M g D, ← Int.mul_assoc, Int.mul_comm k g]
  have e2 : a * n = (g * k) * (N * K) := by rw [ha, hn]; rw [Int.mul_assoc, Int.mul_left_comm N k K, ← Int.mul_assoc]
  rw [e1, e2]
  have hp : 0 < g * k := Int.mul_pos hg hk
  constructor
  · intro h; exact Int.mul_lt_mul_of_pos_left h hp
  · intro h; exact Int.lt_of_mul_lt_mul_left h (by omega)
theorem e_spec {l : D2} (D : DotsOk l) {i j k : Nat} (h : i < j) (h' : j < k) (hk : k < l.length) : ∃ g : Int, 0 < g ∧ sz l i j k = g * eN l (some (i, j, k)) ∧ 2 * wid l i k = g * eD l (some (i, j, k)) ∧ 0 < eD l (some (i, j, k)) ∧ eD l (some (i, j, k)) ≤ 40000 ∧ 0 ≤ eN l (some (i, j, k)) ∧ eN l (some (i, j, k)) ≤ 800000000 := by
  have sb := sz_b D h h' hk
  have w := wid_b D (show i < k by omega) hk
  obtain ⟨g, hg, h1, h2, h3, h4, h5, _⟩ := low_spec (a := sz l i j k) (m := 2 * wid l i k) (by omega) (by omega)
  refine ⟨g, hg, h1, h2, h3, ?_, ?_, ?_⟩
  · show lowD _ _ ≤ _; simp only; omega
  · show 0 ≤ lowN _ _
    simp only
    rcases Int.lt_or_le (lowN (sz l i j k) (2 * wid l i k)) 0 with q | q
    · have : g * lowN (sz l i j k) (2 * wid l i k) < 0 := Int.mul_neg_of_pos_of_neg hg q
      omega
    · exact q
  · show lowN _ _ ≤ _; simp only; omega
theorem btR_none {l : D2} (D : DotsOk l) {t : T3} (ht : okT l.length t) : btR l none t = true := by
  obtain ⟨i, j, k⟩ := t
  obtain ⟨h1, h2, h3⟩ := ht
  obtain ⟨g, _, _, _, a, b, c, e⟩ := e_spec (i := i) (j := j) (k := k) D h1 h2 h3
  unfold btR
  have x1 : IntKind.wrap .i64 (eN l (some (i, j, k)) * eD l none) = eN l (some (i, j, k)) := by
    show IntKind.wrap .i64 (eN l (some (i, j, k)) * 1) = _
    rw [Int.mul_one]; exact wrap_eq (by omega) (by omega)
  have x2 : IntKind.wrap .i64 (eN l none * eD l (some (i, j, k))) = -eD l (some (i, j, k)) := by
    show IntKind.wrap .i64 (-1 * eD l (some (i, j, k))) = _
    rw [Int.neg_mul, Int.one_mul]; exact wrap_eq (by omega) (by omega)
  rw [x1, x2]
  unfold cmpV
  rw [if_neg (by omega), if_pos (by omega)]; rfl
theorem btR_some {l : D2} (D : DotsOk l) {b t : T3} (hb : okT l.length b) (ht : okT l.length t) : btR l (some b) t = cmpP l b t := by
  obtain ⟨i, j, k⟩ := t
  obtain ⟨h1, h2, h3⟩ := ht
  obtain ⟨i', j', k'⟩ := b
  obtain ⟨h1', h2', h3'⟩ := hb
  obtain ⟨g, hg, a1, a2, a, b, c, e⟩ := e_spec (i := i) (j := j) (k := k) D h1 h2 h3
  obtain ⟨g', hg', a1', a2', a', b', c', e'⟩ := e_spec (i := i') (j := j') (k := k') D h1' h2' h3'
  unfold btR cmpP
  simp only
  generalize eN l (some (i, j, k)) = N at *
  generalize eD l (some (i, j, k)) = Q at *
  generalize eN l (some (i', j', k')) = N' at *
  generalize eD l (some (i', j', k')) = Q' at *
  have m1 := mul_b (a := N) (b := Q') (A := 800000000) (B := 40000) (by omega) (by omega) (by omega) (by omega)
  have m2 := mul_b (a := N') (b := Q) (A := 800000000) (B := 40000) (by omega) (by omega) (by omega) (by omega)
  rw [wrap_eq (n := N * Q') (by omega) (by omega), wrap_eq (n := N' * Q) (by omega) (by omega)]
  have hc := cross hg hg' a1 a2 a1' a2'
  have hd : (sz l i' j' k' * (2 * wid l i k) < sz l i j k * (2 * wid l i' k')) ↔ (sz l i' j' k' * wid l i k < sz l i j k * wid l i' k') := by
    rw [Int.mul_left_comm, Int.mul_left_comm (sz l i j k)]; omega
  rw [hd] at hc
  apply decide_eq_decide.2
  rw [← hc]
  unfold cmpV
  constructor
  · intro q; split at q
    · omega
    · split at q <;> omega
  · intro q; rw [if_neg (by omega), if_pos q]; decide
theorem cmpP_irr (l : D2) (b : T3) : cmpP l b b = false := by unfold cmpP; simp
theorem upR_some {l : D2} (D : DotsOk l) {b t : T3} (hb : okT l.length b) (ht : okT l.length t) : upR l (some b) t = some (upT (cmpP l) b t) := by
  unfold upR upT; rw [btR_some D hb ht]; split <;> rfl
theorem upT_ok {bt : T3 → T3 → Bool} {n : Nat} {b t : T3} (hb : okT n b) (ht : okT n t) : okT n (upT bt b t) := by unfold upT; split <;> assumption
theorem foldK_same {l : D2} (D : DotsOk l) {i j : Nat} (hij : i < j) : ∀ (m k : Nat) (b : T3), l.length - k = m → j < k → okT l.length b → foldK (upR l) l.length (some b) i j k = some (foldK (upT (cmpP l)) l.length b i j k) ∧ okT l.length (foldK (upT (cmpP l)) l.length b i j k)
  | 0, k, b, hm, _, hb => by rw [foldK_ge (up := upR l) (k := k) (by omega), foldK_ge (up := upT (cmpP l)) (k := k) (by omega)]; exact ⟨rfl, hb⟩
  | m + 1, k, b, hm, hjk, hb => by
    have ht : okT l.length (i, j, k) := ⟨hij, hjk, by simp only; omega⟩
    rw [foldK_lt (up := upR l) (k := k) (by omega), foldK_lt (up := upT (cmpP l)) (k := k) (by omega), upR_some D hb ht]
    exact foldK_same D hij m (k + 1) _ (by omega) (by omega) (upT_ok hb ht)
theorem foldJ_same {l : D2} (D : DotsOk l) {i : Nat} : ∀ (m j : Nat) (b : T3), l.length - j = m → i < j → okT l.length b → foldJ (upR l) l.length (some b) i j = some (foldJ (upT (cmpP l)) l.length b i j) ∧ okT l.length (foldJ (upT (cmpP l)) l.length b i j)
  | 0, j, b, hm, _, hb => by rw [foldJ_ge (up := upR l) (j := j) (by omega), foldJ_ge (up := upT (cmpP l)) (j := j) (by omega)]; exact ⟨rfl, hb⟩
  | m + 1, j, b, hm, hij, hb => by
    obtain ⟨h1, h2⟩ := foldK_same D hij _ (j + 1) b rfl (by omega) hb
    rw [foldJ_lt (up := upR l) (j := j) (by omega), foldJ_lt (up := upT (cmpP l)) (j := j) (by omega), h1]
    exact foldJ_same D m (j + 1) _ (by omega) (by omega) h2
theorem foldI_same {l : D2} (D : DotsOk l) : ∀ (m i : Nat) (b : T3), l.length - i = m → okT l.length b → foldI (upR l) l.length (some b) i = some (foldI (upT (cmpP l)) l.length b i) ∧ okT l.length (foldI (upT (cmpP l)) l.length b i)
  | 0, i, b, hm, hb => by rw [foldI_ge (up := upR l) (i := i) (by omega), foldI_ge (up := upT (cmpP l)) (i := i) (by omega)]; exact ⟨rfl, hb⟩
  | m + 1, i, b, hm, hb => by
    obtain ⟨h1, h2⟩ := foldJ_same D (i := i) _ (i + 1) b rfl (by omega) hb
    rw [foldI_lt (up := upR l) (i := i) (by omega), foldI_lt (up := upT (cmpP l)) (i := i) (by omega), h1]
    exact foldI_same D m (i + 1) _ (by omega) h2
theorem best_same {l : D2} (D : DotsOk l) : bestR l = some (bestP l) ∧ okT l.length (bestP l) := by
  have hn := D.n3
  have ok0 : okT l.length (0, 1, 2) := ⟨by simp, by simp, by simp only; omega⟩
  unfold bestR bestP
  rw [foldI_lt (up := upR l) (i := 0) (by omega), foldJ_lt (up := upR l) (j := 0 + 1) (by omega), foldK_lt (up := upR l) (k := 0 + 1 + 1) (by omega)]
  have e1 : upR l none (0, 0 + 1, 0 + 1 + 1) = some (0, 1, 2) := by unfold upR; rw [btR_none D ok0]; rfl
  rw [e1]
  have e2 : upT (cmpP l) (0, 1, 2) (0, 0 + 1, 0 + 1 + 1) = (0, 1, 2) := by
    show upT (cmpP l) (0, 1, 2) (0, 1, 2) = _
    unfold upT; rw [cmpP_irr]; rfl
  obtain ⟨h1, h2⟩ := foldK_same D (i := 0) (j := 0 + 1) (by omega) _ (0 + 1 + 1 + 1) (0, 1, 2) rfl (by omega) ok0
  rw [h1]
  obtain ⟨h3, h4⟩ := foldJ_same D (i := 0) _ (0 + 1 + 1) _ rfl (by omega) h2
  rw [h3]
  obtain ⟨h5, h6⟩ := foldI_same D _ (0 + 1) _ rfl h4
  rw [h5]
  rw [foldI_lt (up := upT (cmpP l)) (i := 0) (by omega), foldJ_lt (up := upT (cmpP l)) (i := 0) (j := 0 + 1) (by omega), foldK_lt (up := upT (cmpP l)) (i := 0) (j := 0 + 1) (k := 0 + 1 + 1) (by omega), e2]
  exact ⟨rfl, h6⟩
end Go.Abs.N
