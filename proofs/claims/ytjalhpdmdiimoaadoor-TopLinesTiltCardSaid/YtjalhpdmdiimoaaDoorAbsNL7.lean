/- The line through the three dots that are bent most misses no dot by more than half of that. -/
import Derived.Test.YtjalhpdmdiimoaaDoorAbsNL6
set_option linter.unusedSimpArgs false
set_option linter.unusedVariables false
namespace Go.Abs.N
open Go Go.Abs
set_option maxRecDepth 100000
set_option maxHeartbeats 0
theorem lt_trans' {a b c p q r : Int} (hp : 0 < p) (hq : 0 < q) (hr : 0 < r) (h1 : c * p ≤ a * r) (h2 : a * q < b * p) : c * q ≤ b * r := by
  have e1 : c * p * q ≤ a * r * q := Int.mul_le_mul_of_nonneg_right h1 (by omega)
  have e2 : a * q * r < b * p * r := Int.mul_lt_mul_of_pos_right h2 hr
  have e3 : a * r * q = a * q * r := Int.mul_right_comm _ _ _
  have e4 : c * q * p ≤ b * r * p := by
    rw [Int.mul_right_comm c q p, Int.mul_right_comm b r p]; omega
  exact Int.le_of_mul_le_mul_right e4 hp
/-- No other triple is bent more. -/
def Beats (l : D2) (b t : T3) : Prop := sz l t.1 t.2.1 t.2.2 * wid l b.1 b.2.2 ≤ sz l b.1 b.2.1 b.2.2 * wid l t.1 t.2.2
theorem upT_beats {l : D2} (D : DotsOk l) {b x t : T3} (hb : okT l.length b) (hx : okT l.length x) (ht : okT l.length t) (h : Beats l b t) : Beats l (upT (cmpP l) b x) t := by
  unfold upT
  split
  · rename_i hc
    have hc' : sz l b.1 b.2.1 b.2.2 * wid l x.1 x.2.2 < sz l x.1 x.2.1 x.2.2 * wid l b.1 b.2.2 := by simpa [cmpP] using hc
    have w1 := wid_b D (show b.1 < b.2.2 from Nat.lt_trans hb.1 hb.2.1) hb.2.2
    have w2 := wid_b D (show x.1 < x.2.2 from Nat.lt_trans hx.1 hx.2.1) hx.2.2
    have w3 := wid_b D (show t.1 < t.2.2 from Nat.lt_trans ht.1 ht.2.1) ht.2.2
    exact lt_trans' (by omega) (by omega) (by omega) h hc'
  · exact h
theorem upT_self {l : D2} {b x : T3} : Beats l (upT (cmpP l) b x) x := by
  unfold upT
  split
  · unfold Beats; omega
  · rename_i hc
    have hc' : ¬ sz l b.1 b.2.1 b.2.2 * wid l x.1 x.2.2 < sz l x.1 x.2.1 x.2.2 * wid l b.1 b.2.2 := by simpa [cmpP] using hc
    unfold Beats; omega
theorem foldK_beats {l : D2} (D : DotsOk l) {i j : Nat} (hij : i < j) : ∀ (m k : Nat) (b : T3), l.length - k = m → j < k → okT l.length b →
    okT l.length (foldK (upT (cmpP l)) l.length b i j k) ∧ (∀ t, okT l.length t → Beats l b t → Beats l (foldK (upT (cmpP l)) l.length b i j k) t) ∧ (∀ k', k ≤ k' → k' < l.length → Beats l (foldK (upT (cmpP l)) l.length b i j k) (i, j, k'))
  | 0, k, b, hm, _, hb => by rw [foldK_ge (by omega)]; exact ⟨hb, fun _ _ h => h, fun k' h1 h2 => by omega⟩
  | m + 1, k, b, hm, hjk, hb => by
    have ht : okT l.length (i, j, k) := ⟨hij, hjk, by simp only; omega⟩
    rw [foldK_lt (up := upT (cmpP l)) (k := k) (by omega)]
    obtain ⟨a1, a2, a3⟩ := foldK_beats D hij m (k + 1) (upT (cmpP l) b (i, j, k)) (by omega) (by omega) (upT_ok hb ht)
    refine ⟨a1, fun t h1 h2 => a2 t h1 (upT_beats D hb ht h1 h2), fun k' h1 h2 => ?_⟩
    rcases Nat.lt_or_ge k k' with q | q
    · exact a3 k' q h2
    · have : k' = k := by omega
      subst this
      exact a2 _ ht upT_self
theorem foldJ_beats {l : D2} (D : DotsOk l) {i : Nat} : ∀ (m j : Nat) (b : T3), l.length - j = m → i < j → okT l.length b →
    okT l.length (foldJ (upT (cmpP l)) l.length b i j) ∧ (∀ t, okT l.length t → Beats l b t → Beats l (foldJ (upT (cmpP l)) l.length b i j) t) ∧ (∀ j' k', j ≤ j' → j' < k' → k' < l.length → Beats l (foldJ (upT (cmpP l)) l.length b i j) (i, j', k'))
  | 0, j, b, hm, _, hb => by rw [foldJ_ge (by omega)]; exact ⟨hb, fun _ _ h => h, fun j' k' h1 h2 => by omega⟩
  | m + 1, j, b, hm, hij, hb => by
    rw [foldJ_lt (up := upT (cmpP l)) (j := j) (by omega)]
    obtain ⟨b1, b2, b3⟩ := foldK_beats D hij _ (j + 1) b rfl (by omega) hb
    obtain ⟨a1, a2, a3⟩ := foldJ_beats D m (j + 1) _ (by omega) (show i < j + 1 by omega) b1
    refine ⟨a1, fun t h1 h2 => a2 t h1 (b2 t h1 h2), fun j' k' h1 h2 h3 => ?_⟩
    rcases Nat.lt_or_ge j j' with q | q
    · exact a3 j' k' q h2 h3
    · have : j' = j := by omega
      subst this
      exact a2 _ ⟨hij, h2, h3⟩ (b3 k' h2 h3)
theorem foldI_beats {l : D2} (D : DotsOk l) : ∀ (m i : Nat) (b : T3), l.length - i = m → okT l.length b →
    okT l.length (foldI (upT (cmpP l)) l.length b i) ∧ (∀ t, okT l.length t → Beats l b t → Beats l (foldI (upT (cmpP l)) l.length b i) t) ∧ (∀ i' j' k', i ≤ i' → i' < j' → j' < k' → k' < l.length → Beats l (foldI (upT (cmpP l)) l.length b i) (i', j', k'))
  | 0, i, b, hm, hb => by rw [foldI_ge (by omega)]; exact ⟨hb, fun _ _ h => h, fun i' j' k' h1 h2 => by omega⟩
  | m + 1, i, b, hm, hb => by
    rw [foldI_lt (up := upT (cmpP l)) (i := i) (by omega)]
    obtain ⟨b1, b2, b3⟩ := foldJ_beats D _ (i + 1) b rfl (show i < i + 1 by omega) hb
    obtain ⟨a1, a2, a3⟩ := foldI_beats D m (i + 1) _ (by omega) b1
    refine ⟨a1, fun t h1 h2 => a2 t h1 (b2 t h1 h2), fun i' j' k' h1 h2 h3 h4 => ?_⟩
    rcases Nat.lt_or_ge i i' with q | q
    · exact a3 i' j' k' q h2 h3 h4
    · have : i' = i := by omega
      subst this
      exact a2 _ ⟨h2, h3, h4⟩ (b3 j' k' h2 h3 h4)
theorem best_beats {l : D2} (D : DotsOk l) {i j k : Nat} (h : i < j) (h' : j < k) (hk : k < l.length) : Beats l (bestP l) (i, j, k) :=
  (foldI_beats D _ 0 (0, 1, 2) rfl ⟨by simp, by simp, by have := D.n3; simp only; omega⟩).2.2 i j k (by omega) h h' hk
/-- Twice the width times what the line through a triple misses a dot by. -/
def res (l : D2) (i j k q : Nat) : Int := 2 * wid l i k * dy l q - stN l i j k - 2 * (dy l k - dy l i) * dx l q
theorem res_i (l : D2) (i j k : Nat) : res l i j k i = bent l i j k := by unfold res stN; omega
theorem res_j (l : D2) (i j k : Nat) : res l i j k j = -bent l i j k := by unfold res stN bent wid; grind
theorem res_k (l : D2) (i j k : Nat) : res l i j k k = bent l i j k := by unfold res stN bent wid; grind
theorem bent_res (l : D2) (i j k a b c : Nat) : 2 * wid l i k * bent l a b c = res l i j k a * (dx l c - dx l b) - res l i j k b * (dx l c - dx l a) + res l i j k c * (dx l b - dx l a) := by
  unfold res bent wid; grind
/-- Three dots that are missed by turns, one of them by more: they are bent more. -/
theorem bent_more {l : D2} (D : DotsOk l) {i j k a b c : Nat} (h : i < j) (h' : j < k) (hk : k < l.length) (hB : ∀ i' j' k', i' < j' → j' < k' → k' < l.length → Beats l (i, j, k) (i', j', k'))
    (hab : a < b) (hbc : b < c) (hc : c < l.length) (s : Int) (hs : s = 1 ∨ s = -1) {S : Int} (hS : S = sz l i j k) (ha : S ≤ s * res l i j k a) (hb : S ≤ -(s * res l i j k b)) (hcc : S ≤ s * res l i j k c)
    (hx : S < s * res l i j k a ∨ S < -(s * res l i j k b) ∨ S < s * res l i j k c) : False := by
  have B := hB a b c hab hbc hc
  unfold Beats at B
  simp only at B
  rw [← hS] at B
  have w1 := wid_b D (show i < k by omega) hk
  have w2 := wid_b D (show a < c by omega) hc
  have u1 := D.up a b hab (by omega)
  have u2 := D.up b c hbc hc
  have e := bent_res l i j k a b c
  generalize hA : s * res l i j k a = A at *
  generalize hBB : s * res l i j k b = Bq at *
  generalize hC : s * res l i j k c = C at *
  have es : 2 * wid l i k * (s * bent l a b c) = A * (dx l c - dx l b) + (-Bq) * (dx l c - dx l a) + C * (dx l b - dx l a) := by
    rw [← hA, ← hBB, ← hC]
    have : 2 * wid l i k * (s * bent l a b c) = s * (2 * wid l i k * bent l a b c) := by rw [Int.mul_left_comm]
    rw [this, e]; grind
  have hle : s * bent l a b c ≤ sz l a b c := by
    unfold sz
    rcases hs with rfl | rfl <;> omega
  have t1 := Int.mul_le_mul_of_nonneg_right ha (show 0 ≤ dx l c - dx l b by omega)
  have t2 := Int.mul_le_mul_of_nonneg_right hb (show 0 ≤ dx l c - dx l a by omega)
  have t3 := Int.mul_le_mul_of_nonneg_right hcc (show 0 ≤ dx l b - dx l a by omega)
  have tot : S * (2 * wid l a c) < 2 * wid l i k * (s * bent l a b c) := by
    have q : S * (2 * wid l a c) = S * (dx l c - dx l b) + S * (dx l c - dx l a) + S * (dx l b - dx l a) := by unfold wid; grind
    rw [q, es]
    rcases hx with hx | hx | hx
    · have := Int.mul_lt_mul_of_pos_right hx (show 0 < dx l c - dx l b by omega); omega
    · have := Int.mul_lt_mul_of_pos_right hx (show 0 < dx l c - dx l a by omega); omega
    · have := Int.mul_lt_mul_of_pos_right hx (show 0 < dx l b - dx l a by omega); omega
  have m1 : 2 * wid l i k * (s * bent l a b c) ≤ 2 * wid l i k * sz l a b c := Int.mul_le_mul_of_nonneg_left hle (by omega)
  have m2 : 2 * wid l i k * sz l a b c = 2 * (sz l a b c * wid l i k) := by grind
  have m3 : S * (2 * wid l a c) = 2 * (S * wid l a c) := by grind
  omega
/-- No dot is missed by more. -/
theorem res_le {l : D2} (D : DotsOk l) {i j k : Nat} (h : i < j) (h' : j < k) (hk : k < l.length) (hB : ∀ i' j' k', i' < j' → j' < k' → k' < l.length → Beats l (i, j, k) (i', j', k')) {q : Nat} (hq : q < l.length) :
    -sz l i j k ≤ res l i j k q ∧ res l i j k q ≤ sz l i j k := by
  have hi := res_i l i j k
  have hj := res_j l i j k
  have hkk := res_k l i j k
  obtain ⟨s, hs, hsz⟩ : ∃ s : Int, (s = 1 ∨ s = -1) ∧ sz l i j k = s * bent l i j k := by
    unfold sz
    rcases Int.lt_or_le (bent l i j k) 0 with q | q
    · exact ⟨-1, .inr rfl, by omega⟩
    · exact ⟨1, .inl rfl, by omega⟩
  have more := fun a b c (x1 : a < b) (x2 : b < c) (x3 : c < l.length) (s' : Int) (hs' : s' = 1 ∨ s' = -1) => bent_more D h h' hk hB x1 x2 x3 s' hs' (S := sz l i j k) rfl
  have ii : s * res l i j k i = sz l i j k := by rw [hi, hsz]
  have jj : s * res l i j k j = -sz l i j k := by rw [hj, hsz, Int.mul_neg]
  have kk : s * res l i j k k = sz l i j k := by rw [hkk, hsz]
  have neg : ∀ x, -s * x = -(s * x) := fun x => Int.neg_mul _ _
  have hs2 : -s = 1 ∨ -s = -1 := by omega
  have b0 := (sz_b D h h' hk).1
  have key : ¬ sz l i j k < s * res l i j k q ∧ ¬ sz l i j k < -(s * res l i j k q) := by
    constructor
    · intro hgt
      rcases Nat.lt_trichotomy q i with c | c | c
      · exact more q j k (by omega) h' hk s hs (by omega) (by omega) (by omega) (.inl hgt)
      · subst c; omega
      · rcases Nat.lt_trichotomy q j with c2 | c2 | c2
        · exact more q j k c2 h' hk s hs (by omega) (by omega) (by omega) (.inl hgt)
        · subst c2; omega
        · rcases Nat.lt_trichotomy q k with c3 | c3 | c3
          · exact more i j q h c2 hq s hs (by omega) (by omega) (by omega) (.inr (.inr hgt))
          · subst c3; omega
          · exact more i j q h (by omega) hq s hs (by omega) (by omega) (by omega) (.inr (.inr hgt))
    · intro hgt
      rcases Nat.lt_trichotomy q i with c | c | c
      · exact more q i j c h (by omega) (-s) hs2 (by rw [neg]; omega) (by rw [neg]; omega) (by rw [neg]; omega) (.inl (by rw [neg]; exact hgt))
      · subst c; omega
      · rcases Nat.lt_trichotomy q j with c2 | c2 | c2
        · exact more i q k c (by omega) hk s hs (by omega) (by omega) (by omega) (.inr (.inl hgt))
        · subst c2; omega
        · rcases Nat.lt_trichotomy q k with c3 | c3 | c3
          · exact more i q k (by omega) c3 hk s hs (by omega) (by omega) (by omega) (.inr (.inl hgt))
          · subst c3; omega
          · exact more j k q h' c3 hq (-s) hs2 (by rw [neg]; omega) (by rw [neg]; omega) (by rw [neg]; omega) (.inr (.inr (by rw [neg]; exact hgt)))
  rcases hs with rfl | rfl <;> omega
end Go.Abs.N
