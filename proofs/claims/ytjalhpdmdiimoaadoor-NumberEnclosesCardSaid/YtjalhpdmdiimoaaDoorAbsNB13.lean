/- Plain laws of the order of pitches. -/
import Derived.Test.YtjalhpdmdiimoaaDoorAbsNB12
set_option linter.unusedSimpArgs false
set_option linter.unusedVariables false
namespace Go.Abs
namespace N
theorem cmpN_mul {a b k : Nat} (hk : 0 < k) : cmpN (a * k) (b * k) = cmpN a b := by
  unfold cmpN
  simp only [Nat.mul_lt_mul_right hk]
theorem cmpN_pow {a b g : Nat} (hg : 0 < g) : cmpN (a ^ g) (b ^ g) = cmpN a b := by
  unfold cmpN
  simp only [Nat.pow_lt_pow_iff_left (Nat.pos_iff_ne_zero.1 hg)]
theorem cmpN_swap (a b : Nat) : cmpN b a = -cmpN a b := by unfold cmpN; split <;> split <;> omega
theorem cmpN_nonneg {a b : Nat} : 0 ≤ cmpN a b ↔ b ≤ a := by unfold cmpN; split <;> (try split) <;> omega
theorem cmpN_nonpos {a b : Nat} : cmpN a b ≤ 0 ↔ a ≤ b := by unfold cmpN; split <;> (try split) <;> omega
theorem cmpN_zero {a b : Nat} : cmpN a b = 0 ↔ a = b := by unfold cmpN; split <;> (try split) <;> omega
theorem numV_eq (a b c : Int) : numV a b c 3 = 2 ^ a.toNat * 3 ^ b.toNat * 5 ^ c.toNat := by
  simp [numV, P3, E3]
/-- The order of a quotient of powers. -/
theorem ordE_nat (u v w u' v' w' : Nat) : ordE ((u : Int) - u') ((v : Int) - v') ((w : Int) - w') = cmpN (2 ^ u * 3 ^ v * 5 ^ w) (2 ^ u' * 3 ^ v' * 5 ^ w') := by
  have sp : ∀ (p x y : Nat), p ^ x = p ^ ((x : Int) - y).toNat * p ^ (min x y) ∧ p ^ y = p ^ (-((x : Int) - y)).toNat * p ^ (min x y) := fun p x y => by
    constructor
    · rw [← Nat.pow_add]; congr 1; omega
    · rw [← Nat.pow_add]; congr 1; omega
  unfold ordE
  rw [numV_eq, numV_eq]
  rw [(sp 2 u u').1, (sp 2 u u').2, (sp 3 v v').1, (sp 3 v v').2, (sp 5 w w').1, (sp 5 w w').2]
  have e : ∀ a b c x y z : Nat, a * x * (b * y) * (c * z) = a * b * c * (x * y * z) := fun a b c x y z => by
    simp only [Nat.mul_assoc, Nat.mul_left_comm]
  rw [e, e, cmpN_mul]
  exact Nat.mul_pos (Nat.mul_pos (Nat.pow_pos (by decide)) (Nat.pow_pos (by decide))) (Nat.pow_pos (by decide))
theorem ordE_neg (a b c : Int) : ordE (-a) (-b) (-c) = -ordE a b c := by
  unfold ordE; rw [Int.neg_neg, Int.neg_neg, Int.neg_neg]; exact cmpN_swap _ _
theorem ordE_scale {g : Int} (hg : 0 < g) (a b c : Int) : ordE (g * a) (g * b) (g * c) = ordE a b c := by
  have sp : ∀ x : Int, ((x.toNat : Nat) : Int) - ((-x).toNat : Nat) = x := fun x => by omega
  obtain ⟨k, rfl⟩ : ∃ k : Nat, g = k := ⟨g.toNat, by omega⟩
  have sg : ∀ x : Int, ((k * x.toNat : Nat) : Int) - ((k * (-x).toNat : Nat) : Int) = (k : Int) * x := fun x => by
    rw [Int.natCast_mul, Int.natCast_mul, ← Int.mul_sub, sp]
  rw [← sg a, ← sg b, ← sg c, ordE_nat]
  have e : ∀ x y z : Nat, 2 ^ (k * x) * 3 ^ (k * y) * 5 ^ (k * z) = (2 ^ x * 3 ^ y * 5 ^ z) ^ k := fun x y z => by
    rw [Nat.mul_pow, Nat.mul_pow, ← Nat.pow_mul, ← Nat.pow_mul, ← Nat.pow_mul, Nat.mul_comm x, Nat.mul_comm y, Nat.mul_comm z]
  rw [e, e, cmpN_pow (by omega), ← ordE_nat, sp, sp, sp]
/-- One more octave makes it greater. -/
theorem ordE_mono {a a' : Int} (b c : Int) (h : a ≤ a') (k : 0 ≤ ordE a b c) : 0 ≤ ordE a' b c := by
  have sp : ∀ x : Int, ((x.toNat : Nat) : Int) - ((-x).toNat : Nat) = x := fun x => by omega
  obtain ⟨u, u', e1⟩ : ∃ u u' : Nat, (u : Int) - u' = a := ⟨_, _, sp a⟩
  obtain ⟨s, e2⟩ : ∃ s : Nat, ((u + s : Nat) : Int) - u' = a' := ⟨(a' - a).toNat, by omega⟩
  rw [← e1, ← sp b, ← sp c, ordE_nat, cmpN_nonneg] at k
  rw [← e2, ← sp b, ← sp c, ordE_nat, cmpN_nonneg]
  refine Nat.le_trans k (Nat.mul_le_mul_right _ (Nat.mul_le_mul_right _ (Nat.pow_le_pow_right (by decide) (by omega))))
/-- The divisor of four numbers. -/
def rG (a b c e : Int) : Nat := Int.gcd (Int.gcd a b) (Int.gcd c e)
theorem rG_dvd (a b c e : Int) : (rG a b c e : Int) ∣ a ∧ (rG a b c e : Int) ∣ b ∧ (rG a b c e : Int) ∣ c ∧ (rG a b c e : Int) ∣ e := by
  have h1 : (rG a b c e : Int) ∣ (Int.gcd a b : Int) := Int.gcd_dvd_left ..
  have h2 : (rG a b c e : Int) ∣ (Int.gcd c e : Int) := Int.gcd_dvd_right ..
  exact ⟨Int.dvd_trans h1 (Int.gcd_dvd_left ..), Int.dvd_trans h1 (Int.gcd_dvd_right ..), Int.dvd_trans h2 (Int.gcd_dvd_left ..), Int.dvd_trans h2 (Int.gcd_dvd_right ..)⟩
theorem rG_mul (a b c e : Int) (k : Nat) : rG (a * k) (b * k) (c * k) (e * k) = rG a b c e * k := by
  unfold rG
  rw [Int.gcd_mul_right, Int.gcd_mul_right, Int.natCast_mul, Int.natCast_mul, Int.natAbs_natCast, Int.gcd_mul_right, Int.natAbs_natCast]
theorem rG_pos {a b c e : Int} (h : 0 < e) : 0 < rG a b c e := by
  rcases Nat.eq_zero_or_pos (rG a b c e) with z | z
  · have := (rG_dvd a b c e).2.2.2; rw [z] at this
    have := Int.zero_dvd.1 this; omega
  · exact z
theorem rG_le {a b c e : Int} (h : 0 < e) : (rG a b c e : Int) ≤ e := Int.le_of_dvd h (rG_dvd a b c e).2.2.2
/-- What is small enough. -/
def Rb (x : Int) : Prop := -1000000000000 ≤ x ∧ x ≤ 1000000000000
theorem gcd_le_b {a b : Int} (ha : Rb a) (hb : Rb b) : (Int.gcd a b : Int) ≤ 1000000000000 := by
  obtain ⟨a1, a2⟩ := ha; obtain ⟨b1, b2⟩ := hb
  by_cases h : a = 0
  · subst h; rw [Int.gcd_zero_left]; omega
  · have := Int.gcd_le_natAbs_left b h; omega
theorem redG_eq {a b c e : Int} (ha : Rb a) (hb : Rb b) (hc : Rb c) (he : Rb e) : redG a b c e = rG a b c e := by
  have r : ∀ {x}, Rb x → R64 x := fun h => ⟨by have := h.1; omega, by have := h.2; omega⟩
  unfold redG rG
  have g1 := gcd_le_b ha hb
  have g2 := gcd_le_b hc he
  rw [gcdL_eq (r ha) (r hb), gcdL_eq (r hc) (r he), wrap_eq (by omega) (by omega), wrap_eq (by omega) (by omega), gcdL_eq (r ⟨by omega, g1⟩) (r ⟨by omega, g2⟩)]
  have g3 := gcd_le_b (a := (Int.gcd a b : Int)) (b := (Int.gcd c e : Int)) ⟨by omega, g1⟩ ⟨by omega, g2⟩
  rw [wrap_eq (by omega) (by omega)]
theorem red_eq {a b c e x : Int} (ha : Rb a) (hb : Rb b) (hc : Rb c) (he : Rb e) (h0 : 0 < e) (hx : Rb x) (hd : (rG a b c e : Int) ∣ x) : red a b c e x = x / rG a b c e ∧ red a b c e x * rG a b c e = x ∧ Rb (red a b c e x) := by
  have p := rG_pos (a := a) (b := b) (c := c) h0
  have e1 : qdiv x (rG a b c e) = x / rG a b c e := by unfold qdiv; rw [Int.tdiv_eq_ediv_of_dvd hd]
  have e2 : x / rG a b c e * rG a b c e = x := Int.ediv_mul_cancel hd
  have b1 : Rb (x / rG a b c e) := by
    generalize x / (rG a b c e : Int) = q at *
    generalize (rG a b c e) = g at *
    obtain ⟨h1, h2⟩ := hx
    have hg : (1 : Int) ≤ g := by omega
    constructor
    · rcases Int.le_total 0 q with z | z
      · omega
      · have := Int.mul_le_mul_of_nonpos_left (a := q) z hg
        rw [Int.mul_one] at this; omega
    · rcases Int.le_total 0 q with z | z
      · have := Int.mul_le_mul_of_nonneg_left hg z
        rw [Int.mul_one] at this; omega
      · omega
  have : red a b c e x = x / rG a b c e := by
    unfold red
    rw [redG_eq ha hb hc he, e1, wrap_eq (by have := b1.1; omega) (by have := b1.2; omega)]
  rw [this]
  exact ⟨rfl, e2, b1⟩
/-- Two pitches with the same quotients have the same normal form. -/
theorem red_ratio {a b c e a' b' c' e' : Int} (ha : Rb a) (hb : Rb b) (hc : Rb c) (he : Rb e) (h0 : 0 < e) (ha' : Rb a') (hb' : Rb b') (hc' : Rb c') (he' : Rb e') (h0' : 0 < e')
    (q1 : a * e' = a' * e) (q2 : b * e' = b' * e) (q3 : c * e' = c' * e) :
    red a b c e a = red a' b' c' e' a' ∧ red a b c e b = red a' b' c' e' b' ∧ red a b c e c = red a' b' c' e' c' ∧ red a b c e e = red a' b' c' e' e' := by
  have d := rG_dvd a b c e
  have d' := rG_dvd a' b' c' e'
  have hg : (rG a b c e : Int) * e' = rG a' b' c' e' * e := by
    obtain ⟨k, hk⟩ : ∃ k : Nat, e = k := ⟨e.toNat, by omega⟩
    obtain ⟨k', hk'⟩ : ∃ k : Nat, e' = k := ⟨e'.toNat, by omega⟩
    have m1 := rG_mul a b c e k'
    have m2 := rG_mul a' b' c' e' k
    rw [← hk', q1, q2, q3, Int.mul_comm e e'] at m1
    rw [← hk, m1] at m2
    have := congrArg (fun n : Nat => (n : Int)) m2
    simp only [Int.natCast_mul] at this
    rw [← hk, ← hk'] at this; exact this
  have p := rG_pos (a := a) (b := b) (c := c) h0
  have p' := rG_pos (a := a') (b := b') (c := c') h0'
  have key : ∀ {x x' : Int}, Rb x → Rb x' → (rG a b c e : Int) ∣ x → (rG a' b' c' e' : Int) ∣ x' → x * e' = x' * e → red a b c e x = red a' b' c' e' x' := fun {x x'} hx hx' dx dx' q => by
    obtain ⟨_, m1, _⟩ := red_eq ha hb hc he h0 hx dx
    obtain ⟨_, m2, _⟩ := red_eq ha' hb' hc' he' h0' hx' dx'
    generalize red a b c e x = r at *
    generalize red a' b' c' e' x' = r' at *
    generalize rG a b c e = g at *
    generalize rG a' b' c' e' = g' at *
    rw [← m1, ← m2, Int.mul_assoc, Int.mul_assoc, hg] at q
    exact Int.eq_of_mul_eq_mul_right (by have : (0 : Int) < g' * e := Int.mul_pos (by omega) h0; omega) q
  exact ⟨key ha ha' d.1 d'.1 q1, key hb hb' d.2.1 d'.2.1 q2, key hc hc' d.2.2.1 d'.2.2.1 q3, key he he' d.2.2.2 d'.2.2.2 (Int.mul_comm e e')⟩
theorem red_pos {a b c e : Int} (ha : Rb a) (hb : Rb b) (hc : Rb c) (he : Rb e) (h0 : 0 < e) : 0 < red a b c e e := by
  obtain ⟨_, m, _⟩ := red_eq ha hb hc he h0 he (rG_dvd a b c e).2.2.2
  have p := rG_pos (a := a) (b := b) (c := c) h0
  rcases Int.lt_or_le 0 (red a b c e e) with z | z
  · exact z
  · have := Int.mul_le_mul_of_nonneg_right z (show (0 : Int) ≤ rG a b c e by omega)
    rw [Int.zero_mul] at this; omega
/-- The order does not change with the normal form. -/
theorem ordE_red {a b c e : Int} (ha : Rb a) (hb : Rb b) (hc : Rb c) (he : Rb e) (h0 : 0 < e) : ordE (red a b c e a) (red a b c e b) (red a b c e c) = ordE a b c := by
  have d := rG_dvd a b c e
  obtain ⟨_, m1, _⟩ := red_eq ha hb hc he h0 ha d.1
  obtain ⟨_, m2, _⟩ := red_eq ha hb hc he h0 hb d.2.1
  obtain ⟨_, m3, _⟩ := red_eq ha hb hc he h0 hc d.2.2.1
  have p := rG_pos (a := a) (b := b) (c := c) h0
  have := ordE_scale (g := rG a b c e) (by omega) (red a b c e a) (red a b c e b) (red a b c e c)
  rw [Int.mul_comm _ (red a b c e a), Int.mul_comm _ (red a b c e b), Int.mul_comm _ (red a b c e c), m1, m2, m3] at this
  exact this.symm
theorem red_le {a b c e x M : Int} (ha : Rb a) (hb : Rb b) (hc : Rb c) (he : Rb e) (h0 : 0 < e) (hx : Rb x) (hd : (rG a b c e : Int) ∣ x) (hM : -M ≤ x ∧ x ≤ M) : -M ≤ red a b c e x ∧ red a b c e x ≤ M := by
  obtain ⟨_, m, _⟩ := red_eq ha hb hc he h0 hx hd
  have p := rG_pos (a := a) (b := b) (c := c) h0
  generalize red a b c e x = q at *
  generalize (rG a b c e) = g at *
  have hg : (1 : Int) ≤ g := by omega
  constructor
  · rcases Int.le_total 0 q with z | z
    · omega
    · have := Int.mul_le_mul_of_nonpos_left (a := q) z hg
      rw [Int.mul_one] at this; omega
  · rcases Int.le_total 0 q with z | z
    · have := Int.mul_le_mul_of_nonneg_left hg z
      rw [Int.mul_one] at this; omega
    · omega
end N
end Go.Abs
