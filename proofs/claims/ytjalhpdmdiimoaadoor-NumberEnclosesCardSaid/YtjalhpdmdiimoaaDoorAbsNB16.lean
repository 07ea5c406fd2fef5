/- Octaves: plain laws, and both searches. -/
import Derived.Test.YtjalhpdmdiimoaaDoorAbsNB15
set_option linter.unusedSimpArgs false
set_option linter.unusedVariables false
namespace Go.Abs
namespace N
set_option maxRecDepth 100000
set_option maxHeartbeats 0
theorem ordE_big {A b c : Int} (h : 2 * (b.natAbs : Int) + 3 * c.natAbs ≤ A) : 0 ≤ ordE A b c := by
  have sp : ∀ x : Int, ((x.toNat : Nat) : Int) - ((-x).toNat : Nat) = x := fun x => by omega
  have eA : ((A.toNat : Nat) : Int) - (0 : Nat) = A := by omega
  rw [← eA, ← sp b, ← sp c, ordE_nat, cmpN_nonneg]
  have h1 : 3 ^ (-b).toNat ≤ 2 ^ (2 * (-b).toNat) := by rw [Nat.pow_mul]; exact Nat.pow_le_pow_left (by decide) _
  have h2 : 5 ^ (-c).toNat ≤ 2 ^ (3 * (-c).toNat) := by rw [Nat.pow_mul]; exact Nat.pow_le_pow_left (by decide) _
  have h3 := Nat.mul_le_mul h1 h2
  rw [← Nat.pow_add] at h3
  have h4 : 2 ^ (2 * (-b).toNat + 3 * (-c).toNat) ≤ 2 ^ A.toNat := Nat.pow_le_pow_right (by decide) (by omega)
  have h5 : 2 ^ A.toNat * 1 ≤ 2 ^ A.toNat * 3 ^ b.toNat := Nat.mul_le_mul_left _ (Nat.pow_pos (by decide))
  have h6 : 2 ^ A.toNat * 3 ^ b.toNat * 1 ≤ 2 ^ A.toNat * 3 ^ b.toNat * 5 ^ c.toNat := Nat.mul_le_mul_left _ (Nat.pow_pos (by decide))
  rw [Nat.pow_zero, Nat.one_mul]
  omega
theorem ordE_strict {a a' : Int} (b c : Int) (h : a < a') (k : 0 ≤ ordE a b c) : 0 < ordE a' b c := by
  have sp : ∀ x : Int, ((x.toNat : Nat) : Int) - ((-x).toNat : Nat) = x := fun x => by omega
  obtain ⟨u, u', e1⟩ : ∃ u u' : Nat, (u : Int) - u' = a := ⟨_, _, sp a⟩
  obtain ⟨s, hs, e2⟩ : ∃ s : Nat, 0 < s ∧ ((u + s : Nat) : Int) - u' = a' := ⟨(a' - a).toNat, by omega, by omega⟩
  rw [← e1, ← sp b, ← sp c, ordE_nat, cmpN_nonneg] at k
  rw [← e2, ← sp b, ← sp c, ordE_nat]
  have : 2 ^ u' * 3 ^ (-b).toNat * 5 ^ (-c).toNat < 2 ^ (u + s) * 3 ^ b.toNat * 5 ^ c.toNat := by
    refine Nat.lt_of_le_of_lt k ?_
    have p1 : 2 ^ u < 2 ^ (u + s) := Nat.pow_lt_pow_right (by decide) (by omega)
    exact Nat.mul_lt_mul_of_pos_right (Nat.mul_lt_mul_of_pos_right p1 (Nat.pow_pos (by decide))) (Nat.pow_pos (by decide))
  unfold cmpN
  rw [if_neg (by omega), if_pos this]; omega
theorem ordE_low {A b c : Int} (h : A < -(2 * (b.natAbs : Int) + 3 * c.natAbs)) : ¬ 0 ≤ ordE A b c := by
  have h1 := ordE_big (A := -A - 1) (b := -b) (c := -c) (by rw [Int.natAbs_neg, Int.natAbs_neg]; omega)
  have h2 := ordE_strict (a' := -A) (-b) (-c) (by omega) h1
  rw [ordE_neg] at h2; omega
theorem exT {P : Int → Prop} (mono : ∀ x y, x ≤ y → P y → P x) : ∀ (n : Nat) (lo hi : Int), hi - lo = n → lo < hi → P lo → ¬ P hi → ∃ T, lo ≤ T ∧ T < hi ∧ ∀ m, P m ↔ m ≤ T
  | 0, lo, hi, h, k, _, _ => by omega
  | n + 1, lo, hi, h, k, hl, hh => by
    by_cases q : P (hi - 1)
    · exact ⟨hi - 1, by omega, by omega, fun m => ⟨fun pm => by
        rcases Int.lt_or_le (hi - 1) m with z | z
        · exact absurd (mono hi m (by omega) pm) hh
        · exact z, fun z => mono _ _ z q⟩⟩
    · have : lo ≠ hi - 1 := fun e => q (e ▸ hl)
      obtain ⟨T, t1, t2, t3⟩ := exT mono n lo (hi - 1) (by omega) (by omega) hl q
      exact ⟨T, t1, by omega, t3⟩
def most (a b c e : Int) : Int := (a.natAbs + 2 * b.natAbs + 3 * c.natAbs : Int) / e + 1
/-- The octaves of a pitch. -/
theorem octT (a b c e : Int) (he : 1 ≤ e) : ∃ T, -most a b c e ≤ T ∧ T < most a b c e ∧ ∀ m, 0 ≤ ordE (a - m * e) b c ↔ m ≤ T := by
  have hm : (a.natAbs + 2 * b.natAbs + 3 * c.natAbs : Int) < most a b c e * e := by
    have h1 := Int.emod_lt_of_pos (a.natAbs + 2 * b.natAbs + 3 * c.natAbs : Int) (show 0 < e by omega)
    have h2 := Int.mul_ediv_add_emod (a.natAbs + 2 * b.natAbs + 3 * c.natAbs : Int) e
    unfold most; rw [Int.add_mul, Int.mul_comm _ e]; omega
  have hp : 0 < most a b c e := by
    have : 0 ≤ (a.natAbs + 2 * b.natAbs + 3 * c.natAbs : Int) / e := Int.ediv_nonneg (by omega) (by omega)
    unfold most; omega
  refine exT (P := fun m => 0 ≤ ordE (a - m * e) b c) (fun x y h k => ordE_mono b c (by have := Int.mul_le_mul_of_nonneg_right h (show 0 ≤ e by omega); omega) k) (2 * most a b c e).toNat (-most a b c e) (most a b c e) (by omega) (by omega) ?_ ?_
  · refine ordE_big ?_
    rw [Int.neg_mul]; omega
  · refine ordE_low ?_
    omega
theorem jn_o {a T e : Int} (ha : Sm a) (hT : Sm T) (he : Dn e) : jn a T (-1) e 1 = a - T * e := by
  rw [jn_m ha hT he ⟨by omega, by omega⟩, Int.mul_one]
theorem jn_z {a e : Int} (ha : Sm a) (he : Dn e) : jn a 0 (-1) e 1 = a := by
  rw [jn_m ha ⟨by omega, by omega⟩ he ⟨by omega, by omega⟩]; omega
def octOk (a b c e T : Int) : Bool := fitP (a - T * e) b c e
def octR (a b c e T x : Int) : Int := red (a - T * e) b c e x
abbrev octV (a b c e T : Int) : Value := .tuple #[pt (if octOk a b c e T = true then octR a b c e T (a - T * e) else 0) (if octOk a b c e T = true then octR a b c e T b else 0) (if octOk a b c e T = true then octR a b c e T c else 0) (if octOk a b c e T = true then octR a b c e T e else 0),
  i64 (if octOk a b c e T = true then T else 0), i64 (if octOk a b c e T = true then 0 else 8)]
theorem Nr_Sm {x : Int} (h : Nr x) : Sm x := ⟨by have := h.1; omega, by have := h.2; omega⟩
/-- A pitch and some octaves. -/
theorem two_oct {a b c e m : Int} (ha : Nr a) (hb : Nr b) (hc : Nr c) (he : Dn e) (hm : -1250 ≤ m ∧ m ≤ 1250) : Two a b c e m 0 0 1 := by
  have h1 := Int.mul_le_mul_of_nonneg_right hm.1 (show 0 ≤ e by have := he.1; omega)
  have h2 := Int.mul_le_mul_of_nonneg_right hm.2 (show 0 ≤ e by have := he.1; omega)
  have he2 := he.2
  refine ⟨Nr_Sm ha, Nr_Sm hb, Nr_Sm hc, he, ⟨by omega, by omega⟩, ⟨by omega, by omega⟩, ⟨by omega, by omega⟩, ⟨by omega, by omega⟩, ?_, ?_, ?_⟩
  · have := ha.1; have := ha.2; exact ⟨by omega, by omega⟩
  · have := hb.1; have := hb.2; exact ⟨by omega, by omega⟩
  · have := hc.1; have := hc.2; exact ⟨by omega, by omega⟩
theorem ordP_oct (a b c e m : Int) : ordP a b c e m 0 0 1 = ordE (a - m * e) b c := by unfold ordP; congr 1 <;> omega
theorem most_le {a b c e : Int} (ha : Nr a) (hb : Nr b) (hc : Nr c) (he : Dn e) : 1 ≤ most a b c e ∧ most a b c e ≤ 361 := by
  have h1 : (a.natAbs + 2 * b.natAbs + 3 * c.natAbs : Int) ≤ 360 := by have := ha.1; have := ha.2; have := hb.1; have := hb.2; have := hc.1; have := hc.2; omega
  have h2 : (a.natAbs + 2 * b.natAbs + 3 * c.natAbs : Int) / e ≤ a.natAbs + 2 * b.natAbs + 3 * c.natAbs := Int.ediv_le_self _ (by omega)
  have : 0 ≤ (a.natAbs + 2 * b.natAbs + 3 * c.natAbs : Int) / e := Int.ediv_nonneg (by omega) (by have := he.1; omega)
  unfold most; omega
theorem mid_eq {l u : Int} (h : l < u) (hl : -2500 ≤ l) (hu : u ≤ 2500) : IntKind.wrap .i64 (u - IntKind.wrap .i64 (qdiv (IntKind.wrap .i64 (u - l)) 2)) = u - (u - l) / 2 := by
  have : qdiv (u - l) 2 = (u - l) / 2 := by unfold qdiv; rw [Int.tdiv_eq_ediv_of_nonneg (by omega)]
  rw [wrap_eq (n := u - l) (by omega) (by omega), this, wrap_eq (n := (u - l) / 2) (by omega) (by omega), wrap_eq (by omega) (by omega)]
theorem c70 {d lim : Nat} {h : Heap} {a b c e T : Int} (sp : SlU h (.slice (some ⟨0, 0, none⟩) 3 1) [2, 3, 5]) (h1 : isPitch a b c e = true) (h2 : near a b c = true) (hT : -400 ≤ T ∧ T ≤ 400) (hP : ∀ m, 0 ≤ ordE (a - m * e) b c ↔ m ≤ T) :
    E.call (d + 6) lim 70 [pt a b c e] h = some (octV a b c e T, h) := by
  obtain ⟨ra, rb, rc, re⟩ := near_R h1 h2
  have q113 := fun lim L (m : Int) hm => c113' (d := d) (lim := lim) (h := h.freeze ++ L) ((Sl_freeze.2 sp).app L) (two_oct (m := m) ra rb rc re hm)
  simp only [ordP_oct] at q113
  have T1 : Dn 1 := ⟨by omega, by omega⟩
  have k110 := fun lim hh => @c110 (d + 4) lim hh (-1) a b c e T 0 0 1
  have w1 : IntKind.wrap .i64 (e * 1) = e := by rw [wrap_dn re T1, Int.mul_one]
  simp only [joinV, jn_o (Nr_Sm ra) (show Sm T from ⟨by omega, by omega⟩) re, jn_z (Nr_Sm rb) re, jn_z (Nr_Sm rc) re, w1] at k110
  have tb : -4800 ≤ T * e ∧ T * e ≤ 4800 := mul_400 hT re
  have k100 := fun lim hh => @c100 (d + 2) lim hh (a - T * e) b c e ⟨by have := ra.1; omega, by have := ra.2; omega⟩ ⟨by have := rb.1; omega, by have := rb.2; omega⟩ ⟨by have := rc.1; omega, by have := rc.2; omega⟩ ⟨by have := re.1; omega, by have := re.2; omega⟩ (by have := re.1; omega)
  refine call1 fn70 rfl (by simp [ef70]) ?_
  simp [ef70, c51, check0.2 h1]
  refine wpC_loop (fun q st => ∃ l u : Int, (q : Int) = u - l ∧ l ≤ T ∧ T ≤ u ∧ ((l = -2500 ∧ u = 2500) ∨ (l = 0 ∧ u = 2500) ∨ (l = -2500 ∧ u = -1) ∨ (-1250 ≤ l ∧ u ≤ 1250)) ∧
    st = ⟨[(1, .pointer (some ⟨h.length, 0, none⟩)), (2, .pointer (some ⟨h.length + 1, 0, none⟩)), (6, i64 l), (7, i64 u)], h.freeze ++ [some ⟨[i64 a, i64 b, i64 c, i64 e], true⟩, some ⟨[i64 0, i64 0, i64 0, i64 0], true⟩]⟩) 5000 (by show 5000 < 2 ^ 64; decide) ?_ ?_
  · simp [St.tidy]
    exact ⟨-2500, 2500, by omega, by omega, by omega, .inl ⟨rfl, rfl⟩, rfl, rfl⟩
  · rintro q hq _ ⟨l, u, hqq, hl, hu, hr, rfl⟩
    by_cases hlt : l < u
    · have hm := mid_eq hlt (by omega) (by omega)
      have hmr : -1250 ≤ u - (u - l) / 2 ∧ u - (u - l) / 2 ≤ 1250 := by omega
      have hPm := hP (u - (u - l) / 2)
      have hm1 : l < u - (u - l) / 2 ∧ u - (u - l) / 2 ≤ u := by omega
      have hm2 : (l = -2500 ∧ u = 2500 → u - (u - l) / 2 = 0) ∧ (l = 0 ∧ u = 2500 → u - (u - l) / 2 = 1250) ∧ (l = -2500 ∧ u = -1 → u - (u - l) / 2 = -1250) := by omega
      generalize u - (u - l) / 2 = m at *
      have q3 := fun lim L => q113 lim L m hmr
      by_cases hs : 0 ≤ ordE (a - m * e) b c
      · have := hPm.1 hs
        simp [hlt, hm, q3, hs, St.tidy]
        exact ⟨(u - m).toNat, by omega, m, u, by omega, by omega, hu, by omega, rfl, rfl⟩
      · have : ¬ m ≤ T := fun z => hs (hPm.2 z)
        have wm : IntKind.wrap .i64 (m - 1) = m - 1 := by rw [wrap_eq (by omega) (by omega)]
        simp [hlt, hm, q3, hs, wm, St.tidy]
        exact ⟨(m - 1 - l).toNat, by omega, l, m - 1, by omega, hl, by omega, by omega, rfl, rfl⟩
    · have e1 : l = T := by omega
      subst e1
      by_cases ok : octOk a b c e l = true
      · have ok' := ok; unfold octOk at ok'
        simp [hlt, k110, k100, ok, ok', octR]
      · have ok' := ok; unfold octOk at ok'
        simp [hlt, k110, k100, ok, ok', octR]
theorem floor2 {n : Int} (h : 0 ≤ n) (h2 : n ≤ 100000) : floorV n 2 = n / 2 := by
  have e1 : qdiv n 2 = n / 2 := by unfold qdiv; rw [Int.tdiv_eq_ediv_of_nonneg h]
  have e2 : qmod n 2 = n % 2 := by unfold qmod; rw [Int.tmod_eq_emod_of_nonneg h]
  unfold floorV
  rw [e2, if_neg (by omega), e1, wrap_eq (by omega) (by omega)]
theorem mid_eq' {l u : Int} (h : l < u) (hl : -2500 ≤ l) (hu : u ≤ 2500) : IntKind.wrap .i64 (u - floorV (IntKind.wrap .i64 (u - l)) 2) = u - (u - l) / 2 := by
  rw [wrap_eq (n := u - l) (by omega) (by omega), floor2 (by omega) (by omega), wrap_eq (by omega) (by omega)]
theorem absV_nr {a : Int} (h : Nr a) : absV a = a.natAbs := by
  have := h.1; have := h.2
  unfold absV; split
  · rw [wrap_eq (by omega) (by omega)]; omega
  · omega
theorem c71 {d lim : Nat} {h : Heap} {a b c e T : Int} (h1 : isPitch a b c e = true) (h2 : near a b c = true) (hT : -most a b c e ≤ T ∧ T < most a b c e) (hP : ∀ m, 0 ≤ ordE (a - m * e) b c ↔ m ≤ T) :
    E.call (d + 5) lim 71 [pt a b c e] h = some (octV a b c e T, h) := by
  obtain ⟨ra, rb, rc, re⟩ := near_R h1 h2
  have ml := most_le ra rb rc re
  have q55 := fun lim hh (m : Int) hm => c55 (d := d) (lim := lim) (h := hh) (two_oct (m := m) ra rb rc re hm)
  simp only [ordP_oct] at q55
  have T1 : Dn 1 := ⟨by omega, by omega⟩
  have k112 := fun lim hh => @c112 (d + 3) lim hh (-1) a b c e T 0 0 1
  have w1 : IntKind.wrap .i64 (e * 1) = e := by rw [wrap_dn re T1, Int.mul_one]
  simp only [joinV, jn_o (Nr_Sm ra) (show Sm T from ⟨by omega, by omega⟩) re, jn_z (Nr_Sm rb) re, jn_z (Nr_Sm rc) re, w1] at k112
  have tb : -4800 ≤ T * e ∧ T * e ≤ 4800 := mul_400 (by omega) re
  have k102 := fun lim hh => @c102 d lim hh (a - T * e) b c e ⟨by have := ra.1; omega, by have := ra.2; omega⟩ ⟨by have := rb.1; omega, by have := rb.2; omega⟩ ⟨by have := rc.1; omega, by have := rc.2; omega⟩ ⟨by have := re.1; omega, by have := re.2; omega⟩ (by have := re.1; omega)
  have e0 : e ≠ 0 := by have := re.1; omega
  have na : (a.natAbs : Int) ≤ 60 := by have := ra.1; have := ra.2; omega
  have nb : (b.natAbs : Int) ≤ 60 := by have := rb.1; have := rb.2; omega
  have nc : (c.natAbs : Int) ≤ 60 := by have := rc.1; have := rc.2; omega
  have v1 : IntKind.wrap .i64 (2 * (b.natAbs : Int)) = 2 * (b.natAbs : Int) := by rw [wrap_eq (by omega) (by omega)]
  have v2 : IntKind.wrap .i64 ((a.natAbs : Int) + 2 * (b.natAbs : Int)) = (a.natAbs : Int) + 2 * (b.natAbs : Int) := by rw [wrap_eq (by omega) (by omega)]
  have v3 : IntKind.wrap .i64 (3 * (c.natAbs : Int)) = 3 * (c.natAbs : Int) := by rw [wrap_eq (by omega) (by omega)]
  have v4 : IntKind.wrap .i64 ((a.natAbs : Int) + 2 * (b.natAbs : Int) + 3 * (c.natAbs : Int)) = (a.natAbs : Int) + 2 * (b.natAbs : Int) + 3 * (c.natAbs : Int) := by rw [wrap_eq (by omega) (by omega)]
  have v5 : qdiv ((a.natAbs : Int) + 2 * (b.natAbs : Int) + 3 * (c.natAbs : Int)) e = ((a.natAbs : Int) + 2 * (b.natAbs : Int) + 3 * (c.natAbs : Int)) / e := by unfold qdiv; rw [Int.tdiv_eq_ediv_of_nonneg (by omega)]
  have v6 : IntKind.wrap .i64 (IntKind.wrap .i64 (((a.natAbs : Int) + 2 * (b.natAbs : Int) + 3 * (c.natAbs : Int)) / e) + 1) = most a b c e := by
    have : most a b c e = ((a.natAbs : Int) + 2 * (b.natAbs : Int) + 3 * (c.natAbs : Int)) / e + 1 := rfl
    rw [wrap_eq (n := ((a.natAbs : Int) + 2 * (b.natAbs : Int) + 3 * (c.natAbs : Int)) / e) (by omega) (by omega), ← this, wrap_eq (by omega) (by omega)]
  have v7 : IntKind.wrap .i64 (-most a b c e) = -most a b c e := by rw [wrap_eq (by omega) (by omega)]
  refine call1 fn71 rfl (by simp [ef71]) ?_
  simp only [ef71]
  simp [c26, absV_nr ra, absV_nr rb, absV_nr rc, v1, v2, v3, v4, v5, v6, v7, e0]
  generalize most a b c e = M at *
  refine wpC_loop (fun q st => ∃ l u : Int, (q : Int) = u - l ∧ l ≤ T ∧ T ≤ u ∧ -M ≤ l ∧ u ≤ M ∧
    st = ⟨[(1, .pointer (some ⟨h.length, 0, none⟩)), (2, .pointer (some ⟨h.length + 1, 0, none⟩)), (6, i64 l), (7, i64 u)], h.freeze ++ [some ⟨[i64 a, i64 b, i64 c, i64 e], true⟩, some ⟨[i64 0, i64 0, i64 0, i64 0], true⟩]⟩) (M + M).toNat (by show (M + M).toNat < 2 ^ 64; omega) ?_ ?_
  · simp [St.tidy]
    exact ⟨-M, M, by omega, by omega, by omega, by omega, by omega, rfl, rfl⟩
  · rintro q hq _ ⟨l, u, hqq, hl, hu, hr1, hr2, rfl⟩
    by_cases hlt : l < u
    · have hm := mid_eq' hlt (by omega) (by omega)
      have hPm := hP (u - (u - l) / 2)
      have hm1 : l < u - (u - l) / 2 ∧ u - (u - l) / 2 ≤ u := by omega
      generalize u - (u - l) / 2 = m at *
      have q3 := fun lim L => q55 lim L m (by omega)
      by_cases hs : 0 ≤ ordE (a - m * e) b c
      · have := hPm.1 hs
        simp [hlt, c105, hm, q3, hs, St.tidy]
        exact ⟨(u - m).toNat, by omega, m, u, by omega, by omega, hu, by omega, by omega, rfl, rfl⟩
      · have : ¬ m ≤ T := fun z => hs (hPm.2 z)
        have wm : IntKind.wrap .i64 (m - 1) = m - 1 := by rw [wrap_eq (by omega) (by omega)]
        simp [hlt, c105, hm, q3, hs, wm, St.tidy]
        exact ⟨(m - 1 - l).toNat, by omega, l, m - 1, by omega, hl, by omega, by omega, by omega, rfl, rfl⟩
    · have e1 : l = T := by omega
      subst e1
      by_cases ok : octOk a b c e l = true
      · have ok' := ok; unfold octOk at ok'
        simp [hlt, k112, k102, ok, ok', octR]
      · have ok' := ok; unfold octOk at ok'
        simp [hlt, k112, k102, ok, ok', octR]
end N
end Go.Abs
