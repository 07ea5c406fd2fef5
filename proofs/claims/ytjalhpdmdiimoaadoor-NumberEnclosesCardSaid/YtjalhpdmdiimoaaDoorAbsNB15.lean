/- The law NumberOrders. -/
import Derived.Test.YtjalhpdmdiimoaaDoorAbsNB14
import Derived.Test.YtjalhpdmdiimoaaDoorAbsNK
set_option linter.unusedSimpArgs false
set_option linter.unusedVariables false
namespace Go.Abs
namespace N
set_option maxRecDepth 100000
set_option maxHeartbeats 0
def near1 (x : Int) : Bool := !(within x (-400) (-61)) && !(within x 61 400)
def near (a b c : Int) : Bool := near1 a && near1 b && near1 c
theorem c19 {d lim : Nat} {h : Heap} {a b c e : Int} : E.call (d + 2) lim 19 [pt a b c e] h = some (.bool (near a b c), h) := by
  refine call1 fn19 rfl (by simp [ef19]) ?_
  simp [ef19, wpC_unroll, wpI_step, E_fuel, c22, St.tidy]
  grind [near, near1]
def Nr (x : Int) : Prop := -60 ≤ x ∧ x ≤ 60
theorem near_R {a b c e : Int} (h1 : isPitch a b c e = true) (h2 : near a b c = true) : Nr a ∧ Nr b ∧ Nr c ∧ Dn e := by
  obtain ⟨r1, r2, r3, r4⟩ := isPitch_R h1
  unfold Nr Dn
  simp [near, near1, within] at h2
  omega
theorem mul_nr {a j : Int} (ha : Nr a) (hj : Dn j) : -720 ≤ a * j ∧ a * j ≤ 720 := by
  obtain ⟨a1, a2⟩ := ha; obtain ⟨j1, j2⟩ := hj
  have h1 := Int.mul_le_mul_of_nonneg_right a1 (show 0 ≤ j by omega)
  have h2 := Int.mul_le_mul_of_nonneg_right a2 (show 0 ≤ j by omega)
  omega
theorem mul_400 {a j : Int} (ha : -400 ≤ a ∧ a ≤ 400) (hj : Dn j) : -4800 ≤ a * j ∧ a * j ≤ 4800 := by
  obtain ⟨a1, a2⟩ := ha; obtain ⟨j1, j2⟩ := hj
  have h1 := Int.mul_le_mul_of_nonneg_right a1 (show 0 ≤ j by omega)
  have h2 := Int.mul_le_mul_of_nonneg_right a2 (show 0 ≤ j by omega)
  omega
theorem Sm4 {a : Int} (h : -400 ≤ a ∧ a ≤ 400) : Sm a := ⟨by omega, by omega⟩
theorem two_pitch {a b c e f g i j : Int} (h1 : isPitch a b c e = true) (h2 : isPitch f g i j = true) : Two a b c e f g i j := by
  obtain ⟨r1, r2, r3, r4⟩ := isPitch_R h1
  obtain ⟨s1, s2, s3, s4⟩ := isPitch_R h2
  have k : ∀ {x y : Int}, (-400 ≤ x ∧ x ≤ 400) → (-400 ≤ y ∧ y ≤ 400) → R2 (x * j - y * e) := fun hx hy => by
    have := mul_400 hx s4; have := mul_400 hy r4; exact ⟨by omega, by omega⟩
  exact ⟨Sm4 r1, Sm4 r2, Sm4 r3, r4, Sm4 s1, Sm4 s2, Sm4 s3, s4, k r1 s1, k r2 s2, k r3 s3⟩
theorem ordP_swap (a b c e f g i j : Int) : ordP f g i j a b c e = -ordP a b c e f g i j := by
  unfold ordP
  rw [← ordE_neg]
  congr 1 <;> omega
theorem Rb_jn {a f e j : Int} (ha : -400 ≤ a ∧ a ≤ 400) (hf : -400 ≤ f ∧ f ≤ 400) (he : Dn e) (hj : Dn j) : Rb (a * j + f * e) := by
  have := mul_400 ha hj; have := mul_400 hf he; exact ⟨by omega, by omega⟩
theorem fitP_ok {a b c e : Int} (h : fitP a b c e = true) : isPitch (red a b c e a) (red a b c e b) (red a b c e c) (red a b c e e) = true := by
  unfold fitP at h; exact check0.1 (of_decide_eq_true h)
/-- Joined with a third pitch two pitches stand as before. -/
theorem ordP_join {a b c e f g i j k l m n : Int} (h1 : isPitch a b c e = true) (h2 : isPitch f g i j = true) (h3 : isPitch k l m n = true) :
    ordP (red (a * n + k * e) (b * n + l * e) (c * n + m * e) (e * n) (a * n + k * e)) (red (a * n + k * e) (b * n + l * e) (c * n + m * e) (e * n) (b * n + l * e)) (red (a * n + k * e) (b * n + l * e) (c * n + m * e) (e * n) (c * n + m * e)) (red (a * n + k * e) (b * n + l * e) (c * n + m * e) (e * n) (e * n))
      (red (f * n + k * j) (g * n + l * j) (i * n + m * j) (j * n) (f * n + k * j)) (red (f * n + k * j) (g * n + l * j) (i * n + m * j) (j * n) (g * n + l * j)) (red (f * n + k * j) (g * n + l * j) (i * n + m * j) (j * n) (i * n + m * j)) (red (f * n + k * j) (g * n + l * j) (i * n + m * j) (j * n) (j * n)) = ordP a b c e f g i j := by
  obtain ⟨r1, r2, r3, r4⟩ := isPitch_R h1
  obtain ⟨s1, s2, s3, s4⟩ := isPitch_R h2
  obtain ⟨t1, t2, t3, t4⟩ := isPitch_R h3
  have en := mul_dn r4 t4
  have jn := mul_dn s4 t4
  have b1 := Rb_jn r1 t1 r4 t4; have b2 := Rb_jn r2 t2 r4 t4; have b3 := Rb_jn r3 t3 r4 t4
  have d1 := Rb_jn s1 t1 s4 t4; have d2 := Rb_jn s2 t2 s4 t4; have d3 := Rb_jn s3 t3 s4 t4
  have b4 : Rb (e * n) := ⟨by omega, by omega⟩
  have d4 : Rb (j * n) := ⟨by omega, by omega⟩
  have dv := rG_dvd (a * n + k * e) (b * n + l * e) (c * n + m * e) (e * n)
  have dw := rG_dvd (f * n + k * j) (g * n + l * j) (i * n + m * j) (j * n)
  obtain ⟨_, m1, _⟩ := red_eq b1 b2 b3 b4 (by omega) b1 dv.1
  obtain ⟨_, m2, _⟩ := red_eq b1 b2 b3 b4 (by omega) b2 dv.2.1
  obtain ⟨_, m3, _⟩ := red_eq b1 b2 b3 b4 (by omega) b3 dv.2.2.1
  obtain ⟨_, m4, _⟩ := red_eq b1 b2 b3 b4 (by omega) b4 dv.2.2.2
  obtain ⟨_, n1, _⟩ := red_eq d1 d2 d3 d4 (by omega) d1 dw.1
  obtain ⟨_, n2, _⟩ := red_eq d1 d2 d3 d4 (by omega) d2 dw.2.1
  obtain ⟨_, n3, _⟩ := red_eq d1 d2 d3 d4 (by omega) d3 dw.2.2.1
  obtain ⟨_, n4, _⟩ := red_eq d1 d2 d3 d4 (by omega) d4 dw.2.2.2
  have p1 := rG_pos (a := a * n + k * e) (b := b * n + l * e) (c := c * n + m * e) (e := e * n) (by omega)
  have p2 := rG_pos (a := f * n + k * j) (b := g * n + l * j) (c := i * n + m * j) (e := j * n) (by omega)
  generalize red (a * n + k * e) (b * n + l * e) (c * n + m * e) (e * n) = R at *
  generalize red (f * n + k * j) (g * n + l * j) (i * n + m * j) (j * n) = S at *
  generalize rG (a * n + k * e) (b * n + l * e) (c * n + m * e) (e * n) = G at *
  generalize rG (f * n + k * j) (g * n + l * j) (i * n + m * j) (j * n) = H at *
  have key : ∀ {x y A B C D p q r : Int}, x * G = p * n + r * e → A * G = e * n → y * H = q * n + r * j → B * H = j * n → (G * H : Int) * (x * B - y * A) = (n * n) * (p * j - q * e) := fun {x y A B C D p q r} h1 h2 h3 h4 => by
    have e1 : (G * H : Int) * (x * B - y * A) = (x * G) * (B * H) - (y * H) * (A * G) := by grind
    rw [e1, h1, h2, h3, h4]; grind
  unfold ordP
  rw [← ordE_scale (g := (G * H : Int)) (by have : 0 < G * H := Nat.mul_pos p1 p2; omega), ← ordE_scale (g := n * n) (by have := mul_dn t4 t4; omega) (a * j - f * e)]
  rw [key (C := 0) (D := 0) m1 m4 n1 n4, key (C := 0) (D := 0) m2 m4 n2 n4, key (C := 0) (D := 0) m3 m4 n3 n4]
theorem sp1 (l : List (Option Blk)) : SlU (primesB :: l) (.slice (some ⟨0, 0, none⟩) 3 1) [2, 3, 5] := SlU_own (l := [2, 3, 5]) (rw := false) (by simp) (by rfl)
theorem pit0 {a b c e f g i j : Int} : pit2 a b c e f g i j = 0 ↔ isPitch a b c e = true ∧ isPitch f g i j = true := by
  unfold pit2
  by_cases q : isPitch a b c e = true
  · rw [if_pos (check0.2 q), check0]; simp [q]
  · have : checkPitch a b c e ≠ 0 := fun z => q (check0.1 z)
    rw [if_neg this]; simp [q, this]
theorem law11 (lim : Nat) {a b c e f g i j k l m n : Int} : E.call 21 lim 11 [pt a b c e, pt f g i j, pt k l m n] [primesB] = some (.bool true, [primesB]) := by
  refine call1 fn11 rfl (by simp [ef11]) ?_
  have hf : Heap.freeze [primesB] = [primesB] := rfl
  by_cases n1 : near a b c = true
  · by_cases n2 : near f g i = true
    · by_cases n3 : near k l m = true
      · by_cases h0 : pit2 a b c e f g i j = 0
        · obtain ⟨h1, h2⟩ := pit0.1 h0
          by_cases h3 : isPitch k l m n = true
          · obtain ⟨r1, r2, r3, r4⟩ := isPitch_R h1
            obtain ⟨s1, s2, s3, s4⟩ := isPitch_R h2
            obtain ⟨t1, t2, t3, t4⟩ := isPitch_R h3
            have k1 := fun lim L => c54 (d := 14) (lim := lim) (sp1 L) h1 h2 (two_pitch h1 h2)
            have k2 := fun lim L => c54 (d := 14) (lim := lim) (sp1 L) h2 h1 (two_pitch h2 h1)
            have k3 := fun lim hh => c55 (d := 16) (lim := lim) (h := hh) (two_pitch h1 h2)
            have k4 := fun lim hh => c50 (d := 16) (lim := lim) (h := hh) h1 h3
            have k5 := fun lim hh => c50 (d := 16) (lim := lim) (h := hh) h2 h3
            have J := ordP_join h1 h2 h3
            simp only [joinF, fitV, jn_p (Sm4 r1) (Sm4 t1) r4 t4, jn_p (Sm4 r2) (Sm4 t2) r4 t4, jn_p (Sm4 r3) (Sm4 t3) r4 t4, wrap_dn r4 t4] at k4
            simp only [joinF, fitV, jn_p (Sm4 s1) (Sm4 t1) s4 t4, jn_p (Sm4 s2) (Sm4 t2) s4 t4, jn_p (Sm4 s3) (Sm4 t3) s4 t4, wrap_dn s4 t4] at k5
            have sw := ordP_swap a b c e f g i j
            have wn : IntKind.wrap .i64 (-ordP a b c e f g i j) = -ordP a b c e f g i j := by
              have : -1 ≤ ordP a b c e f g i j ∧ ordP a b c e f g i j ≤ 1 := by unfold ordP ordE cmpN; split <;> (try split) <;> omega
              rw [wrap_eq (by omega) (by omega)]
            by_cases f1 : fitP (a * n + k * e) (b * n + l * e) (c * n + m * e) (e * n) = true
            · by_cases f2 : fitP (f * n + k * j) (g * n + l * j) (i * n + m * j) (j * n) = true
              · have v1 := fitP_ok f1
                have v2 := fitP_ok f2
                have k6 := fun lim L => c54 (d := 14) (lim := lim) (sp1 L) v1 v2 (two_pitch v1 v2)
                rw [J] at k6
                simp [ef11, hf, Heap.push, Heap.get, Heap.put, Heap.part, awake3, c19, n1, n2, n3, k1, k2, k3, k4, k5, k6, c21_2 a b c e f g i j, h0, f1, f2, sw, wn]
              · simp [ef11, hf, Heap.push, Heap.get, Heap.put, Heap.part, awake3, c19, n1, n2, n3, k1, k2, k3, k4, k5, c21_2 a b c e f g i j, h0, f1, f2, sw, wn]
            · simp [ef11, hf, Heap.push, Heap.get, Heap.put, Heap.part, awake3, c19, n1, n2, n3, k1, k2, k3, k4, k5, c21_2 a b c e f g i j, h0, f1, sw, wn]
          · have h3' : isPitch k l m n = false := by simpa using h3
            have k1 := fun lim L => c54 (d := 14) (lim := lim) (sp1 L) h1 h2 (two_pitch h1 h2)
            have k2 := fun lim L => c54 (d := 14) (lim := lim) (sp1 L) h2 h1 (two_pitch h2 h1)
            have k3 := fun lim hh => c55 (d := 16) (lim := lim) (h := hh) (two_pitch h1 h2)
            have k4 := fun lim hh => c50b (d := 16) (lim := lim) (h := hh) (a := a) (b := b) (c := c) (e := e) (.inr h3')
            have k5 := fun lim hh => c50b (d := 16) (lim := lim) (h := hh) (a := f) (b := g) (c := i) (e := j) (.inr h3')
            have sw := ordP_swap a b c e f g i j
            have wn : IntKind.wrap .i64 (-ordP a b c e f g i j) = -ordP a b c e f g i j := by
              have : -1 ≤ ordP a b c e f g i j ∧ ordP a b c e f g i j ≤ 1 := by unfold ordP ordE cmpN; split <;> (try split) <;> omega
              rw [wrap_eq (by omega) (by omega)]
            simp [ef11, hf, Heap.push, Heap.get, Heap.put, Heap.part, awake3, c19, n1, n2, n3, k1, k2, k3, k4, k5, c21_2 a b c e f g i j, h0, sw, wn]
        · simp [ef11, hf, Heap.push, Heap.get, Heap.put, Heap.part, awake3, c19, n1, n2, n3, c54b h0, c21_2 a b c e f g i j, h0]
      · simp [ef11, hf, Heap.push, Heap.get, Heap.put, Heap.part, awake3, c19, n1, n2, n3]
    · simp [ef11, hf, Heap.push, Heap.get, Heap.put, Heap.part, awake3, c19, n1, n2]
  · simp [ef11, hf, Heap.push, Heap.get, Heap.put, Heap.part, awake3, c19, n1]
theorem numberOrders_law : ∀ (bs : List (Option Blk)) us, Heap.freeze ([primesB] ++ bs) = [primesB] ++ bs → (∀ n, ctBlocks (([(true, [ctI, ctI, ctI, ctI]), (true, [ctI, ctI, ctI, ctI]), (true, [ctI, ctI, ctI, ctI])] : List (Bool × List CT)).flatMap (·.2)) = some n → bs.length = n) →
    ArgsV 6 ([primesB] ++ bs) [(true, [ctI, ctI, ctI, ctI]), (true, [ctI, ctI, ctI, ctI]), (true, [ctI, ctI, ctI, ctI])] us → ∃ h', E.call 21 (([primesB] : Heap) ++ bs).length 11 us ([primesB] ++ bs) = some (.bool true, h') := by
  intro bs us _ k a
  obtain rfl := none_of k rfl
  obtain ⟨u, v, w, rfl, a1, a2, a3⟩ := args3 a
  obtain ⟨_, _, _, _, rfl, _⟩ := arg_agg4 a1
  obtain ⟨_, _, _, _, rfl, _⟩ := arg_agg4 a2
  obtain ⟨_, _, _, _, rfl, _⟩ := arg_agg4 a3
  exact ⟨_, law11 _⟩
end N
end Go.Abs
