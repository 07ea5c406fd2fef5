/- Sizes of pitches: bounds. -/
import Derived.Test.YtfbelnhibipndaaGreatDoorAbsZDN
import Derived.Test.YtfbelnhibipndaaGreatDoorAbsZN
set_option linter.unusedSimpArgs false
set_option linter.unusedVariables false
/- Sizes of pitches: bounds. -/
namespace Go.Abs
namespace Z
set_option maxRecDepth 100000
set_option maxHeartbeats 0
/-- The multiple is at most one. -/
def Sub (a b c : Int) : Prop := numV a b c 3 ≤ numV (-a) (-b) (-c) 3
instance (a b c : Int) : Decidable (Sub a b c) := by unfold Sub; infer_instance
theorem pow3 (n : Nat) {a a' b b' c c' : Nat} (h : c + a' + b' = c' + a + b) : n ^ c * n ^ a' * n ^ b' = n ^ c' * n ^ a * n ^ b := by
  rw [← Nat.pow_add, ← Nat.pow_add, ← Nat.pow_add, ← Nat.pow_add, h]
theorem numV_add (a b c x y z : Int) : numV (a + x) (b + y) (c + z) 3 * (numV (-a) (-b) (-c) 3 * numV (-x) (-y) (-z) 3) = numV (-(a + x)) (-(b + y)) (-(c + z)) 3 * (numV a b c 3 * numV x y z 3) := by
  simp only [numV_eq]
  have e2 := pow3 2 (a := a.toNat) (a' := (-a).toNat) (b := x.toNat) (b' := (-x).toNat) (c := (a + x).toNat) (c' := (-(a + x)).toNat) (by omega)
  have e3 := pow3 3 (a := b.toNat) (a' := (-b).toNat) (b := y.toNat) (b' := (-y).toNat) (c := (b + y).toNat) (c' := (-(b + y)).toNat) (by omega)
  have e5 := pow3 5 (a := c.toNat) (a' := (-c).toNat) (b := z.toNat) (b' := (-z).toNat) (c := (c + z).toNat) (c' := (-(c + z)).toNat) (by omega)
  generalize 2 ^ a.toNat = p1 at *
  generalize 2 ^ (-a).toNat = p2 at *
  generalize 2 ^ x.toNat = p3 at *
  generalize 2 ^ (-x).toNat = p4 at *
  generalize 2 ^ (a + x).toNat = p5 at *
  generalize 2 ^ (-(a + x)).toNat = p6 at *
  generalize 3 ^ b.toNat = q1 at *
  generalize 3 ^ (-b).toNat = q2 at *
  generalize 3 ^ y.toNat = q3 at *
  generalize 3 ^ (-y).toNat = q4 at *
  generalize 3 ^ (b + y).toNat = q5 at *
  generalize 3 ^ (-(b + y)).toNat = q6 at *
  generalize 5 ^ c.toNat = r1 at *
  generalize 5 ^ (-c).toNat = r2 at *
  generalize 5 ^ z.toNat = r3 at *
  generalize 5 ^ (-z).toNat = r4 at *
  generalize 5 ^ (c + z).toNat = r5 at *
  generalize 5 ^ (-(c + z)).toNat = r6 at *
  calc p5 * q5 * r5 * (p2 * q2 * r2 * (p4 * q4 * r4)) = (p5 * p2 * p4) * (q5 * q2 * q4) * (r5 * r2 * r4) := by ac_rfl
    _ = (p6 * p1 * p3) * (q6 * q1 * q3) * (r6 * r1 * r3) := by rw [e2, e3, e5]
    _ = p6 * q6 * r6 * (p1 * q1 * r1 * (p3 * q3 * r3)) := by ac_rfl
theorem Sub.add {a b c x y z : Int} (h : Sub a b c) (k : Sub x y z) : Sub (a + x) (b + y) (c + z) := by
  unfold Sub at *
  have e := numV_add a b c x y z
  have p1 := numV_pos (-a) (-b) (-c)
  have p2 := numV_pos (-x) (-y) (-z)
  have hp := Nat.mul_pos p1 p2
  have hm := Nat.mul_le_mul h k
  refine Nat.le_of_mul_le_mul_right ?_ hp
  rw [e]
  exact Nat.mul_le_mul_left _ hm
/-- The multiple is at most a power of two. -/
def Sz (x : X3) (k : Int) : Prop := Sub (x.1 - k) x.2.1 x.2.2
theorem Sz.add {x y : X3} {k l : Int} (h : Sz x k) (g : Sz y l) : Sz (x.1 + y.1, x.2.1 + y.2.1, x.2.2 + y.2.2) (k + l) := by
  have := Sub.add h g
  unfold Sz; simp only
  have e : x.1 - k + (y.1 - l) = x.1 + y.1 - (k + l) := by omega
  rwa [e] at this
theorem Sub_two {k : Int} (h : k ≤ 0) : Sub k 0 0 := by
  unfold Sub; rw [numV_eq, numV_eq]
  have : k.toNat = 0 := by omega
  rw [this]
  simp
  exact Nat.pow_pos (by decide)
theorem Sz_oct {n k : Int} (h : n ≤ k) : Sz (n, 0, 0) k := Sub_two (by simp only; omega)
theorem Sz.mono {x : X3} {k l : Int} (h : Sz x k) (g : k ≤ l) : Sz x l := by
  have := Sz.add h (Sz_oct (n := 0) (k := l - k) (by omega))
  have e : k + (l - k) = l := by omega
  rw [e] at this
  simpa using this
def negX (x : X3) : X3 := (-x.1, -x.2.1, -x.2.2)
theorem pyt_tab : ∀ j : Fin 97, Sub (19 * ((j.val : Int) - 48) - 1) (-(12 * ((j.val : Int) - 48))) 0 := by decide +kernel
theorem syn_tab : ∀ j : Fin 97, Sub (4 * ((j.val : Int) - 48) - 1) (-(4 * ((j.val : Int) - 48))) ((j.val : Int) - 48) := by decide +kernel
theorem pyt {p : Int} (h : -48 ≤ p ∧ p ≤ 48) : Sz (19 * p, -(12 * p), 0) 1 := by
  have := pyt_tab ⟨(p + 48).toNat, by omega⟩
  have e : (((p + 48).toNat : Nat) : Int) - 48 = p := by omega
  simp only [e] at this
  exact this
theorem syn {p : Int} (h : -48 ≤ p ∧ p ≤ 48) : Sz (4 * p, -(4 * p), p) 1 := by
  have := syn_tab ⟨(p + 48).toNat, by omega⟩
  have e : (((p + 48).toNat : Nat) : Int) - 48 = p := by omega
  simp only [e] at this
  exact this
theorem Sz.eq {x y : X3} {k l : Int} (h : Sz x k) (e1 : x.1 = y.1) (e2 : x.2.1 = y.2.1) (e3 : x.2.2 = y.2.2) (g : k ≤ l) : Sz y l := by
  have := h.mono g
  unfold Sz at *
  rwa [e1, e2, e3] at this
theorem fif_hi {p s : Int} (hp : -48 ≤ p ∧ p ≤ 48) (hs : -48 ≤ s ∧ s ≤ 48) : Sz (fifZ p s) 10 :=
  (((show Sz (-12, 12, 0) 8 by unfold Sz; decide +kernel).add (pyt hp)).add (syn hs)).eq (by simp [fifZ]) (by simp [fifZ]; omega) (by simp [fifZ]) (by omega)
theorem fif_lo {p s : Int} (hp : -48 ≤ p ∧ p ≤ 48) (hs : -48 ≤ s ∧ s ≤ 48) : Sz (negX (fifZ p s)) (-5) :=
  (((show Sz (12, -12, 0) (-7) by unfold Sz; decide +kernel).add (pyt (p := -p) (by omega))).add (syn (p := -s) (by omega))).eq (by simp [fifZ, negX]; omega) (by simp [fifZ, negX]; omega) (by simp [fifZ, negX]) (by omega)
theorem acc_sz {P S : Nat → Int} (o : Okt P S) : ∀ i, i ≤ 12 → Sz (accZ P S i) (10 * i) ∧ Sz (negX (accZ P S i)) (-(5 * i))
  | 0, _ => ⟨Sz_oct (by simp), Sz_oct (by simp [accZ])⟩
  | i + 1, h => by
    obtain ⟨h1, h2⟩ := acc_sz o i (by omega)
    have f1 := fif_hi (o.p i (by omega)) (o.s i (by omega))
    have f2 := fif_lo (o.p i (by omega)) (o.s i (by omega))
    exact ⟨(h1.add f1).eq (by simp [accZ, addZ]) (by simp [accZ, addZ]) (by simp [accZ, addZ]) (by omega),
      (h2.add f2).eq (by simp [accZ, addZ, negX]; omega) (by simp [accZ, addZ, negX]; omega) (by simp [accZ, addZ, negX]; omega) (by omega)⟩
theorem note_sz {P S : Nat → Int} (o : Okt P S) (n : Nat) : Sz (noteZ P S n) (12 * ((n + 9) / 12 : Nat) + 44) ∧ Sz (negX (noteZ P S n)) (-(12 * ((n + 9) / 12 : Nat)) + 22) := by
  unfold noteZ clsZ reaZ
  generalize (n + 9) / 12 = q
  have hm : 7 * ((n + 9) % 12) % 12 < 12 := by omega
  generalize 7 * ((n + 9) % 12) % 12 = m at *
  obtain ⟨h1, h2⟩ := acc_sz o m (by omega)
  have a := (h1.add (Sz_oct (n := 12 * (q : Int) - 12 * ((7 * m / 12 : Nat) : Int)) (Int.le_refl _)))
  have b := (h2.add (Sz_oct (n := -(12 * (q : Int)) + 12 * ((7 * m / 12 : Nat) : Int)) (Int.le_refl _)))
  exact ⟨a.eq (by simp only [addZ, octX]; omega) (by simp only [addZ, octX]; omega) (by simp only [addZ, octX]; omega) (by omega),
    b.eq (by simp only [addZ, octX, negX]; omega) (by simp only [addZ, octX, negX]; omega) (by simp only [addZ, octX, negX]; omega) (by omega)⟩
theorem int_sz {P S : Nat → Int} (o : Okt P S) {n : Nat} (hn : n ≤ 87) : Sz (intZ P S 48 n) 240 := by
  obtain ⟨h1, _⟩ := note_sz o n
  obtain ⟨_, h2⟩ := note_sz o 48
  exact (h1.add h2).eq (by simp only [intZ, addZ, negX]; omega) (by simp only [intZ, addZ, negX]; omega) (by simp only [intZ, addZ, negX]; omega) (by omega)
end Z
end Go.Abs
/- The reference's partials and tests. -/
namespace Go.Abs
namespace Z
set_option maxRecDepth 100000
set_option maxHeartbeats 0
theorem c87_1 {d lim : Nat} {h : Heap} : E.call (d + 1) lim 87 [i64 1] h = some (.tuple #[v3 (0, 0, 0), .bool true], h) := by
  refine call1 fn87 rfl (by simp [ef87]) ?_
  simp [ef87, wrapL, qmod, qdiv, wpC_unroll, wpI_step, E_fuel, St.tidy]
theorem c87_2 {d lim : Nat} {h : Heap} : E.call (d + 1) lim 87 [i64 2] h = some (.tuple #[v3 (12, 0, 0), .bool true], h) := by
  refine call1 fn87 rfl (by simp [ef87]) ?_
  simp [ef87, wrapL, qmod, qdiv, wpC_unroll, wpI_step, E_fuel, St.tidy]
theorem c87_3 {d lim : Nat} {h : Heap} : E.call (d + 1) lim 87 [i64 3] h = some (.tuple #[v3 (0, 12, 0), .bool true], h) := by
  refine call1 fn87 rfl (by simp [ef87]) ?_
  simp [ef87, wrapL, qmod, qdiv, wpC_unroll, wpI_step, E_fuel, St.tidy]
theorem c87_4 {d lim : Nat} {h : Heap} : E.call (d + 1) lim 87 [i64 4] h = some (.tuple #[v3 (24, 0, 0), .bool true], h) := by
  refine call1 fn87 rfl (by simp [ef87]) ?_
  simp [ef87, wrapL, qmod, qdiv, wpC_unroll, wpI_step, E_fuel, St.tidy]
theorem c87_5 {d lim : Nat} {h : Heap} : E.call (d + 1) lim 87 [i64 5] h = some (.tuple #[v3 (0, 0, 12), .bool true], h) := by
  refine call1 fn87 rfl (by simp [ef87]) ?_
  simp [ef87, wrapL, qmod, qdiv, wpC_unroll, wpI_step, E_fuel, St.tidy]
theorem c87_6 {d lim : Nat} {h : Heap} : E.call (d + 1) lim 87 [i64 6] h = some (.tuple #[v3 (12, 12, 0), .bool true], h) := by
  refine call1 fn87 rfl (by simp [ef87]) ?_
  simp [ef87, wrapL, qmod, qdiv, wpC_unroll, wpI_step, E_fuel, St.tidy]
theorem c87_7 {d lim : Nat} {h : Heap} : E.call (d + 1) lim 87 [i64 7] h = some (.tuple #[v3 (0, 0, 0), .bool false], h) := by
  refine call1 fn87 rfl (by simp [ef87]) ?_
  simp [ef87, wrapL, qmod, qdiv, wpC_unroll, wpI_step, E_fuel, St.tidy]
theorem c87_8 {d lim : Nat} {h : Heap} : E.call (d + 1) lim 87 [i64 8] h = some (.tuple #[v3 (36, 0, 0), .bool true], h) := by
  refine call1 fn87 rfl (by simp [ef87]) ?_
  simp [ef87, wrapL, qmod, qdiv, wpC_unroll, wpI_step, E_fuel, St.tidy]
theorem c87_9 {d lim : Nat} {h : Heap} : E.call (d + 1) lim 87 [i64 9] h = some (.tuple #[v3 (0, 24, 0), .bool true], h) := by
  refine call1 fn87 rfl (by simp [ef87]) ?_
  simp [ef87, wrapL, qmod, qdiv, wpC_unroll, wpI_step, E_fuel, St.tidy]
theorem c87_10 {d lim : Nat} {h : Heap} : E.call (d + 1) lim 87 [i64 10] h = some (.tuple #[v3 (12, 0, 12), .bool true], h) := by
  refine call1 fn87 rfl (by simp [ef87]) ?_
  simp [ef87, wrapL, qmod, qdiv, wpC_unroll, wpI_step, E_fuel, St.tidy]
theorem c87_11 {d lim : Nat} {h : Heap} : E.call (d + 1) lim 87 [i64 11] h = some (.tuple #[v3 (0, 0, 0), .bool false], h) := by
  refine call1 fn87 rfl (by simp [ef87]) ?_
  simp [ef87, wrapL, qmod, qdiv, wpC_unroll, wpI_step, E_fuel, St.tidy]
theorem c87_12 {d lim : Nat} {h : Heap} : E.call (d + 1) lim 87 [i64 12] h = some (.tuple #[v3 (24, 12, 0), .bool true], h) := by
  refine call1 fn87 rfl (by simp [ef87]) ?_
  simp [ef87, wrapL, qmod, qdiv, wpC_unroll, wpI_step, E_fuel, St.tidy]
theorem c87_13 {d lim : Nat} {h : Heap} : E.call (d + 1) lim 87 [i64 13] h = some (.tuple #[v3 (0, 0, 0), .bool false], h) := by
  refine call1 fn87 rfl (by simp [ef87]) ?_
  simp [ef87, wrapL, qmod, qdiv, wpC_unroll, wpI_step, E_fuel, St.tidy]
theorem c87_14 {d lim : Nat} {h : Heap} : E.call (d + 1) lim 87 [i64 14] h = some (.tuple #[v3 (12, 0, 0), .bool false], h) := by
  refine call1 fn87 rfl (by simp [ef87]) ?_
  simp [ef87, wrapL, qmod, qdiv, wpC_unroll, wpI_step, E_fuel, St.tidy]
theorem c87_15 {d lim : Nat} {h : Heap} : E.call (d + 1) lim 87 [i64 15] h = some (.tuple #[v3 (0, 12, 12), .bool true], h) := by
  refine call1 fn87 rfl (by simp [ef87]) ?_
  simp [ef87, wrapL, qmod, qdiv, wpC_unroll, wpI_step, E_fuel, St.tidy]
theorem c87_16 {d lim : Nat} {h : Heap} : E.call (d + 1) lim 87 [i64 16] h = some (.tuple #[v3 (48, 0, 0), .bool true], h) := by
  refine call1 fn87 rfl (by simp [ef87]) ?_
  simp [ef87, wrapL, qmod, qdiv, wpC_unroll, wpI_step, E_fuel, St.tidy]
theorem c87 {d lim : Nat} {h : Heap} {n : Nat} (hn : 1 ≤ n ∧ n ≤ 16) : E.call (d + 1) lim 87 [i64 n] h = some (.tuple #[v3 (facX n), .bool (facB n)], h) := by
  rcases part_cases hn with rfl | rfl | rfl | rfl | rfl | rfl | rfl | rfl | rfl | rfl | rfl | rfl | rfl | rfl | rfl | rfl
  · exact c87_1
  · exact c87_2
  · exact c87_3
  · exact c87_4
  · exact c87_5
  · exact c87_6
  · exact c87_7
  · exact c87_8
  · exact c87_9
  · exact c87_10
  · exact c87_11
  · exact c87_12
  · exact c87_13
  · exact c87_14
  · exact c87_15
  · exact c87_16
theorem c49 {d lim : Nat} {h : Heap} {n m p q : Int} : E.call (d + 3) lim 49 [pt n m p q] h = some (i64 (chkX n m p q), h) := by
  refine call1 fn49 rfl (by simp [ef49]) ?_
  by_cases hn : isNote n = true
  · by_cases hm : isNote m = true
    · by_cases hp : within p 1 16 = true
      · by_cases hq : within q 1 16 = true
        · by_cases hl : m ≤ n
          · simp [ef49, c86, c37, hn, hm, hp, hq, hl, chkX]
          · obtain ⟨x, rfl, hx⟩ := part_nat hp
            obtain ⟨y, rfl, hy⟩ := part_nat hq
            have k1 := fun lim hh => @c87 (d + 1) lim hh x hx
            have k2 := fun lim hh => @c87 (d + 1) lim hh y hy
            generalize facX x = X at *
            generalize facX y = Y at *
            obtain ⟨x1, x2, x3⟩ := X
            obtain ⟨y1, y2, y3⟩ := Y
            by_cases fx : facB x = true
            · by_cases fy : facB y = true
              · simp [ef49, c86, c37, hn, hm, hp, hq, hl, chkX, k1, k2, fx, fy]
              · simp [ef49, c86, c37, hn, hm, hp, hq, hl, chkX, k1, k2, fx, fy]
            · simp [ef49, c86, c37, hn, hm, hp, hq, hl, chkX, k1, k2, fx]
        · simp [ef49, c86, c37, hn, hm, hp, hq, chkX]
      · simp [ef49, c86, c37, hn, hm, hp, chkX]
    · simp [ef49, c86, c37, hn, hm, chkX]
  · simp [ef49, c86, c37, hn, chkX]
theorem sz_le {a b c : Int} (h : Sz (a, b, c) 240) : numV a b c 3 ≤ numV (-a) (-b) (-c) 3 * 2 ^ 240 := by
  have e := numV_add (a - 240) b c 240 0 0
  have s : Sub (a - 240) b c := h
  unfold Sub at s
  have p1 := numV_pos (-(a - 240)) (-b) (-c)
  rw [show a - 240 + 240 = a by omega, Int.add_zero, Int.add_zero] at e
  have n1 : numV (-240) (-0) (-0) 3 = 1 := by decide +kernel
  have n2 : numV 240 0 0 3 = 2 ^ 240 := by decide +kernel
  rw [n1, n2] at e
  generalize numV (-(a - 240)) (-b) (-c) 3 = N at *
  generalize numV (a - 240) b c 3 = M at *
  generalize numV a b c 3 = A at *
  generalize numV (-a) (-b) (-c) 3 = B at *
  generalize 2 ^ 240 = K at *
  rw [Nat.mul_one] at e
  refine Nat.le_of_mul_le_mul_right ?_ p1
  rw [e]
  calc B * (M * K) ≤ B * (N * K) := Nat.mul_le_mul_left _ (Nat.mul_le_mul_right _ s)
    _ = B * K * N := by ac_rfl
theorem enc_H {a b c : Int} (h : Sz (a, b, c) 240) {t L H : Nat} (ht : t ≤ 16000000) (S : EncS a b c 12 t L H) : H ≤ 1000000000000000 := by
  have l := sz_le h
  have p := numV_pos (-a) (-b) (-c)
  have q : ¬ encP a b c 12 t 1000000000000000 := by
    unfold encP
    intro k
    have h1 : t ^ (12 : Int).toNat ≤ 16000000 ^ 12 := Nat.pow_le_pow_left ht 12
    have h2 := Nat.le_trans k (Nat.mul_le_mul h1 l)
    have h3 : 16000000 ^ 12 * 2 ^ 240 < 1000000000000000 ^ 12 := by decide +kernel
    have e12 : (12 : Int).toNat = 12 := rfl
    rw [e12] at h2
    generalize numV (-a) (-b) (-c) 3 = B at *
    have h4 : 16000000 ^ 12 * (B * 2 ^ 240) = 16000000 ^ 12 * 2 ^ 240 * B := by
      generalize 16000000 ^ 12 = x
      generalize 2 ^ 240 = y
      ac_rfl
    rw [h4] at h2
    exact absurd (Nat.lt_of_lt_of_le ((Nat.mul_lt_mul_right p).2 h3) h2) (Nat.lt_irrefl _)
  rw [S.iff _ (by omega)] at q
  by_cases z : encQ a b c 12 t L
  · have := S.on z; omega
  · have := S.off z; omega
theorem enc_note {P S : Nat → Int} (o : Okt P S) {n t L H : Nat} (hn : n ≤ 87) (ht : t ≤ 16000000) (s : encN P S t n L H) : H ≤ 1000000000000000 := by
  have z := (int_sz o hn).mono (l := 300) (by omega)
  unfold encN at s
  rw [intX_eq o (by omega) (by omega)] at s
  exact enc_H (int_sz o hn) ht s
end Z
end Go.Abs
/- Beats: the reference's; the law TemperBeats. -/
namespace Go.Abs
namespace Z
set_option maxRecDepth 100000
set_option maxHeartbeats 0
theorem beaS_eq {L2 H2 L1 H1 : Nat} (h1 : L1 ≤ H1) (h2 : L2 ≤ H2) (b1 : H1 ≤ 1000000000000000) (b2 : H2 ≤ 1000000000000000) : beaS L2 H2 L1 H1 = (W ((L2 : Int) - H1), W ((H2 : Int) - L1), 0) := by
  obtain ⟨a1, a2, a3⟩ := small_eq h1
  obtain ⟨c1, c2, c3⟩ := small_eq h2
  rw [if_pos b1] at a1 a2 a3
  rw [if_pos b2] at c1 c2 c3
  simp [beaS, beaV, a1, a2, a3, c1, c2, c3]
end Z
end Go.Abs
/- Frequencies. -/
namespace Go.Abs
namespace Z
set_option maxRecDepth 100000
set_option maxHeartbeats 0
theorem enc_small {P S : Nat → Int} (o : Okt P S) {n t L H : Nat} (hn : n ≤ 87) (ht : t ≤ 16000000) (s : encN P S t n L H) : smallL L H = L ∧ smallH L H = H ∧ smallE L H = 0 := by
  obtain ⟨a1, a2, a3⟩ := small_eq (EncS.lt s).1
  have b := enc_note o hn ht s
  rw [if_pos b] at a1 a2 a3
  exact ⟨a1, a2, a3⟩
theorem c71 {d lim : Nat} {h : Heap} {C : List Value} {nm : ByteArray} {P S : Nat → Int} {F n L H : Nat} (sp : SlU h (.slice (some ⟨0, 0, none⟩) 3 1) [2, 3, 5]) (t : Tm C nm P S) (hs : nm.size ≤ 1000) (h0 : chkT nm P S = 0)
    (hn : n ≤ 87) (hF : 1 ≤ F ∧ F ≤ 1000000) (s : encN P S F n L H) :
    E.call (d + 7) lim 71 [.agg C.toArray, i64 F, i64 n] h = some (rge L H 0, h) := by
  obtain ⟨o, _⟩ := okt h0
  have hf : isFork F = true := by simp [isFork, within]; omega
  have hN : isNote n = true := by simp [isNote, within]; omega
  have gb : Heap.get (h.freeze ++ [some ⟨C, true⟩, some ⟨[i64 0, i64 0], true⟩, some ⟨[.bool (isFork F), .bool (isNote n)], true⟩]) (h.length + 2) = some ⟨[.bool (isFork F), .bool (isNote n)], true⟩ := by rw [hget_base (by simp)]; rfl
  have sl := SlBo2 gb
  have gk : ∀ L, Heap.get (h.freeze ++ (some ⟨C, true⟩ :: some ⟨[i64 0, i64 0], true⟩ :: some ⟨[.bool true, .bool true], true⟩ :: some ⟨circK P S, true⟩ :: L)) (h.length + 3) = some ⟨circK P S, true⟩ := fun L => by rw [hget_base (by simp)]; rfl
  have sp2 : ∀ L, SlU (h.freeze ++ L) (.slice (some ⟨0, 0, none⟩) 3 1) [2, 3, 5] := fun L => (Sl_freeze.2 sp).app L
  have k84 := fun lim => c89 (d := d + 1) (lim := lim) t hs sl (by simp) h0 (by simp [hf, hN])
  simp only [hf, hN, List.length_append, Heap.length_freeze, List.length_cons, List.length_nil, List.append_assoc, List.cons_append, List.nil_append] at k84
  obtain ⟨e1, e2, e3⟩ := enc_small o hn (by omega) s
  have k96 := fun lim L => c111 (d := d) (lim := lim) (sp2 _) (gk L) o hn ⟨hF.1, by omega⟩ s
  rw [e1, e2, e3] at k96
  refine call1 fn71 rfl (by simp [ef71]) ?_
  simp [ef71, t.len, t.take, c90, c82, hf, hN, k84, k96]
end Z
end Go.Abs
