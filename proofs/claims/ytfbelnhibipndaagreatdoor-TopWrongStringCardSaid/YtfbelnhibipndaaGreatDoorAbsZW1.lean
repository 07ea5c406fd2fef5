/- Bounds of frequencies: no note is farther from the fork than its distance and ten semitones. -/
import Derived.Test.YtfbelnhibipndaaGreatDoorAbsZEM
set_option linter.unusedSimpArgs false
set_option linter.unusedVariables false
namespace Go.Abs
namespace Z
set_option maxRecDepth 100000
set_option maxHeartbeats 0
def sumP (P : Nat → Int) : Nat → Int
  | 0 => 0
  | i + 1 => sumP P i + P i
theorem acc_form (P S : Nat → Int) : ∀ i : Nat, accZ P S i = (-12 * i + 19 * sumP P i + 4 * sumP S i, 12 * i - 12 * sumP P i - 4 * sumP S i, sumP S i)
  | 0 => by simp [accZ, sumP]
  | i + 1 => by
    have ih := acc_form P S i
    simp only [accZ, ih, addZ, fifZ, sumP]
    refine Prod.ext ?_ (Prod.ext ?_ ?_) <;> simp only <;> push_cast <;> omega
theorem pyt2_tab : ∀ j : Fin 273, Sub (19 * ((j.val : Int) - 136) - 3) (-(12 * ((j.val : Int) - 136))) 0 := by decide +kernel
theorem syn2_tab : ∀ j : Fin 601, Sub (4 * ((j.val : Int) - 300) - 6) (-(4 * ((j.val : Int) - 300))) ((j.val : Int) - 300) := by decide +kernel
theorem base_tab : ∀ c d : Fin 12, Sub (-12 * (((7 * c.val % 12 : Nat) : Int) - ((7 * d.val % 12 : Nat) : Int)) - 12 * (((7 * (7 * c.val % 12) / 12 : Nat) : Int) - ((7 * (7 * d.val % 12) / 12 : Nat) : Int)) - ((c.val : Int) - d.val + 1)) (12 * (((7 * c.val % 12 : Nat) : Int) - ((7 * d.val % 12 : Nat) : Int))) 0 := by decide +kernel
theorem pyt2 {p : Int} (h : -136 ≤ p ∧ p ≤ 136) : Sz (19 * p, -(12 * p), 0) 3 := by
  have := pyt2_tab ⟨(p + 136).toNat, by omega⟩
  have e : (((p + 136).toNat : Nat) : Int) - 136 = p := by omega
  simp only [e] at this
  exact this
theorem syn2 {p : Int} (h : -300 ≤ p ∧ p ≤ 300) : Sz (4 * p, -(4 * p), p) 6 := by
  have := syn2_tab ⟨(p + 300).toNat, by omega⟩
  have e : (((p + 300).toNat : Nat) : Int) - 300 = p := by omega
  simp only [e] at this
  exact this
/-- A class over another one. -/
theorem cls_sz {P S : Nat → Int} (o : Okt P S) {c d : Nat} (hc : c < 12) (hd : d < 12) : Sz (addZ (clsZ P S c) (-1) (clsZ P S d)) ((c : Int) - d + 10) := by
  have n0 := cls_near o hc hd (k := 1) (by decide)
  have n1 := cls_near o hd hc (k := 1) (by decide)
  have n2 := cls_near o hc hd (k := 2) (by decide)
  have n3 := cls_near o hd hc (k := 2) (by decide)
  have b := base_tab ⟨c, hc⟩ ⟨d, hd⟩
  simp only at b
  have b' : Sz (-12 * (((7 * c % 12 : Nat) : Int) - ((7 * d % 12 : Nat) : Int)) - 12 * (((7 * (7 * c % 12) / 12 : Nat) : Int) - ((7 * (7 * d % 12) / 12 : Nat) : Int)), 12 * (((7 * c % 12 : Nat) : Int) - ((7 * d % 12 : Nat) : Int)), 0) ((c : Int) - d + 1) := b
  unfold clsZ reaZ at *
  have hi : 7 * c % 12 < 12 := by omega
  have hj : 7 * d % 12 < 12 := by omega
  generalize 7 * c % 12 = i at *
  generalize 7 * d % 12 = j at *
  rw [acc_form, acc_form] at *
  simp only [c3, addZ, octX] at n0 n1 n2 n3
  simp at n0 n1 n2 n3
  have p := pyt2 (p := sumP P i - sumP P j) (by omega)
  have q := syn2 (p := sumP S i - sumP S j) (by omega)
  refine ((b'.add p).add q).eq ?_ ?_ ?_ (by omega)
  · simp only [addZ, octX]; omega
  · simp only [addZ, octX]; omega
  · simp only [addZ, octX]; omega
theorem int_sz2 {P S : Nat → Int} (o : Okt P S) {n : Nat} (hn : n ≤ 87) : Sz (intZ P S 48 n) ((n : Int) - 38) ∧ Sz (negX (intZ P S 48 n)) (58 - (n : Int)) := by
  have a := (cls_sz o (c := (n + 9) % 12) (d := 9) (by omega) (by omega)).add (Sz_oct (n := 12 * (((n + 9) / 12 : Nat) : Int) - 48) (Int.le_refl _))
  have b := (cls_sz o (c := 9) (d := (n + 9) % 12) (by omega) (by omega)).add (Sz_oct (n := 48 - 12 * (((n + 9) / 12 : Nat) : Int)) (Int.le_refl _))
  have ei : intZ P S 48 n = addZ (addZ (clsZ P S ((n + 9) % 12)) (((n + 9) / 12 : Nat) : Int) octX) (-1) (addZ (clsZ P S 9) 4 octX) := rfl
  rw [ei]
  constructor
  · refine a.eq ?_ ?_ ?_ (by omega)
    · simp only [addZ, octX]; omega
    · simp only [addZ, octX]; omega
    · simp only [addZ, octX]; omega
  · refine b.eq ?_ ?_ ?_ (by omega)
    · simp only [addZ, octX, negX]; omega
    · simp only [addZ, octX, negX]; omega
    · simp only [addZ, octX, negX]; omega
theorem sz_leK {a b c : Int} {k : Nat} (h : Sz (a, b, c) k) : numV a b c 3 ≤ numV (-a) (-b) (-c) 3 * 2 ^ k := by
  have e := numV_add (a - k) b c k 0 0
  have s : Sub (a - k) b c := h
  unfold Sub at s
  have p1 := numV_pos (-(a - k)) (-b) (-c)
  rw [show a - k + k = a by omega, Int.add_zero, Int.add_zero] at e
  have n1 : numV (-(k : Int)) (-0) (-0) 3 = 1 := by
    rw [numV_eq, show (-(k : Int)).toNat = 0 by omega]; rfl
  have n2 : numV (k : Int) 0 0 3 = 2 ^ k := by
    rw [numV_eq, show ((k : Int)).toNat = k by omega]; simp
  rw [n1, n2] at e
  generalize numV (-(a - k)) (-b) (-c) 3 = N at *
  generalize numV (a - k) b c 3 = M at *
  generalize numV a b c 3 = A at *
  generalize numV (-a) (-b) (-c) 3 = B at *
  generalize 2 ^ k = K at *
  rw [Nat.mul_one] at e
  refine Nat.le_of_mul_le_mul_right ?_ p1
  rw [e]
  calc B * (M * K) ≤ B * (N * K) := Nat.mul_le_mul_left _ (Nat.mul_le_mul_right _ s)
    _ = B * K * N := by ac_rfl
/-- A note's frequency lies between 1 and 32 times the fork. -/
theorem frq_bd {P S : Nat → Int} (o : Okt P S) {n t L H : Nat} (hn : n ≤ 87) (h1 : 1000 ≤ t) (ht : t ≤ 600000) (s : encN P S t n L H) : 1 ≤ L ∧ L ≤ H ∧ H ≤ L + 1 ∧ H ≤ 32 * t + 1 := by
  have b := enc_note o hn (by omega) s
  have lt := EncS.lt s
  obtain ⟨z1, z2⟩ := int_sz2 o hn
  unfold encN at s
  rw [intX_eq o (by omega) (by omega)] at s
  generalize intZ P S 48 n = X at *
  obtain ⟨x, y, z⟩ := X
  simp only [negX] at z2 s
  have l1 := sz_leK (k := 60) (z1.mono (by omega))
  have l2 := sz_leK (k := 60) (z2.mono (by omega))
  simp only [Int.neg_neg] at l2
  have p := numV_pos x y z
  have p' := numV_pos (-x) (-y) (-z)
  have e12 : (12 : Int).toNat = 12 := rfl
  have hL : L ≤ 32 * t := by
    have k := (s.iff L s.le).2 (Nat.le_refl _)
    unfold encP at k
    rw [e12] at k
    have h := Nat.le_trans k (Nat.mul_le_mul_left _ l1)
    have e : t ^ 12 * (numV (-x) (-y) (-z) 3 * 2 ^ 60) = (32 * t) ^ 12 * numV (-x) (-y) (-z) 3 := by
      rw [Nat.mul_pow, show (32 : Nat) ^ 12 = 2 ^ 60 by decide]
      generalize 2 ^ 60 = u
      ac_rfl
    rw [e] at h
    have h := Nat.le_of_mul_le_mul_right h p'
    exact (Nat.pow_le_pow_iff_left (by decide)).1 h
  have hl : 1 ≤ L := by
    refine (s.iff 1 (by omega)).1 ?_
    unfold encP
    rw [e12, Nat.one_pow, Nat.one_mul]
    have q : 2 ^ 60 ≤ t ^ 12 := Nat.le_trans (by decide : 2 ^ 60 ≤ 1000 ^ 12) (Nat.pow_le_pow_left h1 12)
    calc numV (-x) (-y) (-z) 3 ≤ numV x y z 3 * 2 ^ 60 := l2
      _ ≤ numV x y z 3 * t ^ 12 := Nat.mul_le_mul_left _ q
      _ = t ^ 12 * numV x y z 3 := Nat.mul_comm _ _
  have hh : H = L ∨ H = L + 1 := by
    by_cases z : encQ x y z 12 t L
    · exact .inl (s.on z)
    · exact .inr (s.off z)
  exact ⟨hl, by omega, by omega, by omega⟩
end Z
end Go.Abs
