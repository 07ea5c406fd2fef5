/- Fifths in a row. -/
import Derived.Test.YtinbdefjjfmfoaaDoorAbsTN
set_option linter.unusedSimpArgs false
set_option linter.unusedVariables false
/- Fifths in a row. -/
namespace Go.Abs
namespace T
set_option maxRecDepth 100000
set_option maxHeartbeats 0
theorem foldW : ∀ (l : List Int) (a : Int), (∀ x ∈ l, -48 ≤ x ∧ x ≤ 48) → -10000 + 48 * (l.length : Int) ≤ a → a ≤ 10000 - 48 * (l.length : Int) → l.foldl (fun a x => W (a + x)) a = l.foldl (fun a x => a + x) a
  | [], _, _, _, _ => rfl
  | x :: l, a, h, h1, h2 => by
    have b := h x (by simp)
    simp only [List.length_cons] at h1 h2
    rw [List.foldl_cons, List.foldl_cons, Weq (by omega)]
    exact foldW l _ (fun y hy => h y (by simp [hy])) (by omega) (by omega)
theorem sum12 {P : Nat → Int} (h : ∀ i, i < 12 → -48 ≤ P i ∧ P i ≤ 48) : sumW (l12 P) = P 0 + P 1 + P 2 + P 3 + P 4 + P 5 + P 6 + P 7 + P 8 + P 9 + P 10 + P 11 := by
  unfold sumW
  rw [foldW _ _ (fun x hx => by
    obtain ⟨i, hi, rfl⟩ := List.mem_map.1 hx
    exact h i (List.mem_range.1 hi)) (by rw [l12_len]; omega) (by rw [l12_len]; omega)]
  simp [l12, List.range_succ]
theorem acc12 {P S : Nat → Int} (o : Okt P S) : accZ P S 12 = (84, 0, 0) := by
  have hp := o.sp
  have hs := o.ss
  rw [sum12 o.p] at hp
  rw [sum12 o.s] at hs
  simp only [accZ, addZ, fifZ, Prod.mk.injEq]
  omega
/-- Some fifths in a row, from a place on the circle. -/
def runZ (P S : Nat → Int) (m : Nat) : Nat → X3
  | 0 => (0, 0, 0)
  | i + 1 => addZ (runZ P S m i) 1 (fifZ (P ((m + i) % 12)) (S ((m + i) % 12)))
theorem run_acc {P S : Nat → Int} (o : Okt P S) {m : Nat} (hm : m < 12) : ∀ i, i ≤ 12 →
    (m + i ≤ 12 → addZ (accZ P S m) 1 (runZ P S m i) = accZ P S (m + i)) ∧ (12 ≤ m + i → addZ (accZ P S m) 1 (runZ P S m i) = addZ (84, 0, 0) 1 (accZ P S (m + i - 12)))
  | 0, _ => ⟨fun _ => by simp [addZ, runZ], fun h => by omega⟩
  | i + 1, hi => by
    obtain ⟨h1, h2⟩ := run_acc o hm i (by omega)
    refine ⟨fun h => ?_, fun h => ?_⟩
    · have e := h1 (by omega)
      have k : (m + i) % 12 = m + i := Nat.mod_eq_of_lt (by omega)
      have q : accZ P S (m + (i + 1)) = addZ (accZ P S (m + i)) 1 (fifZ (P (m + i)) (S (m + i))) := rfl
      rw [q, ← e]
      simp only [runZ, k, addZ, Prod.mk.injEq]; omega
    · by_cases z : m + i < 12
      · have e := h1 (by omega)
        have z' : m + i = 11 := by omega
        have k : (m + i) % 12 = 11 := by omega
        have q : accZ P S 12 = addZ (accZ P S 11) 1 (fifZ (P 11) (S 11)) := rfl
        rw [z'] at e
        have e0 : m + (i + 1) - 12 = 0 := by omega
        rw [e0]
        rw [acc12 o, ← e] at q
        simp only [runZ, k, addZ, accZ, Prod.mk.injEq] at q ⊢
        omega
      · have e := h2 (by omega)
        obtain ⟨j, hj⟩ : ∃ j, m + i = 12 + j := ⟨m + i - 12, by omega⟩
        have k : (m + i) % 12 = j := by omega
        have e1 : m + i - 12 = j := by omega
        have e2 : m + (i + 1) - 12 = j + 1 := by omega
        rw [e1] at e
        rw [e2]
        have q : accZ P S (j + 1) = addZ (accZ P S j) 1 (fifZ (P j) (S j)) := rfl
        rw [q]
        simp only [runZ, k, addZ, Prod.mk.injEq] at e ⊢
        omega
end T
end Go.Abs
/- Fifths and thirds: bounds, and the sums as they are computed. -/
namespace Go.Abs
namespace T
set_option maxRecDepth 100000
set_option maxHeartbeats 0
theorem rea_cls {P S : Nat → Int} {j : Nat} (h : j < 12) : reaZ P S j = clsZ P S (7 * j % 12) := by
  unfold clsZ
  have e : 7 * (7 * j % 12) % 12 = j := by omega
  rw [e]
theorem cls_near' {P S : Nat → Int} (o : Okt P S) {a b : Nat} (ha : a < 12) (hb : b < 12) : (clsZ P S a).1 - (clsZ P S b).1 ≤ 300 ∧ (clsZ P S a).2.1 - (clsZ P S b).2.1 ≤ 300 ∧ (clsZ P S a).2.2 - (clsZ P S b).2.2 ≤ 300 :=
  ⟨cls_near o ha hb (k := 0) (by decide), cls_near o ha hb (k := 1) (by decide), cls_near o ha hb (k := 2) (by decide)⟩
theorem rea_near {P S : Nat → Int} (o : Okt P S) {a b : Nat} (ha : a < 12) (hb : b < 12) : (reaZ P S a).1 - (reaZ P S b).1 ≤ 300 ∧ (reaZ P S a).2.1 - (reaZ P S b).2.1 ≤ 300 ∧ (reaZ P S a).2.2 - (reaZ P S b).2.2 ≤ 300 := by
  rw [rea_cls ha, rea_cls hb]; exact cls_near' o (by omega) (by omega)
theorem run_rea {P S : Nat → Int} (o : Okt P S) {m i : Nat} (hm : m < 12) (hi : i < 12) :
    (runZ P S m i).1 = (reaZ P S ((m + i) % 12)).1 - (reaZ P S m).1 + 12 * (7 * (m + i) / 12 : Nat) - 12 * (7 * m / 12 : Nat) ∧
    (runZ P S m i).2.1 = (reaZ P S ((m + i) % 12)).2.1 - (reaZ P S m).2.1 ∧ (runZ P S m i).2.2 = (reaZ P S ((m + i) % 12)).2.2 - (reaZ P S m).2.2 := by
  obtain ⟨h1, h2⟩ := run_acc o hm i (by omega)
  by_cases z : m + i < 12
  · have e := h1 (by omega)
    rw [Nat.mod_eq_of_lt z]
    simp only [addZ] at e
    simp only [reaZ, addZ, octX, ← e]
    omega
  · have e := h2 (by omega)
    have k : (m + i) % 12 = m + i - 12 := by omega
    rw [k]
    obtain ⟨j, hj⟩ : ∃ j, m + i = 12 + j := ⟨m + i - 12, by omega⟩
    have e1 : m + i - 12 = j := by omega
    rw [e1] at e ⊢
    rw [hj]
    simp only [addZ, Prod.mk.injEq] at e
    simp only [reaZ, addZ, octX]
    omega
theorem run_b {P S : Nat → Int} (o : Okt P S) {m i : Nat} (hm : m < 12) (hi : i < 12) :
    (-300 + 12 * (7 * (m + i) / 12 : Nat) - 12 * (7 * m / 12 : Nat) ≤ (runZ P S m i).1 ∧ (runZ P S m i).1 ≤ 300 + 12 * (7 * (m + i) / 12 : Nat) - 12 * (7 * m / 12 : Nat)) ∧
    (-300 ≤ (runZ P S m i).2.1 ∧ (runZ P S m i).2.1 ≤ 300) ∧ (-300 ≤ (runZ P S m i).2.2 ∧ (runZ P S m i).2.2 ≤ 300) := by
  obtain ⟨a, b, c⟩ := run_rea o hm hi
  obtain ⟨n1, n2, n3⟩ := rea_near o (a := (m + i) % 12) (b := m) (by omega) hm
  obtain ⟨n4, n5, n6⟩ := rea_near o (a := m) (b := (m + i) % 12) hm (by omega)
  rw [a, b, c]
  omega
theorem isP_mk {x : X3} (h1 : -400 ≤ x.1 ∧ x.1 ≤ 400) (h2 : -300 ≤ x.2.1 ∧ x.2.1 ≤ 300) (h3 : -300 ≤ x.2.2 ∧ x.2.2 ≤ 300) : isP x = true ∧ R3 x :=
  ⟨isPitch_mk h1 (by omega) (by omega) ⟨by omega, by omega⟩, ⟨by omega, by omega⟩, ⟨by omega, by omega⟩, ⟨by omega, by omega⟩⟩
theorem fif_ok {P S : Nat → Int} (o : Okt P S) {k : Nat} (hk : k < 12) : isP (fifX (P k) (S k)) = true ∧ R3 (fifX (P k) (S k)) := by
  rw [(fifX_eq (o.p k hk) (o.s k hk)).1]
  have e : runZ P S k 1 = fifZ (P k) (S k) := by
    simp only [runZ, addZ, Nat.add_zero, Nat.mod_eq_of_lt hk]
    simp
  obtain ⟨b1, b2, b3⟩ := run_b o hk (i := 1) (by omega)
  rw [e] at b1 b2 b3
  exact isP_mk (by omega) b2 b3
theorem cls_ok {P S : Nat → Int} (o : Okt P S) {k : Nat} (hk : k < 12) : isP (clsX P S k) = true ∧ R3 (clsX P S k) := by
  rw [(clsX_eq o k).1]
  have e0 : clsZ P S 0 = (0, 0, 0) := by simp [clsZ, reaZ, accZ, addZ]
  obtain ⟨n1, n2, n3⟩ := cls_near' o (a := k) (b := 0) hk (by omega)
  obtain ⟨n4, n5, n6⟩ := cls_near' o (a := 0) (b := k) (by omega) hk
  rw [e0] at n1 n2 n3 n4 n5 n6
  simp only at n1 n2 n3 n4 n5 n6
  exact isP_mk (by omega) (by omega) (by omega)
/-- A third. -/
def thiZ (P S : Nat → Int) (k : Nat) : X3 := addZ (runZ P S (7 * k % 12) 4) (-2) octX
theorem thi_ok {P S : Nat → Int} (o : Okt P S) (k : Nat) : isP (thiZ P S k) = true ∧ R3 (thiZ P S k) := by
  unfold thiZ
  have hm : 7 * k % 12 < 12 := by omega
  generalize 7 * k % 12 = m at *
  obtain ⟨b1, b2, b3⟩ := run_b o hm (i := 4) (by omega)
  exact isP_mk (by simp only [addZ, octX]; omega) (by simp only [addZ, octX]; omega) (by simp only [addZ, octX]; omega)
def thiX (P S : Nat → Int) (m : Nat) : Nat → X3
  | 0 => plusX (0, 0, 0) (-2) octX
  | i + 1 => plusX (thiX P S m i) 1 (fifX (P ((m + i) % 12)) (S ((m + i) % 12)))
def runX (P S : Nat → Int) (m : Nat) : Nat → X3
  | 0 => (0, 0, 0)
  | i + 1 => plusX (runX P S m i) 1 (fifX (P ((m + i) % 12)) (S ((m + i) % 12)))
theorem runX_eq {P S : Nat → Int} (o : Okt P S) (m : Nat) : ∀ i, i ≤ 12 → runX P S m i = runZ P S m i ∧ B3 (runZ P S m i) (1116 * i)
  | 0, _ => ⟨rfl, by simp [B3, runZ]⟩
  | i + 1, h => by
    obtain ⟨h1, h2⟩ := runX_eq o m i (by omega)
    obtain ⟨f1, f2⟩ := fifX_eq (o.p ((m + i) % 12) (by omega)) (o.s ((m + i) % 12) (by omega))
    obtain ⟨g1, g2⟩ := plusX_eq (n := 1) (N := 1) h2 f2 (by omega) (by omega) (by omega)
    unfold runX runZ
    rw [h1, f1, g1]
    exact ⟨rfl, g2.mono (by omega)⟩
theorem thiX_eq {P S : Nat → Int} (o : Okt P S) (m : Nat) : ∀ i, i ≤ 12 → thiX P S m i = addZ (runZ P S m i) (-2) octX ∧ B3 (addZ (runZ P S m i) (-2) octX) (24 + 1116 * i)
  | 0, _ => ⟨by show plusX (0, 0, 0) (-2) octX = addZ (0, 0, 0) (-2) octX; decide +kernel, by simp [B3, runZ, addZ, octX]⟩
  | i + 1, h => by
    obtain ⟨h1, h2⟩ := thiX_eq o m i (by omega)
    obtain ⟨f1, f2⟩ := fifX_eq (o.p ((m + i) % 12) (by omega)) (o.s ((m + i) % 12) (by omega))
    obtain ⟨g1, g2⟩ := plusX_eq (n := 1) (N := 1) h2 f2 (by omega) (by omega) (by omega)
    unfold thiX
    rw [h1, f1, g1]
    have e : addZ (addZ (runZ P S m i) (-2) octX) 1 (fifZ (P ((m + i) % 12)) (S ((m + i) % 12))) = addZ (runZ P S m (i + 1)) (-2) octX := by
      simp only [runZ, addZ, Prod.mk.injEq]; omega
    rw [← e]
    exact ⟨rfl, g2.mono (by omega)⟩
theorem thi_run {P S : Nat → Int} (o : Okt P S) (k : Nat) : plusX (runX P S (7 * k % 12) 4) (-2) octX = thiZ P S k := by
  obtain ⟨h1, h2⟩ := runX_eq o (7 * k % 12) 4 (by omega)
  obtain ⟨g1, g2⟩ := plusX_eq (n := -2) (N := 2) h2 B3_oct (by omega) (by omega) (by omega)
  rw [h1, g1]; rfl
end T
end Go.Abs
