/- Multiples of pitches: a partial is moved into the pitch; the order of beats; pitches compared. -/
import Derived.Test.YtinbdefjjfmfoaaDoorAbsTH1
import Derived.Test.YtinbdefjjfmfoaaDoorAbsTEM
set_option linter.unusedSimpArgs false
set_option linter.unusedVariables false
/- Multiples of pitches: a partial is moved into the pitch; the order of beats; pitches compared. -/
namespace Go.Abs
namespace T
set_option maxRecDepth 100000
set_option maxHeartbeats 0
theorem enc_lift {a b c x y z : Int} {p : Nat} (hN : numV x y z 3 = p ^ 12) (hM : numV (-x) (-y) (-z) 3 = 1) (t n : Nat) :
    (encP a b c 12 (t * p) n ↔ encP (a + x) (b + y) (c + z) 12 t n) ∧ (encQ a b c 12 (t * p) n ↔ encQ (a + x) (b + y) (c + z) 12 t n) := by
  have e := numV_add a b c x y z
  rw [hN, hM, Nat.mul_one] at e
  have p1 := numV_pos (-a) (-b) (-c)
  have p2 := numV_pos (-(a + x)) (-(b + y)) (-(c + z))
  unfold encP encQ
  have t12 : (12 : Int).toNat = 12 := rfl
  rw [t12, Nat.mul_pow]
  generalize n ^ 12 = N at *
  generalize t ^ 12 = T at *
  generalize p ^ 12 = P at *
  generalize numV (-a) (-b) (-c) 3 = M1 at *
  generalize numV a b c 3 = N1 at *
  generalize numV (-(a + x)) (-(b + y)) (-(c + z)) 3 = M2 at *
  generalize numV (a + x) (b + y) (c + z) 3 = N2 at *
  have q1 : N * M1 * M2 = N * M2 * M1 := by ac_rfl
  have q2 : T * P * N1 * M2 = T * N2 * M1 := by
    calc T * P * N1 * M2 = T * (M2 * (N1 * P)) := by ac_rfl
      _ = T * (N2 * M1) := by rw [← e]
      _ = T * N2 * M1 := by ac_rfl
  constructor
  · rw [← Nat.mul_le_mul_right_iff p2, q1, q2, Nat.mul_le_mul_right_iff p1]
  · constructor
    · intro h
      have := congrArg (· * M2) h
      simp only [q1, q2] at this
      exact Nat.eq_of_mul_eq_mul_right p1 this
    · intro h
      have := congrArg (· * M1) h
      simp only [← q1, ← q2] at this
      exact Nat.eq_of_mul_eq_mul_right p2 this
theorem enc_ord {a b c x y z : Int} (h : 0 ≤ ordE (x - a) (y - b) (z - c)) {t n : Nat} (k : encP a b c 12 t n) : encP x y z 12 t n := by
  have e := numV_add a b c (x - a) (y - b) (z - c)
  have ex : a + (x - a) = x := by omega
  have ey : b + (y - b) = y := by omega
  have ez : c + (z - c) = z := by omega
  rw [ex, ey, ez] at e
  unfold ordE at h
  rw [cmpN_nonneg] at h
  have p1 := numV_pos (-a) (-b) (-c)
  have p3 := numV_pos (-(x - a)) (-(y - b)) (-(z - c))
  unfold encP at *
  generalize numV (-a) (-b) (-c) 3 = M1 at *
  generalize numV a b c 3 = N1 at *
  generalize numV (-x) (-y) (-z) 3 = M2 at *
  generalize numV x y z 3 = N2 at *
  generalize numV (-(x - a)) (-(y - b)) (-(z - c)) 3 = M3 at *
  generalize numV (x - a) (y - b) (z - c) 3 = N3 at *
  generalize n ^ (12 : Int).toNat = N at *
  generalize t ^ (12 : Int).toNat = T at *
  have h1 : M2 * N1 ≤ N2 * M1 := by
    refine Nat.le_of_mul_le_mul_right ?_ p3
    calc M2 * N1 * M3 = M2 * (N1 * M3) := by ac_rfl
      _ ≤ M2 * (N1 * N3) := Nat.mul_le_mul_left _ (Nat.mul_le_mul_left _ h)
      _ = N2 * (M1 * M3) := e.symm
      _ = N2 * M1 * M3 := by ac_rfl
  refine Nat.le_of_mul_le_mul_right ?_ p1
  calc N * M2 * M1 = N * M1 * M2 := by ac_rfl
    _ ≤ T * N1 * M2 := Nat.mul_le_mul_right _ k
    _ = T * (M2 * N1) := by ac_rfl
    _ ≤ T * (N2 * M1) := Nat.mul_le_mul_left _ h1
    _ = T * N2 * M1 := by ac_rfl
/-- The partials as pitches. -/
theorem fac_num {p : Nat} (h : 1 ≤ p ∧ p ≤ 16) (hb : facB p = true) : numV (facX p).1 (facX p).2.1 (facX p).2.2 3 = p ^ 12 ∧ numV (-(facX p).1) (-(facX p).2.1) (-(facX p).2.2) 3 = 1 := by
  have : p = 1 ∨ p = 2 ∨ p = 3 ∨ p = 4 ∨ p = 5 ∨ p = 6 ∨ p = 7 ∨ p = 8 ∨ p = 9 ∨ p = 10 ∨ p = 11 ∨ p = 12 ∨ p = 13 ∨ p = 14 ∨ p = 15 ∨ p = 16 := by omega
  rcases this with rfl | rfl | rfl | rfl | rfl | rfl | rfl | rfl | rfl | rfl | rfl | rfl | rfl | rfl | rfl | rfl <;> first | (exact absurd hb (by decide)) | (constructor <;> decide +kernel)
theorem fac_b {p : Nat} (h : 1 ≤ p ∧ p ≤ 16) : (0 ≤ (facX p).1 ∧ (facX p).1 ≤ 48) ∧ (0 ≤ (facX p).2.1 ∧ (facX p).2.1 ≤ 48) ∧ (0 ≤ (facX p).2.2 ∧ (facX p).2.2 ≤ 48) := by
  have : p = 1 ∨ p = 2 ∨ p = 3 ∨ p = 4 ∨ p = 5 ∨ p = 6 ∨ p = 7 ∨ p = 8 ∨ p = 9 ∨ p = 10 ∨ p = 11 ∨ p = 12 ∨ p = 13 ∨ p = 14 ∨ p = 15 ∨ p = 16 := by omega
  rcases this with rfl | rfl | rfl | rfl | rfl | rfl | rfl | rfl | rfl | rfl | rfl | rfl | rfl | rfl | rfl | rfl <;> decide
/-- Pitches compared by their exponents. -/
theorem ord_pit {x y : X3} (hx : isP x = true) (hy : isP y = true) :
    ordP (red x.1 x.2.1 x.2.2 12 x.1) (red x.1 x.2.1 x.2.2 12 x.2.1) (red x.1 x.2.1 x.2.2 12 x.2.2) (red x.1 x.2.1 x.2.2 12 12)
      (red y.1 y.2.1 y.2.2 12 y.1) (red y.1 y.2.1 y.2.2 12 y.2.1) (red y.1 y.2.1 y.2.2 12 y.2.2) (red y.1 y.2.1 y.2.2 12 12) = ordE (x.1 - y.1) (x.2.1 - y.2.1) (x.2.2 - y.2.2) := by
  have rx := isPitch_R (isPitch_red hx)
  have ry := isPitch_R (isPitch_red hy)
  obtain ⟨g, x1, x2, x3, x4⟩ := red12 hx
  obtain ⟨k, y1, y2, y3, y4⟩ := red12 hy
  obtain ⟨s1, s2, s3, s4⟩ := rx
  obtain ⟨t1, t2, t3, t4⟩ := ry
  generalize red x.1 x.2.1 x.2.2 12 x.1 = a1 at *
  generalize red x.1 x.2.1 x.2.2 12 x.2.1 = a2 at *
  generalize red x.1 x.2.1 x.2.2 12 x.2.2 = a3 at *
  generalize red x.1 x.2.1 x.2.2 12 12 = a4 at *
  generalize red y.1 y.2.1 y.2.2 12 y.1 = c1 at *
  generalize red y.1 y.2.1 y.2.2 12 y.2.1 = c2 at *
  generalize red y.1 y.2.1 y.2.2 12 y.2.2 = c3 at *
  generalize red y.1 y.2.1 y.2.2 12 12 = c4 at *
  have md := mul_dn (e := a4) (j := c4) s4 t4
  have key : ∀ {a c u v : Int}, a * g = u → c * k = v → 12 * (a * c4 - c * a4) = (a4 * c4) * (u - v) := fun {a c u v} h1 h2 => by
    have p1 : 12 * (a * c4) = a4 * c4 * u := by
      rw [← h1]
      calc 12 * (a * c4) = (a4 * (g : Int)) * (a * c4) := by rw [x4]
        _ = a4 * c4 * (a * (g : Int)) := by generalize (g : Int) = G; ac_rfl
    have p2 : 12 * (c * a4) = a4 * c4 * v := by
      rw [← h2]
      calc 12 * (c * a4) = (c4 * (k : Int)) * (c * a4) := by rw [y4]
        _ = a4 * c4 * (c * (k : Int)) := by generalize (k : Int) = G; ac_rfl
    rw [Int.mul_sub, Int.mul_sub, p1, p2]
  unfold ordP
  rw [← ordE_scale (g := 12) (by omega), key x1 y1, key x2 y2, key x3 y3, ordE_scale (by omega)]
theorem ord_one {x : X3} (hx : B3 x 20000) :
    ordP (red x.1 x.2.1 x.2.2 12 x.1) (red x.1 x.2.1 x.2.2 12 x.2.1) (red x.1 x.2.1 x.2.2 12 x.2.2) (red x.1 x.2.1 x.2.2 12 12) 0 0 0 1 = ordE x.1 x.2.1 x.2.2 := by
  obtain ⟨b1, b2, b3⟩ := hx
  have r : ∀ {n : Int}, (-20000 ≤ n ∧ n ≤ 20000) → Rb n := fun h => ⟨by omega, by omega⟩
  rw [← ordE_red (a := x.1) (b := x.2.1) (c := x.2.2) (e := 12) (r b1) (r b2) (r b3) (Dn_Rb dn12) (by omega)]
  unfold ordP
  simp only [Int.mul_one, Int.zero_mul, Int.sub_zero]
theorem two_one {x : X3} (hx : B3 x 20000) : Two (red x.1 x.2.1 x.2.2 12 x.1) (red x.1 x.2.1 x.2.2 12 x.2.1) (red x.1 x.2.1 x.2.2 12 x.2.2) (red x.1 x.2.1 x.2.2 12 12) 0 0 0 1 := by
  obtain ⟨b1, b2, b3⟩ := hx
  have r : ∀ {n : Int}, (-20000 ≤ n ∧ n ≤ 20000) → Rb n := fun h => ⟨by omega, by omega⟩
  have d := rG_dvd x.1 x.2.1 x.2.2 12
  have l1 := red_le (r b1) (r b2) (r b3) (Dn_Rb dn12) (by omega) (r b1) d.1 b1
  have l2 := red_le (r b1) (r b2) (r b3) (Dn_Rb dn12) (by omega) (r b2) d.2.1 b2
  have l3 := red_le (r b1) (r b2) (r b3) (Dn_Rb dn12) (by omega) (r b3) d.2.2.1 b3
  have l4 := red_le (M := 12) (r b1) (r b2) (r b3) (Dn_Rb dn12) (by omega) (Dn_Rb dn12) d.2.2.2 (by omega)
  have hp := red_pos (r b1) (r b2) (r b3) (Dn_Rb dn12) (by omega)
  exact ⟨⟨by omega, by omega⟩, ⟨by omega, by omega⟩, ⟨by omega, by omega⟩, ⟨by omega, by omega⟩, ⟨by omega, by omega⟩, ⟨by omega, by omega⟩, ⟨by omega, by omega⟩, ⟨by omega, by omega⟩, ⟨by omega, by omega⟩, ⟨by omega, by omega⟩, ⟨by omega, by omega⟩⟩
/-- compare: the program's. -/
theorem c121 {d lim : Nat} {h : Heap} {x y : X3} (sp : SlU h (.slice (some ⟨0, 0, none⟩) 3 1) [2, 3, 5]) (hx : isP x = true) (hy : isP y = true) :
    E.call (d + 7) lim 121 [v3 x, v3 y] h = some (i64 (ordE (x.1 - y.1) (x.2.1 - y.2.1) (x.2.2 - y.2.2)), h) := by
  have sp2 : ∀ L, SlU (h.freeze ++ L) (.slice (some ⟨0, 0, none⟩) 3 1) [2, 3, 5] := fun L => (Sl_freeze.2 sp).app L
  have k1 := fun lim hh => c87 (d := d + 2) (lim := lim) (h := hh) hx
  have k2 := fun lim hh => c87 (d := d + 2) (lim := lim) (h := hh) hy
  have rx := isPitch_red hx
  have ry := isPitch_red hy
  have k53 := fun lim L => c53 (d := d) (lim := lim) (sp2 L) rx ry (two_pitch rx ry)
  rw [ord_pit hx hy] at k53
  simp only [pit, redV] at k1 k2
  obtain ⟨a, b, c⟩ := x
  obtain ⟨a', b', c'⟩ := y
  simp only at k1 k2 k53 ⊢
  generalize ordE (a - a') (b - b') (c - c') = O at *
  refine call1 fn121 rfl (by simp [ef121]) ?_
  simp [ef121, k1, k2, k53]
/-- order: the reference's. -/
theorem c123 {d lim : Nat} {h : Heap} {x y : X3} (hd : B3 (addZ x (-1) y) 20000) (hx : plusX x (-1) y = addZ x (-1) y) :
    E.call (d + 5) lim 123 [v3 x, v3 y] h = some (i64 (ordE (x.1 - y.1) (x.2.1 - y.2.1) (x.2.2 - y.2.2)), h) := by
  have k91 := fun lim hh => c91 (d := d + 3) (lim := lim) (h := hh) (x := x) (y := y) (n := -1)
  rw [hx] at k91
  have r3 : R3 (addZ x (-1) y) := by
    obtain ⟨b1, b2, b3⟩ := hd
    exact ⟨⟨by omega, by omega⟩, ⟨by omega, by omega⟩, ⟨by omega, by omega⟩⟩
  have k26 := fun lim hh => c26 (d := d) (lim := lim) (h := hh) r3
  have k54 := fun lim hh => c54 (d := d) (lim := lim) (h := hh) (two_one hd)
  rw [ord_one hd] at k54
  have eo : ordE (addZ x (-1) y).1 (addZ x (-1) y).2.1 (addZ x (-1) y).2.2 = ordE (x.1 - y.1) (x.2.1 - y.2.1) (x.2.2 - y.2.2) := by
    simp only [addZ]; congr 1 <;> omega
  rw [eo] at k54
  simp only [pit, redV] at k26
  generalize ordE (x.1 - y.1) (x.2.1 - y.2.1) (x.2.2 - y.2.2) = O at *
  generalize addZ x (-1) y = Z at *
  obtain ⟨z1, z2, z3⟩ := Z
  obtain ⟨a, b, c⟩ := x
  obtain ⟨a', b', c'⟩ := y
  refine call1 fn123 rfl (by simp [ef123]) ?_
  simp only at k26 k54 k91
  simp [ef123, k91, k26, k54]
end T
end Go.Abs
/- The law TemperOctaves. -/
namespace Go.Abs
namespace T
set_option maxRecDepth 100000
set_option maxHeartbeats 0
theorem note12 {P S : Nat → Int} (m : Nat) : noteZ P S (m + 12) = addZ (noteZ P S m) 1 octX := by
  have e1 : (m + 12 + 9) % 12 = (m + 9) % 12 := by omega
  have e2 : ((m + 12 + 9) / 12 : Nat) = (m + 9) / 12 + 1 := by omega
  unfold noteZ
  rw [e1, e2]
  simp only [addZ, octX, Prod.mk.injEq]
  omega
theorem int_oct {P S : Nat → Int} (o : Okt P S) {m : Nat} (hm : m + 12 ≤ 87) : intX P S m (m + 12) = (12, 0, 0) := by
  rw [intX_eq o (by omega) (by omega)]
  unfold intZ
  rw [note12]
  simp only [addZ, octX, Prod.mk.injEq]
  omega
theorem int48_oct {P S : Nat → Int} (o : Okt P S) {m : Nat} (hm : m + 12 ≤ 87) : intX P S 48 (m + 12) = ((intX P S 48 m).1 + 12, (intX P S 48 m).2.1 + 0, (intX P S 48 m).2.2 + 0) := by
  rw [intX_eq o (by omega) (by omega), intX_eq o (by omega) (by omega)]
  unfold intZ
  rw [note12]
  simp only [addZ, octX, Prod.mk.injEq]
  omega
theorem int_sum {P S : Nat → Int} (o : Okt P S) {a b c : Nat} (ha : a ≤ 87) (hb : b ≤ 87) (hc : c ≤ 87) : intX P S a c = addZ (intX P S a b) 1 (intX P S b c) := by
  rw [intX_eq o (by omega) (by omega), intX_eq o (by omega) (by omega), intX_eq o (by omega) (by omega)]
  simp only [intZ, addZ, Prod.mk.injEq]
  omega
theorem enc_oct {P S : Nat → Int} (o : Okt P S) {m t L H : Nat} (hm : m + 12 ≤ 87) (s : encN P S (t * 2) m L H) : encN P S t (m + 12) L H := by
  unfold encN at *
  rw [int48_oct o hm]
  have k := fun n => enc_lift (a := (intX P S 48 m).1) (b := (intX P S 48 m).2.1) (c := (intX P S 48 m).2.2) (x := 12) (y := 0) (z := 0) (p := 2) (by decide +kernel) (by decide +kernel) t n
  exact ⟨s.le, fun n hn => (k n).1.symm.trans (s.iff n hn), fun q => s.on ((k L).2.2 q), fun q => s.off fun z => q ((k L).2.1 z)⟩
theorem pit_oct1 : pit (12, 0, 0) = pt 1 0 0 1 := by kernel_rfl
theorem isNote_mk {n : Nat} (h : n ≤ 87) : isNote (n : Int) = true := by simp [isNote, within]; omega
theorem isP_B3 {x : X3} (h : isP x = true) : B3 x 400 := isP_R h
theorem law9 (lim : Nat) {h : Heap} (A : AwOk h) (sp : SlU h (.slice (some ⟨0, 0, none⟩) 3 1) [2, 3, 5]) {C : List Value} {nm : ByteArray} {P S : Nat → Int} {x y z : Int} (t : Tm C nm P S) :
    E.call 21 lim 9 [.agg C.toArray, v3 (x, y, z)] h = some (.bool true, h) := by
  have a1 := A
  unfold AwOk at a1
  have k20 := fun lim hh => c20 (d := 19) (lim := lim) (h := hh) t
  have sp2 : ∀ L, SlU (h.freeze ++ L) (.slice (some ⟨0, 0, none⟩) 3 1) [2, 3, 5] := fun L => (Sl_freeze.2 sp).app L
  refine call1 fn9 rfl (by simp [ef9]) ?_
  by_cases hs : nm.size ≤ 30
  · have k51 := fun lim hh => c51 (d := 16) (lim := lim) (h := hh) t (by omega)
    by_cases h0 : chkT nm P S = 0
    · obtain ⟨o, _⟩ := okt h0
      by_cases hy : isNote y = true
      · obtain ⟨m, rfl, hm⟩ := isNote_nat hy
        by_cases hz : isNote z = true
        · obtain ⟨n, rfl, hn⟩ := isNote_nat hz
          have w12 : IntKind.wrap .i64 ((m : Int) + 12) = ((m + 12 : Nat) : Int) := by rw [wrap_eq (by omega) (by omega)]; rfl
          by_cases hM : m + 12 ≤ 87
          · have hw := isNote_mk hM
            have k22 := fun lim hh => c22 (d := 14) (lim := lim) (h := hh) (lo := m) (hi := ((m + 12 : Nat) : Int)) t (by omega)
            rw [intV_ok h0 hy hw, int_oct o hM, pit_oct1] at k22
            have k22b := fun lim hh => c22 (d := 14) (lim := lim) (h := hh) (lo := m) (hi := n) t (by omega)
            rw [intV_ok h0 hy hz] at k22b
            have k22c := fun lim hh => c22 (d := 14) (lim := lim) (h := hh) (lo := n) (hi := ((m + 12 : Nat) : Int)) t (by omega)
            rw [intV_ok h0 hz hw] at k22c
            have p1 := (int_ok o (lo := m) (hi := n) hm hn).1
            have p2 := (int_ok o (lo := n) (hi := m + 12) hn hM).1
            have p3 := (int_ok o (lo := m) (hi := m + 12) hm hM).1
            have j := fun lim hh => join_pit (d := 16) (lim := lim) (h := hh) p1 p2 p3 (int_sum o hm hn hM)
            rw [int_oct o hM, pit_oct1] at j
            obtain ⟨L, H, s⟩ := encS (intX P S 48 m).1 (intX P S 48 m).2.1 (intX P S 48 m).2.2 12 (by decide) (440000 * 2)
            have s2 : encN P S (440000 * 1) (m + 12) L H := enc_oct o hM s
            obtain ⟨l1, l2⟩ := EncS.lt s
            have hH := enc_note o (by omega) (by decide) s
            have hX : chkX (m : Int) ((m + 12 : Nat) : Int) ((2 : Nat) : Int) ((1 : Nat) : Int) = 0 := by
              unfold chkX
              rw [if_pos ⟨hy, hw, by decide, by decide⟩, if_neg (by omega), if_pos ⟨by decide, by decide⟩]
            have k28 := fun lim Q => c28 (d := 12) (lim := lim) (F := 440000) (n := m) (m := m + 12) (p := 2) (q := 1) (sp2 Q) t (by omega) h0 hX hm hM (by decide) (by decide) (by decide) s s2
            rw [beaS_eq l1 l1 hH hH] at k28
            have rx := isPitch_red p1
            have ro : isPitch 0 0 0 1 = true := by decide
            have k53 := fun lim Q => c53 (d := 14) (lim := lim) (sp2 Q) rx ro (two_pitch rx ro)
            have k54 := fun lim hh => c54 (d := 16) (lim := lim) (h := hh) (two_pitch rx ro)
            have k27 := fun lim hh => c27 (d := 15) (lim := lim) (h := hh) (lo := m) (hi := n) t (by omega) (by omega)
            have k26 := fun lim hh => c26 (d := 16) (lim := lim) (h := hh) (int_ok o (lo := m) (hi := n) hm hn).2
            have e1 : W ((L : Int) - H) ≤ 0 := by rw [Weq (by omega)]; omega
            have e2 : 0 ≤ W ((H : Int) - L) := by rw [Weq (by omega)]; omega
            obtain ⟨b1, b2, b3, b4, hb⟩ := pit_pt (intX P S n (m + 12))
            rw [hb] at k22c j
            simp only [pit, redV] at k22b j k26
            generalize ordP _ _ _ _ 0 0 0 1 = O at *
            generalize red (intX P S m n).1 (intX P S m n).2.1 (intX P S m n).2.2 12 (intX P S m n).1 = u1 at *
            generalize red (intX P S m n).1 (intX P S m n).2.1 (intX P S m n).2.2 12 (intX P S m n).2.1 = u2 at *
            generalize red (intX P S m n).1 (intX P S m n).2.1 (intX P S m n).2.2 12 (intX P S m n).2.2 = u3 at *
            generalize red (intX P S m n).1 (intX P S m n).2.1 (intX P S m n).2.2 12 12 = u4 at *
            generalize W ((L : Int) - H) = E1 at *
            generalize W ((H : Int) - L) = E2 at *
            generalize m + 12 = M at *
            generalize intX P S m n = I at *
            obtain ⟨i1, i2, i3⟩ := I
            simp only [Int.cast_ofNat_Int] at k28
            simp [ef9, a1, k20, hs, t.len, t.take, k51, h0, c24, hy, hz, hw, w12, k22, k22b, k22c, j, k28, k53, k54, k27, k26, e1, e2]
          · have hw : isNote ((m + 12 : Nat) : Int) = false := by
              simp [isNote, within]; omega
            generalize m + 12 = M at *
            simp [ef9, a1, k20, hs, t.len, t.take, k51, h0, c24, hy, hz, hw, w12]
        · simp only [Bool.not_eq_true] at hz
          simp [ef9, a1, k20, hs, t.len, t.take, k51, h0, c24, hy, hz]
      · simp only [Bool.not_eq_true] at hy
        simp [ef9, a1, k20, hs, t.len, t.take, k51, h0, c24, hy]
    · simp [ef9, a1, k20, hs, t.len, t.take, k51, h0]
  · simp [ef9, a1, k20, hs, t.len, t.take]
theorem arg_agg3 {d : Nat} {h : Heap} {u : Value} (a : ArgV d h (true, [ctI, ctI, ctI]) u) : ∃ x y z, u = v3 (x, y, z) ∧ R64 x ∧ R64 y ∧ R64 z := by
  obtain ⟨us, rfl, hl, t⟩ := a
  match us, hl with
  | [u0, u1, u2], _ =>
    obtain ⟨x, rfl, hx⟩ := typ_int (t 0 _ _ rfl rfl)
    obtain ⟨y, rfl, hy⟩ := typ_int (t 1 _ _ rfl rfl)
    obtain ⟨z, rfl, hz⟩ := typ_int (t 2 _ _ rfl rfl)
    exact ⟨x, y, z, rfl, hx, hy, hz⟩
theorem temperOctaves_law : ∀ (bs : List (Option Blk)) us, Heap.freeze ([primesB] ++ bs) = [primesB] ++ bs → (∀ n, ctBlocks (([ctT, (true, [ctI, ctI, ctI])] : List (Bool × List CT)).flatMap (·.2)) = some n → bs.length = n) →
    ArgsV 6 ([primesB] ++ bs) [ctT, (true, [ctI, ctI, ctI])] us → ∃ h', E.call 21 (([primesB] : Heap) ++ bs).length 9 us ([primesB] ++ bs) = some (.bool true, h') := by
  intro bs us _ k a
  obtain ⟨u, v, rfl, a1, a2⟩ := args2 a
  obtain ⟨C, nm, P, S, rfl, t, _⟩ := arg_tm a1
  obtain ⟨_, _, _, rfl, _⟩ := arg_agg3 a2
  exact ⟨_, law9 _ (awOk bs) (sp0 bs) t⟩
end T
end Go.Abs
