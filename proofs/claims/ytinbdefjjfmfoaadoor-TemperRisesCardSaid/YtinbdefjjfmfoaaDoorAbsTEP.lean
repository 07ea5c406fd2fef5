/- Fifth, Third, ClassOf. -/
import Derived.Test.YtinbdefjjfmfoaaDoorAbsTEO
set_option linter.unusedSimpArgs false
set_option linter.unusedVariables false
/- Fifth, Third, ClassOf. -/
namespace Go.Abs
namespace T
set_option maxRecDepth 100000
set_option maxHeartbeats 0
theorem under_get (P S : Nat → Int) {j : Nat} (hj : j < 12) : ((circK P S).drop (j * 3)).take 3 = e3 (fifX (P j) (S j)) := by
  apply List.ext_getElem?
  intro n
  by_cases hn : n < 3
  · rw [List.getElem?_take, if_pos hn, List.getElem?_drop, circK_fif P S hj hn, e3_get _ hn]
  · rw [List.getElem?_eq_none (by rw [List.length_take]; omega), List.getElem?_eq_none (by show 3 ≤ n; omega)]
theorem part_fif {h : Heap} {b : Nat} {P S : Nat → Int} {rw : Bool} (hb : h.get b = some ⟨circK P S, rw⟩) {j : Nat} (hj : j < 12) : h.part b (j * 3) 3 = some (v3 (fifX (P j) (S j))) := by
  have cl := circK_len P S
  rw [part_get hb, if_pos (by simp only [cl]; omega)]
  simp only [under_get P S hj]
theorem c102 {d lim : Nat} {h : Heap} {P S : Nat → Int} {b k : Nat} {rw : Bool} (hb : h.get b = some ⟨circK P S, rw⟩) (hk : k < 12) (o : Okt P S) : E.call (d + 2) lim 102 [.pointer (some ⟨b, 0, none⟩), i64 k] h = some (v3 (thiZ P S k), h) := by
  have hb2 : ∀ L, Heap.get (h.freeze ++ L) b = some ⟨circK P S, false⟩ := fun L => hget_append (hget_freeze hb)
  have hlt := Heap.get_lt hb
  have e7 : IntKind.wrap .i64 (7 * (k : Int)) = ((7 * k : Nat) : Int) := by rw [← wN (n := 7 * k) (by omega)]; rfl
  have hm : 7 * k % 12 < 12 := by omega
  have e4 := (thiX_eq o (7 * k % 12) 4 (by omega)).1
  have hz : thiZ P S k = addZ (runZ P S (7 * k % 12) 4) (-2) octX := rfl
  rw [hz, ← e4]
  have q1 := qm12 (n := 7 * k)
  have kp := Cir.plain (K := circK P S) (P := P) (S := S) rfl
  refine call1 fn102 rfl (by simp [ef102]) ?_
  generalize 7 * k = k7 at *
  generalize k7 % 12 = m at *
  have k0 := fun lim hh => @c122 d lim hh (0, 0, 0) octX (-2)
  have h00 : plusX (0, 0, 0) (-2) octX = thiX P S m 0 := by simp only [thiX]
  rw [h00] at k0
  obtain ⟨X0, hX0⟩ : ∃ X, X = thiX P S m 0 := ⟨_, rfl⟩
  rw [← hX0] at k0
  simp [ef102, e7, q1, c147, k0]
  refine wpC_loop (fun q st => ∃ i, q = 4 - i ∧ i ≤ 4 ∧ st = ⟨[(0, .pointer (some ⟨b, 0, none⟩)), (4, .pointer (some ⟨h.length, 0, none⟩)), (5, i64 m), (6, .pointer (some ⟨h.length + 1, 0, none⟩)), (14, i64 i)],
    h.freeze ++ [some ⟨[i64 0, i64 0, i64 0], true⟩, some ⟨e3 (thiX P S m i), true⟩]⟩) 4 (by show 4 < 2 ^ 64; omega) ?_ ?_
  · simp [St.tidy, hlt]
    exact ⟨0, by omega, by omega, rfl, by rw [← hX0]; exact ⟨rfl, rfl, rfl⟩⟩
  · rintro q hq _ ⟨i, rfl, hi, rfl⟩
    by_cases hlt4 : i < 4
    · have w1' := w1 (i := i) (by omega)
      have w2 := wN (n := m + i) (by omega)
      simp only [W] at w1' w2
      have c2 : IntKind.wrap .i64 ((m : Int) + (i : Int)) = ((m + i : Nat) : Int) := w2
      have q2 := qm12 (n := m + i)
      have hj : (m + i) % 12 < 12 := by omega
      have pf := fun L => part_fif (hb2 L) hj
      have l1 : (((m + i) % 12 : Nat) : Int) < 12 := by omega
      have l0 : (0 : Int) ≤ (((m + i) % 12 : Nat) : Int) := by omega
      have hc : plusX (thiX P S m i) 1 (fifX (P ((m + i) % 12)) (S ((m + i) % 12))) = thiX P S m (i + 1) := rfl
      generalize (m + i) % 12 = j at *
      generalize m + i = mi at *
      have h4 : (i : Int) < 4 := by omega
      simp [h4, Int.not_le.2 h4, hlt, c2, q2, l1, l0, pf, c122, hc, w1', St.tidy]
      exact ⟨4 - (i + 1), by omega, i + 1, rfl, by omega, rfl, rfl, rfl, rfl⟩
    · obtain rfl : i = 4 := by omega
      simp [St.tidy]
/-- What is said of a class. -/
def clsV (nm : ByteArray) (P S : Nat → Int) (n : Int) (x : X3) : Value × Int :=
  if chkT nm P S ≠ 0 then (pt 0 0 0 0, chkT nm P S) else if isClass n = true then (pit x, 0) else (pt 0 0 0 0, 2)
theorem isClass_nat {n : Int} (h : isClass n = true) : ∃ m : Nat, n = m ∧ m < 12 := by
  unfold isClass within at h
  simp at h
  exact ⟨n.toNat, by omega, by omega⟩
theorem part_cls {h : Heap} {b : Nat} {P S : Nat → Int} {rw : Bool} (hb : h.get b = some ⟨circK P S, rw⟩) {j : Nat} (hj : j < 12) : h.part b (36 + j * 3) 3 = some (v3 (clsX P S j)) := by
  have cl := circK_len P S
  rw [part_get hb, if_pos (by simp only [cl]; omega)]
  have := over_get P S hj
  rw [List.drop_take, List.take_take, List.drop_drop, Nat.min_eq_left (by omega)] at this
  simp only [this]
theorem c42 {d lim : Nat} {h : Heap} {C : List Value} {nm : ByteArray} {P S : Nat → Int} {n : Int} (t : Tm C nm P S) (hs : nm.size ≤ 1000) :
    E.call (d + 6) lim 42 [.agg C.toArray, i64 n] h = some (.tuple #[(clsV nm P S n (fifX (P n.toNat) (S n.toNat))).1, i64 (clsV nm P S n (fifX (P n.toNat) (S n.toNat))).2], h) := by
  have gb : Heap.get (h.freeze ++ [some ⟨C, true⟩, some ⟨[i64 0, i64 0, i64 0, i64 0], true⟩, some ⟨[.bool (isClass n)], true⟩]) (h.length + 2) = some ⟨[.bool (isClass n)], true⟩ := by rw [hget_base (by simp)]; rfl
  have sl := SlBo1 gb
  refine call1 fn42 rfl (by simp [ef42]) ?_
  by_cases h0 : chkT nm P S = 0
  · obtain ⟨o, _⟩ := okt h0
    by_cases ha : isClass n = true
    · obtain ⟨m, rfl, hm⟩ := isClass_nat ha
      have k84 := fun lim => c84 (d := d) (lim := lim) t hs sl (by simp) h0 (by simp [ha])
      have gk : ∀ L, Heap.get (h.freeze ++ (some ⟨C, true⟩ :: some ⟨[i64 0, i64 0, i64 0, i64 0], true⟩ :: some ⟨[.bool true], true⟩ :: some ⟨circK P S, true⟩ :: L)) (h.length + 3) = some ⟨circK P S, true⟩ := fun L => by rw [hget_base (by simp)]; rfl
      have pf := fun L => part_fif (gk L) hm
      have k87 := fun lim hh => c87 (d := d + 1) (lim := lim) (h := hh) (fif_ok o hm).1
      obtain ⟨x1, x2, x3, x4, hx⟩ := pit_pt (fifX (P m) (S m))
      rw [hx] at k87
      have l1 : (m : Int) < 12 := by omega
      simp only [ha, List.length_append, Heap.length_freeze, List.length_cons, List.length_nil, List.append_assoc, List.cons_append, List.nil_append] at k84
      simp [ef42, t.len, t.take, c101, ha, k84, pf, k87, clsV, h0, hx, l1]
    · have k84 := fun lim => c84c (d := d) (lim := lim) t hs sl (by simp) h0 (by simp [ha])
      simp only [Bool.not_eq_true] at ha
      simp only [ha] at k84
      simp [ef42, t.len, t.take, c101, ha, k84, clsV, h0]
  · have k84 := fun lim hh v => c84b (d := d) (lim := lim) (h := hh) (v := v) t hs h0
    simp [ef42, t.len, t.take, c101, k84, clsV, h0]
end T
end Go.Abs
/- ClassOf, Third. -/
namespace Go.Abs
namespace T
set_option maxRecDepth 100000
set_option maxHeartbeats 0
theorem c44 {d lim : Nat} {h : Heap} {C : List Value} {nm : ByteArray} {P S : Nat → Int} {n : Int} (t : Tm C nm P S) (hs : nm.size ≤ 1000) :
    E.call (d + 6) lim 44 [.agg C.toArray, i64 n] h = some (.tuple #[(clsV nm P S n (clsX P S n.toNat)).1, i64 (clsV nm P S n (clsX P S n.toNat)).2], h) := by
  have gb : Heap.get (h.freeze ++ [some ⟨C, true⟩, some ⟨[i64 0, i64 0, i64 0, i64 0], true⟩, some ⟨[.bool (isClass n)], true⟩]) (h.length + 2) = some ⟨[.bool (isClass n)], true⟩ := by rw [hget_base (by simp)]; rfl
  have sl := SlBo1 gb
  refine call1 fn44 rfl (by simp [ef44]) ?_
  by_cases h0 : chkT nm P S = 0
  · obtain ⟨o, _⟩ := okt h0
    by_cases ha : isClass n = true
    · obtain ⟨m, rfl, hm⟩ := isClass_nat ha
      have k84 := fun lim => c84 (d := d) (lim := lim) t hs sl (by simp) h0 (by simp [ha])
      have gk : ∀ L, Heap.get (h.freeze ++ (some ⟨C, true⟩ :: some ⟨[i64 0, i64 0, i64 0, i64 0], true⟩ :: some ⟨[.bool true], true⟩ :: some ⟨circK P S, true⟩ :: L)) (h.length + 3) = some ⟨circK P S, true⟩ := fun L => by rw [hget_base (by simp)]; rfl
      have pf := fun L => part_cls (gk L) hm
      have k87 := fun lim hh => c87 (d := d + 1) (lim := lim) (h := hh) (cls_ok o hm).1
      obtain ⟨x1, x2, x3, x4, hx⟩ := pit_pt (clsX P S m)
      rw [hx] at k87
      have l1 : (m : Int) < 12 := by omega
      simp only [ha, List.length_append, Heap.length_freeze, List.length_cons, List.length_nil, List.append_assoc, List.cons_append, List.nil_append] at k84
      simp [ef44, t.len, t.take, c101, ha, k84, pf, k87, clsV, h0, hx, l1]
    · have k84 := fun lim => c84c (d := d) (lim := lim) t hs sl (by simp) h0 (by simp [ha])
      simp only [Bool.not_eq_true] at ha
      simp only [ha] at k84
      simp [ef44, t.len, t.take, c101, ha, k84, clsV, h0]
  · have k84 := fun lim hh v => c84b (d := d) (lim := lim) (h := hh) (v := v) t hs h0
    simp [ef44, t.len, t.take, c101, k84, clsV, h0]
theorem c43 {d lim : Nat} {h : Heap} {C : List Value} {nm : ByteArray} {P S : Nat → Int} {n : Int} (t : Tm C nm P S) (hs : nm.size ≤ 1000) :
    E.call (d + 6) lim 43 [.agg C.toArray, i64 n] h = some (.tuple #[(clsV nm P S n (thiZ P S n.toNat)).1, i64 (clsV nm P S n (thiZ P S n.toNat)).2], h) := by
  have gb : Heap.get (h.freeze ++ [some ⟨C, true⟩, some ⟨[i64 0, i64 0, i64 0, i64 0], true⟩, some ⟨[.bool (isClass n)], true⟩]) (h.length + 2) = some ⟨[.bool (isClass n)], true⟩ := by rw [hget_base (by simp)]; rfl
  have sl := SlBo1 gb
  refine call1 fn43 rfl (by simp [ef43]) ?_
  by_cases h0 : chkT nm P S = 0
  · obtain ⟨o, _⟩ := okt h0
    by_cases ha : isClass n = true
    · obtain ⟨m, rfl, hm⟩ := isClass_nat ha
      have k84 := fun lim => c84 (d := d) (lim := lim) t hs sl (by simp) h0 (by simp [ha])
      have gk : ∀ L, Heap.get (h.freeze ++ (some ⟨C, true⟩ :: some ⟨[i64 0, i64 0, i64 0, i64 0], true⟩ :: some ⟨[.bool true], true⟩ :: some ⟨circK P S, true⟩ :: L)) (h.length + 3) = some ⟨circK P S, true⟩ := fun L => by rw [hget_base (by simp)]; rfl
      have k102 := fun lim L => c102 (d := d + 3) (lim := lim) (gk L) hm o
      have k87 := fun lim hh => c87 (d := d + 1) (lim := lim) (h := hh) (thi_ok o m).1
      obtain ⟨x1, x2, x3, x4, hx⟩ := pit_pt (thiZ P S m)
      rw [hx] at k87
      have l1 : (m : Int) < 12 := by omega
      simp only [ha, List.length_append, Heap.length_freeze, List.length_cons, List.length_nil, List.append_assoc, List.cons_append, List.nil_append] at k84
      simp [ef43, t.len, t.take, c101, ha, k84, k102, k87, clsV, h0, hx, l1]
    · have k84 := fun lim => c84c (d := d) (lim := lim) t hs sl (by simp) h0 (by simp [ha])
      simp only [Bool.not_eq_true] at ha
      simp only [ha] at k84
      simp [ef43, t.len, t.take, c101, ha, k84, clsV, h0]
  · have k84 := fun lim hh v => c84b (d := d) (lim := lim) (h := hh) (v := v) t hs h0
    simp [ef43, t.len, t.take, c101, k84, clsV, h0]
theorem c47 {d lim : Nat} {h : Heap} {C : List Value} {nm : ByteArray} {P S : Nat → Int} {k : Nat} (t : Tm C nm P S) (o : Okt P S) (hk : k < 12) : E.call (d + 3) lim 47 [.agg C.toArray, i64 k] h = some (v3 (thiZ P S k), h) := by
  have k104 := fun lim hh => @c104 d lim hh k (by omega)
  have k46 := fun lim hh n => @c46 d lim hh C nm P S n t
  have hm : 7 * k % 12 < 12 := by omega
  rw [← thi_run o k]
  generalize 7 * k % 12 = m at *
  refine call1 fn47 rfl (by simp [ef47]) ?_
  simp [ef47]
  refine wpC_loop (fun q st => ∃ i, q = 4 - i ∧ i ≤ 4 ∧ st = ⟨[(1, i64 k), (2, .pointer (some ⟨h.length, 0, none⟩)), (4, .pointer (some ⟨h.length + 1, 0, none⟩)), (5, .pointer (some ⟨h.length + 2, 0, none⟩)), (6, i64 i)],
    h.freeze ++ [some ⟨C, true⟩, some ⟨[i64 0, i64 0, i64 0], true⟩, some ⟨e3 (runX P S m i), true⟩]⟩) 4 (by show 4 < 2 ^ 64; omega) ?_ ?_
  · simp [St.tidy, t.plain]
    exact ⟨0, by omega, by omega, by simp [runX]⟩
  · rintro q hq _ ⟨i, rfl, hi, rfl⟩
    by_cases hlt4 : i < 4
    · have w1' := w1 (i := i) (by omega)
      have w2 := wN (n := m + i) (by omega)
      simp only [W] at w1' w2
      have c2 : IntKind.wrap .i64 ((m : Int) + (i : Int)) = ((m + i : Nat) : Int) := w2
      have k46' := fun lim hh => k46 lim hh (m + i)
      have hc : plusX (runX P S m i) 1 (fifX (P ((m + i) % 12)) (S ((m + i) % 12))) = runX P S m (i + 1) := rfl
      generalize (m + i) % 12 = j at *
      generalize m + i = mi at *
      have h4 : (i : Int) < 4 := by omega
      simp [h4, Int.not_le.2 h4, t.len, t.take, t.plain, k104, c2, k46', c91, hc, w1', St.tidy]
      exact ⟨4 - (i + 1), by omega, i + 1, rfl, by omega, rfl, rfl, rfl, rfl⟩
    · obtain rfl : i = 4 := by omega
      simp [St.tidy, c105, c91]
end T
end Go.Abs
/- The law TemperPitches. -/
namespace Go.Abs
namespace T
set_option maxRecDepth 100000
set_option maxHeartbeats 0
theorem clsV_bad {nm : ByteArray} {P S : Nat → Int} {n : Int} {x : X3} (h : chkT nm P S ≠ 0) : clsV nm P S n x = (pt 0 0 0 0, chkT nm P S) := by simp [clsV, h]
theorem clsV_out {nm : ByteArray} {P S : Nat → Int} {n : Int} {x : X3} (h : chkT nm P S = 0) (h1 : isClass n = false) : clsV nm P S n x = (pt 0 0 0 0, 2) := by simp [clsV, h, h1]
theorem clsV_ok {nm : ByteArray} {P S : Nat → Int} {n : Int} {x : X3} (h : chkT nm P S = 0) (h1 : isClass n = true) : clsV nm P S n x = (pit x, 0) := by simp [clsV, h, h1]
theorem law7 (lim : Nat) {h : Heap} (A : AwOk h) {C : List Value} {nm : ByteArray} {P S : Nat → Int} {x y : Int} (t : Tm C nm P S) :
    E.call 21 lim 7 [.agg C.toArray, i64 x, i64 y] h = some (.bool true, h) := by
  have a1 := A
  unfold AwOk at a1
  have k20 := fun lim hh => c20 (d := 19) (lim := lim) (h := hh) t
  have k23 := fun lim hh => c23 (d := 15) (lim := lim) (h := hh) t
  refine call1 fn7 rfl (by simp [ef7]) ?_
  by_cases hs : nm.size ≤ 30
  · have k42 := fun lim hh => c42 (d := 14) (lim := lim) (h := hh) (n := x) t (by omega)
    have k43 := fun lim hh => c43 (d := 14) (lim := lim) (h := hh) (n := y) t (by omega)
    have k44 := fun lim hh => c44 (d := 14) (lim := lim) (h := hh) (n := y) t (by omega)
    by_cases h0 : chkT nm P S = 0
    · obtain ⟨o, _⟩ := okt h0
      by_cases hx : isClass x = true
      · obtain ⟨m, rfl, hm⟩ := isClass_nat hx
        rw [clsV_ok h0 hx] at k42
        simp only [Int.toNat_natCast] at k42
        have k46 := fun lim hh => c46 (d := 18) (lim := lim) (h := hh) (n := m) t
        rw [Nat.mod_eq_of_lt hm] at k46
        have k26 := fun lim hh => c26 (d := 16) (lim := lim) (h := hh) (fif_ok o hm).2
        obtain ⟨x1, x2, x3, x4, px⟩ := pit_pt (fifX (P m) (S m))
        rw [px] at k42 k26
        by_cases hy : isClass y = true
        · obtain ⟨n, rfl, hn⟩ := isClass_nat hy
          rw [clsV_ok h0 hy] at k43 k44
          simp only [Int.toNat_natCast] at k43 k44
          have k47 := fun lim hh => c47 (d := 17) (lim := lim) (h := hh) t o hn
          have k48 := fun lim hh => c48 (d := 17) (lim := lim) (h := hh) t hn
          have k26' := fun lim hh => c26 (d := 16) (lim := lim) (h := hh) (thi_ok o n).2
          have k26'' := fun lim hh => c26 (d := 16) (lim := lim) (h := hh) (cls_ok o hn).2
          obtain ⟨y1, y2, y3, y4, py⟩ := pit_pt (thiZ P S n)
          obtain ⟨z1, z2, z3, z4, pz⟩ := pit_pt (clsX P S n)
          rw [py] at k43 k26'
          rw [pz] at k44 k26''
          simp [ef7, a1, k20, hs, t.len, t.take, k42, k43, k44, h0, k23, c45, hx, hy, k46, k26, k47, k48, k26', k26'']
        · simp only [Bool.not_eq_true] at hy
          rw [clsV_out h0 hy] at k43 k44
          simp [ef7, a1, k20, hs, t.len, t.take, k42, k43, k44, h0, k23, c45, hx, hy, k46, k26]
      · simp only [Bool.not_eq_true] at hx
        rw [clsV_out h0 hx] at k42
        by_cases hy : isClass y = true
        · obtain ⟨n, rfl, hn⟩ := isClass_nat hy
          rw [clsV_ok h0 hy] at k43 k44
          simp only [Int.toNat_natCast] at k43 k44
          have k47 := fun lim hh => c47 (d := 17) (lim := lim) (h := hh) t o hn
          have k48 := fun lim hh => c48 (d := 17) (lim := lim) (h := hh) t hn
          have k26' := fun lim hh => c26 (d := 16) (lim := lim) (h := hh) (thi_ok o n).2
          have k26'' := fun lim hh => c26 (d := 16) (lim := lim) (h := hh) (cls_ok o hn).2
          obtain ⟨y1, y2, y3, y4, py⟩ := pit_pt (thiZ P S n)
          obtain ⟨z1, z2, z3, z4, pz⟩ := pit_pt (clsX P S n)
          rw [py] at k43 k26'
          rw [pz] at k44 k26''
          simp [ef7, a1, k20, hs, t.len, t.take, k42, k43, k44, h0, k23, c45, hx, hy, k47, k48, k26', k26'']
        · simp only [Bool.not_eq_true] at hy
          rw [clsV_out h0 hy] at k43 k44
          simp [ef7, a1, k20, hs, t.len, t.take, k42, k43, k44, h0, k23, c45, hx, hy]
    · rw [clsV_bad h0] at k42 k43 k44
      simp [ef7, a1, k20, hs, t.len, t.take, k42, k43, k44, h0, k23]
  · simp [ef7, a1, k20, hs, t.len, t.take]
theorem temperPitches_law : ∀ (bs : List (Option Blk)) us, Heap.freeze ([primesB] ++ bs) = [primesB] ++ bs → (∀ n, ctBlocks (([ctT, (false, [ctI]), (false, [ctI])] : List (Bool × List CT)).flatMap (·.2)) = some n → bs.length = n) →
    ArgsV 6 ([primesB] ++ bs) [ctT, (false, [ctI]), (false, [ctI])] us → ∃ h', E.call 21 (([primesB] : Heap) ++ bs).length 7 us ([primesB] ++ bs) = some (.bool true, h') := by
  intro bs us _ k a
  obtain ⟨u, v, w, rfl, a1, a2, a3⟩ := args3 a
  obtain ⟨C, nm, P, S, rfl, t, _⟩ := arg_tm a1
  obtain ⟨_, rfl, _⟩ := arg_int a2
  obtain ⟨_, rfl, _⟩ := arg_int a3
  exact ⟨_, law7 _ (awOk bs) t⟩
end T
end Go.Abs
