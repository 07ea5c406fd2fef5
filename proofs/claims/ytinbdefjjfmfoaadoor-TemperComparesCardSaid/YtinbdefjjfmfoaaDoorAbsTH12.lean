/- Well, Widest: both. -/
import Derived.Test.YtinbdefjjfmfoaaDoorAbsTH5
set_option linter.unusedSimpArgs false
set_option linter.unusedVariables false
namespace Go.Abs
namespace T
set_option maxRecDepth 100000
set_option maxHeartbeats 0
def ordX (x y : X3) : Int := ordE (x.1 - y.1) (x.2.1 - y.2.1) (x.2.2 - y.2.2)
theorem ordX_self (x : X3) : ordX x x = 0 := by
  unfold ordX; rw [Int.sub_self, Int.sub_self, Int.sub_self]; decide +kernel
theorem c121' {d lim : Nat} {h : Heap} {x y : X3} (sp : SlU h (.slice (some ⟨0, 0, none⟩) 3 1) [2, 3, 5]) (hx : isP x = true) (hy : isP y = true) : E.call (d + 7) lim 121 [v3 x, v3 y] h = some (i64 (ordX x y), h) := c121 sp hx hy
theorem c123' {d lim : Nat} {h : Heap} {x y : X3} (hx : isP x = true) (hy : isP y = true) : E.call (d + 5) lim 123 [v3 x, v3 y] h = some (i64 (ordX x y), h) := by
  obtain ⟨g1, g2⟩ := plusX_eq (n := -1) (N := 1) (isP_B3 hx) (isP_B3 hy) (by omega) (by omega) (by omega)
  exact c123 (g2.mono (by omega)) g1
def wF : X3 := (-12, 12, 0)
def wT : X3 := (-72, 48, 0)
def badW (P S : Nat → Int) (i : Nat) : Bool := decide (0 < ordX (fifX (P i) (S i)) wF) || decide (0 < ordX (thiZ P S i) wT)
def wellB (P S : Nat → Int) : Bool := (List.range 12).all fun i => !badW P S i
theorem wellB_false {P S : Nat → Int} {i : Nat} (hi : i < 12) (h : badW P S i = true) : wellB P S = false := by
  unfold wellB
  rw [Bool.eq_false_iff]
  intro q
  have := List.all_eq_true.1 q i (List.mem_range.2 hi)
  rw [h] at this; cases this
theorem wellB_true {P S : Nat → Int} (h : ∀ j, j < 12 → badW P S j = false) : wellB P S = true := by
  unfold wellB
  rw [List.all_eq_true]
  intro j hj
  rw [h j (List.mem_range.1 hj)]; rfl
theorem c71e {d lim : Nat} {h : Heap} {C : List Value} {nm : ByteArray} {P S : Nat → Int} (t : Tm C nm P S) (hs : nm.size ≤ 1000) (h0 : chkT nm P S ≠ 0) : E.call (d + 6) lim 71 [.agg C.toArray] h = some (.tuple #[.bool false, i64 (chkT nm P S)], h) := by
  refine call1 fn71 rfl (by simp [ef71]) ?_
  have k84 := fun lim hh v => c84b (d := d) (lim := lim) (h := hh) (v := v) t hs h0
  simp [ef71, t.len, t.take, k84, h0]
theorem c71 {d lim : Nat} {h : Heap} {C : List Value} {nm : ByteArray} {P S : Nat → Int} (sp : SlU h (.slice (some ⟨0, 0, none⟩) 3 1) [2, 3, 5]) (t : Tm C nm P S) (hs : nm.size ≤ 1000) (h0 : chkT nm P S = 0) :
    E.call (d + 8) lim 71 [.agg C.toArray] h = some (.tuple #[.bool (wellB P S), i64 0], h) := by
  obtain ⟨o, _⟩ := okt h0
  have sp2 : ∀ L, SlU (h.freeze ++ L) (.slice (some ⟨0, 0, none⟩) 3 1) [2, 3, 5] := fun L => (Sl_freeze.2 sp).app L
  have k84 := fun lim L => c84 (d := d + 2) (lim := lim) (h := L) t hs SlBo_nil (by simp) h0 (by simp)
  have kp := Cir.plain (K := circK P S) (P := P) (S := S) rfl
  refine call1 fn71 rfl (by simp [ef71]) ?_
  simp [ef71, t.len, t.take, k84]
  refine wpC_loop (fun q st => ∃ i, q = 12 - i ∧ i ≤ 12 ∧ (∀ j, j < i → badW P S j = false) ∧ st = ⟨[(4, .pointer (some ⟨h.length, 0, none⟩)), (15, i64 i)], h.freeze ++ [some ⟨circK P S, true⟩]⟩) 12 (by show 12 < 2 ^ 64; omega) ?_ ?_
  · simp [St.tidy, kp]
    exact ⟨0, by omega, by omega, fun j hj => absurd hj (by omega), rfl⟩
  · rintro q hq _ ⟨i, rfl, hi, hb, rfl⟩
    by_cases hlt : i < 12
    · have w1' := w1 (i := i) (by omega)
      simp only [W] at w1'
      have gk : ∀ L, Heap.get (h.freeze ++ (some ⟨circK P S, true⟩ :: L)) h.length = some ⟨circK P S, true⟩ := fun L => by rw [hget_base0 (by simp)]; rfl
      have pf := fun L => part_fif (gk L) hlt
      have k102 := fun lim L => c102 (d := d + 5) (lim := lim) (gk L) hlt o
      have k1 := fun lim L => c121' (d := d) (lim := lim) (sp2 L) (fif_ok o hlt).1 (y := wF) (by decide)
      have k2 := fun lim L => c121' (d := d) (lim := lim) (sp2 L) (thi_ok o i).1 (y := wT) (by decide)
      have bd : badW P S i = (decide (0 < ordX (fifX (P i) (S i)) wF) || decide (0 < ordX (thiZ P S i) wT)) := rfl
      have fal := fun q => wellB_false (P := P) (S := S) hlt q
      have h4 : (i : Int) < 12 := by omega
      generalize ordX (fifX (P i) (S i)) wF = O1 at *
      generalize ordX (thiZ P S i) wT = O2 at *
      generalize fifX (P i) (S i) = X1 at *
      generalize thiZ P S i = X2 at *
      obtain ⟨x1, x2, x3⟩ := X1
      obtain ⟨y1, y2, y3⟩ := X2
      simp only [wF, wT] at k1 k2
      have nx : badW P S i = false → ∀ j, j < i + 1 → badW P S j = false := fun q j hj => by
        by_cases e : j = i
        · rw [e]; exact q
        · exact hb j (by omega)
      by_cases q1 : 0 < O1
      · have bt : badW P S i = true := by rw [bd]; simp [q1]
        rw [fal bt]
        simp [h4, pf, k1, q1]
      · by_cases q2 : 0 < O2
        · have bt : badW P S i = true := by rw [bd]; simp [q2]
          rw [fal bt]
          simp [h4, pf, k1, q1, k102, k2, q2]
        · have bt : badW P S i = false := by rw [bd]; simp [q1, q2]
          simp [h4, pf, k1, q1, k102, k2, q2, w1', St.tidy, kp]
          exact ⟨12 - (i + 1), by omega, i + 1, rfl, by omega, nx bt, rfl⟩
    · obtain rfl : i = 12 := by omega
      rw [wellB_true hb]
      simp
theorem c74 {d lim : Nat} {h : Heap} {C : List Value} {nm : ByteArray} {P S : Nat → Int} (t : Tm C nm P S) (o : Okt P S) : E.call (d + 6) lim 74 [.agg C.toArray] h = some (.bool (wellB P S), h) := by
  refine call1 fn74 rfl (by simp [ef74]) ?_
  simp [ef74]
  refine wpC_loop (fun q st => ∃ i, q = 12 - i ∧ i ≤ 12 ∧ (∀ j, j < i → badW P S j = false) ∧ st = ⟨[(1, .pointer (some ⟨h.length, 0, none⟩)), (3, i64 i)], h.freeze ++ [some ⟨C, true⟩]⟩) 12 (by show 12 < 2 ^ 64; omega) ?_ ?_
  · simp [St.tidy, t.plain]
    exact ⟨0, by omega, by omega, fun j hj => absurd hj (by omega), rfl⟩
  · rintro q hq _ ⟨i, rfl, hi, hb, rfl⟩
    by_cases hlt : i < 12
    · have w1' := w1 (i := i) (by omega)
      simp only [W] at w1'
      have k46 := fun lim hh => c46 (d := d + 3) (lim := lim) (h := hh) (n := i) t
      rw [Nat.mod_eq_of_lt hlt] at k46
      have k47 := fun lim hh => c47 (d := d + 2) (lim := lim) (h := hh) t o hlt
      have k1 := fun lim L => c123' (d := d) (lim := lim) (h := L) (fif_ok o hlt).1 (y := wF) (by decide)
      have k2 := fun lim L => c123' (d := d) (lim := lim) (h := L) (thi_ok o i).1 (y := wT) (by decide)
      have bd : badW P S i = (decide (0 < ordX (fifX (P i) (S i)) wF) || decide (0 < ordX (thiZ P S i) wT)) := rfl
      have fal := fun q => wellB_false (P := P) (S := S) hlt q
      have h4 : (i : Int) < 12 := by omega
      generalize ordX (fifX (P i) (S i)) wF = O1 at *
      generalize ordX (thiZ P S i) wT = O2 at *
      generalize fifX (P i) (S i) = X1 at *
      generalize thiZ P S i = X2 at *
      obtain ⟨x1, x2, x3⟩ := X1
      obtain ⟨y1, y2, y3⟩ := X2
      simp only [wF, wT] at k1 k2
      have nx : badW P S i = false → ∀ j, j < i + 1 → badW P S j = false := fun q j hj => by
        by_cases e : j = i
        · rw [e]; exact q
        · exact hb j (by omega)
      by_cases q1 : 0 < O1
      · have bt : badW P S i = true := by rw [bd]; simp [q1]
        rw [fal bt]
        simp [h4, t.len, t.take, k46, k1, q1]
      · by_cases q2 : 0 < O2
        · have bt : badW P S i = true := by rw [bd]; simp [q2]
          rw [fal bt]
          simp [h4, t.len, t.take, k46, k1, q1, k47, k2, q2]
        · have bt : badW P S i = false := by rw [bd]; simp [q1, q2]
          simp [h4, t.len, t.take, k46, k1, q1, k47, k2, q2, w1', St.tidy, t.plain]
          exact ⟨12 - (i + 1), by omega, i + 1, rfl, by omega, nx bt, rfl⟩
    · obtain rfl : i = 12 := by omega
      rw [wellB_true hb]
      simp
/-- The widest third of the first classes. -/
def wid (P S : Nat → Int) : Nat → Nat
  | 0 => 0
  | i + 1 => if 0 < ordX (thiZ P S i) (thiZ P S (wid P S i)) then i else wid P S i
theorem wid_lt (P S : Nat → Int) : ∀ i, wid P S i ≤ i ∧ (i ≤ 12 → wid P S i < 12)
  | 0 => ⟨Nat.le_refl _, fun _ => by simp [wid]⟩
  | i + 1 => by
    have := wid_lt P S i
    simp only [wid]
    split
    · exact ⟨by omega, fun h => by omega⟩
    · exact ⟨by omega, fun h => this.2 (by omega)⟩
theorem wid_one (P S : Nat → Int) : wid P S 1 = 0 := by simp [wid, ordX_self]
theorem c72e {d lim : Nat} {h : Heap} {C : List Value} {nm : ByteArray} {P S : Nat → Int} (t : Tm C nm P S) (hs : nm.size ≤ 1000) (h0 : chkT nm P S ≠ 0) : E.call (d + 6) lim 72 [.agg C.toArray] h = some (.tuple #[i64 0, i64 (chkT nm P S)], h) := by
  refine call1 fn72 rfl (by simp [ef72]) ?_
  have k84 := fun lim hh v => c84b (d := d) (lim := lim) (h := hh) (v := v) t hs h0
  simp [ef72, t.len, t.take, k84, h0]
theorem c72 {d lim : Nat} {h : Heap} {C : List Value} {nm : ByteArray} {P S : Nat → Int} (sp : SlU h (.slice (some ⟨0, 0, none⟩) 3 1) [2, 3, 5]) (t : Tm C nm P S) (hs : nm.size ≤ 1000) (h0 : chkT nm P S = 0) :
    E.call (d + 8) lim 72 [.agg C.toArray] h = some (.tuple #[i64 (wid P S 12 : Nat), i64 0], h) := by
  obtain ⟨o, _⟩ := okt h0
  have sp2 : ∀ L, SlU (h.freeze ++ L) (.slice (some ⟨0, 0, none⟩) 3 1) [2, 3, 5] := fun L => (Sl_freeze.2 sp).app L
  have k84 := fun lim L => c84 (d := d + 2) (lim := lim) (h := L) t hs SlBo_nil (by simp) h0 (by simp)
  have kp := Cir.plain (K := circK P S) (P := P) (S := S) rfl
  refine call1 fn72 rfl (by simp [ef72]) ?_
  simp [ef72, t.len, t.take, k84]
  refine wpC_loop (fun q st => ∃ i, q = 12 - i ∧ i ≤ 12 ∧ st = ⟨[(4, .pointer (some ⟨h.length, 0, none⟩)), (6, i64 (wid P S i : Nat)), (16, i64 i)], h.freeze ++ [some ⟨circK P S, true⟩]⟩) 12 (by show 12 < 2 ^ 64; omega) ?_ ?_
  · simp [St.tidy, kp]
    exact ⟨0, by omega, by omega, rfl, rfl⟩
  · rintro q hq _ ⟨i, rfl, hi, rfl⟩
    by_cases hlt : i < 12
    · have w1' := w1 (i := i) (by omega)
      simp only [W] at w1'
      have gk : ∀ L, Heap.get (h.freeze ++ (some ⟨circK P S, true⟩ :: L)) h.length = some ⟨circK P S, true⟩ := fun L => by rw [hget_base0 (by simp)]; rfl
      have k102 := fun lim L => c102 (d := d + 5) (lim := lim) (gk L) hlt o
      have k102' := fun lim L => c102 (d := d + 5) (lim := lim) (gk L) ((wid_lt P S i).2 (by omega)) o
      have k1 := fun lim L => c121' (d := d) (lim := lim) (sp2 L) (thi_ok o i).1 (thi_ok o (wid P S i)).1
      have h4 : (i : Int) < 12 := by omega
      have nx : wid P S (i + 1) = if 0 < ordX (thiZ P S i) (thiZ P S (wid P S i)) then i else wid P S i := rfl
      generalize ordX (thiZ P S i) (thiZ P S (wid P S i)) = O1 at *
      generalize thiZ P S i = X1 at *
      generalize thiZ P S (wid P S i) = X2 at *
      obtain ⟨x1, x2, x3⟩ := X1
      obtain ⟨y1, y2, y3⟩ := X2
      by_cases q1 : 0 < O1
      · rw [if_pos q1] at nx
        simp [h4, k102, k102', k1, q1, w1', St.tidy, kp]
        exact ⟨12 - (i + 1), by omega, i + 1, rfl, by omega, by rw [nx], rfl⟩
      · rw [if_neg q1] at nx
        simp [h4, k102, k102', k1, q1, w1', St.tidy, kp]
        exact ⟨12 - (i + 1), by omega, i + 1, rfl, by omega, by rw [nx], rfl⟩
    · obtain rfl : i = 12 := by omega
      simp
theorem c75 {d lim : Nat} {h : Heap} {C : List Value} {nm : ByteArray} {P S : Nat → Int} (t : Tm C nm P S) (o : Okt P S) : E.call (d + 6) lim 75 [.agg C.toArray] h = some (i64 (wid P S 12 : Nat), h) := by
  refine call1 fn75 rfl (by simp [ef75]) ?_
  simp [ef75]
  refine wpC_loop (fun q st => ∃ i, q = 13 - i ∧ 1 ≤ i ∧ i ≤ 12 ∧ st = ⟨[(1, .pointer (some ⟨h.length, 0, none⟩)), (3, i64 (wid P S i : Nat)), (4, i64 i)], h.freeze ++ [some ⟨C, true⟩]⟩) 12 (by show 12 < 2 ^ 64; omega) ?_ ?_
  · simp [St.tidy, t.plain]
    exact ⟨1, by omega, by omega, by omega, by rw [wid_one]; rfl, rfl⟩
  · rintro q hq _ ⟨i, rfl, h1, hi, rfl⟩
    by_cases hlt : i < 12
    · have w1' := w1 (i := i) (by omega)
      simp only [W] at w1'
      have k47 := fun lim hh => c47 (d := d + 2) (lim := lim) (h := hh) t o hlt
      have k47' := fun lim hh => c47 (d := d + 2) (lim := lim) (h := hh) t o ((wid_lt P S i).2 (by omega))
      have k1 := fun lim L => c123' (d := d) (lim := lim) (h := L) (thi_ok o i).1 (thi_ok o (wid P S i)).1
      have h4 : (i : Int) < 12 := by omega
      have nx : wid P S (i + 1) = if 0 < ordX (thiZ P S i) (thiZ P S (wid P S i)) then i else wid P S i := rfl
      generalize ordX (thiZ P S i) (thiZ P S (wid P S i)) = O1 at *
      generalize thiZ P S i = X1 at *
      generalize thiZ P S (wid P S i) = X2 at *
      obtain ⟨x1, x2, x3⟩ := X1
      obtain ⟨y1, y2, y3⟩ := X2
      by_cases q1 : 0 < O1
      · rw [if_pos q1] at nx
        simp [h4, t.len, t.take, k47, k47', k1, q1, w1', St.tidy, t.plain]
        exact ⟨13 - (i + 1), by omega, i + 1, rfl, by omega, by omega, by rw [nx], rfl⟩
      · rw [if_neg q1] at nx
        simp [h4, t.len, t.take, k47, k47', k1, q1, w1', St.tidy, t.plain]
        exact ⟨13 - (i + 1), by omega, i + 1, rfl, by omega, by omega, by rw [nx], rfl⟩
    · obtain rfl : i = 12 := by omega
      simp
end T
end Go.Abs
