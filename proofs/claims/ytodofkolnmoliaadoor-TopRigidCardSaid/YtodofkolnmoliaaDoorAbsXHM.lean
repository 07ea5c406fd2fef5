/- Chapter 3: vectors, forces. -/
import Derived.Test.YtodofkolnmoliaaDoorAbsXT1
import Derived.Test.YtodofkolnmoliaaDoorAbsWpO
import Derived.Test.YtodofkolnmoliaaDoorAbsXZ4
set_option linter.unusedSimpArgs false
set_option linter.unusedVariables false
/- Chapter 3: vectors, forces. -/
namespace Go.Abs
namespace X
set_option maxRecDepth 100000
set_option maxHeartbeats 0
abbrev v3 (a b c : Int) : Value := .agg #[i64 a, i64 b, i64 c]
abbrev wr (n : Int) : Int := IntKind.wrap .i64 n
theorem c110 {d lim : Nat} {h : Heap} {a b c x y z k : Int} : E.call (d + 1) lim 110 [v3 a b c, v3 x y z, i64 k] h = some (v3 (wr (a + wr (k * x))) (wr (b + wr (k * y))) (wr (c + wr (k * z))), h) := by
  refine call1 fn110 rfl (by simp [ef110]) ?_
  simp [ef110]
  rw [wpC_unroll, wpI_step (by simp [E_fuel'])]
  simp [St.tidy]
  rw [wpI_step (by simp [E_fuel'])]
  simp [St.tidy]
  rw [wpI_step (by simp [E_fuel'])]
  simp [St.tidy]
  rw [wpI_step (by simp [E_fuel'])]
  simp [St.tidy]
theorem c156 {d lim : Nat} {h : Heap} {a b c x y z : Int} : E.call (d + 1) lim 156 [v3 a b c, v3 x y z] h = some (v3 (wr (wr (b * z) - wr (c * y))) (wr (wr (c * x) - wr (a * z))) (wr (wr (a * y) - wr (b * x))), h) := by
  refine call1 fn156 rfl (by simp [ef156]) ?_
  simp [ef156]
def winB (n k : Int) : Bool := decide (wr (-k) ≤ n) && decide (n ≤ k)
theorem c159 {d lim : Nat} {h : Heap} {a k : Int} : E.call (d + 1) lim 159 [i64 a, i64 k] h = some (.bool (winB a k), h) := by
  refine call1 fn159 rfl (by simp [ef159]) ?_
  unfold winB
  by_cases q1 : wr (-k) ≤ a
  · by_cases q2 : a ≤ k
    · simp [ef159, q1, q2]
    · simp [ef159, q1, q2]
  · simp [ef159, q1]
theorem c158 {d lim b : Nat} {h : Heap} {a k : Int} (hb : b < h.length) (hc : h.cell b 0 = some (i64 k)) : E.call (d + 2) lim 158 [i64 a, .pointer (some ⟨b, 0, none⟩)] h = some (.bool (!winB a k), h) := by
  have k9 := fun lim hh => c159 (d := d) (lim := lim) (h := hh) (a := a) (k := k)
  refine call1 fn158 rfl (by simp [ef158]) ?_
  simp [ef158, hc, hb, k9]
def idx3 (x y z k : Int) : Int := if winB x k = false then 0 else if winB y k = false then 1 else if winB z k = false then 2 else -1
theorem c179 {d lim b b1 : Nat} {h : Heap} {x y z k : Int} (hb : b < h.length) (hb1 : b1 < h.length) (g0 : h.cell b 0 = some (i64 x)) (g1 : h.cell b 1 = some (i64 y)) (g2 : h.cell b 2 = some (i64 z)) (hc : h.cell b1 0 = some (i64 k)) :
    E.call (d + 3) lim 179 [.slice (some ⟨b, 0, none⟩) 3 1, .func (.func 158) #[] #[.pointer (some ⟨b1, 0, none⟩)]] h = some (i64 (idx3 x y z k), h) := by
  have kk := fun lim n => c158 (d := d) (lim := lim) (b := b1) (h := h.freeze) (a := n) (k := k) (by simpa using hb1) (by rw [cell_freeze]; exact hc)
  have f0 : h.freeze.cell b 0 = some (i64 x) := by rw [cell_freeze]; exact g0
  have f1 : h.freeze.cell b 1 = some (i64 y) := by rw [cell_freeze]; exact g1
  have f2 : h.freeze.cell b 2 = some (i64 z) := by rw [cell_freeze]; exact g2
  refine call1 fn179 rfl (by simp [ef179]) ?_
  unfold idx3
  simp [ef179]
  rw [wpC_unroll, wpI_step (by simp [E_fuel'])]
  rcases q0 : winB x k with _ | _
  · simp [St.tidy, hb, hb1, g0, f0, kk, q0]
  simp [St.tidy, hb, hb1, g0, f0, kk, q0]
  rw [wpI_step (by simp [E_fuel'])]
  rcases q1 : winB y k with _ | _
  · simp [St.tidy, hb, hb1, g1, f1, kk, q1]
  simp [St.tidy, hb, hb1, g1, f1, kk, q1]
  rw [wpI_step (by simp [E_fuel'])]
  rcases q2 : winB z k with _ | _
  · simp [St.tidy, hb, hb1, g2, f2, kk, q2]
  simp [St.tidy, hb, hb1, g2, f2, kk, q2]
  rw [wpI_step (by simp [E_fuel'])]
  simp [St.tidy, hb, hb1]
theorem c157 {d lim b b1 : Nat} {h : Heap} {x y z k : Int} (hb : b < h.length) (hb1 : b1 < h.length) (g0 : h.cell b 0 = some (i64 x)) (g1 : h.cell b 1 = some (i64 y)) (g2 : h.cell b 2 = some (i64 z)) (hc : h.cell b1 0 = some (i64 k)) :
    E.call (d + 4) lim 157 [.slice (some ⟨b, 0, none⟩) 3 1, .func (.func 158) #[] #[.pointer (some ⟨b1, 0, none⟩)]] h = some (.bool (decide (0 ≤ idx3 x y z k)), h) := by
  have kk := fun lim => c179 (d := d) (lim := lim) (h := h.freeze) (b := b) (b1 := b1) (x := x) (y := y) (z := z) (k := k) (by simpa using hb) (by simpa using hb1) (by rw [cell_freeze]; exact g0) (by rw [cell_freeze]; exact g1) (by rw [cell_freeze]; exact g2) (by rw [cell_freeze]; exact hc)
  refine call1 fn157 rfl (by simp [ef157]) ?_
  simp [ef157, kk]
theorem c112 {d lim : Nat} {h : Heap} {a b c k : Int} : E.call (d + 5) lim 112 [v3 a b c, i64 k] h = some (.bool (winB a k && winB b k && winB c k), h) := by
  have kk := fun lim => c157 (d := d) (lim := lim) (h := h.freeze ++ [some ⟨[i64 a, i64 b, i64 c], true⟩, some ⟨[i64 k], true⟩]) (b := h.length) (b1 := h.length + 1) (x := a) (y := b) (z := c) (k := k) (by simp) (by simp) (by simp) (by simp) (by simp) (by simp)
  refine call1 fn112 rfl (by simp [ef112]) ?_
  have e : (!decide (0 ≤ idx3 a b c k)) = (winB a k && winB b k && winB c k) := by
    unfold idx3
    rcases winB a k with _ | _ <;> rcases winB b k with _ | _ <;> rcases winB c k with _ | _ <;> simp
  rw [← e]
  simp [ef112, E.bound, kk, maxLen]
end X
end Go.Abs
/- Chapter 3: forces: checked, summed, their moment. -/
namespace Go.Abs
namespace X
set_option maxRecDepth 100000
set_option maxHeartbeats 0
def encF (p : XR) : List Value := [i64 p.1, i64 0, i64 0, i64 0, i64 p.2, i64 0]
abbrev SlF (h : Heap) (v : Value) (l : List XR) : Prop := Sl 6 h v l.length (cS encF l)
theorem cF_part {l : List XR} {i : Nat} (h : i < l.length) : ((cS encF l).drop (i * 6)).take 6 = [i64 (atR l i).1, i64 0, i64 0, i64 0, i64 (atR l i).2, i64 0] := by
  rw [cS_part (f := encF) (es := 6) (fun _ => rfl) l i h, atR_get h]; rfl
/-- Bounds of forces. -/
def FrOk (l : List XR) : Prop := l.length ≤ 300 ∧ ∀ i, i < l.length → -1000000 ≤ (atR l i).1 ∧ (atR l i).1 ≤ 1000000 ∧ -1000000000 ≤ (atR l i).2 ∧ (atR l i).2 ≤ 1000000000
theorem winB_ok {n k : Int} (hk : 0 ≤ k ∧ k ≤ 1000000000000) (h : -k ≤ n ∧ n ≤ k) : winB n k = true := by
  unfold winB wr
  rw [wrap_eq (by omega) (by omega)]
  simp; exact h
def sF (l : List XR) : Nat → Int
  | 0 => 0
  | i + 1 => sF l i + (atR l i).2
def mF (l : List XR) (p : Int) : Nat → Int
  | 0 => 0
  | i + 1 => mF l p i + ((atR l i).1 - p) * (atR l i).2
theorem absM {a b A B : Int} (hA : 0 ≤ A) (hB : 0 ≤ B) (h1 : -A ≤ a ∧ a ≤ A) (h2 : -B ≤ b ∧ b ≤ B) : -(A * B) ≤ a * b ∧ a * b ≤ A * B := by
  have e : (a * b).natAbs ≤ (A * B).natAbs := by
    rw [Int.natAbs_mul, Int.natAbs_mul]
    exact Nat.mul_le_mul (by omega) (by omega)
  have : 0 ≤ A * B := Int.mul_nonneg hA hB
  omega
theorem sF_bd {l : List XR} (h : FrOk l) : ∀ i, i ≤ l.length → -(i * 1000000000 : Int) ≤ sF l i ∧ sF l i ≤ i * 1000000000
  | 0, _ => by simp [sF]
  | i + 1, hi => by
    have ih := sF_bd h i (by omega)
    have := h.2 i (by omega)
    simp only [sF]
    omega
theorem mF_bd {l : List XR} (h : FrOk l) {p : Int} (hp : -1000000 ≤ p ∧ p ≤ 1000000) : ∀ i, i ≤ l.length → -(i * 2000000000000000 : Int) ≤ mF l p i ∧ mF l p i ≤ i * 2000000000000000
  | 0, _ => by simp [mF]
  | i + 1, hi => by
    have ih := mF_bd h hp i (by omega)
    have b := h.2 i (by omega)
    have := absM (a := (atR l i).1 - p) (b := (atR l i).2) (A := 2000000) (B := 1000000000) (by omega) (by omega) (by omega) (by omega)
    simp only [mF]
    generalize ((atR l i).1 - p) * (atR l i).2 = y at *
    omega
theorem c106 {d lim : Nat} {h : Heap} {v : Value} {l : List XR} (s : SlF h v l) (F : FrOk l) : E.call (d + 6) lim 106 [v] h = some (i64 0, h) := by
  have r := s.rules2
  have so := s.own
  have k112 := fun lim hh a b c k => c112 (d := d) (lim := lim) (h := hh) (a := a) (b := b) (c := c) (k := k)
  have l3 := F.1
  have i3 : ¬ (300 : Int) < l.length := by omega
  refine call1 fn106 rfl (by simp [ef106]) ?_
  simp [ef106, r, i3, Int.not_lt.1 i3]
  refine wpC_loop (fun y st => ∃ i, y = l.length - i ∧ i ≤ l.length ∧ st = ⟨[(8, v), (9, i64 (l.length : Int)), (10, i64 (i : Nat))], h.freeze⟩) l.length (by show l.length < 2 ^ 64; omega) ?_ ?_
  · simp [St.tidy, so, r]
    exact ⟨0, by omega, by omega, rfl⟩
  · rintro y hy _ ⟨i, rfl, hi, rfl⟩
    by_cases hlt : i < l.length
    · have w1' := w1 (i := i) (by omega)
      simp only [W] at w1'
      have hlti : (i : Int) < l.length := by omega
      have p := cF_part hlt
      have k6 : i * 6 + 6 ≤ l.length * 6 := by omega
      obtain ⟨b1, b2, b3, b4⟩ := F.2 i hlt
      have m1 := winB_ok (n := (atR l i).1) (k := 1000000) (by omega) (by omega)
      have m2 := winB_ok (n := (atR l i).2) (k := 1000000000) (by omega) (by omega)
      have m3 : winB 0 1000000 = true := by decide
      have m4 : winB 0 1000000000 = true := by decide
      generalize hu : atR l i = u at *
      rcases Nat.eq_zero_or_pos i with z | z
      · subst z
        have pp := fun A => ((Sl_freeze.2 s).app A).part (k := 0) (m := 6) (by omega) (by omega)
        have pp' := (Sl_freeze.2 s).part (k := 0) (m := 6) (by omega) (by omega)
        simp only [Nat.zero_mul, List.drop_zero] at p
        simp only [Nat.add_zero, List.drop_zero, p] at pp pp'
        have l0 : 0 < l.length := by omega
        have ne : l ≠ [] := fun e => by rw [e] at l0; exact absurd l0 (by simp)
        simp [l0, ne, hlt, hlti, r, pp, pp', k112, m1, m2, m3, m4, St.tidy, so]
        exact ⟨l.length - 1, by omega, 1, by omega, by omega, rfl⟩
      · simp [hlt, hlti, r, k6, p, k112, m1, m2, m3, m4, w1', St.tidy, so]
        exact ⟨l.length - (i + 1), by omega, i + 1, by omega, by omega, by omega⟩
    · obtain rfl : i = l.length := by omega
      simp
theorem wr0 : IntKind.wrap .i64 0 = 0 := rfl
theorem c107 {d lim : Nat} {h : Heap} {v : Value} {l : List XR} (s : SlF h v l) (F : FrOk l) : E.call (d + 2) lim 107 [v] h = some (v3 0 (sF l l.length) 0, h) := by
  have r := s.rules2
  have so := s.own
  have k110 := fun lim hh a b c x y z k => c110 (d := d) (lim := lim) (h := hh) (a := a) (b := b) (c := c) (x := x) (y := y) (z := z) (k := k)
  have l3 := F.1
  refine call1 fn107 rfl (by simp [ef107]) ?_
  simp [ef107, r]
  refine wpC_loop (fun y st => ∃ i, y = l.length - i ∧ i ≤ l.length ∧ st = ⟨[(2, .pointer (some ⟨h.length, 0, none⟩)), (3, .pointer (some ⟨h.length + 1, 0, none⟩)), (6, v), (7, i64 (l.length : Int)), (8, i64 (i : Nat))],
    h.freeze ++ [some ⟨[i64 0, i64 0, i64 0], true⟩, some ⟨[i64 0, i64 (sF l i), i64 0], true⟩]⟩) l.length (by show l.length < 2 ^ 64; omega) ?_ ?_
  · simp [-collect_own1, St.tidy, collect_box, so, r]
    exact ⟨0, by omega, by omega, rfl, rfl⟩
  · rintro y hy _ ⟨i, rfl, hi, rfl⟩
    by_cases hlt : i < l.length
    · have w1' := w1 (i := i) (by omega)
      simp only [W] at w1'
      have hlti : (i : Int) < l.length := by omega
      have p := cF_part hlt
      have k6 : i * 6 + 6 ≤ l.length * 6 := by omega
      have bd := F.2 i hlt
      have sb := sF_bd F i (by omega)
      have q1 : IntKind.wrap .i64 (atR l i).2 = (atR l i).2 := wrap_eq (by omega) (by omega)
      have q2 : IntKind.wrap .i64 (sF l i + (atR l i).2) = sF l (i + 1) := by rw [wrap_eq (by omega) (by omega)]; rfl
      generalize hu : atR l i = u at *
      rcases Nat.eq_zero_or_pos i with z | z
      · subst z
        have pp := fun A => ((Sl_freeze.2 s).app A).part (k := 0) (m := 6) (by omega) (by omega)
        simp only [Nat.zero_mul, List.drop_zero] at p
        simp only [Nat.add_zero, List.drop_zero, p] at pp
        have l0 : 0 < l.length := by omega
        have ne : l ≠ [] := fun e => by rw [e] at l0; exact absurd l0 (by simp)
        simp [-collect_own1, l0, ne, hlt, hlti, r, pp, k110, q1, q2, wr0, St.tidy, collect_box, so]
        exact ⟨l.length - 1, by omega, 1, by omega, by omega, rfl, rfl⟩
      · simp [-collect_own1, hlt, hlti, r, k6, p, k110, q1, q2, wr0, w1', St.tidy, collect_box, so]
        exact ⟨l.length - (i + 1), by omega, i + 1, by omega, by omega, by omega, rfl⟩
    · obtain rfl : i = l.length := by omega
      simp
end X
end Go.Abs
/- Chapter 3: forces: moment, balance. -/
namespace Go.Abs
namespace X
set_option maxRecDepth 100000
set_option maxHeartbeats 0
theorem c108 {d lim : Nat} {h : Heap} {v : Value} {l : List XR} {px py pz : Int} (s : SlF h v l) (F : FrOk l) (h1 : -1000000 ≤ px ∧ px ≤ 1000000) (h2 : -1000000 ≤ py ∧ py ≤ 1000000) (h3 : -1000000 ≤ pz ∧ pz ≤ 1000000) :
    E.call (d + 2) lim 108 [v, v3 px py pz] h = some (v3 (pz * sF l l.length) 0 (mF l px l.length), h) := by
  have r := s.rules2
  have so := s.own
  have k110 := fun lim hh a b c x y z k => c110 (d := d) (lim := lim) (h := hh) (a := a) (b := b) (c := c) (x := x) (y := y) (z := z) (k := k)
  have k156 := fun lim hh a b c x y z => c156 (d := d) (lim := lim) (h := hh) (a := a) (b := b) (c := c) (x := x) (y := y) (z := z)
  have l3 := F.1
  refine call1 fn108 rfl (by simp [ef108]) ?_
  simp [ef108, r]
  refine wpC_loop (fun y st => ∃ i, y = l.length - i ∧ i ≤ l.length ∧ st = ⟨[(3, .pointer (some ⟨h.length, 0, none⟩)), (4, .pointer (some ⟨h.length + 1, 0, none⟩)), (5, .pointer (some ⟨h.length + 2, 0, none⟩)), (8, v), (9, i64 (l.length : Int)), (10, i64 (i : Nat))],
    h.freeze ++ [some ⟨[i64 px, i64 py, i64 pz], true⟩, some ⟨[i64 0, i64 0, i64 0], true⟩, some ⟨[i64 (pz * sF l i), i64 0, i64 (mF l px i)], true⟩]⟩) l.length (by show l.length < 2 ^ 64; omega) ?_ ?_
  · simp [-collect_own1, St.tidy, collect_box, so, r]
    exact ⟨0, by omega, by omega, rfl, by simp [sF], rfl⟩
  · rintro y hy _ ⟨i, rfl, hi, rfl⟩
    by_cases hlt : i < l.length
    · have w1' := w1 (i := i) (by omega)
      simp only [W] at w1'
      have hlti : (i : Int) < l.length := by omega
      have p := cF_part hlt
      have k6 : i * 6 + 6 ≤ l.length * 6 := by omega
      have bd := F.2 i hlt
      have sb := sF_bd F i (by omega)
      have sb2 := sF_bd F (i + 1) (by omega)
      have mb := mF_bd F h1 i (by omega)
      have mb2 := mF_bd F h1 (i + 1) (by omega)
      have e1 : sF l (i + 1) = sF l i + (atR l i).2 := rfl
      have e2 : mF l px (i + 1) = mF l px i + ((atR l i).1 - px) * (atR l i).2 := rfl
      have a1 := absM (a := (atR l i).1 - px) (b := (atR l i).2) (A := 2000000) (B := 1000000000) (by omega) (by omega) (by omega) (by omega)
      have a2 := absM (a := pz) (b := (atR l i).2) (A := 1000000) (B := 1000000000) (by omega) (by omega) (by omega) (by omega)
      have a3 := absM (a := pz) (b := sF l (i + 1)) (A := 1000000) (B := 300000000000) (by omega) (by omega) (by omega) (by omega)
      have u1 : IntKind.wrap .i64 (-px) = -px := wrap_eq (by omega) (by omega)
      have u2 : IntKind.wrap .i64 (-py) = -py := wrap_eq (by omega) (by omega)
      have u3 : IntKind.wrap .i64 (-pz) = -pz := wrap_eq (by omega) (by omega)
      have u4 : IntKind.wrap .i64 ((atR l i).1 + -px) = (atR l i).1 - px := by rw [wrap_eq (by omega) (by omega)]; omega
      have u5 : IntKind.wrap .i64 (-pz * (atR l i).2) = -(pz * (atR l i).2) := by rw [Int.neg_mul, wrap_eq (by omega) (by omega)]
      have u6 : IntKind.wrap .i64 (pz * (atR l i).2) = pz * (atR l i).2 := wrap_eq (by omega) (by omega)
      have u7 : IntKind.wrap .i64 (((atR l i).1 - px) * (atR l i).2) = ((atR l i).1 - px) * (atR l i).2 := wrap_eq (by omega) (by omega)
      have u8 : IntKind.wrap .i64 (pz * sF l i + pz * (atR l i).2) = pz * sF l (i + 1) := by rw [← Int.mul_add, ← e1, wrap_eq (by omega) (by omega)]
      have u9 : IntKind.wrap .i64 (mF l px i + ((atR l i).1 - px) * (atR l i).2) = mF l px (i + 1) := by rw [← e2, wrap_eq (by omega) (by omega)]
      generalize hu : atR l i = u at *
      rcases Nat.eq_zero_or_pos i with z | z
      · subst z
        have pp := fun A => ((Sl_freeze.2 s).app A).part (k := 0) (m := 6) (by omega) (by omega)
        simp only [Nat.zero_mul, List.drop_zero] at p
        simp only [Nat.add_zero, List.drop_zero, p] at pp
        have l0 : 0 < l.length := by omega
        have ne : l ≠ [] := fun e => by rw [e] at l0; exact absurd l0 (by simp)
        simp [-collect_own1, l0, ne, hlt, hlti, r, pp, k110, k156, u1, u2, u3, u4, u5, u6, u7, u8, u9, wr0, St.tidy, collect_box, so]
        exact ⟨l.length - 1, by omega, 1, by omega, by omega, rfl, rfl, rfl⟩
      · simp [-collect_own1, hlt, hlti, r, k6, p, k110, k156, u1, u2, u3, u4, u5, u6, u7, u8, u9, wr0, w1', St.tidy, collect_box, so]
        exact ⟨l.length - (i + 1), by omega, i + 1, by omega, by omega, by omega, rfl, rfl⟩
    · obtain rfl : i = l.length := by omega
      simp
theorem c109 {d lim : Nat} {h : Heap} {v : Value} {l : List XR} {px py pz : Int} (s : SlF h v l) (F : FrOk l) (h1 : -1000000 ≤ px ∧ px ≤ 1000000) (h2 : -1000000 ≤ py ∧ py ≤ 1000000) (h3 : -1000000 ≤ pz ∧ pz ≤ 1000000) :
    E.call (d + 7) lim 109 [v, v3 px py pz] h = some (i64 0, h) := by
  have k106 := fun lim A => c106 (d := d) (lim := lim) ((Sl_freeze.2 s).app A) F
  have k112 := fun lim hh a b c k => c112 (d := d + 1) (lim := lim) (h := hh) (a := a) (b := b) (c := c) (k := k)
  have m1 := winB_ok (n := px) (k := 1000000) (by omega) (by omega)
  have m2 := winB_ok (n := py) (k := 1000000) (by omega) (by omega)
  have m3 := winB_ok (n := pz) (k := 1000000) (by omega) (by omega)
  refine call1 fn109 rfl (by simp [ef109]) ?_
  simp [ef109, k106, k112, m1, m2, m3]
theorem c50 {d lim : Nat} {h : Heap} {v : Value} {l : List XR} (s : SlF h v l) (F : FrOk l) (hs : sF l l.length = 0) (hm : mF l 0 l.length = 0) : E.call (d + 7) lim 50 [v] h = some (.tuple #[.bool true, i64 0], h) := by
  have k106 := fun lim A => c106 (d := d) (lim := lim) ((Sl_freeze.2 s).app A) F
  have k106' := fun lim => c106 (d := d) (lim := lim) ((Sl_freeze.2 s)) F
  have k107 := fun lim A => c107 (d := d + 4) (lim := lim) ((Sl_freeze.2 s).app A) F
  have k107' := fun lim => c107 (d := d + 4) (lim := lim) ((Sl_freeze.2 s)) F
  have k108 := fun lim A => c108 (d := d + 4) (lim := lim) ((Sl_freeze.2 s).app A) F (px := 0) (py := 0) (pz := 0) (by omega) (by omega) (by omega)
  have k108' := fun lim => c108 (d := d + 4) (lim := lim) ((Sl_freeze.2 s)) F (px := 0) (py := 0) (pz := 0) (by omega) (by omega) (by omega)
  rw [hs] at k107 k107' k108 k108'
  rw [hm] at k108 k108'
  refine call1 fn50 rfl (by simp [ef50]) ?_
  simp [ef50, k106', k107', k108']
theorem c51 {d lim : Nat} {h : Heap} {v : Value} {l : List XR} {px py pz : Int} (s : SlF h v l) (F : FrOk l) (h1 : -1000000 ≤ px ∧ px ≤ 1000000) (h2 : -1000000 ≤ py ∧ py ≤ 1000000) (h3 : -1000000 ≤ pz ∧ pz ≤ 1000000) :
    E.call (d + 8) lim 51 [v, v3 px py pz] h = some (.tuple #[v3 (pz * sF l l.length) 0 (mF l px l.length), i64 0], h) := by
  have k109 := fun lim A => c109 (d := d) (lim := lim) ((Sl_freeze.2 s).app A) F h1 h2 h3
  have k108 := fun lim A => c108 (d := d + 5) (lim := lim) ((Sl_freeze.2 s).app A) F h1 h2 h3
  refine call1 fn51 rfl (by simp [ef51]) ?_
  simp [ef51, k109, k108]
theorem c52 {d lim : Nat} {h : Heap} {v : Value} {l : List XR} {px : Int} (s : SlF h v l) (F : FrOk l) (h1 : -1000000 ≤ px ∧ px ≤ 1000000) (hm : mF l px l.length = 0) :
    E.call (d + 8) lim 52 [v, v3 px 0 0] h = some (.tuple #[.agg #[i64 px, i64 0, i64 0, i64 0, i64 (-(sF l l.length)), i64 0], v3 0 0 0, i64 0], h) := by
  have k109 := fun lim A => c109 (d := d) (lim := lim) ((Sl_freeze.2 s).app A) F h1 (py := 0) (pz := 0) (by omega) (by omega)
  have k107 := fun lim A => c107 (d := d + 5) (lim := lim) (Sl_freeze.2 ((Sl_freeze.2 s).app A)) F
  have k108 := fun lim A => c108 (d := d + 5) (lim := lim) (Sl_freeze.2 ((Sl_freeze.2 s).app A)) F h1 (py := 0) (pz := 0) (by omega) (by omega)
  have k110 := fun lim hh a b c x y z k => c110 (d := d + 6) (lim := lim) (h := hh) (a := a) (b := b) (c := c) (x := x) (y := y) (z := z) (k := k)
  have sb := sF_bd F l.length (by omega)
  have l3 := F.1
  have u1 : IntKind.wrap .i64 (-(sF l l.length)) = -(sF l l.length) := wrap_eq (by omega) (by omega)
  rw [hm] at k108
  simp at k108
  refine call1 fn52 rfl (by simp [ef52]) ?_
  simp [ef52, k109, k107, k108, k110, u1, wr0]
end X
end Go.Abs
/- Chapter 3: girders and loads. -/
namespace Go.Abs
namespace X
set_option maxRecDepth 100000
set_option maxHeartbeats 0
def gE (l r c : Int) : Int := if within l (-20000) 20000 = false then 2 else if within r (-20000) 20000 = false then 2 else if within c 0 1000000000000 = false then 2 else if r ≤ l then 9 else 0
structure GdOk (l r c : Int) : Prop where
  bl : -20000 ≤ l ∧ l ≤ 20000
  br : -20000 ≤ r ∧ r ≤ 20000
  bc : 0 ≤ c ∧ c ≤ 1000000000000
  lr : l < r
theorem GdOk.of {l r c : Int} (h : gE l r c = 0) : GdOk l r c := by
  unfold gE at h
  split at h
  · cases h
  · rename_i q1
    split at h
    · cases h
    · rename_i q2
      split at h
      · cases h
      · rename_i q3
        split at h
        · cases h
        · simp only [Bool.not_eq_false, within] at q1 q2 q3
          simp at q1 q2 q3
          exact ⟨q1, q2, q3, by omega⟩
theorem c46 {d lim : Nat} {h : Heap} {l r c : Int} : E.call (d + 2) lim 46 [v3 l r c] h = some (i64 (gE l r c), h) := by
  have k := fun lim hh a b c => c18 (d := d) (lim := lim) (h := hh) (a := a) (b := b) (c := c)
  refine call1 fn46 rfl (by simp [ef46]) ?_
  unfold gE
  rcases q1 : within l (-20000) 20000 with _ | _
  · simp [ef46, k, q1]
  rcases q2 : within r (-20000) 20000 with _ | _
  · simp [ef46, k, q1, q2]
  rcases q3 : within c 0 1000000000000 with _ | _
  · simp [ef46, k, q1, q2, q3]
  by_cases q5 : r ≤ l
  · simp [ef46, k, q1, q2, q3, q5]
  · simp [ef46, k, q1, q2, q3, q5, Int.not_le.1 q5]
theorem c153 {d lim : Nat} {h : Heap} {l r c : Int} (G : GdOk l r c) : E.call (d + 2) lim 153 [v3 l r c] h = some (i64 0, h) := by
  have k := fun lim hh a b => c159 (d := d) (lim := lim) (h := hh) (a := a) (k := b)
  have m1 := winB_ok (n := l) (k := 20000) (by omega) G.bl
  have m2 := winB_ok (n := r) (k := 20000) (by omega) G.br
  obtain ⟨c1, c2⟩ := G.bc
  have lr := G.lr
  refine call1 fn153 rfl (by simp [ef153]) ?_
  simp [ef153, k, m1, m2, Int.not_lt.2 c1, Int.not_lt.2 c2, Int.not_le.2 lr, c1, c2, lr]
def ldI (l r : Int) (p : XR) : Bool := if within p.1 l r = false then false else within p.2 (-1000000) 1000000
def ldL (L : List XR) (l r : Int) (i : Nat) : Int := if i < L.length then (if ldI l r (atR L i) = true then ldL L l r (i + 1) else 2) else 0
termination_by L.length - i
theorem ldL_lt {L : List XR} {l r : Int} {i : Nat} (h : i < L.length) : ldL L l r i = if ldI l r (atR L i) = true then ldL L l r (i + 1) else 2 := by rw [ldL, if_pos h]
theorem ldL_ge {L : List XR} {l r : Int} {i : Nat} (h : ¬ i < L.length) : ldL L l r i = 0 := by rw [ldL, if_neg h]
theorem ldL_all {L : List XR} {l r : Int} : ∀ (k i : Nat), L.length - i = k → ldL L l r i = 0 → ∀ j, i ≤ j → j < L.length → ldI l r (atR L j) = true
  | 0, i, hk, _, j, h1, h2 => by omega
  | k + 1, i, hk, h, j, h1, h2 => by
    rw [ldL_lt (by omega)] at h
    split at h
    · rename_i e
      rcases Nat.eq_or_lt_of_le h1 with rfl | h3
      · exact e
      · exact ldL_all k (i + 1) (by omega) h j h3 h2
    · cases h
def ldE (L : List XR) (l r : Int) : Int := if 100 < L.length then 8 else ldL L l r 0
structure LdOk (L : List XR) (l r : Int) : Prop where
  few : L.length ≤ 100
  b : ∀ i, i < L.length → (l ≤ (atR L i).1 ∧ (atR L i).1 ≤ r) ∧ -1000000 ≤ (atR L i).2 ∧ (atR L i).2 ≤ 1000000
theorem LdOk.of {L : List XR} {l r : Int} (h : ldE L l r = 0) : LdOk L l r := by
  unfold ldE at h
  split at h
  · cases h
  · refine ⟨by omega, fun i hi => ?_⟩
    have := ldL_all _ 0 rfl h i (by omega) hi
    unfold ldI at this
    split at this
    · cases this
    · rename_i q
      simp [within] at q this
      exact ⟨q, this⟩
theorem cR_j {l : List XR} {i : Nat} (h : i < l.length) : (cS encR l)[i * 2]? = some (i64 (atR l i).1) ∧ (cS encR l)[i * 2 + 1]? = some (i64 (atR l i).2) := by
  have a0 := cS_get (f := encR) (es := 2) (fun _ => rfl) l i 0 h (by omega)
  have a1 := cS_get (f := encR) (es := 2) (fun _ => rfl) l i 1 h (by omega)
  rw [atR_get h] at a0 a1
  exact ⟨by simpa [encR] using a0, by simpa [encR] using a1⟩
theorem c47 {d lim : Nat} {h : Heap} {v : Value} {L : List XR} {l r : Int} (s : SlR h v L) : E.call (d + 2) lim 47 [v, i64 l, i64 r] h = some (i64 (ldE L l r), h) := by
  have rr := s.rules2
  have so := s.own
  have k := fun lim hh a b c => c18 (d := d) (lim := lim) (h := hh) (a := a) (b := b) (c := c)
  refine call1 fn47 rfl (by simp [ef47]) ?_
  unfold ldE
  by_cases h100 : 100 < L.length
  · have i1 : (100 : Int) < L.length := by omega
    simp [ef47, rr, h100, i1, Int.not_le.2 i1, Nat.not_le.2 h100]
  have i1 : ¬ (100 : Int) < L.length := by omega
  generalize hC : ldL L l r 0 = C0
  simp [ef47, rr, h100, i1, Int.not_lt.1 i1, Nat.not_lt.1 h100]
  refine wpC_loop (fun y st => ∃ i, y = L.length - i ∧ i ≤ L.length ∧ ldL L l r i = C0 ∧ st = ⟨[(0, v), (1, i64 l), (2, i64 r), (7, i64 (i : Nat))], h.freeze⟩) L.length (by show L.length < 2 ^ 64; omega) ?_ ?_
  · simp [St.tidy, so, rr]
    exact ⟨0, by omega, by omega, hC, rfl⟩
  · rintro y hy _ ⟨i, rfl, hi, hc, rfl⟩
    by_cases hlt : i < L.length
    · have w1' := w1 (i := i) (by omega)
      simp only [W] at w1'
      have hlti : (i : Int) < L.length := by omega
      obtain ⟨a0, a1⟩ := cR_j hlt
      have v0 : ∀ hh, (cS encR L)[i * 2]'hh = .int .i64 (atR L i).1 := fun hh => by have := List.getElem?_eq_getElem hh; rw [a0] at this; exact (Option.some.inj this).symm
      have v1 : ∀ hh, (cS encR L)[i * 2 + 1]'hh = .int .i64 (atR L i).2 := fun hh => by have := List.getElem?_eq_getElem hh; rw [a1] at this; exact (Option.some.inj this).symm
      have k0 : i * 2 < L.length * 2 := by omega
      have k1 : i * 2 + 1 < L.length * 2 := by omega
      rw [ldL_lt hlt] at hc
      unfold ldI at hc
      generalize hu : atR L i = u at *
      rcases q1 : within u.1 l r with _ | _
      · rw [q1] at hc
        simp at hc
        subst hc
        simp [hlt, Nat.not_le.2 hlt, hlti, rr, k0, k1, a0, a1, v0, v1, Nat.add_assoc, k, q1]
      · rw [q1] at hc
        rcases q2 : within u.2 (-1000000) 1000000 with _ | _
        · rw [q2] at hc
          simp at hc
          subst hc
          simp [hlt, Nat.not_le.2 hlt, hlti, rr, k0, k1, a0, a1, v0, v1, Nat.add_assoc, k, q1, q2]
        · rw [q2] at hc
          simp at hc
          simp [hlt, Nat.not_le.2 hlt, hlti, rr, k0, k1, a0, a1, v0, v1, Nat.add_assoc, k, q1, q2, w1', St.tidy, so]
          exact ⟨L.length - (i + 1), by omega, i + 1, by omega, by omega, hc, by omega⟩
    · obtain rfl : i = L.length := by omega
      rw [ldL_ge (by omega)] at hc
      subst hc
      simp [rr]
theorem c154 {d lim : Nat} {h : Heap} {v : Value} {L : List XR} {l r : Int} (s : SlR h v L) (O : LdOk L l r) : E.call (d + 2) lim 154 [v, i64 l, i64 r] h = some (i64 0, h) := by
  have rr := s.rules2
  have so := s.own
  have few := O.few
  have k := fun lim hh a b => c159 (d := d) (lim := lim) (h := hh) (a := a) (k := b)
  have i1 : ¬ (100 : Int) < L.length := by omega
  have h100 : ¬ 100 < L.length := by omega
  refine call1 fn154 rfl (by simp [ef154]) ?_
  simp [ef154, rr, h100, i1, Int.not_lt.1 i1, few]
  refine wpC_loop (fun y st => ∃ i, y = L.length - i ∧ i ≤ L.length ∧ st = ⟨[(1, i64 l), (2, i64 r), (12, v), (13, i64 (L.length : Int)), (14, i64 (i : Nat))], h.freeze⟩) L.length (by show L.length < 2 ^ 64; omega) ?_ ?_
  · simp [St.tidy, so, rr]
    exact ⟨0, by omega, by omega, rfl⟩
  · rintro y hy _ ⟨i, rfl, hi, rfl⟩
    by_cases hlt : i < L.length
    · have w1' := w1 (i := i) (by omega)
      simp only [W] at w1'
      have hlti : (i : Int) < L.length := by omega
      have p := cR_part hlt
      have k2 : i * 2 + 2 ≤ L.length * 2 := by omega
      obtain ⟨⟨b1, b2⟩, b3, b4⟩ := O.b i hlt
      have m := winB_ok (n := (atR L i).2) (k := 1000000) (by omega) ⟨b3, b4⟩
      generalize hu : atR L i = u at *
      rcases Nat.eq_zero_or_pos i with z | z
      · subst z
        have pp := fun A => ((Sl_freeze.2 s).app A).part (k := 0) (m := 2) (by omega) (by omega)
        have pp' := (Sl_freeze.2 s).part (k := 0) (m := 2) (by omega) (by omega)
        simp only [Nat.zero_mul, List.drop_zero] at p
        simp only [Nat.add_zero, List.drop_zero, p] at pp pp'
        have l0 : 0 < L.length := by omega
        have ne : L ≠ [] := fun e => by rw [e] at l0; exact absurd l0 (by simp)
        simp [l0, ne, hlt, hlti, rr, pp, pp', k, m, b1, b2, Int.not_lt.2 b1, Int.not_lt.2 b2, St.tidy, so]
        exact ⟨L.length - 1, by omega, 1, by omega, by omega, rfl⟩
      · simp [hlt, hlti, rr, k2, p, k, m, b1, b2, Int.not_lt.2 b1, Int.not_lt.2 b2, w1', St.tidy, so]
        exact ⟨L.length - (i + 1), by omega, i + 1, by omega, by omega, by omega⟩
    · obtain rfl : i = L.length := by omega
      simp
def plB (a b c : Int) : Bool := if within a (-1000000) 1000000 = false then false else if within b (-1000000) 1000000 = false then false else within c (-1000000) 1000000
theorem c48 {d lim : Nat} {h : Heap} {a b c : Int} : E.call (d + 3) lim 48 [v3 a b c] h = some (.bool (plB a b c), h) := by
  have k := fun lim hh a b c => c18 (d := d) (lim := lim) (h := hh) (a := a) (b := b) (c := c)
  have k100 : ∀ lim (hh : Heap), E.call (d + 2) lim 100 [v3 a b c, i64 1000000] hh = some (.bool (plB a b c), hh) := by
    intro lim hh
    refine call1 fn100 rfl (by simp [ef100]) ?_
    unfold plB
    have wn : IntKind.wrap .i64 (-1000000) = -1000000 := rfl
    simp [ef100]
    rw [wpC_unroll, wpI_step (by simp [E_fuel'])]
    rcases q1 : within a (-1000000) 1000000 with _ | _
    · simp [St.tidy, k, q1, wn]
    simp [St.tidy, k, q1, wn]
    rw [wpI_step (by simp [E_fuel'])]
    rcases q2 : within b (-1000000) 1000000 with _ | _
    · simp [St.tidy, k, q2, wn]
    simp [St.tidy, k, q2, wn]
    rw [wpI_step (by simp [E_fuel'])]
    rcases q3 : within c (-1000000) 1000000 with _ | _
    · simp [St.tidy, k, q3, wn]
    simp [St.tidy, k, q3, wn]
    rw [wpI_step (by simp [E_fuel'])]
    simp [St.tidy]
  refine call1 fn48 rfl (by simp [ef48]) ?_
  simp [ef48, k100]
theorem plB_ok {a b c : Int} (h : plB a b c = true) : (-1000000 ≤ a ∧ a ≤ 1000000) ∧ (-1000000 ≤ b ∧ b ≤ 1000000) ∧ -1000000 ≤ c ∧ c ≤ 1000000 := by
  unfold plB at h
  split at h
  · cases h
  · rename_i q1
    split at h
    · cases h
    · rename_i q2
      simp [within] at q1 q2 h
      exact ⟨q1, q2, h⟩
end X
end Go.Abs
