/- Chapter 7: drift: the moistures, yielded one by one. -/
import Derived.Test.YtfbelnhibipndaaAbsUF3
import Derived.Test.YtfbelnhibipndaaAbsWpO
set_option linter.unusedSimpArgs false
set_option linter.unusedVariables false
namespace Go.Abs
namespace U
set_option maxRecDepth 100000
def mo (s m : Int) (l : List P2) : Nat → Int
  | 0 => 1000 * s
  | n + 1 => mo s m l n + (1000 * humV l ((n + 1 : Nat) : Int) - mo s m l n) / m
theorem humV_bd {l : List P2} (O : COk l) (day : Int) : 0 ≤ humV l day ∧ humV l day ≤ 1000 := by
  have h := (humK_spec O day).1
  have hp := O.pos
  have := O.hum (humK l day - 1) (by omega)
  unfold humV
  exact this
theorem mo_bd {s m : Int} {l : List P2} (O : COk l) (s0 : within s 0 1000 = true) (m0 : within m 1 365 = true) : ∀ n, 0 ≤ mo s m l n ∧ mo s m l n ≤ 1000000
  | 0 => by have := within_iffC.1 s0; unfold mo; omega
  | n + 1 => by
    have ih := mo_bd (l := l) O s0 m0 n
    have hb := humV_bd O ((n + 1 : Nat) : Int)
    have hm := within_iffC.1 m0
    unfold mo
    generalize humV l ((n + 1 : Nat) : Int) = y at *
    generalize mo s m l n = x at *
    have e1 := Int.mul_ediv_add_emod (1000 * y - x) m
    have e2 := Int.emod_nonneg (1000 * y - x) (show m ≠ 0 by omega)
    have e3 : 1000 * y - x < 0 → 1000 * y - x ≤ (1000 * y - x) / m := fun hd => by
      rw [Int.le_ediv_iff_mul_le (by omega)]
      have : (1000 * y - x) * m ≤ (1000 * y - x) * 1 := Int.mul_le_mul_of_nonpos_left (by omega) (by omega)
      omega
    have e4 : 0 ≤ 1000 * y - x → 0 ≤ (1000 * y - x) / m := fun hd => Int.ediv_nonneg hd (by omega)
    have e5 : 1000 * y - x < 0 → (1000 * y - x) / m < 0 := fun hd => Int.ediv_neg_of_neg_of_pos hd (by omega)
    generalize (1000 * y - x) / m = q at *
    generalize (1000 * y - x) % m = z at *
    rcases Int.lt_or_le (1000 * y - x) 0 with hq | hq
    · have := e3 hq; have := e5 hq; omega
    · have := e4 hq
      have : 1 * q ≤ m * q := Int.mul_le_mul_of_nonneg_right (by omega) this
      omega
abbrev vD (s m r t : Int) : Value := .agg #[i64 s, i64 m, i64 r, i64 t]
def drE (s m r t : Int) : Int := if within s 0 1000 = true ∧ within m 1 365 = true ∧ within r 0 1000 = true ∧ within t 0 1000000 = true then 0 else 2
theorem c28 {d lim : Nat} {h : Heap} {s m r t : Int} : E.call (d + 2) lim 28 [vD s m r t] h = some (i64 (drE s m r t), h) := by
  refine call1 fn28 rfl (by simp [ef28]) ?_
  unfold drE
  by_cases q1 : within s 0 1000 = true <;> by_cases q2 : within m 1 365 = true <;> by_cases q3 : within r 0 1000 = true <;> by_cases q4 : within t 0 1000000 = true <;> simp [ef28, c30, q1, q2, q3, q4]
theorem c29 {d lim : Nat} {h : Heap} {s m r t : Int} : E.call (d + 2) lim 29 [vD s m r t] h = some (i64 (drE s m r t), h) := by
  refine call1 fn29 rfl (by simp [ef29]) ?_
  unfold drE
  by_cases q1 : within s 0 1000 = true <;> by_cases q2 : within m 1 365 = true <;> by_cases q3 : within r 0 1000 = true <;> by_cases q4 : within t 0 1000000 = true <;> simp [ef29, c65, q1, q2, q3, q4]
def allE (s m r t : Int) (l : List P2) (day least : Int) : Int := if drE s m r t = 0 then (if chkC l = 0 then (if within day least 4000 = true then 0 else 2) else chkC l) else drE s m r t
theorem c72 {d lim : Nat} {h : Heap} {s m r t day least : Int} {v : Value} {l : List P2} (sl : Sl2 h v l) : E.call (d + 5) lim 72 [vD s m r t, v, i64 day, i64 least] h = some (i64 (allE s m r t l day least), h) := by
  have k19 := fun (L : Heap) lim => c19 (d := d) (lim := lim) ((Sl_freeze.2 sl).app L)
  have k29 := fun lim H => c29 (d := d + 2) (lim := lim) (h := H) (s := s) (m := m) (r := r) (t := t)
  refine call1 fn72 rfl (by simp [ef72]) ?_
  unfold allE
  by_cases q0 : drE s m r t = 0
  case neg => simp [ef72, k29, q0]
  by_cases q1 : chkC l = 0
  case neg => simp [ef72, k29, k19, q0, q1]
  by_cases q2 : within day least 4000 = true <;> simp [ef72, k29, k19, q0, q1, c65, q2]
theorem off_bd {s x r : Int} (s0 : within s 0 1000 = true) (r0 : within r 0 1000 = true) (x0 : 0 ≤ x) (x1 : x ≤ 1000000) : -1000000000 ≤ r * (x - 1000 * s) ∧ r * (x - 1000 * s) ≤ 1000000000 := by
  have a := within_iffC.1 s0
  have b := within_iffC.1 r0
  have h1 : -1000000 ≤ x - 1000 * s := by omega
  have h2 : x - 1000 * s ≤ 1000000 := by omega
  generalize x - 1000 * s = y at *
  have p1 : r * y ≤ r * 1000000 := Int.mul_le_mul_of_nonneg_left h2 b.1
  have p2 : r * (-1000000) ≤ r * y := Int.mul_le_mul_of_nonneg_left h1 b.1
  omega
def offV (s r x : Int) : Int := r * (x - 1000 * s) / 1000
theorem c74 {d lim : Nat} {h : Heap} {s m r t x : Int} (s0 : within s 0 1000 = true) (r0 : within r 0 1000 = true) (x0 : 0 ≤ x) (x1 : x ≤ 1000000) : E.call (d + 2) lim 74 [vD s m r t, i64 x] h = some (i64 (offV s r x), h) := by
  have a := within_iffC.1 s0
  have b := off_bd s0 r0 x0 x1
  have w1 : IntKind.wrap .i64 (1000 * s) = 1000 * s := wrap_eq (by omega) (by omega)
  have w2 : IntKind.wrap .i64 (x - 1000 * s) = x - 1000 * s := wrap_eq (by omega) (by omega)
  have w3 : IntKind.wrap .i64 (r * (x - 1000 * s)) = r * (x - 1000 * s) := wrap_eq (by omega) (by omega)
  have k := fun lim H => c100 (d := d) (lim := lim) (h := H) (n := r * (x - 1000 * s)) (m := 1000) (by omega) (by omega) (by omega)
  refine call1 fn74 rfl (by simp [ef74]) ?_
  simp [ef74, w1, w2, w3, k, offV]
abbrev pt (b : Nat) : Value := .pointer (some ⟨b, 0, none⟩)
theorem c101 {d lim r b1 b2 N : Nat} {h h' : Heap} {rw1 rw2 : Bool} {s m ra t : Int} {v : Value} {l : List P2} (hr : r < h.length) (g1 : h.get b1 = some ⟨[i64 s, i64 m, i64 ra, i64 t], rw1⟩) (g2 : h.get b2 = some ⟨[v], rw2⟩)
    (sl : Sl2 h v l) (O : COk l) (s0 : within s 0 1000 = true) (m0 : within m 1 365 = true) (hN : N ≤ 4000)
    (hgo : ∀ n : Nat, n < N → EProg.roundOf E (E.call (d + 6)) h.length r [i64 (n : Int), i64 (mo s m l n)] h = some (.bool true, h))
    (hst : EProg.roundOf E (E.call (d + 6)) h.length r [i64 (N : Int), i64 (mo s m l N)] h = some (.bool false, h')) (hh : h'.length = h.length) :
    E.call (d + 7) lim 101 [yieldVal r, pt b1, pt b2] h = some (.tuple #[], h') := by
  have rr := sl.rules2
  have l1 := Heap.get_lt g1
  have l2 := Heap.get_lt g2
  have key : ∃ v h'', E.call (d + 7) lim 101 [yieldVal r, pt b1, pt b2] h = some (v, h'') ∧ v = .tuple #[] ∧ h'' = h' := by
    refine call_trunc (Q := fun v h'' => v = .tuple #[] ∧ h'' = h') fn101 rfl (by simp [ef101]) ?_
    have a := within_iffC.1 s0
    have b := within_iffC.1 m0
    have ws : IntKind.wrap .i64 (1000 * s) = mo s m l 0 := wrap_eq (by omega) (by omega)
    have tk : List.take h.length h = h := List.take_length
    have tk' : List.take h.length h' = h' := by rw [← hh]; exact List.take_length
    have ck1 := fun o => cell_get (o := o) g1
    have ck2 := fun o => cell_get (o := o) g2
    simp [ef101, ck1, ck2, ws]
    refine wpC_loop (fun q st => ∃ n : Nat, q = N + 1 - n ∧ n ≤ N ∧ st = ⟨[(0, yieldVal r), (1, pt b1), (2, pt b2), (4, i64 (mo s m l n)), (5, i64 (n : Int))], h⟩) (N + 1) (by show N + 1 < 2 ^ 64; omega) ?_ ?_
    · simp [St.tidy, hr, l1, l2, tk]
      exact ⟨0, by omega, by omega, by simp⟩
    · rintro q hq _ ⟨n, rfl, hn, rfl⟩
      by_cases hlt : n < N
      · have go := hgo n hlt
        have mb := mo_bd (l := l) O s0 m0 n
        have hb := humV_bd O ((n : Int) + 1)
        have k71 := fun H lim => c71 (d := d + 1) (lim := lim) (day := (n : Int) + 1) ((Sl_freeze.2 sl).app H) O
        have k71' := fun lim => c71 (d := d + 1) (lim := lim) (day := (n : Int) + 1) (Sl_freeze.2 sl) O
        have k100 := fun lim H => c100 (d := d + 5) (lim := lim) (h := H) (n := 1000 * humV l ((n : Int) + 1) - mo s m l n) (m := m) (by omega) (by omega) (by omega)
        have e1 : IntKind.wrap .i64 ((n : Int) + 1) = (n : Int) + 1 := wrap_eq (by omega) (by omega)
        have e2 : IntKind.wrap .i64 (1000 * humV l ((n : Int) + 1)) = 1000 * humV l ((n : Int) + 1) := wrap_eq (by omega) (by omega)
        have e3 : IntKind.wrap .i64 (1000 * humV l ((n : Int) + 1) - mo s m l n) = 1000 * humV l ((n : Int) + 1) - mo s m l n := wrap_eq (by omega) (by omega)
        have mb2 := mo_bd (l := l) O s0 m0 (n + 1)
        have e5 : mo s m l n + (1000 * humV l ((n : Int) + 1) - mo s m l n) / m = mo s m l (n + 1) := rfl
        have e4 : IntKind.wrap .i64 (mo s m l (n + 1)) = mo s m l (n + 1) := wrap_eq (by omega) (by omega)
        simp [go, ck1, ck2, e1, e2, e3, e4, e5, k71, k71', k100, St.tidy, hr, l1, l2, tk]
        exact ⟨N + 1 - (n + 1), by omega, n + 1, by omega, by omega, by simp⟩
      · obtain rfl : n = N := by omega
        simp [hst, tk, tk']
  obtain ⟨_, _, e, rfl, rfl⟩ := key
  exact e
end U
end Go.Abs
