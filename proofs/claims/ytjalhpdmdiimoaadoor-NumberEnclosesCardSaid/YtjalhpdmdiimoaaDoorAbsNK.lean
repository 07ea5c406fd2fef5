/- The laws NumberPitches and NumberPowers. -/
import Derived.Test.YtjalhpdmdiimoaaDoorAbsNJ
set_option linter.unusedSimpArgs false
set_option linter.unusedVariables false
namespace Go.Abs.N
open Go Go.Abs
set_option maxRecDepth 100000
set_option maxHeartbeats 0
theorem c21_1 {d lim : Nat} {h : Heap} {x : Nat} (a b c e : Int) (hx : x < h.length) (hp : h.part x 0 4 = some (pt a b c e)) : E.call (d + 3) lim 21 [.slice (some ⟨x, 0, none⟩) 1 4] h = some (i64 (checkPitch a b c e), h) := by
  refine call1 fn21 rfl (by simp [ef21]) ?_
  simp [ef21, wpC_unroll, wpI_step, E_fuel, c85, St.tidy, hx, hp]
  grind [checkPitch]
theorem c21_2 {d lim : Nat} {h : Heap} {x : Nat} (a b c e f g i j : Int) (hx : x < h.length) (hp : h.part x 0 4 = some (pt a b c e)) (hq : h.part x 4 4 = some (pt f g i j)) : E.call (d + 3) lim 21 [.slice (some ⟨x, 0, none⟩) 2 4] h = some (i64 (pit2 a b c e f g i j), h) := by
  refine call1 fn21 rfl (by simp [ef21]) ?_
  simp [ef21, wpC_unroll, wpI_step, E_fuel, c85, St.tidy, hx, hp, hq]
  grind [checkPitch, pit2]
theorem jn_comm {x y : Int} (hx : R64 x) (hy : R64 y) (j e : Int) : jn x y 1 j e = jn y x 1 e j := by
  unfold jn
  rw [Int.one_mul, Int.one_mul, wrapR hx, wrapR hy, Int.add_comm]
theorem law10 (lim : Nat) {a b c e f g i j : Int} : E.call 21 lim 10 [pt a b c e, pt f g i j] [primesB] = some (.bool true, [primesB]) := by
  refine call1 fn10 rfl (by simp [ef10]) ?_
  have hf : Heap.freeze [primesB] = [primesB] := rfl
  by_cases h1 : isPitch a b c e = true
  · obtain ⟨r1, r2, r3, r4⟩ := isPitch_R h1
    have k1 := check0.2 h1
    have cn := fun d lim h => @c52 d lim h a b c e (R64s r1) (R64s r2) (R64s r3) (R64s (n := e) (by omega)) (by omega)
    by_cases h2 : isPitch f g i j = true
    · obtain ⟨s1, s2, s3, s4⟩ := isPitch_R h2
      have k2 := check0.2 h2
      have hne := join_ne r4 s4
      have e1 := jn_comm (R64s s1) (R64s r1) j e
      have e3 := jn_comm (R64s s2) (R64s r2) j e
      have e4 := jn_comm (R64s s3) (R64s r3) j e
      have e2 : IntKind.wrap .i64 (j * e) = IntKind.wrap .i64 (e * j) := by rw [Int.mul_comm]
      have p2 : pit2 a b c e f g i j = 0 := by simp [pit2, k1, k2]
      simp [ef10, hf, Heap.push, Heap.get, Heap.put, Heap.part, awake2, c49 h1, c50 h1 h2, c50 h2 h1, c51, cn, c53, hne, c21_1 a b c e, c21_2 a b c e f g i j, k1, p2, e1, e2, e3, e4]
    · have h2' : isPitch f g i j = false := by simpa using h2
      have k2 : checkPitch f g i j = 2 := by simp [checkPitch, h2']
      have p2 : pit2 a b c e f g i j = 2 := by simp [pit2, k1, k2]
      simp [ef10, hf, Heap.push, Heap.get, Heap.put, Heap.part, awake2, c49 h1, c50b (a := a) (b := b) (c := c) (e := e) (.inr h2'), c51, cn, c21_1 a b c e, c21_2 a b c e f g i j, k1, p2]
  · have h1' : isPitch a b c e = false := by simpa using h1
    have k1 : checkPitch a b c e = 2 := by simp [checkPitch, h1']
    have p2 : pit2 a b c e f g i j = 2 := by simp [pit2, k1]
    simp [ef10, hf, Heap.push, Heap.get, Heap.put, Heap.part, awake2, c49b h1', c50b (f := f) (g := g) (i := i) (j := j) (.inl h1'), c51, c21_1 a b c e, c21_2 a b c e f g i j, k1, p2]
theorem numberPitches_law : ∀ (bs : List (Option Blk)) us, Heap.freeze ([primesB] ++ bs) = [primesB] ++ bs → (∀ n, ctBlocks (([(true, [ctI, ctI, ctI, ctI]), (true, [ctI, ctI, ctI, ctI])] : List (Bool × List CT)).flatMap (·.2)) = some n → bs.length = n) →
    ArgsV 6 ([primesB] ++ bs) [(true, [ctI, ctI, ctI, ctI]), (true, [ctI, ctI, ctI, ctI])] us → ∃ h', E.call 21 (([primesB] : Heap) ++ bs).length 10 us ([primesB] ++ bs) = some (.bool true, h') := by
  intro bs us _ k a
  obtain rfl := none_of k rfl
  obtain ⟨u, v, rfl, a1, a2⟩ := args2 a
  obtain ⟨_, _, _, _, rfl, _⟩ := arg_agg4 a1
  obtain ⟨_, _, _, _, rfl, _⟩ := arg_agg4 a2
  exact ⟨_, law10 _⟩
theorem pow_ne {e m : Int} (he : 1 ≤ e ∧ e ≤ 12) (hm : 1 ≤ m ∧ m ≤ 1000000000) : IntKind.wrap .i64 (e * m) ≠ 0 := by
  have l : e * 1 ≤ e * m := Int.mul_le_mul_of_nonneg_left (by omega) (by omega)
  have u : e * m ≤ 12 * 1000000000 := Int.mul_le_mul (by omega) (by omega) (by omega) (by omega)
  rw [wrap_eq (by omega) (by omega)]; omega
abbrev powF (a b c e n m : Int) : Value := fitV (IntKind.wrap .i64 (a * n)) (IntKind.wrap .i64 (b * n)) (IntKind.wrap .i64 (c * n)) (IntKind.wrap .i64 (e * m))
theorem checkFrac_m {n m : Int} (h : checkFrac n m = 0) : 1 ≤ m ∧ m ≤ 1000000000 := by
  unfold checkFrac within at h; simp at h; grind
theorem c42 {d lim : Nat} {h : Heap} {a b c e n m : Int} (hm : R64 m) (h1 : isPitch a b c e = true) (h2 : checkFrac n m = 0) : E.call (d + 4) lim 42 [pt a b c e, fr n m] h = some (powF a b c e n m, h) := by
  obtain ⟨r1, r2, r3, r4⟩ := isPitch_R h1
  have hne := pow_ne r4 (checkFrac_m h2)
  refine call1 fn42 rfl (by simp [ef42]) ?_
  simp [ef42, c51, check0.2 h1, c64 hm, h2, c100, hne]
theorem c42b {d lim : Nat} {h : Heap} {a b c e n m : Int} (hm : R64 m) (h1 : isPitch a b c e = false ∨ checkFrac n m ≠ 0) : E.call (d + 4) lim 42 [pt a b c e, fr n m] h = some (pte 0 0 0 0 (if isPitch a b c e = true then checkFrac n m else 2), h) := by
  refine call1 fn42 rfl (by simp [ef42]) ?_
  by_cases q : isPitch a b c e = true
  · have h2 : checkFrac n m ≠ 0 := by rcases h1 with h | h; rw [h] at q; cases q; exact h
    simp [ef42, c51, check0.2 q, c64 hm, h2, q]
  · have h1' : isPitch a b c e = false := by simpa using q
    have k1 : checkPitch a b c e = 2 := by simp [checkPitch, h1']
    simp [ef42, c51, k1, h1']
theorem c44 {d lim : Nat} {h : Heap} {a b c e n m : Int} (hne : IntKind.wrap .i64 (e * m) ≠ 0) : E.call (d + 5) lim 44 [pt a b c e, fr n m] h = some (powF a b c e n m, h) := by
  refine call1 fn44 rfl (by simp [ef44]) ?_
  simp [ef44, c102, hne]
theorem law7 (lim : Nat) {a b c e n m : Int} (hm : R64 m) : E.call 21 lim 7 [pt a b c e, fr n m] [primesB] = some (.bool true, [primesB]) := by
  refine call1 fn7 rfl (by simp [ef7]) ?_
  have hf : Heap.freeze [primesB] = [primesB] := rfl
  by_cases h1 : isPitch a b c e = true
  · obtain ⟨r1, r2, r3, r4⟩ := isPitch_R h1
    have k1 := check0.2 h1
    by_cases h2 : checkFrac n m = 0
    · have hne := pow_ne r4 (checkFrac_m h2)
      simp [ef7, hf, Heap.push, Heap.get, Heap.put, Heap.part, awake2, c42 hm h1 h2, c43 hm, c44 hne, c21_1 a b c e, k1, h2]
    · simp [ef7, hf, Heap.push, Heap.get, Heap.put, Heap.part, awake2, c42b (a := a) (b := b) (c := c) (e := e) hm (.inr h2), c43 hm, c21_1 a b c e, k1, h1, h2]
  · have h1' : isPitch a b c e = false := by simpa using h1
    have k1 : checkPitch a b c e = 2 := by simp [checkPitch, h1']
    simp [ef7, hf, Heap.push, Heap.get, Heap.put, Heap.part, awake2, c42b (n := n) hm (.inl h1'), c21_1 a b c e, k1, h1']
theorem numberPowers_law : ∀ (bs : List (Option Blk)) us, Heap.freeze ([primesB] ++ bs) = [primesB] ++ bs → (∀ n, ctBlocks (([(true, [ctI, ctI, ctI, ctI]), (true, [ctI, ctI])] : List (Bool × List CT)).flatMap (·.2)) = some n → bs.length = n) →
    ArgsV 6 ([primesB] ++ bs) [(true, [ctI, ctI, ctI, ctI]), (true, [ctI, ctI])] us → ∃ h', E.call 21 (([primesB] : Heap) ++ bs).length 7 us ([primesB] ++ bs) = some (.bool true, h') := by
  intro bs us _ k a
  obtain rfl := none_of k rfl
  obtain ⟨u, v, rfl, a1, a2⟩ := args2 a
  obtain ⟨_, _, _, _, rfl, _⟩ := arg_agg4 a1
  obtain ⟨_, _, rfl, _, hm⟩ := arg_agg2 a2
  exact ⟨_, law7 _ hm⟩
end Go.Abs.N
