/- Chapter 7: tests: their partials, their check. -/
import Derived.Test.YtfbelnhibipndaaAbsUD0
set_option linter.unusedSimpArgs false
set_option linter.unusedVariables false
namespace Go.Abs
namespace U
set_option maxRecDepth 100000
set_option maxHeartbeats 0
theorem wrapL {n : Int} (h1 : -9223372036854775808 ≤ n) (h2 : n < 9223372036854775808) : IntKind.wrap .i64 n = n := wrap_eq (by omega) (by omega)
/-- The exponents of a partial, and whether they are all. -/
def facX : Nat → P3
  | 1 => (0, 0, 0)
  | 2 => (12, 0, 0)
  | 3 => (0, 12, 0)
  | 4 => (24, 0, 0)
  | 5 => (0, 0, 12)
  | 6 => (12, 12, 0)
  | 7 => (0, 0, 0)
  | 8 => (36, 0, 0)
  | 9 => (0, 24, 0)
  | 10 => (12, 0, 12)
  | 11 => (0, 0, 0)
  | 12 => (24, 12, 0)
  | 13 => (0, 0, 0)
  | 14 => (12, 0, 0)
  | 15 => (0, 12, 12)
  | 16 => (48, 0, 0)
  | _ => (0, 0, 0)
def facB (n : Nat) : Bool := !(n == 7 || n == 11 || n == 13 || n == 14)
theorem part_cases {n : Nat} (h : 1 ≤ n ∧ n ≤ 16) : n = 1 ∨ n = 2 ∨ n = 3 ∨ n = 4 ∨ n = 5 ∨ n = 6 ∨ n = 7 ∨ n = 8 ∨ n = 9 ∨ n = 10 ∨ n = 11 ∨ n = 12 ∨ n = 13 ∨ n = 14 ∨ n = 15 ∨ n = 16 := by omega
theorem c110_1 {d lim : Nat} {h : Heap} : E.call (d + 1) lim 110 [i64 1] h = some (.tuple #[v3 (0, 0, 0), .bool true], h) := by
  refine call1 fn110 rfl (by simp [ef110]) ?_
  simp [ef110, wrapL, qmod, qdiv, wpC_unroll, wpI_step, E_fuel', St.tidy]
theorem c110_2 {d lim : Nat} {h : Heap} : E.call (d + 1) lim 110 [i64 2] h = some (.tuple #[v3 (12, 0, 0), .bool true], h) := by
  refine call1 fn110 rfl (by simp [ef110]) ?_
  simp [ef110, wrapL, qmod, qdiv, wpC_unroll, wpI_step, E_fuel', St.tidy]
theorem c110_3 {d lim : Nat} {h : Heap} : E.call (d + 1) lim 110 [i64 3] h = some (.tuple #[v3 (0, 12, 0), .bool true], h) := by
  refine call1 fn110 rfl (by simp [ef110]) ?_
  simp [ef110, wrapL, qmod, qdiv, wpC_unroll, wpI_step, E_fuel', St.tidy]
theorem c110_4 {d lim : Nat} {h : Heap} : E.call (d + 1) lim 110 [i64 4] h = some (.tuple #[v3 (24, 0, 0), .bool true], h) := by
  refine call1 fn110 rfl (by simp [ef110]) ?_
  simp [ef110, wrapL, qmod, qdiv, wpC_unroll, wpI_step, E_fuel', St.tidy]
theorem c110_5 {d lim : Nat} {h : Heap} : E.call (d + 1) lim 110 [i64 5] h = some (.tuple #[v3 (0, 0, 12), .bool true], h) := by
  refine call1 fn110 rfl (by simp [ef110]) ?_
  simp [ef110, wrapL, qmod, qdiv, wpC_unroll, wpI_step, E_fuel', St.tidy]
theorem c110_6 {d lim : Nat} {h : Heap} : E.call (d + 1) lim 110 [i64 6] h = some (.tuple #[v3 (12, 12, 0), .bool true], h) := by
  refine call1 fn110 rfl (by simp [ef110]) ?_
  simp [ef110, wrapL, qmod, qdiv, wpC_unroll, wpI_step, E_fuel', St.tidy]
theorem c110_7 {d lim : Nat} {h : Heap} : E.call (d + 1) lim 110 [i64 7] h = some (.tuple #[v3 (0, 0, 0), .bool false], h) := by
  refine call1 fn110 rfl (by simp [ef110]) ?_
  simp [ef110, wrapL, qmod, qdiv, wpC_unroll, wpI_step, E_fuel', St.tidy]
theorem c110_8 {d lim : Nat} {h : Heap} : E.call (d + 1) lim 110 [i64 8] h = some (.tuple #[v3 (36, 0, 0), .bool true], h) := by
  refine call1 fn110 rfl (by simp [ef110]) ?_
  simp [ef110, wrapL, qmod, qdiv, wpC_unroll, wpI_step, E_fuel', St.tidy]
theorem c110_9 {d lim : Nat} {h : Heap} : E.call (d + 1) lim 110 [i64 9] h = some (.tuple #[v3 (0, 24, 0), .bool true], h) := by
  refine call1 fn110 rfl (by simp [ef110]) ?_
  simp [ef110, wrapL, qmod, qdiv, wpC_unroll, wpI_step, E_fuel', St.tidy]
theorem c110_10 {d lim : Nat} {h : Heap} : E.call (d + 1) lim 110 [i64 10] h = some (.tuple #[v3 (12, 0, 12), .bool true], h) := by
  refine call1 fn110 rfl (by simp [ef110]) ?_
  simp [ef110, wrapL, qmod, qdiv, wpC_unroll, wpI_step, E_fuel', St.tidy]
theorem c110_11 {d lim : Nat} {h : Heap} : E.call (d + 1) lim 110 [i64 11] h = some (.tuple #[v3 (0, 0, 0), .bool false], h) := by
  refine call1 fn110 rfl (by simp [ef110]) ?_
  simp [ef110, wrapL, qmod, qdiv, wpC_unroll, wpI_step, E_fuel', St.tidy]
theorem c110_12 {d lim : Nat} {h : Heap} : E.call (d + 1) lim 110 [i64 12] h = some (.tuple #[v3 (24, 12, 0), .bool true], h) := by
  refine call1 fn110 rfl (by simp [ef110]) ?_
  simp [ef110, wrapL, qmod, qdiv, wpC_unroll, wpI_step, E_fuel', St.tidy]
theorem c110_13 {d lim : Nat} {h : Heap} : E.call (d + 1) lim 110 [i64 13] h = some (.tuple #[v3 (0, 0, 0), .bool false], h) := by
  refine call1 fn110 rfl (by simp [ef110]) ?_
  simp [ef110, wrapL, qmod, qdiv, wpC_unroll, wpI_step, E_fuel', St.tidy]
theorem c110_14 {d lim : Nat} {h : Heap} : E.call (d + 1) lim 110 [i64 14] h = some (.tuple #[v3 (12, 0, 0), .bool false], h) := by
  refine call1 fn110 rfl (by simp [ef110]) ?_
  simp [ef110, wrapL, qmod, qdiv, wpC_unroll, wpI_step, E_fuel', St.tidy]
theorem c110_15 {d lim : Nat} {h : Heap} : E.call (d + 1) lim 110 [i64 15] h = some (.tuple #[v3 (0, 12, 12), .bool true], h) := by
  refine call1 fn110 rfl (by simp [ef110]) ?_
  simp [ef110, wrapL, qmod, qdiv, wpC_unroll, wpI_step, E_fuel', St.tidy]
theorem c110_16 {d lim : Nat} {h : Heap} : E.call (d + 1) lim 110 [i64 16] h = some (.tuple #[v3 (48, 0, 0), .bool true], h) := by
  refine call1 fn110 rfl (by simp [ef110]) ?_
  simp [ef110, wrapL, qmod, qdiv, wpC_unroll, wpI_step, E_fuel', St.tidy]
theorem c110 {d lim : Nat} {h : Heap} {n : Nat} (hn : 1 ≤ n ∧ n ≤ 16) : E.call (d + 1) lim 110 [i64 n] h = some (.tuple #[v3 (facX n), .bool (facB n)], h) := by
  rcases part_cases hn with rfl | rfl | rfl | rfl | rfl | rfl | rfl | rfl | rfl | rfl | rfl | rfl | rfl | rfl | rfl | rfl
  · exact c110_1
  · exact c110_2
  · exact c110_3
  · exact c110_4
  · exact c110_5
  · exact c110_6
  · exact c110_7
  · exact c110_8
  · exact c110_9
  · exact c110_10
  · exact c110_11
  · exact c110_12
  · exact c110_13
  · exact c110_14
  · exact c110_15
  · exact c110_16
theorem c107_1 {d lim : Nat} {h : Heap} : E.call (d + 1) lim 107 [i64 1] h = some (.tuple #[v3 (0, 0, 0), .bool true], h) := by
  refine call1 fn107 rfl (by simp [ef107]) ?_
  simp [ef107, wrapL, qmod, qdiv, wpC_unroll, wpI_step, E_fuel', St.tidy]
theorem c107_2 {d lim : Nat} {h : Heap} : E.call (d + 1) lim 107 [i64 2] h = some (.tuple #[v3 (12, 0, 0), .bool true], h) := by
  refine call1 fn107 rfl (by simp [ef107]) ?_
  simp [ef107, wrapL, qmod, qdiv, wpC_unroll, wpI_step, E_fuel', St.tidy]
theorem c107_3 {d lim : Nat} {h : Heap} : E.call (d + 1) lim 107 [i64 3] h = some (.tuple #[v3 (0, 12, 0), .bool true], h) := by
  refine call1 fn107 rfl (by simp [ef107]) ?_
  simp [ef107, wrapL, qmod, qdiv, wpC_unroll, wpI_step, E_fuel', St.tidy]
theorem c107_4 {d lim : Nat} {h : Heap} : E.call (d + 1) lim 107 [i64 4] h = some (.tuple #[v3 (24, 0, 0), .bool true], h) := by
  refine call1 fn107 rfl (by simp [ef107]) ?_
  simp [ef107, wrapL, qmod, qdiv, wpC_unroll, wpI_step, E_fuel', St.tidy]
theorem c107_5 {d lim : Nat} {h : Heap} : E.call (d + 1) lim 107 [i64 5] h = some (.tuple #[v3 (0, 0, 12), .bool true], h) := by
  refine call1 fn107 rfl (by simp [ef107]) ?_
  simp [ef107, wrapL, qmod, qdiv, wpC_unroll, wpI_step, E_fuel', St.tidy]
theorem c107_6 {d lim : Nat} {h : Heap} : E.call (d + 1) lim 107 [i64 6] h = some (.tuple #[v3 (12, 12, 0), .bool true], h) := by
  refine call1 fn107 rfl (by simp [ef107]) ?_
  simp [ef107, wrapL, qmod, qdiv, wpC_unroll, wpI_step, E_fuel', St.tidy]
theorem c107_7 {d lim : Nat} {h : Heap} : E.call (d + 1) lim 107 [i64 7] h = some (.tuple #[v3 (0, 0, 0), .bool false], h) := by
  refine call1 fn107 rfl (by simp [ef107]) ?_
  simp [ef107, wrapL, qmod, qdiv, wpC_unroll, wpI_step, E_fuel', St.tidy]
theorem c107_8 {d lim : Nat} {h : Heap} : E.call (d + 1) lim 107 [i64 8] h = some (.tuple #[v3 (36, 0, 0), .bool true], h) := by
  refine call1 fn107 rfl (by simp [ef107]) ?_
  simp [ef107, wrapL, qmod, qdiv, wpC_unroll, wpI_step, E_fuel', St.tidy]
theorem c107_9 {d lim : Nat} {h : Heap} : E.call (d + 1) lim 107 [i64 9] h = some (.tuple #[v3 (0, 24, 0), .bool true], h) := by
  refine call1 fn107 rfl (by simp [ef107]) ?_
  simp [ef107, wrapL, qmod, qdiv, wpC_unroll, wpI_step, E_fuel', St.tidy]
theorem c107_10 {d lim : Nat} {h : Heap} : E.call (d + 1) lim 107 [i64 10] h = some (.tuple #[v3 (12, 0, 12), .bool true], h) := by
  refine call1 fn107 rfl (by simp [ef107]) ?_
  simp [ef107, wrapL, qmod, qdiv, wpC_unroll, wpI_step, E_fuel', St.tidy]
theorem c107_11 {d lim : Nat} {h : Heap} : E.call (d + 1) lim 107 [i64 11] h = some (.tuple #[v3 (0, 0, 0), .bool false], h) := by
  refine call1 fn107 rfl (by simp [ef107]) ?_
  simp [ef107, wrapL, qmod, qdiv, wpC_unroll, wpI_step, E_fuel', St.tidy]
theorem c107_12 {d lim : Nat} {h : Heap} : E.call (d + 1) lim 107 [i64 12] h = some (.tuple #[v3 (24, 12, 0), .bool true], h) := by
  refine call1 fn107 rfl (by simp [ef107]) ?_
  simp [ef107, wrapL, qmod, qdiv, wpC_unroll, wpI_step, E_fuel', St.tidy]
theorem c107_13 {d lim : Nat} {h : Heap} : E.call (d + 1) lim 107 [i64 13] h = some (.tuple #[v3 (0, 0, 0), .bool false], h) := by
  refine call1 fn107 rfl (by simp [ef107]) ?_
  simp [ef107, wrapL, qmod, qdiv, wpC_unroll, wpI_step, E_fuel', St.tidy]
theorem c107_14 {d lim : Nat} {h : Heap} : E.call (d + 1) lim 107 [i64 14] h = some (.tuple #[v3 (12, 0, 0), .bool false], h) := by
  refine call1 fn107 rfl (by simp [ef107]) ?_
  simp [ef107, wrapL, qmod, qdiv, wpC_unroll, wpI_step, E_fuel', St.tidy]
theorem c107_15 {d lim : Nat} {h : Heap} : E.call (d + 1) lim 107 [i64 15] h = some (.tuple #[v3 (0, 12, 12), .bool true], h) := by
  refine call1 fn107 rfl (by simp [ef107]) ?_
  simp [ef107, wrapL, qmod, qdiv, wpC_unroll, wpI_step, E_fuel', St.tidy]
theorem c107_16 {d lim : Nat} {h : Heap} : E.call (d + 1) lim 107 [i64 16] h = some (.tuple #[v3 (48, 0, 0), .bool true], h) := by
  refine call1 fn107 rfl (by simp [ef107]) ?_
  simp [ef107, wrapL, qmod, qdiv, wpC_unroll, wpI_step, E_fuel', St.tidy]
theorem c107 {d lim : Nat} {h : Heap} {n : Nat} (hn : 1 ≤ n ∧ n ≤ 16) : E.call (d + 1) lim 107 [i64 n] h = some (.tuple #[v3 (facX n), .bool (facB n)], h) := by
  rcases part_cases hn with rfl | rfl | rfl | rfl | rfl | rfl | rfl | rfl | rfl | rfl | rfl | rfl | rfl | rfl | rfl | rfl
  · exact c107_1
  · exact c107_2
  · exact c107_3
  · exact c107_4
  · exact c107_5
  · exact c107_6
  · exact c107_7
  · exact c107_8
  · exact c107_9
  · exact c107_10
  · exact c107_11
  · exact c107_12
  · exact c107_13
  · exact c107_14
  · exact c107_15
  · exact c107_16
/-- The check of a test. -/
def chkX (n m p q : Int) : Int :=
  if within n 0 87 = true ∧ within m 0 87 = true ∧ within p 1 16 = true ∧ within q 1 16 = true then
    (if m ≤ n then 9 else if facB p.toNat = true ∧ facB q.toNat = true then 0 else 15) else 2
theorem part_nat {n : Int} (h : within n 1 16 = true) : ∃ m : Nat, n = m ∧ (1 ≤ m ∧ m ≤ 16) := by
  unfold within at h
  simp at h
  exact ⟨n.toNat, by omega, by omega⟩
theorem c108 {d lim : Nat} {h : Heap} {a : Int} : E.call (d + 1) lim 108 [i64 a] h = some (.bool (within a 0 87), h) := by
  refine call1 fn108 rfl (by simp [ef108]) ?_
  unfold within
  by_cases q : 0 ≤ a <;> simp [ef108, q]
theorem c109 {d lim : Nat} {h : Heap} {a : Int} : E.call (d + 1) lim 109 [i64 a] h = some (.bool (within a 1 16), h) := by
  refine call1 fn109 rfl (by simp [ef109]) ?_
  unfold within
  by_cases q : 1 ≤ a <;> simp [ef109, q]
abbrev v4 (n m p q : Int) : Value := .agg #[i64 n, i64 m, i64 p, i64 q]
theorem c89 {d lim : Nat} {h : Heap} {n m p q : Int} : E.call (d + 3) lim 89 [v4 n m p q] h = some (i64 (chkX n m p q), h) := by
  refine call1 fn89 rfl (by simp [ef89]) ?_
  by_cases hn : within n 0 87 = true
  · by_cases hm : within m 0 87 = true
    · by_cases hp : within p 1 16 = true
      · by_cases hq : within q 1 16 = true
        · by_cases hl : m ≤ n
          · simp [ef89, c108, c109, hn, hm, hp, hq, hl, chkX]
          · obtain ⟨x, rfl, hx⟩ := part_nat hp
            obtain ⟨y, rfl, hy⟩ := part_nat hq
            have k1 := fun lim hh => @c110 (d + 1) lim hh x hx
            have k2 := fun lim hh => @c110 (d + 1) lim hh y hy
            generalize facX x = X at *
            generalize facX y = Y at *
            obtain ⟨x1, x2, x3⟩ := X
            obtain ⟨y1, y2, y3⟩ := Y
            by_cases fx : facB x = true
            · by_cases fy : facB y = true
              · simp [ef89, c108, c109, hn, hm, hp, hq, hl, chkX, k1, k2, fx, fy, wpC_unroll, wpI_step, E_fuel', St.tidy, wrapL]
              · simp [ef89, c108, c109, hn, hm, hp, hq, hl, chkX, k1, k2, fx, fy, wpC_unroll, wpI_step, E_fuel', St.tidy, wrapL]
            · simp [ef89, c108, c109, hn, hm, hp, hq, hl, chkX, k1, k2, fx, wpC_unroll, wpI_step, E_fuel', St.tidy, wrapL]
        · simp [ef89, c108, c109, hn, hm, hp, hq, chkX]
      · simp [ef89, c108, c109, hn, hm, hp, chkX]
    · simp [ef89, c108, c109, hn, hm, chkX]
  · simp [ef89, c108, c109, hn, chkX]
theorem c88 {d lim : Nat} {h : Heap} {n m p q : Int} : E.call (d + 3) lim 88 [v4 n m p q] h = some (i64 (chkX n m p q), h) := by
  refine call1 fn88 rfl (by simp [ef88]) ?_
  by_cases hn : within n 0 87 = true
  · by_cases hm : within m 0 87 = true
    · by_cases hp : within p 1 16 = true
      · by_cases hq : within q 1 16 = true
        · by_cases hl : m ≤ n
          · simp [ef88, c37, c30, hn, hm, hp, hq, hl, chkX]
          · obtain ⟨x, rfl, hx⟩ := part_nat hp
            obtain ⟨y, rfl, hy⟩ := part_nat hq
            have k1 := fun lim hh => @c107 (d + 1) lim hh x hx
            have k2 := fun lim hh => @c107 (d + 1) lim hh y hy
            generalize facX x = X at *
            generalize facX y = Y at *
            obtain ⟨x1, x2, x3⟩ := X
            obtain ⟨y1, y2, y3⟩ := Y
            by_cases fx : facB x = true
            · by_cases fy : facB y = true
              · simp [ef88, c37, c30, hn, hm, hp, hq, hl, chkX, k1, k2, fx, fy]
              · simp [ef88, c37, c30, hn, hm, hp, hq, hl, chkX, k1, k2, fx, fy]
            · simp [ef88, c37, c30, hn, hm, hp, hq, hl, chkX, k1, k2, fx]
        · simp [ef88, c37, c30, hn, hm, hp, hq, chkX]
      · simp [ef88, c37, c30, hn, hm, hp, chkX]
    · simp [ef88, c37, c30, hn, hm, chkX]
  · simp [ef88, c37, c30, hn, chkX]
end U
end Go.Abs
