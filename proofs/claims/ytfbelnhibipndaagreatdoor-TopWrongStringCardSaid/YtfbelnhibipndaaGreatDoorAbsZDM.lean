/- The law TemperNotes. -/
import Derived.Test.YtfbelnhibipndaaGreatDoorAbsZCN
import Derived.Test.YtfbelnhibipndaaGreatDoorAbsZArgs
set_option linter.unusedSimpArgs false
set_option linter.unusedVariables false
/- The law TemperNotes. -/
namespace Go.Abs
namespace Z
set_option maxRecDepth 100000
set_option maxHeartbeats 0
theorem pit_pt (x : X3) : ∃ a b c e, pit x = pt a b c e := ⟨_, _, _, _, rfl⟩
end Z
end Go.Abs
/- The equal temperament; partials. -/
namespace Go.Abs
namespace Z
set_option maxRecDepth 100000
set_option maxHeartbeats 0
theorem wrapL {n : Int} (h1 : -9223372036854775808 ≤ n) (h2 : n < 9223372036854775808) : IntKind.wrap .i64 n = n := wrap_eq (by omega) (by omega)
def eqN : ByteArray := ⟨#[101, 113, 117, 97, 108]⟩
theorem chkE : chkT eqN (fun _ => 1) (fun _ => 0) = 0 := by decide +kernel
theorem c83 {d lim : Nat} {h : Heap} {n : Int} : E.call (d + 1) lim 83 [i64 n] h = some (.bool (within n 1 16), h) := by
  refine call1 fn83 rfl (by simp [ef83]) ?_
  simp [ef83, within]
  grind
end Z
end Go.Abs
/- The bearings. -/
namespace Go.Abs
namespace Z
set_option maxRecDepth 100000
set_option maxHeartbeats 0
end Z
end Go.Abs
/- Partials: their exponents. -/
namespace Go.Abs
namespace Z
set_option maxRecDepth 100000
set_option maxHeartbeats 0
/-- The exponents of a partial, and whether they are all. -/
def facX : Nat → X3
  | 1 => (0, 0, 0)
  | 2 => (12, 0, 0)
  | 3 => (0, 12, 0)
  | 4 => (24, 0, 0)
  | 5 => (0, 0, 12)
  | 6 => (12, 12, 0)
  | 7 => (0, 0, 0)
  | 8 => (36, 0, 0)
  | 9 => (0, 24, 0)
  | 10 => (12, 0, 12)
  | 11 => (0, 0, 0)
  | 12 => (24, 12, 0)
  | 13 => (0, 0, 0)
  | 14 => (12, 0, 0)
  | 15 => (0, 12, 12)
  | 16 => (48, 0, 0)
  | _ => (0, 0, 0)
def facB (n : Nat) : Bool := !(n == 7 || n == 11 || n == 13 || n == 14)
theorem c84_1 {d lim : Nat} {h : Heap} : E.call (d + 1) lim 84 [i64 1] h = some (.tuple #[v3 (0, 0, 0), .bool true], h) := by
  refine call1 fn84 rfl (by simp [ef84]) ?_
  simp [ef84, wrapL, qmod, qdiv, wpC_unroll, wpI_step, E_fuel, St.tidy]
theorem c84_2 {d lim : Nat} {h : Heap} : E.call (d + 1) lim 84 [i64 2] h = some (.tuple #[v3 (12, 0, 0), .bool true], h) := by
  refine call1 fn84 rfl (by simp [ef84]) ?_
  simp [ef84, wrapL, qmod, qdiv, wpC_unroll, wpI_step, E_fuel, St.tidy]
theorem c84_3 {d lim : Nat} {h : Heap} : E.call (d + 1) lim 84 [i64 3] h = some (.tuple #[v3 (0, 12, 0), .bool true], h) := by
  refine call1 fn84 rfl (by simp [ef84]) ?_
  simp [ef84, wrapL, qmod, qdiv, wpC_unroll, wpI_step, E_fuel, St.tidy]
theorem c84_4 {d lim : Nat} {h : Heap} : E.call (d + 1) lim 84 [i64 4] h = some (.tuple #[v3 (24, 0, 0), .bool true], h) := by
  refine call1 fn84 rfl (by simp [ef84]) ?_
  simp [ef84, wrapL, qmod, qdiv, wpC_unroll, wpI_step, E_fuel, St.tidy]
theorem c84_5 {d lim : Nat} {h : Heap} : E.call (d + 1) lim 84 [i64 5] h = some (.tuple #[v3 (0, 0, 12), .bool true], h) := by
  refine call1 fn84 rfl (by simp [ef84]) ?_
  simp [ef84, wrapL, qmod, qdiv, wpC_unroll, wpI_step, E_fuel, St.tidy]
theorem c84_6 {d lim : Nat} {h : Heap} : E.call (d + 1) lim 84 [i64 6] h = some (.tuple #[v3 (12, 12, 0), .bool true], h) := by
  refine call1 fn84 rfl (by simp [ef84]) ?_
  simp [ef84, wrapL, qmod, qdiv, wpC_unroll, wpI_step, E_fuel, St.tidy]
theorem c84_7 {d lim : Nat} {h : Heap} : E.call (d + 1) lim 84 [i64 7] h = some (.tuple #[v3 (0, 0, 0), .bool false], h) := by
  refine call1 fn84 rfl (by simp [ef84]) ?_
  simp [ef84, wrapL, qmod, qdiv, wpC_unroll, wpI_step, E_fuel, St.tidy]
theorem c84_8 {d lim : Nat} {h : Heap} : E.call (d + 1) lim 84 [i64 8] h = some (.tuple #[v3 (36, 0, 0), .bool true], h) := by
  refine call1 fn84 rfl (by simp [ef84]) ?_
  simp [ef84, wrapL, qmod, qdiv, wpC_unroll, wpI_step, E_fuel, St.tidy]
theorem c84_9 {d lim : Nat} {h : Heap} : E.call (d + 1) lim 84 [i64 9] h = some (.tuple #[v3 (0, 24, 0), .bool true], h) := by
  refine call1 fn84 rfl (by simp [ef84]) ?_
  simp [ef84, wrapL, qmod, qdiv, wpC_unroll, wpI_step, E_fuel, St.tidy]
theorem c84_10 {d lim : Nat} {h : Heap} : E.call (d + 1) lim 84 [i64 10] h = some (.tuple #[v3 (12, 0, 12), .bool true], h) := by
  refine call1 fn84 rfl (by simp [ef84]) ?_
  simp [ef84, wrapL, qmod, qdiv, wpC_unroll, wpI_step, E_fuel, St.tidy]
theorem c84_11 {d lim : Nat} {h : Heap} : E.call (d + 1) lim 84 [i64 11] h = some (.tuple #[v3 (0, 0, 0), .bool false], h) := by
  refine call1 fn84 rfl (by simp [ef84]) ?_
  simp [ef84, wrapL, qmod, qdiv, wpC_unroll, wpI_step, E_fuel, St.tidy]
theorem c84_12 {d lim : Nat} {h : Heap} : E.call (d + 1) lim 84 [i64 12] h = some (.tuple #[v3 (24, 12, 0), .bool true], h) := by
  refine call1 fn84 rfl (by simp [ef84]) ?_
  simp [ef84, wrapL, qmod, qdiv, wpC_unroll, wpI_step, E_fuel, St.tidy]
theorem c84_13 {d lim : Nat} {h : Heap} : E.call (d + 1) lim 84 [i64 13] h = some (.tuple #[v3 (0, 0, 0), .bool false], h) := by
  refine call1 fn84 rfl (by simp [ef84]) ?_
  simp [ef84, wrapL, qmod, qdiv, wpC_unroll, wpI_step, E_fuel, St.tidy]
theorem c84_14 {d lim : Nat} {h : Heap} : E.call (d + 1) lim 84 [i64 14] h = some (.tuple #[v3 (12, 0, 0), .bool false], h) := by
  refine call1 fn84 rfl (by simp [ef84]) ?_
  simp [ef84, wrapL, qmod, qdiv, wpC_unroll, wpI_step, E_fuel, St.tidy]
theorem c84_15 {d lim : Nat} {h : Heap} : E.call (d + 1) lim 84 [i64 15] h = some (.tuple #[v3 (0, 12, 12), .bool true], h) := by
  refine call1 fn84 rfl (by simp [ef84]) ?_
  simp [ef84, wrapL, qmod, qdiv, wpC_unroll, wpI_step, E_fuel, St.tidy]
theorem c84_16 {d lim : Nat} {h : Heap} : E.call (d + 1) lim 84 [i64 16] h = some (.tuple #[v3 (48, 0, 0), .bool true], h) := by
  refine call1 fn84 rfl (by simp [ef84]) ?_
  simp [ef84, wrapL, qmod, qdiv, wpC_unroll, wpI_step, E_fuel, St.tidy]
theorem part_cases {n : Nat} (h : 1 ≤ n ∧ n ≤ 16) : n = 1 ∨ n = 2 ∨ n = 3 ∨ n = 4 ∨ n = 5 ∨ n = 6 ∨ n = 7 ∨ n = 8 ∨ n = 9 ∨ n = 10 ∨ n = 11 ∨ n = 12 ∨ n = 13 ∨ n = 14 ∨ n = 15 ∨ n = 16 := by omega
theorem c84 {d lim : Nat} {h : Heap} {n : Nat} (hn : 1 ≤ n ∧ n ≤ 16) : E.call (d + 1) lim 84 [i64 n] h = some (.tuple #[v3 (facX n), .bool (facB n)], h) := by
  rcases part_cases hn with rfl | rfl | rfl | rfl | rfl | rfl | rfl | rfl | rfl | rfl | rfl | rfl | rfl | rfl | rfl | rfl
  · exact c84_1
  · exact c84_2
  · exact c84_3
  · exact c84_4
  · exact c84_5
  · exact c84_6
  · exact c84_7
  · exact c84_8
  · exact c84_9
  · exact c84_10
  · exact c84_11
  · exact c84_12
  · exact c84_13
  · exact c84_14
  · exact c84_15
  · exact c84_16
end Z
end Go.Abs
