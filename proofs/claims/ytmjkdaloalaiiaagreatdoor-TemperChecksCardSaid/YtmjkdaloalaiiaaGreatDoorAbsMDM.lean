--
import Derived.Test.YtmjkdaloalaiiaaGreatDoorAbsMCN
import Derived.Test.YtmjkdaloalaiiaaGreatDoorAbsMArgs
set_option linter.unusedSimpArgs false
set_option linter.unusedVariables false
namespace Go.Abs
namespace M
set_option maxRecDepth 100000
set_option maxHeartbeats 0
theorem pit_pt (x : X3) : ∃ a b c e, pit x = pt a b c e := ⟨_, _, _, _, rfl⟩
theorem intV_ok {nm : ByteArray} {P S : Nat → Int} {lo hi : Nat} (h : chkT nm P S = 0) (h1 : isNote lo = true) (h2 : isNote hi = true) : intV nm P S lo hi = (pit (intX P S lo hi), 0) := by simp [intV, h, h1, h2]
end M
end Go.Abs
namespace Go.Abs
namespace M
set_option maxRecDepth 100000
set_option maxHeartbeats 0
theorem wrapL {n : Int} (h1 : -9223372036854775808 ≤ n) (h2 : n < 9223372036854775808) : IntKind.wrap .i64 n = n := wrap_eq (by omega) (by omega)
def eqN : ByteArray := ⟨#[101, 113, 117, 97, 108]⟩
def eqC : List Value := [.string ⟨#[101, 113, 117, 97, 108]⟩, i64 1, i64 1, i64 1, i64 1, i64 1, i64 1, i64 1, i64 1, i64 1, i64 1, i64 1, i64 1, i64 0, i64 0, i64 0, i64 0, i64 0, i64 0, i64 0, i64 0, i64 0, i64 0, i64 0, i64 0]
theorem c34e {d lim : Nat} {h : Heap} : E.call (d + 1) lim 34 [.string ⟨#[101, 113, 117, 97, 108]⟩] h = some (.tuple #[.agg eqC.toArray, .bool true], h) := by
 refine call1 fn34 rfl (by simp [ef34]) ?_
 simp [ef34, wrapL, wpC_unroll, wpI_step, E_fuel, St.tidy, eqC]
theorem c14 {d lim : Nat} {h : Heap} : E.call (d + 2) lim 14 [] h = some (.agg eqC.toArray, h) := by
 refine call1 fn14 rfl (by simp [ef14]) ?_
 have k : ∀ lim hh, E.call (d + 1) lim 34 [.string ⟨#[101, 113, 117, 97, 108]⟩] hh = some (.tuple #[.agg eqC.toArray, .bool true], hh) := fun _ _ => c34e
 unfold eqC at k ⊢
 simp [ef14, k]
theorem tmE : Tm eqC eqN (fun _ => 1) (fun _ => 0) := ⟨rfl, rfl, fun i hi => by
 have : i = 0 ∨ i = 1 ∨ i = 2 ∨ i = 3 ∨ i = 4 ∨ i = 5 ∨ i = 6 ∨ i = 7 ∨ i = 8 ∨ i = 9 ∨ i = 10 ∨ i = 11 := by omega
 rcases this with rfl | rfl | rfl | rfl | rfl | rfl | rfl | rfl | rfl | rfl | rfl | rfl <;> rfl, fun i hi => by
 have : i = 0 ∨ i = 1 ∨ i = 2 ∨ i = 3 ∨ i = 4 ∨ i = 5 ∨ i = 6 ∨ i = 7 ∨ i = 8 ∨ i = 9 ∨ i = 10 ∨ i = 11 := by omega
 rcases this with rfl | rfl | rfl | rfl | rfl | rfl | rfl | rfl | rfl | rfl | rfl | rfl <;> rfl⟩
theorem chkE : chkT eqN (fun _ => 1) (fun _ => 0) = 0 := by decide +kernel
theorem intE : intV eqN (fun _ => 1) (fun _ => 0) 48 51 = (pt 1 0 0 4, 0) := by
 have e := intV_ok (lo := 48) (hi := 51) chkE (by decide) (by decide)
 simp only [Int.cast_ofNat_Int] at e
 have k : pit (intX (fun _ => 1) (fun _ => 0) 48 51) = pt 1 0 0 4 := by kernel_rfl
 rw [e, k]
theorem c56 {d lim : Nat} {h : Heap} {n : Int} : E.call (d + 1) lim 56 [i64 n] h = some (.bool (within n 1 16), h) := by
 refine call1 fn56 rfl (by simp [ef56]) ?_
 simp [ef56, within]
 grind
end M
end Go.Abs
namespace Go.Abs
namespace M
set_option maxRecDepth 100000
set_option maxHeartbeats 0
def nt : Nat → Int
 | 0 => 36
 | i + 1 => if 44 < nt i + 7 then nt i - 5 else nt i + 7
def bea : Nat → List Value
 | 0 => [i64 48, i64 36]
 | i + 1 => bea i ++ [i64 (nt i), i64 (nt (i + 1))]
theorem nt_b : ∀ i, 32 ≤ nt i ∧ nt i ≤ 44
 | 0 => by decide
 | i + 1 => by have := nt_b i; simp only [nt]; split <;> omega
theorem bea_len : ∀ i, (bea i).length = 2 * (i + 1)
 | 0 => rfl
 | i + 1 => by simp [bea, bea_len i]; omega
theorem bea_plain : ∀ i, (bea i).all plainV = true
 | 0 => rfl
 | i + 1 => by simp [bea, bea_plain i, plainV]
theorem bea_one (i : Nat) : (bea i ++ [i64 (nt i), i64 (nt (i + 1))]) = bea (i + 1) := rfl
theorem c16 {d lim : Nat} {h : Heap} : E.call (d + 1) lim 16 [] h = some (.slice (some ⟨h.length, 0, none⟩) 13 2, h ++ [some ⟨bea 11 ++ [i64 44, i64 32], true⟩]) := by
 refine call_pure fn16 rfl (by simp [ef16]) ?_
 simp [ef16]
 refine wpC_loop (fun q st => ∃ i, q = 11 - i ∧ i ≤ 11 ∧ st = ⟨[(1, .slice (some ⟨h.length, 0, none⟩) (i + 1) 2), (2, i64 (nt i))], h.freeze ++ [some ⟨bea i, true⟩]⟩) 11 (by show 11 < 2 ^ 64; omega) ?_ ?_
 ·simp [St.tidy]
  exact ⟨0, by omega, by omega, by simp [bea, nt]⟩
 ·rintro q hq _ ⟨i, rfl, hi, rfl⟩
  have bl := bea_len i
  have bp := bea_plain i
  have bp' := bea_plain (i + 1)
  by_cases hlt : i < 11
  ·have h1 : ((i : Int) + 1) < 12 := by omega
   obtain ⟨n1, n2⟩ := nt_b i
   have w7 : IntKind.wrap .i64 (nt i + 7) = nt i + 7 := wrapL (by omega) (by omega)
   have w5 : IntKind.wrap .i64 (nt i - 5) = nt i - 5 := wrapL (by omega) (by omega)
   have hb := bea_one i
   by_cases hg : 44 < nt i + 7
   ·have e : nt (i + 1) = nt i - 5 := by simp [nt, hg]
    rw [e] at hb
    have mm : (i + 1) * 2 = 2 * (i + 1) := by omega
    simp [h1, Int.not_le.2 h1, w7, w5, hg, E.append, E.added, Value.oneCell', maxLen, bl, mm, St.tidy, hb, bp']
    exact ⟨⟨by omega, by omega⟩, 11 - (i + 1), by omega, i + 1, rfl, by omega, ⟨rfl, e.symm⟩, rfl⟩
   ·have e : nt (i + 1) = nt i + 7 := by simp [nt, hg]
    rw [e] at hb
    have mm : (i + 1) * 2 = 2 * (i + 1) := by omega
    simp [h1, Int.not_le.2 h1, w7, w5, hg, E.append, E.added, Value.oneCell', maxLen, bl, mm, St.tidy, hb, bp']
    exact ⟨⟨by omega, by omega⟩, 11 - (i + 1), by omega, i + 1, rfl, by omega, ⟨rfl, e.symm⟩, rfl⟩
  ·obtain rfl : i = 11 := by omega
   have bq : (bea 11 ++ [i64 44, i64 32]).all plainV = true := by simp [bp, plainV]
   simp [E.append, E.added, Value.oneCell', maxLen, bl, St.tidy]
   simp [bea, nt]
end M
end Go.Abs
namespace Go.Abs
namespace M
set_option maxRecDepth 100000
set_option maxHeartbeats 0
def facX : Nat → X3
 | 1 => (0, 0, 0)
 | 2 => (12, 0, 0)
 | 3 => (0, 12, 0)
 | 4 => (24, 0, 0)
 | 5 => (0, 0, 12)
 | 6 => (12, 12, 0)
 | 7 => (0, 0, 0)
 | 8 => (36, 0, 0)
 | 9 => (0, 24, 0)
 | 10 => (12, 0, 12)
 | 11 => (0, 0, 0)
 | 12 => (24, 12, 0)
 | 13 => (0, 0, 0)
 | 14 => (12, 0, 0)
 | 15 => (0, 12, 12)
 | 16 => (48, 0, 0)
 | _ => (0, 0, 0)
def facB (n : Nat) : Bool := !(n == 7 || n == 11 || n == 13 || n == 14)
theorem c57_1 {d lim : Nat} {h : Heap} : E.call (d + 1) lim 57 [i64 1] h = some (.tuple #[v3 (0, 0, 0), .bool true], h) := by
 refine call1 fn57 rfl (by simp [ef57]) ?_
 simp [ef57, wrapL, qmod, qdiv, wpC_unroll, wpI_step, E_fuel, St.tidy]
theorem c57_2 {d lim : Nat} {h : Heap} : E.call (d + 1) lim 57 [i64 2] h = some (.tuple #[v3 (12, 0, 0), .bool true], h) := by
 refine call1 fn57 rfl (by simp [ef57]) ?_
 simp [ef57, wrapL, qmod, qdiv, wpC_unroll, wpI_step, E_fuel, St.tidy]
theorem c57_3 {d lim : Nat} {h : Heap} : E.call (d + 1) lim 57 [i64 3] h = some (.tuple #[v3 (0, 12, 0), .bool true], h) := by
 refine call1 fn57 rfl (by simp [ef57]) ?_
 simp [ef57, wrapL, qmod, qdiv, wpC_unroll, wpI_step, E_fuel, St.tidy]
theorem c57_4 {d lim : Nat} {h : Heap} : E.call (d + 1) lim 57 [i64 4] h = some (.tuple #[v3 (24, 0, 0), .bool true], h) := by
 refine call1 fn57 rfl (by simp [ef57]) ?_
 simp [ef57, wrapL, qmod, qdiv, wpC_unroll, wpI_step, E_fuel, St.tidy]
theorem c57_5 {d lim : Nat} {h : Heap} : E.call (d + 1) lim 57 [i64 5] h = some (.tuple #[v3 (0, 0, 12), .bool true], h) := by
 refine call1 fn57 rfl (by simp [ef57]) ?_
 simp [ef57, wrapL, qmod, qdiv, wpC_unroll, wpI_step, E_fuel, St.tidy]
theorem c57_6 {d lim : Nat} {h : Heap} : E.call (d + 1) lim 57 [i64 6] h = some (.tuple #[v3 (12, 12, 0), .bool true], h) := by
 refine call1 fn57 rfl (by simp [ef57]) ?_
 simp [ef57, wrapL, qmod, qdiv, wpC_unroll, wpI_step, E_fuel, St.tidy]
theorem c57_7 {d lim : Nat} {h : Heap} : E.call (d + 1) lim 57 [i64 7] h = some (.tuple #[v3 (0, 0, 0), .bool false], h) := by
 refine call1 fn57 rfl (by simp [ef57]) ?_
 simp [ef57, wrapL, qmod, qdiv, wpC_unroll, wpI_step, E_fuel, St.tidy]
theorem c57_8 {d lim : Nat} {h : Heap} : E.call (d + 1) lim 57 [i64 8] h = some (.tuple #[v3 (36, 0, 0), .bool true], h) := by
 refine call1 fn57 rfl (by simp [ef57]) ?_
 simp [ef57, wrapL, qmod, qdiv, wpC_unroll, wpI_step, E_fuel, St.tidy]
theorem c57_9 {d lim : Nat} {h : Heap} : E.call (d + 1) lim 57 [i64 9] h = some (.tuple #[v3 (0, 24, 0), .bool true], h) := by
 refine call1 fn57 rfl (by simp [ef57]) ?_
 simp [ef57, wrapL, qmod, qdiv, wpC_unroll, wpI_step, E_fuel, St.tidy]
theorem c57_10 {d lim : Nat} {h : Heap} : E.call (d + 1) lim 57 [i64 10] h = some (.tuple #[v3 (12, 0, 12), .bool true], h) := by
 refine call1 fn57 rfl (by simp [ef57]) ?_
 simp [ef57, wrapL, qmod, qdiv, wpC_unroll, wpI_step, E_fuel, St.tidy]
theorem c57_11 {d lim : Nat} {h : Heap} : E.call (d + 1) lim 57 [i64 11] h = some (.tuple #[v3 (0, 0, 0), .bool false], h) := by
 refine call1 fn57 rfl (by simp [ef57]) ?_
 simp [ef57, wrapL, qmod, qdiv, wpC_unroll, wpI_step, E_fuel, St.tidy]
theorem c57_12 {d lim : Nat} {h : Heap} : E.call (d + 1) lim 57 [i64 12] h = some (.tuple #[v3 (24, 12, 0), .bool true], h) := by
 refine call1 fn57 rfl (by simp [ef57]) ?_
 simp [ef57, wrapL, qmod, qdiv, wpC_unroll, wpI_step, E_fuel, St.tidy]
theorem c57_13 {d lim : Nat} {h : Heap} : E.call (d + 1) lim 57 [i64 13] h = some (.tuple #[v3 (0, 0, 0), .bool false], h) := by
 refine call1 fn57 rfl (by simp [ef57]) ?_
 simp [ef57, wrapL, qmod, qdiv, wpC_unroll, wpI_step, E_fuel, St.tidy]
theorem c57_14 {d lim : Nat} {h : Heap} : E.call (d + 1) lim 57 [i64 14] h = some (.tuple #[v3 (12, 0, 0), .bool false], h) := by
 refine call1 fn57 rfl (by simp [ef57]) ?_
 simp [ef57, wrapL, qmod, qdiv, wpC_unroll, wpI_step, E_fuel, St.tidy]
theorem c57_15 {d lim : Nat} {h : Heap} : E.call (d + 1) lim 57 [i64 15] h = some (.tuple #[v3 (0, 12, 12), .bool true], h) := by
 refine call1 fn57 rfl (by simp [ef57]) ?_
 simp [ef57, wrapL, qmod, qdiv, wpC_unroll, wpI_step, E_fuel, St.tidy]
theorem c57_16 {d lim : Nat} {h : Heap} : E.call (d + 1) lim 57 [i64 16] h = some (.tuple #[v3 (48, 0, 0), .bool true], h) := by
 refine call1 fn57 rfl (by simp [ef57]) ?_
 simp [ef57, wrapL, qmod, qdiv, wpC_unroll, wpI_step, E_fuel, St.tidy]
theorem part_cases {n : Nat} (h : 1 ≤ n ∧ n ≤ 16) : n = 1 ∨ n = 2 ∨ n = 3 ∨ n = 4 ∨ n = 5 ∨ n = 6 ∨ n = 7 ∨ n = 8 ∨ n = 9 ∨ n = 10 ∨ n = 11 ∨ n = 12 ∨ n = 13 ∨ n = 14 ∨ n = 15 ∨ n = 16 := by omega
theorem c57 {d lim : Nat} {h : Heap} {n : Nat} (hn : 1 ≤ n ∧ n ≤ 16) : E.call (d + 1) lim 57 [i64 n] h = some (.tuple #[v3 (facX n), .bool (facB n)], h) := by
 rcases part_cases hn with rfl | rfl | rfl | rfl | rfl | rfl | rfl | rfl | rfl | rfl | rfl | rfl | rfl | rfl | rfl | rfl
 ·exact c57_1
 ·exact c57_2
 ·exact c57_3
 ·exact c57_4
 ·exact c57_5
 ·exact c57_6
 ·exact c57_7
 ·exact c57_8
 ·exact c57_9
 ·exact c57_10
 ·exact c57_11
 ·exact c57_12
 ·exact c57_13
 ·exact c57_14
 ·exact c57_15
 ·exact c57_16
end M
end Go.Abs
