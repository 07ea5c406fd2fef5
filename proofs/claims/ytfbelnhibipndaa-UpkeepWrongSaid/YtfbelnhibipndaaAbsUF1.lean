/- Chapter 7: climates: checked, searched. -/
import Derived.Test.YtfbelnhibipndaaAbsUD0
set_option linter.unusedSimpArgs false
set_option linter.unusedVariables false
namespace Go.Abs
namespace U
set_option maxRecDepth 100000
set_option maxHeartbeats 0
theorem wrapU2 {n : Int} (h0 : 0 ≤ n) (h : n < 18446744073709551616) : IntKind.wrap .u64 n = n := by
  have e : IntKind.wrap .u64 n = n % 18446744073709551616 := by simp [IntKind.wrap, IntKind.bits, IntKind.signed]
  rw [e]; exact Int.emod_eq_of_lt h0 h
theorem bin_shr1 (a : Int) : E.bin .shr (.int .u64 a) (.int .u64 1) = some (.int .u64 (a / 2)) := by
  show semPure (binOp .shr 0 (.int .u64 a) (.int .u64 1)) = _
  rw [show binOp .shr 0 (.int .u64 a) (.int .u64 1) = Op.shift .shr .u64 a .u64 1 by simp [binOp]]
  simp [Op.shift, semPure]
  have e : a.fdiv (2 ^ min 1 IntKind.u64.bits) = a / 2 := by
    rw [show ((2 : Int) ^ min 1 IntKind.u64.bits) = 2 from rfl]
    exact Int.fdiv_eq_ediv_of_nonneg a (by decide)
  rw [e]; rfl
def cErr (l : List P2) (i : Nat) : Int := if within (at2 l i).1 0 100000 = true ∧ within (at2 l i).2 0 1000 = true then (if 0 < i ∧ (at2 l i).1 ≤ (at2 l (i - 1)).1 then 9 else 0) else 2
def chkC (l : List P2) : Int := if l.length = 0 then 12 else if 200 < l.length then 8 else fstE (cErr l) l.length 0
/-- The readings are right. -/
structure COk (l : List P2) : Prop where
  pos : 0 < l.length
  len : l.length ≤ 200
  day : ∀ i, i < l.length → 0 ≤ (at2 l i).1 ∧ (at2 l i).1 ≤ 100000
  hum : ∀ i, i < l.length → 0 ≤ (at2 l i).2 ∧ (at2 l i).2 ≤ 1000
  asc : ∀ i, i + 1 < l.length → (at2 l i).1 < (at2 l (i + 1)).1
theorem within_iffC {a b c : Int} : within a b c = true ↔ b ≤ a ∧ a ≤ c := by simp [within]
theorem COk.of {l : List P2} (h : chkC l = 0) : COk l := by
  unfold chkC at h
  split at h
  · contradiction
  · rename_i h0
    split at h
    · contradiction
    · rename_i h200
      have k := (fstE_all _ 0 rfl).1 h
      have a : ∀ i, i < l.length → within (at2 l i).1 0 100000 = true ∧ within (at2 l i).2 0 1000 = true ∧ ¬ (0 < i ∧ (at2 l i).1 ≤ (at2 l (i - 1)).1) := fun i hi => by
        have := k i (by omega) hi
        unfold cErr at this
        split at this
        · rename_i q
          split at this
          · contradiction
          · rename_i q2; exact ⟨q.1, q.2, q2⟩
        · contradiction
      refine ⟨by omega, by omega, fun i hi => within_iffC.1 (a i hi).1, fun i hi => within_iffC.1 (a i hi).2.1, fun i hi => ?_⟩
      have := (a (i + 1) hi).2.2
      simp only [Nat.add_sub_cancel] at this
      omega
theorem COk.lt {l : List P2} (O : COk l) : ∀ (k i : Nat), i + k + 1 < l.length → (at2 l i).1 < (at2 l (i + k + 1)).1
  | 0, i, h => O.asc i h
  | k + 1, i, h => by
    have := O.lt k i (by omega)
    have := O.asc (i + k + 1) (by omega)
    rw [show i + (k + 1) + 1 = i + k + 1 + 1 by omega]; omega
theorem COk.mono {l : List P2} (O : COk l) {i j : Nat} (h : i < j) (hj : j < l.length) : (at2 l i).1 < (at2 l j).1 := by
  have := O.lt (j - i - 1) i (by omega)
  rwa [show i + (j - i - 1) + 1 = j by omega] at this
theorem c125 {d lim : Nat} {h : Heap} {a : Int} : E.call (d + 1) lim 125 [i64 a] h = some (.bool false, h) := by
  refine call1 fn125 rfl (by simp [ef125]) ?_
  simp [ef125]
end U
end Go.Abs
