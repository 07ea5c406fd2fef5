--
import Derived.Test.YtmjkdaloalaiiaaGreatDoorAbsNatM
import Derived.Lib.Bytealg
set_option linter.unusedSimpArgs false
set_option linter.unusedVariables false
namespace Go.Abs
def cutB (c : UInt8) : List UInt8 → List (List UInt8)
 | [] => [[]]
 | x :: r => if x = c then [] :: cutB c r else match cutB c r with | [] => [] | w :: ws => (x :: w) :: ws
theorem cutB_ne (c : UInt8) : ∀ s, cutB c s ≠ []
 | [] => by simp [cutB]
 | x :: r => by
  unfold cutB
  split
  ·simp
  ·split
   ·rename_i h; exact absurd h (cutB_ne c r)
   ·simp
theorem cutB_at {c : UInt8} {b : List UInt8} : ∀ {a : List UInt8}, c ∉ a → cutB c (a ++ c :: b) = a :: cutB c b
 | [], _ => by rw [List.nil_append, cutB, if_pos rfl]
 | x :: r, h => by
  rw [List.mem_cons, not_or] at h
  rw [List.cons_append, cutB, if_neg (fun e => h.1 e.symm), cutB_at h.2]
theorem cutB_no {c : UInt8} : ∀ {a : List UInt8}, c ∉ a → cutB c a = [a]
 | [], _ => rfl
 | x :: r, h => by
  rw [List.mem_cons, not_or] at h
  rw [cutB, if_neg (fun e => h.1 e.symm), cutB_no h.2]
theorem mem_split {c : UInt8} : ∀ {s : List UInt8}, c ∈ s → ∃ a b, s = a ++ c :: b ∧ c ∉ a
 | [], h => by cases h
 | x :: r, h => by
  by_cases e : x = c
  ·exact ⟨[], r, by rw [e, List.nil_append], by simp⟩
  ·obtain ⟨a, b, e1, e2⟩ := mem_split ((List.mem_cons.1 h).resolve_left fun q => e q.symm)
   exact ⟨x :: a, b, by rw [e1, List.cons_append], by rw [List.mem_cons, not_or]; exact ⟨fun q => e q.symm, e2⟩⟩
theorem idx_at {c : UInt8} {b : List UInt8} : ∀ {a : List UInt8}, c ∉ a → Lib.indexByte (a ++ c :: b) c = (a.length : Int)
 | [], _ => by simp [Lib.indexByte]
 | x :: r, h => by
  rw [List.mem_cons, not_or] at h
  rw [List.cons_append, Lib.indexByte, idx_at h.2, if_neg (by simp; exact fun e => h.1 e.symm), if_neg (by simp; try omega)]
  simp
def cw (c : UInt8) (s : List UInt8) : Nat → List (List UInt8) × Nat
 | 0 => ([], 0)
 | i + 1 => if i = s.length ∨ s[i]? = some c then ((cw c s i).1 ++ [(s.take i).drop (cw c s i).2], i + 1) else cw c s i
def IsNum (d : Nat) (s : List UInt8) (n : Int) : Prop := s = dec n ∧ n.natAbs < 10 ^ d
theorem IsNum.eq {d e : Nat} {s : List UInt8} {m n : Int} (a : IsNum d s m) (b : IsNum e s n) : m = n := dec_inj (a.1.symm.trans b.1)
theorem digs_not {n : Nat} {c : UInt8} (h : isDg c = false) : c ∉ digs n := fun q => by
 have := List.all_eq_true.1 (digs_all n) c q
 rw [h] at this; cases this
theorem dec_not {n : Int} {c : UInt8} (h : isDg c = false) (h2 : c ≠ 45) : c ∉ dec n := by
 by_cases a : n < 0
 ·rw [dec_neg a, List.mem_cons, not_or]; exact ⟨h2, digs_not h⟩
 ·rw [dec_nn a]; exact digs_not h
end Go.Abs
