--
import Derived.Test.YtmjkdaloalaiiaaGreatDoorAbsRowM
import Derived.Test.YtmjkdaloalaiiaaGreatDoorAbsMGM
set_option linter.unusedSimpArgs false
set_option linter.unusedVariables false
namespace Go.Abs
theorem typ_str {d : Nat} {h : Heap} {v : Value} (t : Typ d h .str v) : ∃ s, v = .string s ∧ s.size ≤ maxLen := by
 cases d <;> exact t
theorem arg_str {d : Nat} {h : Heap} {u : Value} (a : ArgV d h (false, [.str]) u) : ∃ s, u = .string s ∧ s.size ≤ maxLen := typ_str (a.2 0 _ _ rfl rfl)
theorem args1 {d : Nat} {h : Heap} {c : Bool × List CT} {us : List Value} (a : ArgsV d h [c] us) : ∃ u, us = [u] ∧ ArgV d h c u := by
 match us, a with
 | [u], a => exact ⟨u, rfl, a.1⟩
 | u :: v :: r, a => exact a.2.elim
end Go.Abs
