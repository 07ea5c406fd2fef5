/- Arguments of some types. -/
import Derived.Test.YtfbelnhibipndaaAbsRowed
import Derived.Test.YtfbelnhibipndaaAbsUA
set_option linter.unusedSimpArgs false
set_option linter.unusedVariables false
namespace Go.Abs
abbrev ctI : CT := .int .i64
theorem args1 {d : Nat} {h : Heap} {c : Bool × List CT} {us : List Value} (a : ArgsV d h [c] us) : ∃ u, us = [u] ∧ ArgV d h c u := by
  match us, a with
  | [u], a => exact ⟨u, rfl, a.1⟩
  | u :: v :: r, a => exact a.2.elim
end Go.Abs
