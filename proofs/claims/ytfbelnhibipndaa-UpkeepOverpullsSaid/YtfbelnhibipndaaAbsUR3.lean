/- Chapter 7: overpulls, from a row's premise. -/
import Derived.Test.YtfbelnhibipndaaAbsUD1
import Derived.Test.YtfbelnhibipndaaAbsUR0
set_option linter.unusedSimpArgs false
set_option linter.unusedVariables false
namespace Go.Abs
namespace U
set_option maxRecDepth 100000
theorem lawR7 : Law 7 [cP3, cI1] := by
  intro bs us _ k a
  obtain ⟨u, v, rfl, a1, a2⟩ := args2 a
  obtain ⟨l, s⟩ := arg_p3 a1
  obtain ⟨x, rfl, _⟩ := arg_int a2
  exact ⟨_, law7 (bs := bs) (k 1 (by decide)) s⟩
end U
end Go.Abs
