/- Chapter 7: thinning, from a row's premise. -/
import Derived.Test.YtfbelnhibipndaaAbsUN6
import Derived.Test.YtfbelnhibipndaaAbsUR80
set_option linter.unusedSimpArgs false
set_option linter.unusedVariables false
namespace Go.Abs
namespace U
set_option maxRecDepth 100000
theorem lawR13 : Law 13 [cP4] := by
  intro bs us _ k a
  obtain ⟨u, rfl, a1⟩ := args1 a
  obtain ⟨l, s⟩ := arg_p4 a1
  exact ⟨_, law13 (bs := bs) (k 1 (by decide)) s⟩
end U
end Go.Abs
