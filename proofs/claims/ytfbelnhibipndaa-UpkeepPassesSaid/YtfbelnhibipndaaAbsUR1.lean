/- Chapter 7: the laws, from a row's premise. -/
import Derived.Test.YtfbelnhibipndaaAbsUB1
import Derived.Test.YtfbelnhibipndaaAbsUR0
set_option linter.unusedSimpArgs false
set_option linter.unusedVariables false
namespace Go.Abs
namespace U
set_option maxRecDepth 100000
theorem lawR3 : Law 3 [cI1, cI1, cI1] := by
  intro bs us _ k a
  obtain rfl := none_of k (by decide)
  obtain ⟨u, v, w, rfl, a1, a2, a3⟩ := args3 a
  obtain ⟨x, rfl, _⟩ := arg_int a1
  obtain ⟨y, rfl, _⟩ := arg_int a2
  obtain ⟨z, rfl, _⟩ := arg_int a3
  exact ⟨_, law3⟩
end U
end Go.Abs
