/- Chapter 7: raises, from a row's premise. -/
import Derived.Test.YtfbelnhibipndaaAbsUE1
import Derived.Test.YtfbelnhibipndaaAbsUR0
set_option linter.unusedSimpArgs false
set_option linter.unusedVariables false
namespace Go.Abs
namespace U
set_option maxRecDepth 100000
theorem lawR9 : Law 9 [cP3, cIs, cI1] := by
  intro bs us _ k a
  obtain ⟨u, v, w, rfl, a1, a2, a3⟩ := args3 a
  obtain ⟨l, s⟩ := arg_p3 a1
  obtain ⟨g, t, _⟩ := arg_ints a2
  obtain ⟨x, rfl, _⟩ := arg_int a3
  exact ⟨_, law9 (bs := bs) (k 2 (by decide)) s t⟩
end U
end Go.Abs
