/- Chapter 7: the wrong string, from a row's premise. -/
import Derived.Test.YtfbelnhibipndaaAbsUO14
import Derived.Test.YtfbelnhibipndaaAbsUR80
set_option linter.unusedSimpArgs false
set_option linter.unusedVariables false
namespace Go.Abs
namespace U
set_option maxRecDepth 100000
theorem lawR12 : Law 12 [cP4, cI1] := by
  intro bs us _ k a
  obtain ⟨u, v, rfl, a1, a2⟩ := args2 a
  obtain ⟨l, s⟩ := arg_p4 a1
  obtain ⟨x, rfl, _⟩ := arg_int a2
  exact ⟨_, law12 (bs := bs) (k 1 (by decide)) s⟩
end U
end Go.Abs
