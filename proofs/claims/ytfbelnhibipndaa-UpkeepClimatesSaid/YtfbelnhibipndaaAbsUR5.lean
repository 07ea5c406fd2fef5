/- Chapter 7: climates, from a row's premise. -/
import Derived.Test.YtfbelnhibipndaaAbsUF4
import Derived.Test.YtfbelnhibipndaaAbsUR0
set_option linter.unusedSimpArgs false
set_option linter.unusedVariables false
namespace Go.Abs
namespace U
set_option maxRecDepth 100000
abbrev cA2 : Bool × List CT := (true, [ctI, ctI])
theorem lawR4 : Law 4 [cP2, cA2] := by
  intro bs us _ k a
  obtain ⟨u, v, rfl, a1, a2⟩ := args2 a
  obtain ⟨l, s⟩ := arg_p2 a1
  obtain ⟨x, y, rfl, _, _⟩ := arg_agg2 a2
  exact ⟨_, law4 (bs := bs) (c := (x, y)) (k 1 (by decide)) s⟩
end U
end Go.Abs
