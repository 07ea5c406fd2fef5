/- Chapter 7: drifts, from a row's premise. -/
import Derived.Test.YtfbelnhibipndaaAbsUG5
import Derived.Test.YtfbelnhibipndaaAbsUR0
set_option linter.unusedSimpArgs false
set_option linter.unusedVariables false
namespace Go.Abs
namespace U
set_option maxRecDepth 100000
abbrev cA4 : Bool × List CT := (true, [ctI, ctI, ctI, ctI])
theorem lawR5 : Law 5 [cA4, cP2, cI1] := by
  intro bs us _ k a
  obtain ⟨u, v, w, rfl, a1, a2, a3⟩ := args3 a
  obtain ⟨s, m, r, t, rfl, _⟩ := arg_agg4 a1
  obtain ⟨l, sl⟩ := arg_p2 a2
  obtain ⟨x, rfl, _⟩ := arg_int a3
  exact ⟨_, law5 (bs := bs) (k 1 (by decide)) sl⟩
end U
end Go.Abs
