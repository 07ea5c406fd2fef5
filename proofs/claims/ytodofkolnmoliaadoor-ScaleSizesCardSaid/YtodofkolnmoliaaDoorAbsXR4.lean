/- The law ScaleSizes, from a row's premise. -/
import Derived.Test.YtodofkolnmoliaaDoorAbsXR3
import Derived.Test.YtodofkolnmoliaaDoorAbsXQM
set_option linter.unusedSimpArgs false
set_option linter.unusedVariables false
namespace Go.Abs
namespace X
set_option maxRecDepth 100000
theorem law7 : LawP 7 [ctP, (false, [ctI]), ctL] := by
  intro bs us _ _ a
  obtain ⟨v, w, z, rfl, a1, a2, a3⟩ := args3 a
  obtain ⟨t, v, w, wl, l, rfl, s, q⟩ := arg_stringing (d := 5) a1
  obtain ⟨n, rfl, _⟩ := arg_int a2
  obtain ⟨L, rfl⟩ := arg_limits a3
  exact ⟨_, c7 (d := 28) (sp1 bs) s q⟩
end X
end Go.Abs
