/- The law ScaleKeeps, from a row's premise. -/
import Derived.Test.YtodofkolnmoliaaDoorAbsXR2
import Derived.Test.YtodofkolnmoliaaDoorAbsXVM
set_option linter.unusedSimpArgs false
set_option linter.unusedVariables false
namespace Go.Abs
namespace X
set_option maxRecDepth 100000
abbrev ctL : Bool × List CT := (true, [ctI, ctI, ctI, ctI])
theorem arg_limits {d : Nat} {h : Heap} {u : Value} (a : ArgV d h ctL u) : ∃ L : Lm, u = lmV L := by
  obtain ⟨p, q, r, t, rfl, _, _, _, _⟩ := arg_agg4 a
  exact ⟨⟨p, q, r, t⟩, rfl⟩
theorem law6 : LawP 6 [ctP, ctL] := by
  intro bs us _ _ a
  obtain ⟨v, w, rfl, a1, a2⟩ := args2 a
  obtain ⟨t, v, w, wl, l, rfl, s, q⟩ := arg_stringing (d := 5) a1
  obtain ⟨L, rfl⟩ := arg_limits a2
  exact ⟨_, c6 (d := 29) (sp1 bs) s q⟩
end X
end Go.Abs
