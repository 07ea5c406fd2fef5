/- Chapter 7: hears, from a row's premise. -/
import Derived.Test.YtfbelnhibipndaaAbsUK4
import Derived.Test.YtfbelnhibipndaaAbsUR0
set_option linter.unusedSimpArgs false
set_option linter.unusedVariables false
namespace Go.Abs
namespace U
set_option maxRecDepth 100000
abbrev cP4 : Bool × List CT := (false, [.sl [ctI, ctI, ctI, ctI]])
theorem arg_p4 {d : Nat} {h : Heap} {u : Value} (a : ArgV (d + 1) h cP4 u) : ∃ l : List P4, Sl4 h u l := by
  obtain ⟨l, s, _, _⟩ := typ_slG (k := 4) (by decide) enc4 (fun g => (g 0, g 1, g 2, g 3)) (fun _ => rfl) (fun g j hj => by
    have : j = 0 ∨ j = 1 ∨ j = 2 ∨ j = 3 := by omega
    rcases this with rfl | rfl | rfl | rfl <;> rfl) (a.2 0 _ _ rfl rfl)
  exact ⟨l, s⟩
theorem lawR8 : Law 8 [cP3, cP4] := by
  intro bs us _ k a
  obtain ⟨u, v, rfl, a1, a2⟩ := args2 a
  obtain ⟨g, s⟩ := arg_p3 a1
  obtain ⟨l, t⟩ := arg_p4 a2
  exact ⟨_, law8 (bs := bs) (k 2 (by decide)) s t⟩
end U
end Go.Abs
