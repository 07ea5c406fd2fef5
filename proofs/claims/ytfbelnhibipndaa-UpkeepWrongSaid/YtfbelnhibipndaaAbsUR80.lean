/- Chapter 7: tests among a row's arguments. -/
import Derived.Test.YtfbelnhibipndaaAbsUR0
import Derived.Test.YtfbelnhibipndaaAbsUJM
set_option linter.unusedSimpArgs false
set_option linter.unusedVariables false
namespace Go.Abs
namespace U
set_option maxRecDepth 100000
abbrev cP4 : Bool × List CT := (false, [.sl [ctI, ctI, ctI, ctI]])
theorem arg_p4 {d : Nat} {h : Heap} {u : Value} (a : ArgV (d + 1) h cP4 u) : ∃ l : List P4, Sl4 h u l := by
  obtain ⟨l, s, _, _⟩ := typ_slG (k := 4) (by decide) enc4 (fun g => (g 0, g 1, g 2, g 3)) (fun _ => rfl) (fun g j hj => by
    have : j = 0 ∨ j = 1 ∨ j = 2 ∨ j = 3 := by omega
    rcases this with rfl | rfl | rfl | rfl <;> rfl) (a.2 0 _ _ rfl rfl)
  exact ⟨l, s⟩
end U
end Go.Abs
