/- The law ScaleWith, from a row's premise. -/
import Derived.Test.YtodofkolnmoliaaDoorAbsXR2
import Derived.Test.YtodofkolnmoliaaDoorAbsXNN
set_option linter.unusedSimpArgs false
set_option linter.unusedVariables false
namespace Go.Abs
namespace X
set_option maxRecDepth 100000
abbrev ctIs : Bool × List CT := (false, [.sl [ctI]])
theorem arg_ints {d : Nat} {h : Heap} {u : Value} (a : ArgV (d + 1) h ctIs u) : ∃ l : List Int, SlI' h u l := by
  have e : ∀ l : List Int, cS (fun n : Int => [Value.int .i64 n]) l = cI l := by
    intro l
    induction l with
    | nil => rfl
    | cons a r ih => unfold cS cI at ih ⊢; rw [List.flatMap_cons, ih]; rfl
  obtain ⟨l, s, _, _⟩ := typ_slG (k := 1) (by decide) (fun n : Int => [Value.int .i64 n]) (fun g => g 0) (fun _ => rfl) (fun g j hj => by
    obtain rfl : j = 0 := by omega
    rfl) (a.2 0 _ _ rfl rfl)
  rw [e] at s
  exact ⟨l, s⟩
theorem law5 : LawP 5 [ctP, ctIs, ctIs] := by
  intro bs us _ _ a
  obtain ⟨v, w, z, rfl, a1, a2, a3⟩ := args3 a
  obtain ⟨t, v, w, wl, l, rfl, s, q⟩ := arg_stringing (d := 5) a1
  obtain ⟨g, sg⟩ := arg_ints (d := 5) a2
  obtain ⟨ix, sx⟩ := arg_ints (d := 5) a3
  exact ⟨_, c5 (d := 30) (sp1 bs) s q sg sx⟩
end X
end Go.Abs
