/- Chapter 2: the law ScaleClasses, from a row's premise. -/
import Derived.Test.YtodofkolnmoliaaAbsVR1
import Derived.Test.YtodofkolnmoliaaAbsVQ2
set_option linter.unusedSimpArgs false
set_option linter.unusedVariables false
namespace Go.Abs
namespace V
set_option maxRecDepth 100000
theorem arg_ints {d : Nat} {h : Heap} {u : Value} (a : ArgV (d + 1) h (false, [.sl [ctI]]) u) : ∃ l : List Int, SlI' h u l := by
  have e : ∀ l : List Int, cS (fun n : Int => [Value.int .i64 n]) l = cI l := by
    intro l
    induction l with
    | nil => rfl
    | cons a r ih => unfold cS cI at ih ⊢; rw [List.flatMap_cons, ih]; rfl
  obtain ⟨l, s, _, _⟩ := typ_slG (k := 1) (by decide) (fun n : Int => [Value.int .i64 n]) (fun g => g 0) (fun _ => rfl) (fun g j hj => by
    obtain rfl : j = 0 := by omega
    rfl) (a.2 0 _ _ rfl rfl)
  rw [e] at s
  exact ⟨l, s⟩
theorem law8 : Law 8 [(false, [.sl [ctI]]), ctR] := by
  intro bs us _ _ a
  obtain ⟨v, w, rfl, a1, a2⟩ := args2 a
  obtain ⟨l, s⟩ := arg_ints (d := 5) a1
  obtain ⟨p, q, rfl, _, _⟩ := arg_agg2 a2
  exact ⟨_, c8 (d := 31) s⟩
end V
end Go.Abs
