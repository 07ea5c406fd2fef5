/- The law ScaleAllowed, from a row's premise. -/
import Derived.Test.YtoloaempiiedgaaGreatDoorAbsQR2
import Derived.Test.YtoloaempiiedgaaGreatDoorAbsQK11
set_option linter.unusedSimpArgs false
set_option linter.unusedVariables false
namespace Go.Abs
namespace Q
set_option maxRecDepth 100000
abbrev ctL : Bool × List CT := (true, [ctI, ctI, ctI, ctI])
theorem arg_limits {d : Nat} {h : Heap} {u : Value} (a : ArgV d h ctL u) : ∃ L : Lm, u = lmV L := by
  obtain ⟨p, q, r, t, rfl, _, _, _, _⟩ := arg_agg4 a
  exact ⟨⟨p, q, r, t⟩, rfl⟩
abbrev ctIs : Bool × List CT := (false, [.sl [ctI]])
theorem arg_ints {d : Nat} {h : Heap} {u : Value} (a : ArgV (d + 1) h ctIs u) : ∃ l : List Int, SlI' h u l := by
  have e : ∀ l : List Int, cS (fun n : Int => [Value.int .i64 n]) l = cI l := by
    intro l
    induction l with
    | nil => rfl
    | cons a r ih => unfold cS cI at ih ⊢; rw [List.flatMap_cons, ih]; rfl
  obtain ⟨l, s, _, _⟩ := typ_slG (k := 1) (by decide) (fun n : Int => [Value.int .i64 n]) (fun g => g 0) (fun _ => rfl) (fun g j hj => by
    obtain rfl : j = 0 := by omega
    rfl) (a.2 0 _ _ rfl rfl)
  rw [e] at s
  exact ⟨l, s⟩
theorem law3 : LawP 3 [ctP, ctL, ctIs] := by
  intro bs us _ _ a
  obtain ⟨v, w, z, rfl, a1, a2, a3⟩ := args3 a
  obtain ⟨t, v, w, wl, l, rfl, s, q⟩ := arg_stringing (d := 5) a1
  obtain ⟨L, rfl⟩ := arg_limits a2
  obtain ⟨G, sg⟩ := arg_ints (d := 5) a3
  exact ⟨_, c3 (d := 29) (sp1 bs) s q sg⟩
end Q
end Go.Abs
