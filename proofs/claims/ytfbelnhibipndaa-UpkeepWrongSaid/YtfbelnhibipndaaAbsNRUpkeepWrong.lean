/- The law UpkeepWrong: the row: for every input the call returns true, and each argument reads afterwards as it read before. -/
import Derived.Test.YtfbelnhibipndaaAbsUP
import Derived.Test.YtfbelnhibipndaaAbsUR11
set_option linter.unusedSimpArgs false
set_option linter.unusedVariables false
namespace Go.Proofs.Ytfbelnhibipndaa
open Go.ChangeShapes Go.WideShapes Go.RowKit Go.Abs Go.ChangeAt Go.WideElems Go.WideMaps
set_option maxRecDepth 100000

theorem upkeepWrong_lifted (os : Os) (started : os.Started) (H : Type) (enc : TypeId × Value → H) :
    ReturnsInHanded {} Try.checked os 12 .any (Rows.upkeepWrongSpec.pre6 enc Try.prog Try.f12 [] false) (Rows.upkeepWrongSpec.post enc Try.prog Try.f12 false true false false) := by
  refine returnsInHanded_of_change (C := Try.checked) Try.own started (by kernel_rfl) Try.func12
    (let ⟨w, t, i, h1, h2, h3, h4, h5, h6⟩ := ChangeSpec.witness_shaped (enc := enc) (C := Try.checked) (os := os) (X := fun _ _ => True) false (World.doorLaid Try.prog 400 os) #[.slice none 0 0, .int .i64 0] 8 rfl (World.shaped_of_RefB (by kernel_rfl) (by kernel_rfl)) (by kernel_rfl) (by kernel_rfl) (by kernel_rfl) trivial
     ⟨w, t, i, h1, h2, h3, h4, ⟨h5.1.1, h5.2⟩, h6⟩) ?_
  intro W base args ds gs before hval hW _ _
  have hA := hW
  obtain ⟨p, q, hA, hV, _⟩ := hA
  obtain ⟨rfl, _⟩ := trodVars_none hV
  have hlen := trodAll_len hA
  match ds, hlen with
  | [d0, d1], _ =>
    refine (law_calls U.E_ok (d := 6) (ts := Try.f12.params.toList) (cts := [U.cP4, U.cI1]) (by kernel_rfl) (start0 W) glob0 U.lawR12 (fun j t v h1 h2 => hval j t v (by simpa using h1) h2) hA).mono fun ee W' ⟨he, hw⟩ => ?_
    exact ⟨_, he, post_true Try.laidOut (by decide +kernel) rfl rfl (by kernel_rfl) rfl hW hw⟩

theorem upkeepWrong_holds : Rows.UpkeepWrongSaid :=
  OpenClaim.holds_of_wide 12 Try.f12 rfl rfl rfl rfl rfl rfl rfl ⟨rfl, rfl, rfl, rfl, rfl⟩ rfl rfl rfl rfl rfl (by kernel_rfl) Try.func12 (by kernel_rfl)
    (of_decide_eq_true (by kernel_rfl)) (by unfold Func.isWrapper; first | (rw [if_pos (by decide +kernel)]; kernel_rfl) | (rw [if_neg (by decide +kernel)]; exact ⟨rfl, rfl⟩))
    (fun os started H enc _ => upkeepWrong_lifted os started H enc)
#print axioms upkeepWrong_holds
end Go.Proofs.Ytfbelnhibipndaa
