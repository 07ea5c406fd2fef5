/- The law NumberSystems: the row and the card: for every input the call returns true, and each argument reads afterwards as it read before. -/
import Derived.Test.YtjalhpdmdiimoaaDoorAbsNP
import Derived.Test.YtjalhpdmdiimoaaDoorAbsNS9
import Derived.Test.YtjalhpdmdiimoaaDoorAbsArgs
import Derived.Test.YtjalhpdmdiimoaaDoorCards
set_option linter.unusedSimpArgs false
set_option linter.unusedVariables false
namespace Go.Proofs.YtjalhpdmdiimoaaDoor
open Go.ChangeShapes Go.WideShapes Go.RowKit Go.Abs Go.ChangeAt Go.WideElems Go.WideMaps
set_option maxRecDepth 100000

theorem numberSystems_lifted (os : Os) (started : os.Started) (H : Type) (enc : TypeId × Value → H) :
    ReturnsInHanded {} Tryd.checked os 6 .any (fun w args => (Rows.numberSystemsSpec.pre enc Tryd.prog Tryd.f6 [] false w args ∧ laidMetH Tryd.prog Rows.numberSystemsRow.laid w) ∧ sizedMet enc Tryd.prog Tryd.f6 (OpenSpec.ofChange Rows.numberSystemsSpec) false w args)
      (Rows.numberSystemsSpec.post enc Tryd.prog Tryd.f6 false true false false) := by
  refine returnsInHanded_of_change_and (C := Tryd.checked) (X := fun w _ => laidMetH Tryd.prog Rows.numberSystemsRow.laid w) (fun _ _ _ hh h => h.of_heap hh) Tryd.own started (by kernel_rfl) Tryd.func6
    (ChangeSpec.witness_shaped (enc := enc) (C := Tryd.checked) (os := os) (X := fun w _ => laidMetH Tryd.prog Rows.numberSystemsRow.laid w) false (World.doorLaid Tryd.prog 400 os) #[.int .i64 0, .slice none 0 0] 8 rfl (World.shaped_of_RefB (by kernel_rfl) (by kernel_rfl)) (by kernel_rfl) (by kernel_rfl) (by kernel_rfl) (door_met os _)) ?_
  intro W base args ds gs before hval hW _ _ hL _
  have hA := hW
  obtain ⟨p, q, hA, hV, _⟩ := hA
  obtain ⟨rfl, _⟩ := trodVars_none hV
  have hlen := trodAll_len hA
  match ds, hlen with
  | [d0, d1], _ =>
    obtain ⟨I0, hg⟩ := start_of hL
    refine (law_calls N.E_ok (d := 6) (ts := Tryd.f6.params.toList) (cts := [(false, [ctI]), (false, [.sl [ctI, ctI, ctI]])]) (by kernel_rfl) I0 hg N.numberSystems_law (fun j t v h1 h2 => hval j t v (by simpa using h1) h2) hA).mono fun ee W' ⟨he, hw⟩ => ?_
    exact ⟨_, he, post_true Tryd.laidOut (by decide +kernel) rfl rfl (by kernel_rfl) rfl hW hw⟩

theorem numberSystems_holds : Rows.NumberSystemsSaid :=
  OpenClaim.holds_of_wide 6 Tryd.f6 rfl rfl rfl rfl rfl rfl rfl ⟨rfl, rfl, rfl, rfl, rfl⟩ rfl rfl rfl rfl rfl (by kernel_rfl) Tryd.func6 (by kernel_rfl)
    (of_decide_eq_true (by kernel_rfl)) (by unfold Func.isWrapper; first | (rw [if_pos (by decide +kernel)]; kernel_rfl) | (rw [if_neg (by decide +kernel)]; exact ⟨rfl, rfl⟩))
    (fun os started H enc _ => numberSystems_lifted os started H enc)

theorem numberSystems_card : Rows.NumberSystemsCardSaid :=
  Claim7.holds_tied_plain_at .later [] [.data] true (true, "63803909d1ac872219f664c64150de3f344068385e7b041504942dcdc456ca40") true
    numberSystems_holds (fun _ h => by cases h) (by kernel_rfl) (fun _ h => by cases h) numberSystems_row_tie rfl ⟨rfl, rfl⟩ (by kernel_rfl) rfl
    (fun f fn hf hfn => by
      obtain rfl : f = 6 := Option.some.inj ((show Tryd.prog.funcNamed Tryd.f6.name = some 6 by kernel_rfl).symm.trans hf) |>.symm
      obtain rfl : fn = Tryd.f6 := (Option.some.inj (Tryd.func6.symm.trans hfn)).symm
      exact ⟨Tryd.looksAll, fun j t ht => by
        have hm : t ∈ Tryd.f6.params.toList := by simpa using Array.mem_of_getElem? ht
        have hall : (Tryd.f6.params.toList.all fun u => !Tryd.prog.wantsStandIn u) = true := by kernel_rfl
        exact (show Tryd.prog.wantsStandIn t = false by simpa using List.all_eq_true.1 hall t hm)⟩)
    (by kernel_rfl)
#print axioms numberSystems_card
end Go.Proofs.YtjalhpdmdiimoaaDoor
