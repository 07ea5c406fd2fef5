--
import Derived.Test.YtoloaempiiedgaaDoorAbsRP
import Derived.Test.YtoloaempiiedgaaDoorAbsRRM
import Derived.Test.YtoloaempiiedgaaDoorAbsRArgs
import Derived.Test.YtoloaempiiedgaaDoorCards
set_option linter.unusedSimpArgs false
set_option linter.unusedVariables false
namespace Go.Proofs.YtoloaempiiedgaaDoor
open Go.ChangeShapes Go.WideShapes Go.RowKit Go.Abs Go.ChangeAt Go.WideElems Go.WideMaps
set_option maxRecDepth 100000
theorem topTensionBounds_lifted (os : Os) (started : os.Started) (H : Type) (enc : TypeId × Value → H) :
  ReturnsInHanded {} Tryd.checked os 5 .any (fun w args => (Rows.topTensionBoundsSpec.pre enc Tryd.prog Tryd.f5 [] false w args ∧ laidMetH Tryd.prog Rows.topTensionBoundsRow.laid w) ∧ sizedMet enc Tryd.prog Tryd.f5 (OpenSpec.ofChange Rows.topTensionBoundsSpec) false w args)
   (Rows.topTensionBoundsSpec.post enc Tryd.prog Tryd.f5 false true false false) := by
 refine returnsInHanded_of_change_and (C := Tryd.checked) (X := fun w _ => laidMetH Tryd.prog Rows.topTensionBoundsRow.laid w) (fun _ _ _ hh h => h.of_heap hh) Tryd.own started (by kernel_rfl) Tryd.func5
  (ChangeSpec.witness_shaped (enc := enc) (C := Tryd.checked) (os := os) (X := fun w _ => laidMetH Tryd.prog Rows.topTensionBoundsRow.laid w) false (World.doorLaid Tryd.prog 400 os) #[.agg #[.int .i64 0, .slice none 0 0, .slice none 0 0], .agg #[.int .i64 0, .int .i64 0, .int .i64 0, .int .i64 0], .slice none 0 0] 8 rfl (World.shaped_of_RefB (by kernel_rfl) (by kernel_rfl)) (by kernel_rfl) (by kernel_rfl) (by kernel_rfl) (door_met os _)) ?_
 intro W base args ds gs before hval hW _ _ hL _
 have hA := hW
 obtain ⟨p, q, hA, hV, _⟩ := hA
 obtain ⟨rfl, _⟩ := trodVars_none hV
 have hlen := trodAll_len hA
 match ds, hlen with
 | [d0, d1, d2], _ =>
  obtain ⟨I0, hg⟩ := start_of hL
  refine (law_calls R.E_ok (d := 6) (ts := Tryd.f5.params.toList) (cts := [R.ctP, R.ctL, R.ctIs]) (by kernel_rfl) I0 hg (LaidOk.none (by kernel_rfl)) R.law5 (fun j t v h1 h2 => hval j t v (by simpa using h1) h2) hA).mono fun ee W' ⟨he, hw⟩ => ?_
  exact ⟨_, he, post_true Tryd.laidOut (by decide +kernel) rfl rfl (by kernel_rfl) rfl hW hw⟩
theorem topTensionBounds_inPlace : (Rows.topTensionBoundsRow.inPlace == Tryd.prog.inPlace 5) = true := by kernel_rfl
theorem topTensionBounds_unfollowed : (Rows.topTensionBoundsRow.unfollowed == Tryd.prog.unfollowed 5) = true := by kernel_rfl
theorem topTensionBounds_recurses : (Rows.topTensionBoundsRow.recurses == Tryd.prog.recurses 5) = true := by kernel_rfl
theorem topTensionBounds_named : (Rows.topTensionBoundsRow.named == Tryd.prog.varsNamed 5) = true := by kernel_rfl
theorem topTensionBounds_closed : joinedFacts Tryd.prog 5 Tryd.f5 Rows.topTensionBoundsSpec Rows.topTensionBoundsRow = true := by
 unfold joinedFacts
 exact band (band (band (band (band (band (band (band (band (band (band (band (band (band (band (band (band (band (band (band (band (band (band (band (band (band (band (band (band (band (band (by kernel_rfl) Tryd.laidOut) Tryd.c2) (by kernel_rfl)) (by kernel_rfl)) (by kernel_rfl)) Tryd.c3) (by kernel_rfl)) Tryd.c4) topTensionBounds_inPlace) topTensionBounds_unfollowed) topTensionBounds_recurses) topTensionBounds_named) (by kernel_rfl)) (by kernel_rfl)) (by kernel_rfl)) (by kernel_rfl)) (by kernel_rfl)) (by kernel_rfl)) (by kernel_rfl)) (by kernel_rfl)) (by kernel_rfl)) Tryd.c9) (by kernel_rfl)) Tryd.c10) Tryd.c11) Tryd.c12) Tryd.c13) (by kernel_rfl)) (by kernel_rfl)) (by kernel_rfl)) (by kernel_rfl)
theorem topTensionBounds_holds : Rows.TopTensionBoundsSaid :=
 OpenClaim.holds_of_wide 5 Tryd.f5 rfl rfl rfl rfl rfl rfl rfl ⟨rfl, rfl, rfl, rfl, rfl⟩ rfl rfl rfl rfl rfl (by kernel_rfl) Tryd.func5 topTensionBounds_closed
  (of_decide_eq_true (by kernel_rfl)) (by unfold Func.isWrapper; first | (rw [if_pos (by decide +kernel)]; kernel_rfl) | (rw [if_neg (by decide +kernel)]; exact ⟨rfl, rfl⟩))
  (fun os started H enc _ => topTensionBounds_lifted os started H enc)
theorem topTensionBounds_card : Rows.TopTensionBoundsCardSaid :=
 Claim7.holds_tied_plain_at .later [] [.data] true (true, "a622aaad8de61da2883e437b3f19559a989379d62d17ca4897f0e9694b4d3953") true
  topTensionBounds_holds (fun _ h => by cases h) (by kernel_rfl) (fun _ h => by cases h) topTensionBounds_row_tie rfl ⟨rfl, rfl⟩ (by kernel_rfl) rfl
  (fun f fn hf hfn => by
   obtain rfl : f = 5 := Option.some.inj ((show Tryd.prog.funcNamed Tryd.f5.name = some 5 by kernel_rfl).symm.trans hf) |>.symm
   obtain rfl : fn = Tryd.f5 := (Option.some.inj (Tryd.func5.symm.trans hfn)).symm
   exact ⟨Tryd.looksAll, fun j t ht => by
    have hm : t ∈ Tryd.f5.params.toList := by simpa using Array.mem_of_getElem? ht
    have hall : (Tryd.f5.params.toList.all fun u => !Tryd.prog.wantsStandIn u) = true := by kernel_rfl
    exact (show Tryd.prog.wantsStandIn t = false by simpa using List.all_eq_true.1 hall t hm)⟩)
  (by kernel_rfl)
#print axioms topTensionBounds_card
end Go.Proofs.YtoloaempiiedgaaDoor
