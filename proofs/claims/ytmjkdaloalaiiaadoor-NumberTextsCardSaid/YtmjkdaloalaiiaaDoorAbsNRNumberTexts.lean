--
import Derived.Test.YtmjkdaloalaiiaaDoorAbsJP
import Derived.Test.YtmjkdaloalaiiaaDoorAbsJR
import Derived.Test.YtmjkdaloalaiiaaDoorAbsJArgs
import Derived.Test.YtmjkdaloalaiiaaDoorCards
set_option linter.unusedSimpArgs false
set_option linter.unusedVariables false
namespace Go.Proofs.YtmjkdaloalaiiaaDoor
open Go.ChangeShapes Go.WideShapes Go.RowKit Go.Abs Go.ChangeAt Go.WideElems Go.WideMaps
set_option maxRecDepth 100000
theorem numberTexts_lifted (os : Os) (started : os.Started) (H : Type) (enc : TypeId × Value → H) :
  ReturnsInHanded {} Tryd.checked os 3 .any (fun w args => (Rows.numberTextsSpec.pre enc Tryd.prog Tryd.f3 [] false w args ∧ laidMetH Tryd.prog Rows.numberTextsRow.laid w) ∧ sizedMet enc Tryd.prog Tryd.f3 (OpenSpec.ofChange Rows.numberTextsSpec) false w args)
   (Rows.numberTextsSpec.post enc Tryd.prog Tryd.f3 false true false false) := by
 refine returnsInHanded_of_change_and (C := Tryd.checked) (X := fun w _ => laidMetH Tryd.prog Rows.numberTextsRow.laid w) (fun _ _ _ hh h => h.of_heap hh) Tryd.own started (by kernel_rfl) Tryd.func3
  (ChangeSpec.witness_shaped (enc := enc) (C := Tryd.checked) (os := os) (X := fun w _ => laidMetH Tryd.prog Rows.numberTextsRow.laid w) false (World.doorLaid Tryd.prog 400 os) #[.agg #[.int .i64 0, .int .i64 0], .string ⟨#[]⟩] 8 rfl (World.shaped_of_RefB (by kernel_rfl) (by kernel_rfl)) (by kernel_rfl) (by kernel_rfl) (by kernel_rfl) (door_met os _)) ?_
 intro W base args ds gs before hval hW _ _ hL _
 have hA := hW
 obtain ⟨p, q, hA, hV, _⟩ := hA
 obtain ⟨rfl, _⟩ := trodVars_none hV
 have hlen := trodAll_len hA
 match ds, hlen with
 | [d0, d1], _ =>
  obtain ⟨ρ, I0, hg⟩ := start_of hL
  refine (law_calls J.E_ok (d := 6) (ts := Tryd.f3.params.toList) (cts := [(true, [ctI, ctI]), (false, [.str])]) (by kernel_rfl) I0 hg (laid_ok hL) (J.law3 _ rfl) (fun j t v h1 h2 => hval j t v (by simpa using h1) h2) hA).mono fun ee W' ⟨he, hw⟩ => ?_
  exact ⟨_, he, post_true Tryd.laidOut (by decide +kernel) rfl rfl (by kernel_rfl) rfl hW hw⟩
theorem numberTexts_inPlace : (Rows.numberTextsRow.inPlace == Tryd.prog.inPlace 3) = true := by kernel_rfl
theorem numberTexts_unfollowed : (Rows.numberTextsRow.unfollowed == Tryd.prog.unfollowed 3) = true := by kernel_rfl
theorem numberTexts_recurses : (Rows.numberTextsRow.recurses == Tryd.prog.recurses 3) = true := by kernel_rfl
theorem numberTexts_named : (Rows.numberTextsRow.named == Tryd.prog.varsNamed 3) = true := by kernel_rfl
theorem numberTexts_closed : joinedFacts Tryd.prog 3 Tryd.f3 Rows.numberTextsSpec Rows.numberTextsRow = true := by
 unfold joinedFacts
 exact band (band (band (band (band (band (band (band (band (band (band (band (band (band (band (band (band (band (band (band (band (band (band (band (band (band (band (band (band (band (band (by kernel_rfl) Tryd.laidOut) Tryd.c2) (by kernel_rfl)) (by kernel_rfl)) (by kernel_rfl)) Tryd.c3) (by kernel_rfl)) Tryd.c4) numberTexts_inPlace) numberTexts_unfollowed) numberTexts_recurses) numberTexts_named) (by kernel_rfl)) (by kernel_rfl)) (by kernel_rfl)) (by kernel_rfl)) (by kernel_rfl)) (by kernel_rfl)) (by kernel_rfl)) (by kernel_rfl)) (by kernel_rfl)) Tryd.c9) (by kernel_rfl)) Tryd.c10) Tryd.c11) Tryd.c12) Tryd.c13) (by kernel_rfl)) (by kernel_rfl)) (by kernel_rfl)) (by kernel_rfl)
theorem numberTexts_holds : Rows.NumberTextsSaid :=
 OpenClaim.holds_of_wide 3 Tryd.f3 rfl rfl rfl rfl rfl rfl rfl ⟨rfl, rfl, rfl, rfl, rfl⟩ rfl rfl rfl rfl rfl (by kernel_rfl) Tryd.func3 numberTexts_closed
  (of_decide_eq_true (by kernel_rfl)) (by unfold Func.isWrapper; first | (rw [if_pos (by decide +kernel)]; kernel_rfl) | (rw [if_neg (by decide +kernel)]; exact ⟨rfl, rfl⟩))
  (fun os started H enc _ => numberTexts_lifted os started H enc)
theorem numberTexts_card : Rows.NumberTextsCardSaid :=
 Claim7.holds_tied_plain_at .later [] [.data, .data, .data, .sentinel, .sentinel, .data] true (true, "d3f9a29239877862d465385103d89e9c167229fa8f8519850bee010b9282c694") true
  numberTexts_holds (fun _ h => by cases h) (by kernel_rfl) (fun _ h => by cases h) numberTexts_row_tie rfl ⟨rfl, rfl⟩ (by kernel_rfl) rfl
  (fun f fn hf hfn => by
   obtain rfl : f = 3 := Option.some.inj ((show Tryd.prog.funcNamed Tryd.f3.name = some 3 by kernel_rfl).symm.trans hf) |>.symm
   obtain rfl : fn = Tryd.f3 := (Option.some.inj (Tryd.func3.symm.trans hfn)).symm
   exact ⟨Tryd.looksAll, fun j t ht => by
    have hm : t ∈ Tryd.f3.params.toList := by simpa using Array.mem_of_getElem? ht
    have hall : (Tryd.f3.params.toList.all fun u => !Tryd.prog.wantsStandIn u) = true := by kernel_rfl
    exact (show Tryd.prog.wantsStandIn t = false by simpa using List.all_eq_true.1 hall t hm)⟩)
  (by kernel_rfl)
#print axioms numberTexts_card
end Go.Proofs.YtmjkdaloalaiiaaDoor
