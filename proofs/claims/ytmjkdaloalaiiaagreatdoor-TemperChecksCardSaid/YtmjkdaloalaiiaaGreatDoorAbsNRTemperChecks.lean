--
import Derived.Test.YtmjkdaloalaiiaaGreatDoorAbsMP
import Derived.Test.YtmjkdaloalaiiaaGreatDoorAbsMRM
import Derived.Test.YtmjkdaloalaiiaaGreatDoorAbsMArgs
import Derived.Test.YtmjkdaloalaiiaaGreatDoorCards
set_option linter.unusedSimpArgs false
set_option linter.unusedVariables false
namespace Go.Proofs.YtmjkdaloalaiiaaGreatDoor
open Go.ChangeShapes Go.WideShapes Go.RowKit Go.Abs Go.ChangeAt Go.WideElems Go.WideMaps
set_option maxRecDepth 100000
theorem temperChecks_lifted (os : Os) (started : os.Started) (H : Type) (enc : TypeId × Value → H) :
  ReturnsInHanded {} Tryz.checked os 4 .any (fun w args => (Rows.temperChecksSpec.pre enc Tryz.prog Tryz.f4 [] false w args ∧ laidMetH Tryz.prog Rows.temperChecksRow.laid w) ∧ sizedMet enc Tryz.prog Tryz.f4 (OpenSpec.ofChange Rows.temperChecksSpec) false w args)
   (Rows.temperChecksSpec.post enc Tryz.prog Tryz.f4 false true false false) := by
 refine returnsInHanded_of_change_and (C := Tryz.checked) (X := fun w _ => laidMetH Tryz.prog Rows.temperChecksRow.laid w) (fun _ _ _ hh h => h.of_heap hh) Tryz.own started (by kernel_rfl) Tryz.func4
  (ChangeSpec.witness_shaped (enc := enc) (C := Tryz.checked) (os := os) (X := fun w _ => laidMetH Tryz.prog Rows.temperChecksRow.laid w) false (World.laidAll Tryz.prog os laid0) #[.agg (.string ⟨#[]⟩ :: List.replicate 24 (.int .i64 0)).toArray] 8 (World.laidAll_os _ _ _) (World.shaped_of_ZipB (by kernel_rfl) (by kernel_rfl)) (by kernel_rfl) (by kernel_rfl) (by kernel_rfl) (door_met os _)) ?_
 intro W base args ds gs before hval hW _ _ hL _
 have hA := hW
 obtain ⟨p, q, hA, hV, _⟩ := hA
 obtain ⟨rfl, _⟩ := trodVars_none hV
 have hlen := trodAll_len hA
 match ds, hlen with
 | [d0], _ =>
  obtain ⟨ρ, I0, hg⟩ := start_of hL
  refine (law_calls M.E_ok (d := 6) (ts := Tryz.f4.params.toList) (cts := [M.ctT]) (by kernel_rfl) I0 hg (laid_ok hL) (M.law4 _ rfl) (fun j t v h1 h2 => hval j t v (by simpa using h1) h2) hA).mono fun ee W' ⟨he, hw⟩ => ?_
  exact ⟨_, he, post_true Tryz.laidOut (by decide +kernel) rfl rfl (by kernel_rfl) rfl hW hw⟩
theorem temperChecks_inPlace : (Rows.temperChecksRow.inPlace == Tryz.prog.inPlace 4) = true := by kernel_rfl
theorem temperChecks_unfollowed : (Rows.temperChecksRow.unfollowed == Tryz.prog.unfollowed 4) = true := by kernel_rfl
theorem temperChecks_recurses : (Rows.temperChecksRow.recurses == Tryz.prog.recurses 4) = true := by kernel_rfl
theorem temperChecks_named : (Rows.temperChecksRow.named == Tryz.prog.varsNamed 4) = true := by kernel_rfl
theorem temperChecks_closed : joinedFacts Tryz.prog 4 Tryz.f4 Rows.temperChecksSpec Rows.temperChecksRow = true := by
 unfold joinedFacts
 exact band (band (band (band (band (band (band (band (band (band (band (band (band (band (band (band (band (band (band (band (band (band (band (band (band (band (band (band (band (band (band (by kernel_rfl) Tryz.laidOut) Tryz.c2) (by kernel_rfl)) (by kernel_rfl)) (by kernel_rfl)) Tryz.c3) (by kernel_rfl)) Tryz.c4) temperChecks_inPlace) temperChecks_unfollowed) temperChecks_recurses) temperChecks_named) (by kernel_rfl)) (by kernel_rfl)) (by kernel_rfl)) (by kernel_rfl)) (by kernel_rfl)) (by kernel_rfl)) (by kernel_rfl)) (by kernel_rfl)) (by kernel_rfl)) Tryz.c9) (by kernel_rfl)) Tryz.c10) Tryz.c11) Tryz.c12) Tryz.c13) (by kernel_rfl)) (by kernel_rfl)) (by kernel_rfl)) (by kernel_rfl)
theorem temperChecks_holds : Rows.TemperChecksSaid :=
 OpenClaim.holds_of_wide 4 Tryz.f4 rfl rfl rfl rfl rfl rfl rfl ⟨rfl, rfl, rfl, rfl, rfl⟩ rfl rfl rfl rfl rfl (by kernel_rfl) Tryz.func4 temperChecks_closed
  (of_decide_eq_true (by kernel_rfl)) (by unfold Func.isWrapper; first | (rw [if_pos (by decide +kernel)]; kernel_rfl) | (rw [if_neg (by decide +kernel)]; exact ⟨rfl, rfl⟩))
  (fun os started H enc _ => temperChecks_lifted os started H enc)
theorem temperChecks_card : Rows.TemperChecksCardSaid :=
 Claim7.holds_tied_plain_at .later [] [.data, .data, .data, .data, .sentinel, .sentinel, .data, .pinned] true (true, "e84994d6ea116393ea884301333b9a1a8682ef48e3d1a12dceac2fb3f46e5bc7") true
  temperChecks_holds (fun _ h => by cases h) (by kernel_rfl) (fun _ h => by cases h) temperChecks_row_tie rfl ⟨rfl, rfl⟩ (by kernel_rfl) rfl
  (fun f fn hf hfn => by
   obtain rfl : f = 4 := Option.some.inj ((show Tryz.prog.funcNamed Tryz.f4.name = some 4 by kernel_rfl).symm.trans hf) |>.symm
   obtain rfl : fn = Tryz.f4 := (Option.some.inj (Tryz.func4.symm.trans hfn)).symm
   exact ⟨Tryz.looksAll, fun j t ht => by
    have hm : t ∈ Tryz.f4.params.toList := by simpa using Array.mem_of_getElem? ht
    have hall : (Tryz.f4.params.toList.all fun u => !Tryz.prog.wantsStandIn u) = true := by kernel_rfl
    exact (show Tryz.prog.wantsStandIn t = false by simpa using List.all_eq_true.1 hall t hm)⟩)
  (by kernel_rfl)
#print axioms temperChecks_card
end Go.Proofs.YtmjkdaloalaiiaaGreatDoor
