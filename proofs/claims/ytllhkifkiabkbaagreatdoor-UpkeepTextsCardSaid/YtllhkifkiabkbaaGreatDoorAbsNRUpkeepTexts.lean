/- The law UpkeepTexts: the row and the card: for every input the call returns true, and each argument reads afterwards as it read before. -/
import Derived.Test.YtllhkifkiabkbaaGreatDoorAbsHP
import Derived.Test.YtllhkifkiabkbaaGreatDoorAbsHRM
import Derived.Test.YtllhkifkiabkbaaGreatDoorAbsHYM
import Derived.Test.YtllhkifkiabkbaaGreatDoorCards
import Derived.SizedLaws
set_option linter.unusedSimpArgs false
set_option linter.unusedVariables false
namespace Go.Proofs.YtllhkifkiabkbaaGreatDoor
open Go.ChangeShapes Go.WideShapes Go.RowKit Go.Abs Go.ChangeAt Go.WideElems Go.WideMaps
set_option maxRecDepth 100000

theorem upkeepTexts_lifted (os : Os) (started : os.Started) (HH : Type) (enc : TypeId × Value → HH) :
    ReturnsInHanded {} Tryz.checked os 4 .any (fun w args => (Rows.upkeepTextsSpec.pre enc Tryz.prog Tryz.f4 [] false w args ∧ laidMetH Tryz.prog Rows.upkeepTextsRow.laid w) ∧ sizedMet enc Tryz.prog Tryz.f4 (OpenSpec.ofChange Rows.upkeepTextsSpec) false w args)
      (Rows.upkeepTextsSpec.post enc Tryz.prog Tryz.f4 false true false false) := by
  refine returnsInHanded_of_change_and (C := Tryz.checked) (X := fun w _ => laidMetH Tryz.prog Rows.upkeepTextsRow.laid w) (fun _ _ _ hh h => h.of_heap hh) Tryz.own started (by kernel_rfl) Tryz.func4
    (ChangeSpec.witness_shaped (enc := enc) (C := Tryz.checked) (os := os) (X := fun w _ => laidMetH Tryz.prog Rows.upkeepTextsRow.laid w) false (World.laidAll Tryz.prog os laid0) #[.slice none 0 0, .agg #[.int .i64 0, .int .i64 0], .string ⟨#[]⟩] 8 (World.laidAll_os _ _ _) (World.shaped_of_ZipB (by kernel_rfl) (by kernel_rfl)) (by kernel_rfl) (by kernel_rfl) (by kernel_rfl) (door_met os _)) ?_
  intro W base args ds gs before hval hW _ hwt hL _
  have hA := hW
  obtain ⟨p, q, hA, hV, _⟩ := hA
  obtain ⟨rfl, _⟩ := trodVars_none hV
  have hlen := trodAll_len hA
  match ds, hlen with
  | [d0, d1, d2], _ =>
    obtain ⟨ρ, I0, hg⟩ := start_of hL
    have hQ : ∀ ρ us, LRel (VRel ρ) us args.toList → ∀ u, us[0]? = some u → LenLe 2932031007402 u := by
      intro ρ us hr u hu
      obtain ⟨v, hv, rv⟩ := hr.get hu
      rw [show Tryz.f4.params.toList = [41, 43, 9] by kernel_rfl] at hA hwt
      obtain ⟨v0, v1, v2, p1, fuel, hv1, ht⟩ := trodAll_first3 hA
      rw [hv1] at hv
      cases hv
      refine len_of_trod rv (show Tryz.prog.underlying 41 = some (.slice 123) by kernel_rfl) ht fun elems rest e => ?_
      have hz := sized_slice hwt (j := 0) (t := 41) (e := 123) (elems := elems) (spare := rest) rfl (by rw [← e]; rfl) (by kernel_rfl)
      rw [show Tryz.checked.prog.bytesOf 123 = 48 by kernel_rfl] at hz
      have hb : reachBytes < 140737488355328 := reachBytes_lt
      omega
    refine (law_calls_b H.U.E1_ok (d := 6) (ts := Tryz.f4.params.toList) (cts := [H.ctP6, H.ctC2, H.ctS]) (by kernel_rfl) I0 hg (laid_ok hL) (H.lawR _ rfl) (fun j t v h1 h2 => hval j t v (by simpa using h1) h2) hA hQ).mono fun ee W' ⟨he, hw⟩ => ?_
    exact ⟨_, he, post_true Tryz.laidOut (by decide +kernel) rfl rfl (by kernel_rfl) rfl hW hw⟩

theorem upkeepTexts_inPlace : (Rows.upkeepTextsRow.inPlace == Tryz.prog.inPlace 4) = true := by kernel_rfl
theorem upkeepTexts_unfollowed : (Rows.upkeepTextsRow.unfollowed == Tryz.prog.unfollowed 4) = true := by kernel_rfl
theorem upkeepTexts_recurses : (Rows.upkeepTextsRow.recurses == Tryz.prog.recurses 4) = true := by kernel_rfl
theorem upkeepTexts_named : (Rows.upkeepTextsRow.named == Tryz.prog.varsNamed 4) = true := by kernel_rfl
theorem upkeepTexts_closed : joinedFacts Tryz.prog 4 Tryz.f4 Rows.upkeepTextsSpec Rows.upkeepTextsRow = true := by
  unfold joinedFacts
  exact band (band (band (band (band (band (band (band (band (band (band (band (band (band (band (band (band (band (band (band (band (band (band (band (band (band (band (band (band (band (band (by kernel_rfl) Tryz.laidOut) Tryz.c2) (by kernel_rfl)) (by kernel_rfl)) (by kernel_rfl)) Tryz.c3) (by kernel_rfl)) Tryz.c4) upkeepTexts_inPlace) upkeepTexts_unfollowed) upkeepTexts_recurses) upkeepTexts_named) (by kernel_rfl)) (by kernel_rfl)) (by kernel_rfl)) (by kernel_rfl)) (by kernel_rfl)) (by kernel_rfl)) (by kernel_rfl)) (by kernel_rfl)) (by kernel_rfl)) Tryz.c9) (by kernel_rfl)) Tryz.c10) Tryz.c11) Tryz.c12) Tryz.c13) (by kernel_rfl)) (by kernel_rfl)) (by kernel_rfl)) (by kernel_rfl)

theorem upkeepTexts_holds : Rows.UpkeepTextsSaid :=
  OpenClaim.holds_of_wide 4 Tryz.f4 rfl rfl rfl rfl rfl rfl rfl ⟨rfl, rfl, rfl, rfl, rfl⟩ rfl rfl rfl rfl rfl (by kernel_rfl) Tryz.func4 upkeepTexts_closed
    (of_decide_eq_true (by kernel_rfl)) (by unfold Func.isWrapper; first | (rw [if_pos (by decide +kernel)]; kernel_rfl) | (rw [if_neg (by decide +kernel)]; exact ⟨rfl, rfl⟩))
    (fun os started HH enc _ => upkeepTexts_lifted os started HH enc)

theorem upkeepTexts_card : Rows.UpkeepTextsCardSaid :=
  Claim7.holds_tied_plain_at .later [] [.data, .data, .data, .data, .sentinel, .sentinel, .pinned] true (true, "dabfcc8dc5edb57f3933d4b7c480e90bf96d425be068757705068b423364f0c9") true
    upkeepTexts_holds (fun _ h => by cases h) (by kernel_rfl) (fun _ h => by cases h) upkeepTexts_row_tie rfl ⟨rfl, rfl⟩ (by kernel_rfl) rfl
    (fun f fn hf hfn => by
      obtain rfl : f = 4 := Option.some.inj ((show Tryz.prog.funcNamed Tryz.f4.name = some 4 by kernel_rfl).symm.trans hf) |>.symm
      obtain rfl : fn = Tryz.f4 := (Option.some.inj (Tryz.func4.symm.trans hfn)).symm
      exact ⟨Tryz.looksAll, fun j t ht => by
        have hm : t ∈ Tryz.f4.params.toList := by simpa using Array.mem_of_getElem? ht
        have hall : (Tryz.f4.params.toList.all fun u => !Tryz.prog.wantsStandIn u) = true := by kernel_rfl
        exact (show Tryz.prog.wantsStandIn t = false by simpa using List.all_eq_true.1 hall t hm)⟩)
    (by kernel_rfl)
#print axioms upkeepTexts_card
end Go.Proofs.YtllhkifkiabkbaaGreatDoor
