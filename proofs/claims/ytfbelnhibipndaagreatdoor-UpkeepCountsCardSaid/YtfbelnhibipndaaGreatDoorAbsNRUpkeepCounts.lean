/- The law UpkeepCounts: the row and the card: for every input the call returns true, and each argument reads afterwards as it read before. -/
import Derived.Test.YtfbelnhibipndaaGreatDoorAbsZP
import Derived.Test.YtfbelnhibipndaaGreatDoorAbsZR4
import Derived.Test.YtfbelnhibipndaaGreatDoorAbsZArgs
import Derived.Test.YtfbelnhibipndaaGreatDoorCards
import Derived.SizedLaws
set_option linter.unusedSimpArgs false
set_option linter.unusedVariables false
namespace Go.Proofs.YtfbelnhibipndaaGreatDoor
open Go.ChangeShapes Go.WideShapes Go.RowKit Go.Abs Go.ChangeAt Go.WideElems Go.WideMaps
set_option maxRecDepth 100000

theorem upkeepCounts_lifted (os : Os) (started : os.Started) (H : Type) (enc : TypeId × Value → H) :
    ReturnsInHanded {} Tryz.checked os 4 .any (fun w args => (Rows.upkeepCountsSpec.pre enc Tryz.prog Tryz.f4 [] false w args ∧ laidMetH Tryz.prog Rows.upkeepCountsRow.laid w) ∧ sizedMet enc Tryz.prog Tryz.f4 (OpenSpec.ofChange Rows.upkeepCountsSpec) false w args)
      (Rows.upkeepCountsSpec.post enc Tryz.prog Tryz.f4 false true false false) := by
  refine returnsInHanded_of_change_and (C := Tryz.checked) (X := fun w _ => laidMetH Tryz.prog Rows.upkeepCountsRow.laid w) (fun _ _ _ hh h => h.of_heap hh) Tryz.own started (by kernel_rfl) Tryz.func4
    (ChangeSpec.witness_shaped (enc := enc) (C := Tryz.checked) (os := os) (X := fun w _ => laidMetH Tryz.prog Rows.upkeepCountsRow.laid w) false (World.doorLaid Tryz.prog 400 os) #[.agg #[.string ⟨#[]⟩, .int .i64 0, .int .i64 0, .int .i64 0, .int .i64 0, .int .i64 0, .int .i64 0, .int .i64 0, .int .i64 0, .int .i64 0, .int .i64 0, .int .i64 0, .int .i64 0, .int .i64 0, .int .i64 0, .int .i64 0, .int .i64 0, .int .i64 0, .int .i64 0, .int .i64 0, .int .i64 0, .int .i64 0, .int .i64 0, .int .i64 0, .int .i64 0, .int .i64 0], .slice none 0 0] 8 rfl (World.shaped_of_RefB (by kernel_rfl) (by kernel_rfl)) (by kernel_rfl) (by kernel_rfl) (by kernel_rfl) (door_met os _)) ?_
  intro W base args ds gs before hval hW _ hwt hL _
  have hA := hW
  obtain ⟨p, q, hA, hV, _⟩ := hA
  obtain ⟨rfl, _⟩ := trodVars_none hV
  have hlen := trodAll_len hA
  match ds, hlen with
  | [d0, d1], _ =>
    obtain ⟨I0, hg⟩ := start_of hL
    have hQ : ∀ ρ us, LRel (VRel ρ) us args.toList → ∀ u, us[1]? = some u → LenLe 2932031007402 u := by
      intro ρ us hr u hu
      obtain ⟨v, hv, rv⟩ := hr.get hu
      have hp : ∃ t0, Tryz.f4.params.toList = [t0, 42] := ⟨(Tryz.f4.params[0]?).getD 0, by kernel_rfl⟩
      obtain ⟨t0, hp⟩ := hp
      rw [hp] at hA hwt
      obtain ⟨v0, v1, p1, fuel, hv1, ht⟩ := trodAll_second hA
      rw [hv1] at hv
      cases hv
      refine len_of_trod rv (show Tryz.prog.underlying 42 = some (.slice 107) by kernel_rfl) ht fun elems rest e => ?_
      have hz := sized_slice hwt (j := 1) (t := 42) (e := 107) (elems := elems) (spare := rest) rfl (by rw [← e]; rfl) (by kernel_rfl)
      rw [show Tryz.checked.prog.bytesOf 107 = 48 by kernel_rfl] at hz
      have hb : reachBytes < 140737488355328 := reachBytes_lt
      omega
    refine (law_calls_b Z.E_ok (d := 6) (ts := Tryz.f4.params.toList) (cts := [Z.ctRoom, Z.ctP6]) (by kernel_rfl) I0 hg Z.law4 (fun j t v h1 h2 => hval j t v (by simpa using h1) h2) hA hQ).mono fun ee W' ⟨he, hw⟩ => ?_
    exact ⟨_, he, post_true Tryz.laidOut (by decide +kernel) rfl rfl (by kernel_rfl) rfl hW hw⟩

theorem upkeepCounts_holds : Rows.UpkeepCountsSaid :=
  OpenClaim.holds_of_wide 4 Tryz.f4 rfl rfl rfl rfl rfl rfl rfl ⟨rfl, rfl, rfl, rfl, rfl⟩ rfl rfl rfl rfl rfl (by kernel_rfl) Tryz.func4 (by kernel_rfl)
    (of_decide_eq_true (by kernel_rfl)) (by unfold Func.isWrapper; first | (rw [if_pos (by decide +kernel)]; kernel_rfl) | (rw [if_neg (by decide +kernel)]; exact ⟨rfl, rfl⟩))
    (fun os started H enc _ => upkeepCounts_lifted os started H enc)

theorem upkeepCounts_card : Rows.UpkeepCountsCardSaid :=
  Claim7.holds_tied_plain_at .later [] [.data] true (true, "6203bfffe821de7f100e85e54d3541ce6a35bdb3872a168d8dc75ac7693b9863") true
    upkeepCounts_holds (fun _ h => by cases h) (by kernel_rfl) (fun _ h => by cases h) upkeepCounts_row_tie rfl ⟨rfl, rfl⟩ (by kernel_rfl) rfl
    (fun f fn hf hfn => by
      obtain rfl : f = 4 := Option.some.inj ((show Tryz.prog.funcNamed Tryz.f4.name = some 4 by kernel_rfl).symm.trans hf) |>.symm
      obtain rfl : fn = Tryz.f4 := (Option.some.inj (Tryz.func4.symm.trans hfn)).symm
      exact ⟨Tryz.looksAll, fun j t ht => by
        have hm : t ∈ Tryz.f4.params.toList := by simpa using Array.mem_of_getElem? ht
        have hall : (Tryz.f4.params.toList.all fun u => !Tryz.prog.wantsStandIn u) = true := by kernel_rfl
        exact (show Tryz.prog.wantsStandIn t = false by simpa using List.all_eq_true.1 hall t hm)⟩)
    (by kernel_rfl)
#print axioms upkeepCounts_card
end Go.Proofs.YtfbelnhibipndaaGreatDoor
