/- The law TopWrongString: the row and the card: for every input the call returns true, and each argument reads afterwards as it read before. -/
import Derived.Test.YtfbelnhibipndaaGreatDoorAbsZP
import Derived.Test.YtfbelnhibipndaaGreatDoorAbsZRM
import Derived.Test.YtfbelnhibipndaaGreatDoorAbsZArgs
import Derived.Test.YtfbelnhibipndaaGreatDoorCards
set_option linter.unusedSimpArgs false
set_option linter.unusedVariables false
namespace Go.Proofs.YtfbelnhibipndaaGreatDoor
open Go.ChangeShapes Go.WideShapes Go.RowKit Go.Abs Go.ChangeAt Go.WideElems Go.WideMaps
set_option maxRecDepth 100000

theorem topWrongString_lifted (os : Os) (started : os.Started) (H : Type) (enc : TypeId × Value → H) :
    ReturnsInHanded {} Tryz.checked os 7 .any (fun w args => (Rows.topWrongStringSpec.pre enc Tryz.prog Tryz.f7 [] false w args ∧ laidMetH Tryz.prog Rows.topWrongStringRow.laid w) ∧ sizedMet enc Tryz.prog Tryz.f7 (OpenSpec.ofChange Rows.topWrongStringSpec) false w args)
      (Rows.topWrongStringSpec.post enc Tryz.prog Tryz.f7 false true false false) := by
  refine returnsInHanded_of_change_and (C := Tryz.checked) (X := fun w _ => laidMetH Tryz.prog Rows.topWrongStringRow.laid w) (fun _ _ _ hh h => h.of_heap hh) Tryz.own started (by kernel_rfl) Tryz.func7
    (ChangeSpec.witness_shaped (enc := enc) (C := Tryz.checked) (os := os) (X := fun w _ => laidMetH Tryz.prog Rows.topWrongStringRow.laid w) false (World.doorLaid Tryz.prog 400 os) #[.agg #[.string ⟨#[]⟩, .int .i64 0, .int .i64 0, .int .i64 0, .int .i64 0, .int .i64 0, .int .i64 0, .int .i64 0, .int .i64 0, .int .i64 0, .int .i64 0, .int .i64 0, .int .i64 0, .int .i64 0, .int .i64 0, .int .i64 0, .int .i64 0, .int .i64 0, .int .i64 0, .int .i64 0, .int .i64 0, .int .i64 0, .int .i64 0, .int .i64 0, .int .i64 0], .slice none 0 0, .agg #[.int .i64 0, .int .i64 0, .int .i64 0]] 8 rfl (World.shaped_of_RefB (by kernel_rfl) (by kernel_rfl)) (by kernel_rfl) (by kernel_rfl) (by kernel_rfl) (door_met os _)) ?_
  intro W base args ds gs before hval hW _ _ hL _
  have hA := hW
  obtain ⟨p, q, hA, hV, _⟩ := hA
  obtain ⟨rfl, _⟩ := trodVars_none hV
  have hlen := trodAll_len hA
  match ds, hlen with
  | [d0, d1, d2], _ =>
    obtain ⟨I0, hg⟩ := start_of hL
    refine (law_calls Z.E_ok (d := 6) (ts := Tryz.f7.params.toList) (cts := [Z.ctT, Z.ctP4, Z.ctW3]) (by kernel_rfl) I0 hg Z.law7 (fun j t v h1 h2 => hval j t v (by simpa using h1) h2) hA).mono fun ee W' ⟨he, hw⟩ => ?_
    exact ⟨_, he, post_true Tryz.laidOut (by decide +kernel) rfl rfl (by kernel_rfl) rfl hW hw⟩

theorem topWrongString_holds : Rows.TopWrongStringSaid :=
  OpenClaim.holds_of_wide 7 Tryz.f7 rfl rfl rfl rfl rfl rfl rfl ⟨rfl, rfl, rfl, rfl, rfl⟩ rfl rfl rfl rfl rfl (by kernel_rfl) Tryz.func7 (by kernel_rfl)
    (of_decide_eq_true (by kernel_rfl)) (by unfold Func.isWrapper; first | (rw [if_pos (by decide +kernel)]; kernel_rfl) | (rw [if_neg (by decide +kernel)]; exact ⟨rfl, rfl⟩))
    (fun os started H enc _ => topWrongString_lifted os started H enc)

theorem topWrongString_card : Rows.TopWrongStringCardSaid :=
  Claim7.holds_tied_plain_at .later [] [.data] true (true, "6203bfffe821de7f100e85e54d3541ce6a35bdb3872a168d8dc75ac7693b9863") true
    topWrongString_holds (fun _ h => by cases h) (by kernel_rfl) (fun _ h => by cases h) topWrongString_row_tie rfl ⟨rfl, rfl⟩ (by kernel_rfl) rfl
    (fun f fn hf hfn => by
      obtain rfl : f = 7 := Option.some.inj ((show Tryz.prog.funcNamed Tryz.f7.name = some 7 by kernel_rfl).symm.trans hf) |>.symm
      obtain rfl : fn = Tryz.f7 := (Option.some.inj (Tryz.func7.symm.trans hfn)).symm
      exact ⟨Tryz.looksAll, fun j t ht => by
        have hm : t ∈ Tryz.f7.params.toList := by simpa using Array.mem_of_getElem? ht
        have hall : (Tryz.f7.params.toList.all fun u => !Tryz.prog.wantsStandIn u) = true := by kernel_rfl
        exact (show Tryz.prog.wantsStandIn t = false by simpa using List.all_eq_true.1 hall t hm)⟩)
    (by kernel_rfl)
#print axioms topWrongString_card
end Go.Proofs.YtfbelnhibipndaaGreatDoor
