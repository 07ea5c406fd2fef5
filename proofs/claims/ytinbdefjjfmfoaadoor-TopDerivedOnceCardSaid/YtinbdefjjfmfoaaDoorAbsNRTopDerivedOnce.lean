/- The law TopDerivedOnce: the row and the card: for every input the call returns true, and each argument reads afterwards as it read before. -/
import Derived.Test.YtinbdefjjfmfoaaDoorAbsTP
import Derived.Test.YtinbdefjjfmfoaaDoorAbsTIP
import Derived.Test.YtinbdefjjfmfoaaDoorAbsTArgs
import Derived.Test.YtinbdefjjfmfoaaDoorCards
set_option linter.unusedSimpArgs false
set_option linter.unusedVariables false
namespace Go.Proofs.YtinbdefjjfmfoaaDoor
open Go.ChangeShapes Go.WideShapes Go.RowKit Go.Abs Go.ChangeAt Go.WideElems Go.WideMaps
set_option maxRecDepth 100000

theorem topDerivedOnce_lifted (os : Os) (started : os.Started) (H : Type) (enc : TypeId × Value → H) :
    ReturnsInHanded {} Tryd.checked os 18 .any (fun w args => (Rows.topDerivedOnceSpec.pre enc Tryd.prog Tryd.f18 [] false w args ∧ laidMetH Tryd.prog Rows.topDerivedOnceRow.laid w) ∧ sizedMet enc Tryd.prog Tryd.f18 (OpenSpec.ofChange Rows.topDerivedOnceSpec) false w args)
      (Rows.topDerivedOnceSpec.post enc Tryd.prog Tryd.f18 false true false false) := by
  refine returnsInHanded_of_change_and (C := Tryd.checked) (X := fun w _ => laidMetH Tryd.prog Rows.topDerivedOnceRow.laid w) (fun _ _ _ hh h => h.of_heap hh) Tryd.own started (by kernel_rfl) Tryd.func18
    (ChangeSpec.witness_shaped (enc := enc) (C := Tryd.checked) (os := os) (X := fun w _ => laidMetH Tryd.prog Rows.topDerivedOnceRow.laid w) false (World.doorLaid Tryd.prog 400 os) #[.agg (.string ⟨#[]⟩ :: List.replicate 24 (.int .i64 0)).toArray, .agg #[.slice none 0 0, .slice none 0 0, .int .i64 0, .int .i64 0], .int .i64 0] 8 rfl (World.shaped_of_RefB (by kernel_rfl) (by kernel_rfl)) (by kernel_rfl) (by kernel_rfl) (by kernel_rfl) (door_met os _)) ?_
  intro W base args ds gs before hval hW _ _ hL _
  have hA := hW
  obtain ⟨p, q, hA, hV, _⟩ := hA
  obtain ⟨rfl, _⟩ := trodVars_none hV
  have hlen := trodAll_len hA
  match ds, hlen with
  | [d0, d1, d2], _ =>
    obtain ⟨I0, hg⟩ := start_of hL
    refine (law_calls T.E_ok (d := 6) (ts := Tryd.f18.params.toList) (cts := [T.ctT, (true, [.sl [ctI, ctI], .sl [ctI, ctI], ctI, ctI]), (false, [ctI])]) (by kernel_rfl) I0 hg T.topDerivedOnce_law (fun j t v h1 h2 => hval j t v (by simpa using h1) h2) hA).mono fun ee W' ⟨he, hw⟩ => ?_
    exact ⟨_, he, post_true Tryd.laidOut (by decide +kernel) rfl rfl (by kernel_rfl) rfl hW hw⟩

theorem topDerivedOnce_holds : Rows.TopDerivedOnceSaid :=
  OpenClaim.holds_of_wide 18 Tryd.f18 rfl rfl rfl rfl rfl rfl rfl ⟨rfl, rfl, rfl, rfl, rfl⟩ rfl rfl rfl rfl rfl (by kernel_rfl) Tryd.func18 (by kernel_rfl)
    (of_decide_eq_true (by kernel_rfl)) (by unfold Func.isWrapper; first | (rw [if_pos (by decide +kernel)]; kernel_rfl) | (rw [if_neg (by decide +kernel)]; exact ⟨rfl, rfl⟩))
    (fun os started H enc _ => topDerivedOnce_lifted os started H enc)

theorem topDerivedOnce_card : Rows.TopDerivedOnceCardSaid :=
  Claim7.holds_tied_plain_at .later [] [.data] true (true, "b3af1a1ebfbf56438a82e9a4c47a19e7cb5ca46a6609b0978e191349a82b66b8") false
    topDerivedOnce_holds (fun _ h => by cases h) (by kernel_rfl) (fun _ h => by cases h) topDerivedOnce_row_tie rfl ⟨rfl, rfl⟩ (by kernel_rfl) rfl
    (fun f fn hf hfn => by
      obtain rfl : f = 18 := Option.some.inj ((show Tryd.prog.funcNamed Tryd.f18.name = some 18 by kernel_rfl).symm.trans hf) |>.symm
      obtain rfl : fn = Tryd.f18 := (Option.some.inj (Tryd.func18.symm.trans hfn)).symm
      exact ⟨Tryd.looksAll, fun j t ht => by
        have hm : t ∈ Tryd.f18.params.toList := by simpa using Array.mem_of_getElem? ht
        have hall : (Tryd.f18.params.toList.all fun u => !Tryd.prog.wantsStandIn u) = true := by kernel_rfl
        exact (show Tryd.prog.wantsStandIn t = false by simpa using List.all_eq_true.1 hall t hm)⟩)
    (by kernel_rfl)
#print axioms topDerivedOnce_card
end Go.Proofs.YtinbdefjjfmfoaaDoor
