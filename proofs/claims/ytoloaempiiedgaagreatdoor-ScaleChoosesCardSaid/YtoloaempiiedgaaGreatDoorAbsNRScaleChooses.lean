--
import Derived.Test.YtoloaempiiedgaaGreatDoorAbsQP
import Derived.Test.YtoloaempiiedgaaGreatDoorAbsQRM
import Derived.Test.YtoloaempiiedgaaGreatDoorAbsQArgs
import Derived.Test.YtoloaempiiedgaaGreatDoorCards
set_option linter.unusedSimpArgs false
set_option linter.unusedVariables false
namespace Go.Proofs.YtoloaempiiedgaaGreatDoor
open Go.ChangeShapes Go.WideShapes Go.RowKit Go.Abs Go.ChangeAt Go.WideElems Go.WideMaps
set_option maxRecDepth 100000
theorem scaleChooses_lifted (os:Os) (started:os.Started) (H:Type) (enc:TypeId × Value→H) :
  ReturnsInHanded {} Tryz.checked os 5 .any (fun w args=>(Rows.scaleChoosesSpec.pre enc Tryz.prog Tryz.f5 [] false w args∧laidMetH Tryz.prog Rows.scaleChoosesRow.laid w)∧sizedMet enc Tryz.prog Tryz.f5 (OpenSpec.ofChange Rows.scaleChoosesSpec) false w args)
   (Rows.scaleChoosesSpec.post enc Tryz.prog Tryz.f5 false true false false):=by
 refine returnsInHanded_of_change_and (C:=Tryz.checked) (X:=fun w _=>laidMetH Tryz.prog Rows.scaleChoosesRow.laid w) (fun _ _ _ hh h=>h.of_heap hh) Tryz.own started (by kernel_rfl) Tryz.func5
  (ChangeSpec.witness_shaped (enc:=enc) (C:=Tryz.checked) (os:=os) (X:=fun w _=>laidMetH Tryz.prog Rows.scaleChoosesRow.laid w) false (World.doorLaid Tryz.prog 400 os) #[.agg #[.int .i64 0,.slice none 0 0,.slice none 0 0],.agg #[.int .i64 0,.int .i64 0,.int .i64 0,.int .i64 0],.slice none 0 0] 8 rfl (World.shaped_of_RefB (by kernel_rfl) (by kernel_rfl)) (by kernel_rfl) (by kernel_rfl) (by kernel_rfl) (door_met os _)) ?_
 intro W base args ds gs before hval hW _ _ hL _
 have hA:=hW
 obtain⟨p,q,hA,hV,_⟩:=hA
 obtain⟨rfl,_⟩:=trodVars_none hV
 have hlen:=trodAll_len hA
 match ds,hlen with
 | [d0,d1,d2],_ =>
  obtain⟨I0,hg⟩:=start_of hL
  refine (law_calls Q.E_ok (d:=6) (ts:=Tryz.f5.params.toList) (cts:=[Q.ctP,Q.ctL,Q.ctIs]) (by kernel_rfl) I0 hg (LaidOk.none (by kernel_rfl)) Q.law5 (fun j t v h1 h2=>hval j t v (by simpa using h1) h2) hA).mono fun ee W' ⟨he,hw⟩=>?_
  exact⟨_,he,post_true Tryz.laidOut (by decide +kernel) rfl rfl (by kernel_rfl) rfl hW hw⟩
theorem scaleChooses_inPlace:(Rows.scaleChoosesRow.inPlace == Tryz.prog.inPlace 5)=true:=by kernel_rfl
theorem scaleChooses_unfollowed:(Rows.scaleChoosesRow.unfollowed == Tryz.prog.unfollowed 5)=true:=by kernel_rfl
theorem scaleChooses_recurses:(Rows.scaleChoosesRow.recurses == Tryz.prog.recurses 5)=true:=by kernel_rfl
theorem scaleChooses_named:(Rows.scaleChoosesRow.named == Tryz.prog.varsNamed 5)=true:=by kernel_rfl
theorem scaleChooses_closed:joinedFacts Tryz.prog 5 Tryz.f5 Rows.scaleChoosesSpec Rows.scaleChoosesRow=true:=by
 unfold joinedFacts
 exact band (band (band (band (band (band (band (band (band (band (band (band (band (band (band (band (band (band (band (band (band (band (band (band (band (band (band (band (band (band (band (by kernel_rfl) Tryz.laidOut) Tryz.c2) (by kernel_rfl)) (by kernel_rfl)) (by kernel_rfl)) Tryz.c3) (by kernel_rfl)) Tryz.c4) scaleChooses_inPlace) scaleChooses_unfollowed) scaleChooses_recurses) scaleChooses_named) (by kernel_rfl)) (by kernel_rfl)) (by kernel_rfl)) (by kernel_rfl)) (by kernel_rfl)) (by kernel_rfl)) (by kernel_rfl)) (by kernel_rfl)) (by kernel_rfl)) Tryz.c9) (by kernel_rfl)) Tryz.c10) Tryz.c11) Tryz.c12) Tryz.c13) (by kernel_rfl)) (by kernel_rfl)) (by kernel_rfl)) (by kernel_rfl)
theorem scaleChooses_holds:Rows.ScaleChoosesSaid :=
 OpenClaim.holds_of_wide 5 Tryz.f5 rfl rfl rfl rfl rfl rfl rfl ⟨rfl,rfl,rfl,rfl,rfl⟩ rfl rfl rfl rfl rfl (by kernel_rfl) Tryz.func5 scaleChooses_closed
  (of_decide_eq_true (by kernel_rfl)) (by unfold Func.isWrapper; first | (rw[if_pos (by decide +kernel)]; kernel_rfl) | (rw[if_neg (by decide +kernel)]; exact⟨rfl,rfl⟩))
  (fun os started H enc _=>scaleChooses_lifted os started H enc)
theorem scaleChooses_card:Rows.ScaleChoosesCardSaid :=
 Claim7.holds_tied_plain_at .later [] [.data] true (true, "46ee2ef0073ee4c72294ed6f3ad75ab7f71916fb596cfb02573f6c95b492466e") true
  scaleChooses_holds (fun _ h=>by cases h) (by kernel_rfl) (fun _ h=>by cases h) scaleChooses_row_tie rfl ⟨rfl,rfl⟩ (by kernel_rfl) rfl
  (fun f fn hf hfn=>by
   obtain rfl:f=5:=Option.some.inj ((show Tryz.prog.funcNamed Tryz.f5.name=some 5 by kernel_rfl).symm.trans hf) |>.symm
   obtain rfl:fn=Tryz.f5:=(Option.some.inj (Tryz.func5.symm.trans hfn)).symm
   exact⟨Tryz.looksAll,fun j t ht=>by
    have hm:t∈Tryz.f5.params.toList:=by simpa using Array.mem_of_getElem? ht
    have hall:(Tryz.f5.params.toList.all fun u=>!Tryz.prog.wantsStandIn u)=true:=by kernel_rfl
    exact (show Tryz.prog.wantsStandIn t=false by simpa using List.all_eq_true.1 hall t hm)⟩)
  (by kernel_rfl)
#print axioms scaleChooses_card
end Go.Proofs.YtoloaempiiedgaaGreatDoor
