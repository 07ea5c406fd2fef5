--
import Derived.Test.YtllhkifkiabkbaaGreatDoorAbsBP
import Derived.Test.YtllhkifkiabkbaaGreatDoorAbsBR
import Derived.Test.YtllhkifkiabkbaaGreatDoorAbsBYC
import Derived.Test.YtllhkifkiabkbaaGreatDoorAbsBArgs
import Derived.Test.YtllhkifkiabkbaaGreatDoorCards
set_option linter.unusedSimpArgs false
set_option linter.unusedVariables false
namespace Go.Proofs.YtllhkifkiabkbaaGreatDoor
open Go.ChangeShapes Go.WideShapes Go.RowKit Go.Abs Go.ChangeAt Go.WideElems Go.WideMaps
set_option maxRecDepth 100000
theorem scaleTexts_lifted (os:Os) (started:os.Started) (H:Type) (enc:TypeId × Value→H) :
  ReturnsInHanded {} Tryz.checked os 3 .any (fun w args=>(Rows.scaleTextsSpec.pre enc Tryz.prog Tryz.f3 [] false w args∧laidMetH Tryz.prog Rows.scaleTextsRow.laid w)∧sizedMet enc Tryz.prog Tryz.f3 (OpenSpec.ofChange Rows.scaleTextsSpec) false w args)
   (Rows.scaleTextsSpec.post enc Tryz.prog Tryz.f3 false true false false):=by
 refine returnsInHanded_of_change_and (C:=Tryz.checked) (X:=fun w _=>laidMetH Tryz.prog Rows.scaleTextsRow.laid w) (fun _ _ _ hh h=>h.of_heap hh) Tryz.own started (by kernel_rfl) Tryz.func3
  (ChangeSpec.witness_shaped (enc:=enc) (C:=Tryz.checked) (os:=os) (X:=fun w _=>laidMetH Tryz.prog Rows.scaleTextsRow.laid w) false (World.laidAll Tryz.prog os laid0) #[.agg #[.int .i64 0,.slice none 0 0,.slice none 0 0],.string ⟨#[]⟩] 8 (World.laidAll_os _ _ _) (World.shaped_of_ZipB (by kernel_rfl) (by kernel_rfl)) (by kernel_rfl) (by kernel_rfl) (by kernel_rfl) (door_met os _)) ?_
 intro W base args ds gs before hval hW _ _ hL _
 have hA:=hW
 obtain⟨p,q,hA,hV,_⟩:=hA
 obtain⟨rfl,_⟩:=trodVars_none hV
 have hlen:=trodAll_len hA
 match ds,hlen with
 | [d0,d1],_ =>
  obtain⟨ρ,I0,hg⟩:=start_of hL
  refine (law_calls B.T.U.E1_ok (d:=6) (ts:=Tryz.f3.params.toList) (cts:=[B.ctP,(false,[.str])]) (by kernel_rfl) I0 hg (laid_ok hL) (B.lawR _ rfl) (fun j t v h1 h2=>hval j t v (by simpa using h1) h2) hA).mono fun ee W' ⟨he,hw⟩=>?_
  exact⟨_,he,post_true Tryz.laidOut (by decide +kernel) rfl rfl (by kernel_rfl) rfl hW hw⟩
theorem scaleTexts_inPlace:(Rows.scaleTextsRow.inPlace == Tryz.prog.inPlace 3)=true:=by kernel_rfl
theorem scaleTexts_unfollowed:(Rows.scaleTextsRow.unfollowed == Tryz.prog.unfollowed 3)=true:=by kernel_rfl
theorem scaleTexts_recurses:(Rows.scaleTextsRow.recurses == Tryz.prog.recurses 3)=true:=by kernel_rfl
theorem scaleTexts_named:(Rows.scaleTextsRow.named == Tryz.prog.varsNamed 3)=true:=by kernel_rfl
theorem scaleTexts_closed:joinedFacts Tryz.prog 3 Tryz.f3 Rows.scaleTextsSpec Rows.scaleTextsRow=true:=by
 unfold joinedFacts
 exact band (band (band (band (band (band (band (band (band (band (band (band (band (band (band (band (band (band (band (band (band (band (band (band (band (band (band (band (band (band (band (by kernel_rfl) Tryz.laidOut) Tryz.c2) (by kernel_rfl)) (by kernel_rfl)) (by kernel_rfl)) Tryz.c3) (by kernel_rfl)) Tryz.c4) scaleTexts_inPlace) scaleTexts_unfollowed) scaleTexts_recurses) scaleTexts_named) (by kernel_rfl)) (by kernel_rfl)) (by kernel_rfl)) (by kernel_rfl)) (by kernel_rfl)) (by kernel_rfl)) (by kernel_rfl)) (by kernel_rfl)) (by kernel_rfl)) Tryz.c9) (by kernel_rfl)) Tryz.c10) Tryz.c11) Tryz.c12) Tryz.c13) (by kernel_rfl)) (by kernel_rfl)) (by kernel_rfl)) (by kernel_rfl)
theorem scaleTexts_holds:Rows.ScaleTextsSaid :=
 OpenClaim.holds_of_wide 3 Tryz.f3 rfl rfl rfl rfl rfl rfl rfl ⟨rfl,rfl,rfl,rfl,rfl⟩ rfl rfl rfl rfl rfl (by kernel_rfl) Tryz.func3 scaleTexts_closed
  (of_decide_eq_true (by kernel_rfl)) (by unfold Func.isWrapper; first | (rw[if_pos (by decide +kernel)]; kernel_rfl) | (rw[if_neg (by decide +kernel)]; exact⟨rfl,rfl⟩))
  (fun os started H enc _=>scaleTexts_lifted os started H enc)
theorem scaleTexts_card:Rows.ScaleTextsCardSaid :=
 Claim7.holds_tied_plain_at .later [] [.data, .data, .data, .data, .sentinel, .sentinel, .data, .pinned] true (true, "dabfcc8dc5edb57f3933d4b7c480e90bf96d425be068757705068b423364f0c9") true
  scaleTexts_holds (fun _ h=>by cases h) (by kernel_rfl) (fun _ h=>by cases h) scaleTexts_row_tie rfl ⟨rfl,rfl⟩ (by kernel_rfl) rfl
  (fun f fn hf hfn=>by
   obtain rfl:f=3:=Option.some.inj ((show Tryz.prog.funcNamed Tryz.f3.name=some 3 by kernel_rfl).symm.trans hf) |>.symm
   obtain rfl:fn=Tryz.f3:=(Option.some.inj (Tryz.func3.symm.trans hfn)).symm
   exact⟨Tryz.looksAll,fun j t ht=>by
    have hm:t∈Tryz.f3.params.toList:=by simpa using Array.mem_of_getElem? ht
    have hall:(Tryz.f3.params.toList.all fun u=>!Tryz.prog.wantsStandIn u)=true:=by kernel_rfl
    exact (show Tryz.prog.wantsStandIn t=false by simpa using List.all_eq_true.1 hall t hm)⟩)
  (by kernel_rfl)
#print axioms scaleTexts_card
end Go.Proofs.YtllhkifkiabkbaaGreatDoor
