/-
  DERIVED. GIVEN WITH THE SEED: THE CARDS: each row of YtoloaempiiedgaaDoorRows.lean that lists a variable, with what it lists TIED to the program's text (the seventh form; the later family's looks); each row that meets fmt, with fmt's text TOLD by the authors' own Lean function (tested against real Go, not proved from fmt's source: count such statements apart). THE CARD IS WHAT COUNTS. Prove the row's statement (the work); the ties are given (YtoloaempiiedgaaDoorTie.lean); close each card by the builder's one call (the guide's Derived/Test/ToyasCard.lean, 'card_holds'). Laid BY PROGRAM, IN A SANDBOX (cutbox-door.mjs). By AI agents, Wed Nov 11 2026. No macro, syntax, notation, axiom, sorry.
-/
import Derived.Test.YtoloaempiiedgaaDoorRows
import GoSem.ClaimSeven
namespace Go.Proofs.YtoloaempiiedgaaDoor
namespace Rows

/-- THE TIED CARD OF 'agraffelaw02.ScaleChanges'. -/
def scaleChangesCard : Claim7 := { stood := { row := scaleChangesRow, standIns := [], harness := (true, "a622aaad8de61da2883e437b3f19559a989379d62d17ca4897f0e9694b4d3953"), looks := true }, kinds := [], alts := [], laidByText := true, laidKinds := [.data], laidTests := true, laidLooks := .later }
def ScaleChangesCardSaid : Prop := Claim7.holds Tryd.pinned (.plain (OpenSpec.ofChange scaleChangesSpec)) scaleChangesCard

/-- THE TIED CARD OF 'agraffelaw01.NumberTexts'. -/
def numberTextsCard : Claim7 := { stood := { row := numberTextsRow, standIns := [], harness := (true, "a622aaad8de61da2883e437b3f19559a989379d62d17ca4897f0e9694b4d3953"), looks := true }, kinds := [], alts := [], laidByText := true, laidKinds := [.data, .data, .data, .sentinel, .sentinel, .data], laidTests := true, laidLooks := .later }
def NumberTextsCardSaid : Prop := Claim7.holds Tryd.pinned (.plain (OpenSpec.ofChange numberTextsSpec)) numberTextsCard

/-- THE TIED CARD OF 'agraffetop.TopTensionBounds'. -/
def topTensionBoundsCard : Claim7 := { stood := { row := topTensionBoundsRow, standIns := [], harness := (true, "a622aaad8de61da2883e437b3f19559a989379d62d17ca4897f0e9694b4d3953"), looks := true }, kinds := [], alts := [], laidByText := true, laidKinds := [.data], laidTests := true, laidLooks := .later }
def TopTensionBoundsCardSaid : Prop := Claim7.holds Tryd.pinned (.plain (OpenSpec.ofChange topTensionBoundsSpec)) topTensionBoundsCard

/-- THE SECOND FORM's CARD OF 'agraffelaw02.ScaleChanges'. -/
def scaleChangesUptoCard : Claim7 := { stood := { row := scaleChangesUptoRow, standIns := [], harness := (true, "a622aaad8de61da2883e437b3f19559a989379d62d17ca4897f0e9694b4d3953"), looks := true }, kinds := [], alts := [], laidByText := true, laidKinds := [.data], laidTests := true, laidLooks := .later }
def ScaleChangesUptoCardSaid : Prop := Claim7.holds Tryd.pinned (.plain (OpenSpec.upto scaleChangesSpec)) scaleChangesUptoCard

/-- THE SECOND FORM's CARD OF 'agraffelaw01.NumberTexts'. -/
def numberTextsUptoCard : Claim7 := { stood := { row := numberTextsUptoRow, standIns := [], harness := (true, "a622aaad8de61da2883e437b3f19559a989379d62d17ca4897f0e9694b4d3953"), looks := true }, kinds := [], alts := [], laidByText := true, laidKinds := [.data, .data, .data, .sentinel, .sentinel, .data], laidTests := true, laidLooks := .later }
def NumberTextsUptoCardSaid : Prop := Claim7.holds Tryd.pinned (.plain (OpenSpec.upto numberTextsSpec)) numberTextsUptoCard

/-- THE SECOND FORM's CARD OF 'agraffetop.TopTensionBounds'. -/
def topTensionBoundsUptoCard : Claim7 := { stood := { row := topTensionBoundsUptoRow, standIns := [], harness := (true, "a622aaad8de61da2883e437b3f19559a989379d62d17ca4897f0e9694b4d3953"), looks := true }, kinds := [], alts := [], laidByText := true, laidKinds := [.data], laidTests := true, laidLooks := .later }
def TopTensionBoundsUptoCardSaid : Prop := Claim7.holds Tryd.pinned (.plain (OpenSpec.upto topTensionBoundsSpec)) topTensionBoundsUptoCard
end Rows
end Go.Proofs.YtoloaempiiedgaaDoor
