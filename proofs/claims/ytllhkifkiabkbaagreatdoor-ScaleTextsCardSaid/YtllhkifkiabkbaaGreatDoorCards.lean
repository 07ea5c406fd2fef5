/-
  DERIVED. GIVEN WITH THE SEED: THE CARDS: each row of YtllhkifkiabkbaaGreatDoorRows.lean that lists a variable, with what it lists TIED to the program's text (the seventh form; the later family's looks); each row that meets fmt, with fmt's text TOLD by the authors' own Lean function (tested against real Go, not proved from fmt's source: count such statements apart). THE CARD IS WHAT COUNTS. Prove the row's statement (the work); the ties are given (YtllhkifkiabkbaaGreatDoorTie.lean); close each card by the builder's one call (the guide's Derived/Test/ToyasCard.lean, 'card_holds'). Laid BY PROGRAM, IN A SANDBOX (cutbox-door.mjs). By AI agents, Wed Nov 11 2026. No macro, syntax, notation, axiom, sorry.
-/
import Derived.Test.YtllhkifkiabkbaaGreatDoorRows
import GoSem.ClaimSeven
namespace Go.Proofs.YtllhkifkiabkbaaGreatDoor
namespace Rows

/-- THE TIED CARD OF 'agraffelaw02.ScaleTexts'. -/
def scaleTextsCard : Claim7 := { stood := { row := scaleTextsRow, standIns := [], harness := (true, "dabfcc8dc5edb57f3933d4b7c480e90bf96d425be068757705068b423364f0c9"), looks := true }, kinds := [], alts := [], laidByText := true, laidKinds := [.data, .data, .data, .data, .sentinel, .sentinel, .data, .pinned], laidTests := true, laidLooks := .later }
def ScaleTextsCardSaid : Prop := Claim7.holds Tryz.pinned (.plain (OpenSpec.ofChange scaleTextsSpec)) scaleTextsCard

/-- THE TIED CARD OF 'agraffelaw07.UpkeepTexts'. -/
def upkeepTextsCard : Claim7 := { stood := { row := upkeepTextsRow, standIns := [], harness := (true, "dabfcc8dc5edb57f3933d4b7c480e90bf96d425be068757705068b423364f0c9"), looks := true }, kinds := [], alts := [], laidByText := true, laidKinds := [.data, .data, .data, .data, .sentinel, .sentinel, .pinned], laidTests := true, laidLooks := .later }
def UpkeepTextsCardSaid : Prop := Claim7.holds Tryz.pinned (.plain (OpenSpec.ofChange upkeepTextsSpec)) upkeepTextsCard

/-- THE SECOND FORM's CARD OF 'agraffelaw02.ScaleTexts'. -/
def scaleTextsUptoCard : Claim7 := { stood := { row := scaleTextsUptoRow, standIns := [], harness := (true, "dabfcc8dc5edb57f3933d4b7c480e90bf96d425be068757705068b423364f0c9"), looks := true }, kinds := [], alts := [], laidByText := true, laidKinds := [.data, .data, .data, .data, .sentinel, .sentinel, .data, .pinned], laidTests := true, laidLooks := .later }
def ScaleTextsUptoCardSaid : Prop := Claim7.holds Tryz.pinned (.plain (OpenSpec.upto scaleTextsSpec)) scaleTextsUptoCard

/-- THE SECOND FORM's CARD OF 'agraffelaw07.UpkeepTexts'. -/
def upkeepTextsUptoCard : Claim7 := { stood := { row := upkeepTextsUptoRow, standIns := [], harness := (true, "dabfcc8dc5edb57f3933d4b7c480e90bf96d425be068757705068b423364f0c9"), looks := true }, kinds := [], alts := [], laidByText := true, laidKinds := [.data, .data, .data, .data, .sentinel, .sentinel, .pinned], laidTests := true, laidLooks := .later }
def UpkeepTextsUptoCardSaid : Prop := Claim7.holds Tryz.pinned (.plain (OpenSpec.upto upkeepTextsSpec)) upkeepTextsUptoCard
end Rows
end Go.Proofs.YtllhkifkiabkbaaGreatDoor
