/-
  DERIVED. GIVEN WITH THE SEED: THE CARDS: each row of YtoloaempiiedgaaGreatDoorRows.lean that lists a variable, with what it lists TIED to the program's text (the seventh form; the later family's looks); each row that meets fmt, with fmt's text TOLD by the authors' own Lean function (tested against real Go, not proved from fmt's source: count such statements apart). THE CARD IS WHAT COUNTS. Prove the row's statement (the work); the ties are given (YtoloaempiiedgaaGreatDoorTie.lean); close each card by the builder's one call (the guide's Derived/Test/ToyasCard.lean, 'card_holds'). Laid BY PROGRAM, IN A SANDBOX (cutbox-door.mjs). By AI agents, Wed Nov 11 2026. No macro, syntax, notation, axiom, sorry.
-/
import Derived.Test.YtoloaempiiedgaaGreatDoorRows
import GoSem.ClaimSeven
namespace Go.Proofs.YtoloaempiiedgaaGreatDoor
namespace Rows

/-- THE TIED CARD OF 'agraffelaw02.ScaleAllowed'. -/
def scaleAllowedCard : Claim7 := { stood := { row := scaleAllowedRow, standIns := [], harness := (true, "46ee2ef0073ee4c72294ed6f3ad75ab7f71916fb596cfb02573f6c95b492466e"), looks := true }, kinds := [], alts := [], laidByText := true, laidKinds := [.data], laidTests := true, laidLooks := .later }
def ScaleAllowedCardSaid : Prop := Claim7.holds Tryz.pinned (.plain (OpenSpec.ofChange scaleAllowedSpec)) scaleAllowedCard

/-- THE TIED CARD OF 'agraffelaw02.ScaleChecks'. -/
def scaleChecksCard : Claim7 := { stood := { row := scaleChecksRow, standIns := [], harness := (true, "46ee2ef0073ee4c72294ed6f3ad75ab7f71916fb596cfb02573f6c95b492466e"), looks := true }, kinds := [], alts := [], laidByText := true, laidKinds := [.data], laidTests := true, laidLooks := .later }
def ScaleChecksCardSaid : Prop := Claim7.holds Tryz.pinned (.plain (OpenSpec.ofChange scaleChecksSpec)) scaleChecksCard

/-- THE TIED CARD OF 'agraffelaw02.ScaleChooses'. -/
def scaleChoosesCard : Claim7 := { stood := { row := scaleChoosesRow, standIns := [], harness := (true, "46ee2ef0073ee4c72294ed6f3ad75ab7f71916fb596cfb02573f6c95b492466e"), looks := true }, kinds := [], alts := [], laidByText := true, laidKinds := [.data], laidTests := true, laidLooks := .later }
def ScaleChoosesCardSaid : Prop := Claim7.holds Tryz.pinned (.plain (OpenSpec.ofChange scaleChoosesSpec)) scaleChoosesCard

/-- THE TIED CARD OF 'agraffelaw06.TemperTexts'. -/
def temperTextsCard : Claim7 := { stood := { row := temperTextsRow, standIns := [], harness := (true, "46ee2ef0073ee4c72294ed6f3ad75ab7f71916fb596cfb02573f6c95b492466e"), looks := true }, kinds := [], alts := [], laidByText := true, laidKinds := [.data, .data, .data, .data, .sentinel, .sentinel, .data, .pinned], laidTests := true, laidLooks := .later }
def TemperTextsCardSaid : Prop := Claim7.holds Tryz.pinned (.plain (OpenSpec.ofChange temperTextsSpec)) temperTextsCard

/-- THE TIED CARD OF 'agraffelaw06.TemperChecks'. -/
def temperChecksCard : Claim7 := { stood := { row := temperChecksRow, standIns := [], harness := (true, "46ee2ef0073ee4c72294ed6f3ad75ab7f71916fb596cfb02573f6c95b492466e"), looks := true }, kinds := [], alts := [], laidByText := true, laidKinds := [.data, .data, .data, .data, .sentinel, .sentinel, .data, .pinned], laidTests := true, laidLooks := .later }
def TemperChecksCardSaid : Prop := Claim7.holds Tryz.pinned (.plain (OpenSpec.ofChange temperChecksSpec)) temperChecksCard

/-- THE TIED CARD OF 'agraffelaw02.ScaleTexts'. -/
def scaleTextsCard : Claim7 := { stood := { row := scaleTextsRow, standIns := [], harness := (true, "46ee2ef0073ee4c72294ed6f3ad75ab7f71916fb596cfb02573f6c95b492466e"), looks := true }, kinds := [], alts := [], laidByText := true, laidKinds := [.data, .data, .data, .data, .sentinel, .sentinel, .data, .pinned], laidTests := true, laidLooks := .later }
def ScaleTextsCardSaid : Prop := Claim7.holds Tryz.pinned (.plain (OpenSpec.ofChange scaleTextsSpec)) scaleTextsCard

/-- THE TIED CARD OF 'agraffelaw07.UpkeepTexts'. -/
def upkeepTextsCard : Claim7 := { stood := { row := upkeepTextsRow, standIns := [], harness := (true, "46ee2ef0073ee4c72294ed6f3ad75ab7f71916fb596cfb02573f6c95b492466e"), looks := true }, kinds := [], alts := [], laidByText := true, laidKinds := [.data, .data, .data, .data, .sentinel, .sentinel, .pinned], laidTests := true, laidLooks := .later }
def UpkeepTextsCardSaid : Prop := Claim7.holds Tryz.pinned (.plain (OpenSpec.ofChange upkeepTextsSpec)) upkeepTextsCard

/-- THE SECOND FORM's CARD OF 'agraffelaw02.ScaleAllowed'. -/
def scaleAllowedUptoCard : Claim7 := { stood := { row := scaleAllowedUptoRow, standIns := [], harness := (true, "46ee2ef0073ee4c72294ed6f3ad75ab7f71916fb596cfb02573f6c95b492466e"), looks := true }, kinds := [], alts := [], laidByText := true, laidKinds := [.data], laidTests := true, laidLooks := .later }
def ScaleAllowedUptoCardSaid : Prop := Claim7.holds Tryz.pinned (.plain (OpenSpec.upto scaleAllowedSpec)) scaleAllowedUptoCard

/-- THE SECOND FORM's CARD OF 'agraffelaw02.ScaleChecks'. -/
def scaleChecksUptoCard : Claim7 := { stood := { row := scaleChecksUptoRow, standIns := [], harness := (true, "46ee2ef0073ee4c72294ed6f3ad75ab7f71916fb596cfb02573f6c95b492466e"), looks := true }, kinds := [], alts := [], laidByText := true, laidKinds := [.data], laidTests := true, laidLooks := .later }
def ScaleChecksUptoCardSaid : Prop := Claim7.holds Tryz.pinned (.plain (OpenSpec.upto scaleChecksSpec)) scaleChecksUptoCard

/-- THE SECOND FORM's CARD OF 'agraffelaw02.ScaleChooses'. -/
def scaleChoosesUptoCard : Claim7 := { stood := { row := scaleChoosesUptoRow, standIns := [], harness := (true, "46ee2ef0073ee4c72294ed6f3ad75ab7f71916fb596cfb02573f6c95b492466e"), looks := true }, kinds := [], alts := [], laidByText := true, laidKinds := [.data], laidTests := true, laidLooks := .later }
def ScaleChoosesUptoCardSaid : Prop := Claim7.holds Tryz.pinned (.plain (OpenSpec.upto scaleChoosesSpec)) scaleChoosesUptoCard

/-- THE SECOND FORM's CARD OF 'agraffelaw06.TemperTexts'. -/
def temperTextsUptoCard : Claim7 := { stood := { row := temperTextsUptoRow, standIns := [], harness := (true, "46ee2ef0073ee4c72294ed6f3ad75ab7f71916fb596cfb02573f6c95b492466e"), looks := true }, kinds := [], alts := [], laidByText := true, laidKinds := [.data, .data, .data, .data, .sentinel, .sentinel, .data, .pinned], laidTests := true, laidLooks := .later }
def TemperTextsUptoCardSaid : Prop := Claim7.holds Tryz.pinned (.plain (OpenSpec.upto temperTextsSpec)) temperTextsUptoCard

/-- THE SECOND FORM's CARD OF 'agraffelaw06.TemperChecks'. -/
def temperChecksUptoCard : Claim7 := { stood := { row := temperChecksUptoRow, standIns := [], harness := (true, "46ee2ef0073ee4c72294ed6f3ad75ab7f71916fb596cfb02573f6c95b492466e"), looks := true }, kinds := [], alts := [], laidByText := true, laidKinds := [.data, .data, .data, .data, .sentinel, .sentinel, .data, .pinned], laidTests := true, laidLooks := .later }
def TemperChecksUptoCardSaid : Prop := Claim7.holds Tryz.pinned (.plain (OpenSpec.upto temperChecksSpec)) temperChecksUptoCard

/-- THE SECOND FORM's CARD OF 'agraffelaw02.ScaleTexts'. -/
def scaleTextsUptoCard : Claim7 := { stood := { row := scaleTextsUptoRow, standIns := [], harness := (true, "46ee2ef0073ee4c72294ed6f3ad75ab7f71916fb596cfb02573f6c95b492466e"), looks := true }, kinds := [], alts := [], laidByText := true, laidKinds := [.data, .data, .data, .data, .sentinel, .sentinel, .data, .pinned], laidTests := true, laidLooks := .later }
def ScaleTextsUptoCardSaid : Prop := Claim7.holds Tryz.pinned (.plain (OpenSpec.upto scaleTextsSpec)) scaleTextsUptoCard

/-- THE SECOND FORM's CARD OF 'agraffelaw07.UpkeepTexts'. -/
def upkeepTextsUptoCard : Claim7 := { stood := { row := upkeepTextsUptoRow, standIns := [], harness := (true, "46ee2ef0073ee4c72294ed6f3ad75ab7f71916fb596cfb02573f6c95b492466e"), looks := true }, kinds := [], alts := [], laidByText := true, laidKinds := [.data, .data, .data, .data, .sentinel, .sentinel, .pinned], laidTests := true, laidLooks := .later }
def UpkeepTextsUptoCardSaid : Prop := Claim7.holds Tryz.pinned (.plain (OpenSpec.upto upkeepTextsSpec)) upkeepTextsUptoCard
end Rows
end Go.Proofs.YtoloaempiiedgaaGreatDoor
