/-
  DERIVED. GIVEN WITH THE SEED: THE CARDS: each row of YtfbelnhibipndaaGreatDoorRows.lean that lists a variable, with what it lists TIED to the program's text (the seventh form; the later family's looks); each row that meets fmt, with fmt's text TOLD by the authors' own Lean function (tested against real Go, not proved from fmt's source: count such statements apart). THE CARD IS WHAT COUNTS. Prove the row's statement (the work); the ties are given (YtfbelnhibipndaaGreatDoorTie.lean); close each card by the builder's one call (the guide's Derived/Test/ToyasCard.lean, 'card_holds'). Laid BY PROGRAM, IN A SANDBOX (cutbox-door.mjs). By AI agents, Wed Nov 11 2026. No macro, syntax, notation, axiom, sorry.
-/
import Derived.Test.YtfbelnhibipndaaGreatDoorRows
import GoSem.ClaimSeven
namespace Go.Proofs.YtfbelnhibipndaaGreatDoor
namespace Rows

/-- THE TIED CARD OF 'agraffelaw07.UpkeepTests'. -/
def upkeepTestsCard : Claim7 := { stood := { row := upkeepTestsRow, standIns := [], harness := (true, "6203bfffe821de7f100e85e54d3541ce6a35bdb3872a168d8dc75ac7693b9863"), looks := true }, kinds := [], alts := [], laidByText := true, laidKinds := [.data], laidTests := true, laidLooks := .later }
def UpkeepTestsCardSaid : Prop := Claim7.holds Tryz.pinned (.plain (OpenSpec.ofChange upkeepTestsSpec)) upkeepTestsCard

/-- THE TIED CARD OF 'agraffelaw07.UpkeepCounts'. -/
def upkeepCountsCard : Claim7 := { stood := { row := upkeepCountsRow, standIns := [], harness := (true, "6203bfffe821de7f100e85e54d3541ce6a35bdb3872a168d8dc75ac7693b9863"), looks := true }, kinds := [], alts := [], laidByText := true, laidKinds := [.data], laidTests := true, laidLooks := .later }
def UpkeepCountsCardSaid : Prop := Claim7.holds Tryz.pinned (.plain (OpenSpec.ofChange upkeepCountsSpec)) upkeepCountsCard

/-- THE TIED CARD OF 'agraffelaw07.UpkeepTexts'. -/
def upkeepTextsCard : Claim7 := { stood := { row := upkeepTextsRow, standIns := [], harness := (true, "6203bfffe821de7f100e85e54d3541ce6a35bdb3872a168d8dc75ac7693b9863"), looks := true }, kinds := [], alts := [], laidByText := true, laidKinds := [.data, .data, .data, .data, .sentinel, .sentinel, .pinned], laidTests := true, laidLooks := .later }
def UpkeepTextsCardSaid : Prop := Claim7.holds Tryz.pinned (.plain (OpenSpec.ofChange upkeepTextsSpec)) upkeepTextsCard

/-- THE TIED CARD OF 'agraffetop.TopInTune'. -/
def topInTuneCard : Claim7 := { stood := { row := topInTuneRow, standIns := [], harness := (true, "6203bfffe821de7f100e85e54d3541ce6a35bdb3872a168d8dc75ac7693b9863"), looks := true }, kinds := [], alts := [], laidByText := true, laidKinds := [.data], laidTests := true, laidLooks := .later }
def TopInTuneCardSaid : Prop := Claim7.holds Tryz.pinned (.plain (OpenSpec.ofChange topInTuneSpec)) topInTuneCard

/-- THE TIED CARD OF 'agraffetop.TopWrongString'. -/
def topWrongStringCard : Claim7 := { stood := { row := topWrongStringRow, standIns := [], harness := (true, "6203bfffe821de7f100e85e54d3541ce6a35bdb3872a168d8dc75ac7693b9863"), looks := true }, kinds := [], alts := [], laidByText := true, laidKinds := [.data], laidTests := true, laidLooks := .later }
def TopWrongStringCardSaid : Prop := Claim7.holds Tryz.pinned (.plain (OpenSpec.ofChange topWrongStringSpec)) topWrongStringCard

/-- THE SECOND FORM's CARD OF 'agraffelaw07.UpkeepTests'. -/
def upkeepTestsUptoCard : Claim7 := { stood := { row := upkeepTestsUptoRow, standIns := [], harness := (true, "6203bfffe821de7f100e85e54d3541ce6a35bdb3872a168d8dc75ac7693b9863"), looks := true }, kinds := [], alts := [], laidByText := true, laidKinds := [.data], laidTests := true, laidLooks := .later }
def UpkeepTestsUptoCardSaid : Prop := Claim7.holds Tryz.pinned (.plain (OpenSpec.upto upkeepTestsSpec)) upkeepTestsUptoCard

/-- THE SECOND FORM's CARD OF 'agraffelaw07.UpkeepCounts'. -/
def upkeepCountsUptoCard : Claim7 := { stood := { row := upkeepCountsUptoRow, standIns := [], harness := (true, "6203bfffe821de7f100e85e54d3541ce6a35bdb3872a168d8dc75ac7693b9863"), looks := true }, kinds := [], alts := [], laidByText := true, laidKinds := [.data], laidTests := true, laidLooks := .later }
def UpkeepCountsUptoCardSaid : Prop := Claim7.holds Tryz.pinned (.plain (OpenSpec.upto upkeepCountsSpec)) upkeepCountsUptoCard

/-- THE SECOND FORM's CARD OF 'agraffelaw07.UpkeepTexts'. -/
def upkeepTextsUptoCard : Claim7 := { stood := { row := upkeepTextsUptoRow, standIns := [], harness := (true, "6203bfffe821de7f100e85e54d3541ce6a35bdb3872a168d8dc75ac7693b9863"), looks := true }, kinds := [], alts := [], laidByText := true, laidKinds := [.data, .data, .data, .data, .sentinel, .sentinel, .pinned], laidTests := true, laidLooks := .later }
def UpkeepTextsUptoCardSaid : Prop := Claim7.holds Tryz.pinned (.plain (OpenSpec.upto upkeepTextsSpec)) upkeepTextsUptoCard

/-- THE SECOND FORM's CARD OF 'agraffetop.TopInTune'. -/
def topInTuneUptoCard : Claim7 := { stood := { row := topInTuneUptoRow, standIns := [], harness := (true, "6203bfffe821de7f100e85e54d3541ce6a35bdb3872a168d8dc75ac7693b9863"), looks := true }, kinds := [], alts := [], laidByText := true, laidKinds := [.data], laidTests := true, laidLooks := .later }
def TopInTuneUptoCardSaid : Prop := Claim7.holds Tryz.pinned (.plain (OpenSpec.upto topInTuneSpec)) topInTuneUptoCard

/-- THE SECOND FORM's CARD OF 'agraffetop.TopWrongString'. -/
def topWrongStringUptoCard : Claim7 := { stood := { row := topWrongStringUptoRow, standIns := [], harness := (true, "6203bfffe821de7f100e85e54d3541ce6a35bdb3872a168d8dc75ac7693b9863"), looks := true }, kinds := [], alts := [], laidByText := true, laidKinds := [.data], laidTests := true, laidLooks := .later }
def TopWrongStringUptoCardSaid : Prop := Claim7.holds Tryz.pinned (.plain (OpenSpec.upto topWrongStringSpec)) topWrongStringUptoCard
end Rows
end Go.Proofs.YtfbelnhibipndaaGreatDoor
