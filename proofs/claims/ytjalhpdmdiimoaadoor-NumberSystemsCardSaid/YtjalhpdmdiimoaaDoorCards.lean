/-
  DERIVED. GIVEN WITH THE SEED: THE CARDS: each row of YtjalhpdmdiimoaaDoorRows.lean that lists a variable, with what it lists TIED to the program's text (the seventh form; the later family's looks); each row that meets fmt, with fmt's text TOLD by the authors' own Lean function (tested against real Go, not proved from fmt's source: count such statements apart). THE CARD IS WHAT COUNTS. Prove the row's statement (the work); the ties are given (YtjalhpdmdiimoaaDoorTie.lean); close each card by the builder's one call (the guide's Derived/Test/ToyasCard.lean, 'card_holds'). Laid BY PROGRAM, IN A SANDBOX (cutbox-door.mjs). By AI agents, Wed Nov 11 2026. No macro, syntax, notation, axiom, sorry.
-/
import Derived.Test.YtjalhpdmdiimoaaDoorRows
import GoSem.ClaimSeven
namespace Go.Proofs.YtjalhpdmdiimoaaDoor
namespace Rows

/-- THE TIED CARD OF 'agraffelaw01.NumberEncloses'. -/
def numberEnclosesCard : Claim7 := { stood := { row := numberEnclosesRow, standIns := [], harness := (true, "63803909d1ac872219f664c64150de3f344068385e7b041504942dcdc456ca40"), looks := true }, kinds := [], alts := [], laidByText := true, laidKinds := [.data], laidTests := true, laidLooks := .later }
def NumberEnclosesCardSaid : Prop := Claim7.holds Tryd.pinned (.plain (OpenSpec.ofChange numberEnclosesSpec)) numberEnclosesCard

/-- THE TIED CARD OF 'agraffelaw01.NumberBest'. -/
def numberBestCard : Claim7 := { stood := { row := numberBestRow, standIns := [], harness := (true, "63803909d1ac872219f664c64150de3f344068385e7b041504942dcdc456ca40"), looks := true }, kinds := [], alts := [], laidByText := true, laidKinds := [.data], laidTests := true, laidLooks := .later }
def NumberBestCardSaid : Prop := Claim7.holds Tryd.pinned (.plain (OpenSpec.ofChange numberBestSpec)) numberBestCard

/-- THE TIED CARD OF 'agraffelaw01.NumberRanges'. -/
def numberRangesCard : Claim7 := { stood := { row := numberRangesRow, standIns := [], harness := (true, "63803909d1ac872219f664c64150de3f344068385e7b041504942dcdc456ca40"), looks := true }, kinds := [], alts := [], laidByText := true, laidKinds := [.data], laidTests := true, laidLooks := .later }
def NumberRangesCardSaid : Prop := Claim7.holds Tryd.pinned (.plain (OpenSpec.ofChange numberRangesSpec)) numberRangesCard

/-- THE TIED CARD OF 'agraffelaw01.NumberSystems'. -/
def numberSystemsCard : Claim7 := { stood := { row := numberSystemsRow, standIns := [], harness := (true, "63803909d1ac872219f664c64150de3f344068385e7b041504942dcdc456ca40"), looks := true }, kinds := [], alts := [], laidByText := true, laidKinds := [.data], laidTests := true, laidLooks := .later }
def NumberSystemsCardSaid : Prop := Claim7.holds Tryd.pinned (.plain (OpenSpec.ofChange numberSystemsSpec)) numberSystemsCard

/-- THE TIED CARD OF 'agraffelaw01.NumberPowers'. -/
def numberPowersCard : Claim7 := { stood := { row := numberPowersRow, standIns := [], harness := (true, "63803909d1ac872219f664c64150de3f344068385e7b041504942dcdc456ca40"), looks := true }, kinds := [], alts := [], laidByText := true, laidKinds := [.data], laidTests := true, laidLooks := .later }
def NumberPowersCardSaid : Prop := Claim7.holds Tryd.pinned (.plain (OpenSpec.ofChange numberPowersSpec)) numberPowersCard

/-- THE TIED CARD OF 'agraffelaw01.NumberRounded'. -/
def numberRoundedCard : Claim7 := { stood := { row := numberRoundedRow, standIns := [], harness := (true, "63803909d1ac872219f664c64150de3f344068385e7b041504942dcdc456ca40"), looks := true }, kinds := [], alts := [], laidByText := true, laidKinds := [.data], laidTests := true, laidLooks := .later }
def NumberRoundedCardSaid : Prop := Claim7.holds Tryd.pinned (.plain (OpenSpec.ofChange numberRoundedSpec)) numberRoundedCard

/-- THE TIED CARD OF 'agraffelaw01.NumberRoots'. -/
def numberRootsCard : Claim7 := { stood := { row := numberRootsRow, standIns := [], harness := (true, "63803909d1ac872219f664c64150de3f344068385e7b041504942dcdc456ca40"), looks := true }, kinds := [], alts := [], laidByText := true, laidKinds := [.data], laidTests := true, laidLooks := .later }
def NumberRootsCardSaid : Prop := Claim7.holds Tryd.pinned (.plain (OpenSpec.ofChange numberRootsSpec)) numberRootsCard

/-- THE TIED CARD OF 'agraffelaw01.NumberPitches'. -/
def numberPitchesCard : Claim7 := { stood := { row := numberPitchesRow, standIns := [], harness := (true, "63803909d1ac872219f664c64150de3f344068385e7b041504942dcdc456ca40"), looks := true }, kinds := [], alts := [], laidByText := true, laidKinds := [.data], laidTests := true, laidLooks := .later }
def NumberPitchesCardSaid : Prop := Claim7.holds Tryd.pinned (.plain (OpenSpec.ofChange numberPitchesSpec)) numberPitchesCard

/-- THE TIED CARD OF 'agraffelaw01.NumberOrders'. -/
def numberOrdersCard : Claim7 := { stood := { row := numberOrdersRow, standIns := [], harness := (true, "63803909d1ac872219f664c64150de3f344068385e7b041504942dcdc456ca40"), looks := true }, kinds := [], alts := [], laidByText := true, laidKinds := [.data], laidTests := true, laidLooks := .later }
def NumberOrdersCardSaid : Prop := Claim7.holds Tryd.pinned (.plain (OpenSpec.ofChange numberOrdersSpec)) numberOrdersCard

/-- THE TIED CARD OF 'agraffelaw01.NumberLines'. -/
def numberLinesCard : Claim7 := { stood := { row := numberLinesRow, standIns := [], harness := (true, "63803909d1ac872219f664c64150de3f344068385e7b041504942dcdc456ca40"), looks := true }, kinds := [], alts := [], laidByText := true, laidKinds := [.data], laidTests := true, laidLooks := .later }
def NumberLinesCardSaid : Prop := Claim7.holds Tryd.pinned (.plain (OpenSpec.ofChange numberLinesSpec)) numberLinesCard

/-- THE TIED CARD OF 'agraffelaw01.NumberLineChecks'. -/
def numberLineChecksCard : Claim7 := { stood := { row := numberLineChecksRow, standIns := [], harness := (true, "63803909d1ac872219f664c64150de3f344068385e7b041504942dcdc456ca40"), looks := true }, kinds := [], alts := [], laidByText := true, laidKinds := [.data], laidTests := true, laidLooks := .later }
def NumberLineChecksCardSaid : Prop := Claim7.holds Tryd.pinned (.plain (OpenSpec.ofChange numberLineChecksSpec)) numberLineChecksCard

/-- THE TIED CARD OF 'agraffetop.TopLinesTilt'. -/
def topLinesTiltCard : Claim7 := { stood := { row := topLinesTiltRow, standIns := [], harness := (true, "63803909d1ac872219f664c64150de3f344068385e7b041504942dcdc456ca40"), looks := true }, kinds := [], alts := [], laidByText := true, laidKinds := [.data], laidTests := true, laidLooks := .later }
def TopLinesTiltCardSaid : Prop := Claim7.holds Tryd.pinned (.plain (OpenSpec.ofChange topLinesTiltSpec)) topLinesTiltCard

/-- THE TIED CARD OF 'agraffelaw01.NumberFracs'. -/
def numberFracsCard : Claim7 := { stood := { row := numberFracsRow, standIns := [], harness := (true, "63803909d1ac872219f664c64150de3f344068385e7b041504942dcdc456ca40"), looks := true }, kinds := [], alts := [], laidByText := true, laidKinds := [.data], laidTests := true, laidLooks := .later }
def NumberFracsCardSaid : Prop := Claim7.holds Tryd.pinned (.plain (OpenSpec.ofChange numberFracsSpec)) numberFracsCard

/-- THE TIED CARD OF 'agraffelaw01.NumberOctaves'. -/
def numberOctavesCard : Claim7 := { stood := { row := numberOctavesRow, standIns := [], harness := (true, "63803909d1ac872219f664c64150de3f344068385e7b041504942dcdc456ca40"), looks := true }, kinds := [], alts := [], laidByText := true, laidKinds := [.data], laidTests := true, laidLooks := .later }
def NumberOctavesCardSaid : Prop := Claim7.holds Tryd.pinned (.plain (OpenSpec.ofChange numberOctavesSpec)) numberOctavesCard

/-- THE TIED CARD OF 'agraffelaw01.NumberTexts'. -/
def numberTextsCard : Claim7 := { stood := { row := numberTextsRow, standIns := [], harness := (true, "63803909d1ac872219f664c64150de3f344068385e7b041504942dcdc456ca40"), looks := true }, kinds := [], alts := [], laidByText := true, laidKinds := [.data, .data, .data, .sentinel, .sentinel, .data], laidTests := true, laidLooks := .later }
def NumberTextsCardSaid : Prop := Claim7.holds Tryd.pinned (.plain (OpenSpec.ofChange numberTextsSpec)) numberTextsCard

/-- THE SECOND FORM's CARD OF 'agraffelaw01.NumberEncloses'. -/
def numberEnclosesUptoCard : Claim7 := { stood := { row := numberEnclosesUptoRow, standIns := [], harness := (true, "63803909d1ac872219f664c64150de3f344068385e7b041504942dcdc456ca40"), looks := true }, kinds := [], alts := [], laidByText := true, laidKinds := [.data], laidTests := true, laidLooks := .later }
def NumberEnclosesUptoCardSaid : Prop := Claim7.holds Tryd.pinned (.plain (OpenSpec.upto numberEnclosesSpec)) numberEnclosesUptoCard

/-- THE SECOND FORM's CARD OF 'agraffelaw01.NumberBest'. -/
def numberBestUptoCard : Claim7 := { stood := { row := numberBestUptoRow, standIns := [], harness := (true, "63803909d1ac872219f664c64150de3f344068385e7b041504942dcdc456ca40"), looks := true }, kinds := [], alts := [], laidByText := true, laidKinds := [.data], laidTests := true, laidLooks := .later }
def NumberBestUptoCardSaid : Prop := Claim7.holds Tryd.pinned (.plain (OpenSpec.upto numberBestSpec)) numberBestUptoCard

/-- THE SECOND FORM's CARD OF 'agraffelaw01.NumberRanges'. -/
def numberRangesUptoCard : Claim7 := { stood := { row := numberRangesUptoRow, standIns := [], harness := (true, "63803909d1ac872219f664c64150de3f344068385e7b041504942dcdc456ca40"), looks := true }, kinds := [], alts := [], laidByText := true, laidKinds := [.data], laidTests := true, laidLooks := .later }
def NumberRangesUptoCardSaid : Prop := Claim7.holds Tryd.pinned (.plain (OpenSpec.upto numberRangesSpec)) numberRangesUptoCard

/-- THE SECOND FORM's CARD OF 'agraffelaw01.NumberSystems'. -/
def numberSystemsUptoCard : Claim7 := { stood := { row := numberSystemsUptoRow, standIns := [], harness := (true, "63803909d1ac872219f664c64150de3f344068385e7b041504942dcdc456ca40"), looks := true }, kinds := [], alts := [], laidByText := true, laidKinds := [.data], laidTests := true, laidLooks := .later }
def NumberSystemsUptoCardSaid : Prop := Claim7.holds Tryd.pinned (.plain (OpenSpec.upto numberSystemsSpec)) numberSystemsUptoCard

/-- THE SECOND FORM's CARD OF 'agraffelaw01.NumberPowers'. -/
def numberPowersUptoCard : Claim7 := { stood := { row := numberPowersUptoRow, standIns := [], harness := (true, "63803909d1ac872219f664c64150de3f344068385e7b041504942dcdc456ca40"), looks := true }, kinds := [], alts := [], laidByText := true, laidKinds := [.data], laidTests := true, laidLooks := .later }
def NumberPowersUptoCardSaid : Prop := Claim7.holds Tryd.pinned (.plain (OpenSpec.upto numberPowersSpec)) numberPowersUptoCard

/-- THE SECOND FORM's CARD OF 'agraffelaw01.NumberRounded'. -/
def numberRoundedUptoCard : Claim7 := { stood := { row := numberRoundedUptoRow, standIns := [], harness := (true, "63803909d1ac872219f664c64150de3f344068385e7b041504942dcdc456ca40"), looks := true }, kinds := [], alts := [], laidByText := true, laidKinds := [.data], laidTests := true, laidLooks := .later }
def NumberRoundedUptoCardSaid : Prop := Claim7.holds Tryd.pinned (.plain (OpenSpec.upto numberRoundedSpec)) numberRoundedUptoCard

/-- THE SECOND FORM's CARD OF 'agraffelaw01.NumberRoots'. -/
def numberRootsUptoCard : Claim7 := { stood := { row := numberRootsUptoRow, standIns := [], harness := (true, "63803909d1ac872219f664c64150de3f344068385e7b041504942dcdc456ca40"), looks := true }, kinds := [], alts := [], laidByText := true, laidKinds := [.data], laidTests := true, laidLooks := .later }
def NumberRootsUptoCardSaid : Prop := Claim7.holds Tryd.pinned (.plain (OpenSpec.upto numberRootsSpec)) numberRootsUptoCard

/-- THE SECOND FORM's CARD OF 'agraffelaw01.NumberPitches'. -/
def numberPitchesUptoCard : Claim7 := { stood := { row := numberPitchesUptoRow, standIns := [], harness := (true, "63803909d1ac872219f664c64150de3f344068385e7b041504942dcdc456ca40"), looks := true }, kinds := [], alts := [], laidByText := true, laidKinds := [.data], laidTests := true, laidLooks := .later }
def NumberPitchesUptoCardSaid : Prop := Claim7.holds Tryd.pinned (.plain (OpenSpec.upto numberPitchesSpec)) numberPitchesUptoCard

/-- THE SECOND FORM's CARD OF 'agraffelaw01.NumberOrders'. -/
def numberOrdersUptoCard : Claim7 := { stood := { row := numberOrdersUptoRow, standIns := [], harness := (true, "63803909d1ac872219f664c64150de3f344068385e7b041504942dcdc456ca40"), looks := true }, kinds := [], alts := [], laidByText := true, laidKinds := [.data], laidTests := true, laidLooks := .later }
def NumberOrdersUptoCardSaid : Prop := Claim7.holds Tryd.pinned (.plain (OpenSpec.upto numberOrdersSpec)) numberOrdersUptoCard

/-- THE SECOND FORM's CARD OF 'agraffelaw01.NumberLines'. -/
def numberLinesUptoCard : Claim7 := { stood := { row := numberLinesUptoRow, standIns := [], harness := (true, "63803909d1ac872219f664c64150de3f344068385e7b041504942dcdc456ca40"), looks := true }, kinds := [], alts := [], laidByText := true, laidKinds := [.data], laidTests := true, laidLooks := .later }
def NumberLinesUptoCardSaid : Prop := Claim7.holds Tryd.pinned (.plain (OpenSpec.upto numberLinesSpec)) numberLinesUptoCard

/-- THE SECOND FORM's CARD OF 'agraffelaw01.NumberLineChecks'. -/
def numberLineChecksUptoCard : Claim7 := { stood := { row := numberLineChecksUptoRow, standIns := [], harness := (true, "63803909d1ac872219f664c64150de3f344068385e7b041504942dcdc456ca40"), looks := true }, kinds := [], alts := [], laidByText := true, laidKinds := [.data], laidTests := true, laidLooks := .later }
def NumberLineChecksUptoCardSaid : Prop := Claim7.holds Tryd.pinned (.plain (OpenSpec.upto numberLineChecksSpec)) numberLineChecksUptoCard

/-- THE SECOND FORM's CARD OF 'agraffetop.TopLinesTilt'. -/
def topLinesTiltUptoCard : Claim7 := { stood := { row := topLinesTiltUptoRow, standIns := [], harness := (true, "63803909d1ac872219f664c64150de3f344068385e7b041504942dcdc456ca40"), looks := true }, kinds := [], alts := [], laidByText := true, laidKinds := [.data], laidTests := true, laidLooks := .later }
def TopLinesTiltUptoCardSaid : Prop := Claim7.holds Tryd.pinned (.plain (OpenSpec.upto topLinesTiltSpec)) topLinesTiltUptoCard

/-- THE SECOND FORM's CARD OF 'agraffelaw01.NumberFracs'. -/
def numberFracsUptoCard : Claim7 := { stood := { row := numberFracsUptoRow, standIns := [], harness := (true, "63803909d1ac872219f664c64150de3f344068385e7b041504942dcdc456ca40"), looks := true }, kinds := [], alts := [], laidByText := true, laidKinds := [.data], laidTests := true, laidLooks := .later }
def NumberFracsUptoCardSaid : Prop := Claim7.holds Tryd.pinned (.plain (OpenSpec.upto numberFracsSpec)) numberFracsUptoCard

/-- THE SECOND FORM's CARD OF 'agraffelaw01.NumberOctaves'. -/
def numberOctavesUptoCard : Claim7 := { stood := { row := numberOctavesUptoRow, standIns := [], harness := (true, "63803909d1ac872219f664c64150de3f344068385e7b041504942dcdc456ca40"), looks := true }, kinds := [], alts := [], laidByText := true, laidKinds := [.data], laidTests := true, laidLooks := .later }
def NumberOctavesUptoCardSaid : Prop := Claim7.holds Tryd.pinned (.plain (OpenSpec.upto numberOctavesSpec)) numberOctavesUptoCard

/-- THE SECOND FORM's CARD OF 'agraffelaw01.NumberTexts'. -/
def numberTextsUptoCard : Claim7 := { stood := { row := numberTextsUptoRow, standIns := [], harness := (true, "63803909d1ac872219f664c64150de3f344068385e7b041504942dcdc456ca40"), looks := true }, kinds := [], alts := [], laidByText := true, laidKinds := [.data, .data, .data, .sentinel, .sentinel, .data], laidTests := true, laidLooks := .later }
def NumberTextsUptoCardSaid : Prop := Claim7.holds Tryd.pinned (.plain (OpenSpec.upto numberTextsSpec)) numberTextsUptoCard
end Rows
end Go.Proofs.YtjalhpdmdiimoaaDoor
