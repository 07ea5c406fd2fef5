/-
  DERIVED. GIVEN WITH THE SEED: THE CARDS: each row of YtinbdefjjfmfoaaDoorRows.lean that lists a variable, with what it lists TIED to the program's text (the seventh form; the later family's looks); each row that meets fmt, with fmt's text TOLD by the authors' own Lean function (tested against real Go, not proved from fmt's source: count such statements apart). THE CARD IS WHAT COUNTS. Prove the row's statement (the work); the ties are given (YtinbdefjjfmfoaaDoorTie.lean); close each card by the builder's one call (the guide's Derived/Test/ToyasCard.lean, 'card_holds'). Laid BY PROGRAM, IN A SANDBOX (cutbox-door.mjs). By AI agents, Wed Nov 11 2026. No macro, syntax, notation, axiom, sorry.
-/
import Derived.Test.YtinbdefjjfmfoaaDoorRows
import GoSem.ClaimSeven
namespace Go.Proofs.YtinbdefjjfmfoaaDoor
namespace Rows

/-- THE TIED CARD OF 'agraffelaw06.TemperNotes'. -/
def temperNotesCard : Claim7 := { stood := { row := temperNotesRow, standIns := [], harness := (true, "b3af1a1ebfbf56438a82e9a4c47a19e7cb5ca46a6609b0978e191349a82b66b8"), looks := false }, kinds := [], alts := [], laidByText := true, laidKinds := [.data], laidTests := true, laidLooks := .later }
def TemperNotesCardSaid : Prop := Claim7.holds Tryd.pinned (.plain (OpenSpec.ofChange temperNotesSpec)) temperNotesCard

/-- THE TIED CARD OF 'agraffelaw06.TemperBeats'. -/
def temperBeatsCard : Claim7 := { stood := { row := temperBeatsRow, standIns := [], harness := (true, "b3af1a1ebfbf56438a82e9a4c47a19e7cb5ca46a6609b0978e191349a82b66b8"), looks := false }, kinds := [], alts := [], laidByText := true, laidKinds := [.data], laidTests := true, laidLooks := .later }
def TemperBeatsCardSaid : Prop := Claim7.holds Tryd.pinned (.plain (OpenSpec.ofChange temperBeatsSpec)) temperBeatsCard

/-- THE TIED CARD OF 'agraffelaw06.TemperFrequencies'. -/
def temperFrequenciesCard : Claim7 := { stood := { row := temperFrequenciesRow, standIns := [], harness := (true, "b3af1a1ebfbf56438a82e9a4c47a19e7cb5ca46a6609b0978e191349a82b66b8"), looks := false }, kinds := [], alts := [], laidByText := true, laidKinds := [.data], laidTests := true, laidLooks := .later }
def TemperFrequenciesCardSaid : Prop := Claim7.holds Tryd.pinned (.plain (OpenSpec.ofChange temperFrequenciesSpec)) temperFrequenciesCard

/-- THE TIED CARD OF 'agraffelaw06.TemperTests'. -/
def temperTestsCard : Claim7 := { stood := { row := temperTestsRow, standIns := [], harness := (true, "b3af1a1ebfbf56438a82e9a4c47a19e7cb5ca46a6609b0978e191349a82b66b8"), looks := false }, kinds := [], alts := [], laidByText := true, laidKinds := [.data], laidTests := true, laidLooks := .later }
def TemperTestsCardSaid : Prop := Claim7.holds Tryd.pinned (.plain (OpenSpec.ofChange temperTestsSpec)) temperTestsCard

/-- THE TIED CARD OF 'agraffelaw06.TemperPitches'. -/
def temperPitchesCard : Claim7 := { stood := { row := temperPitchesRow, standIns := [], harness := (true, "b3af1a1ebfbf56438a82e9a4c47a19e7cb5ca46a6609b0978e191349a82b66b8"), looks := false }, kinds := [], alts := [], laidByText := true, laidKinds := [.data], laidTests := true, laidLooks := .later }
def TemperPitchesCardSaid : Prop := Claim7.holds Tryd.pinned (.plain (OpenSpec.ofChange temperPitchesSpec)) temperPitchesCard

/-- THE TIED CARD OF 'agraffelaw06.TemperRises'. -/
def temperRisesCard : Claim7 := { stood := { row := temperRisesRow, standIns := [], harness := (true, "b3af1a1ebfbf56438a82e9a4c47a19e7cb5ca46a6609b0978e191349a82b66b8"), looks := false }, kinds := [], alts := [], laidByText := true, laidKinds := [.data], laidTests := true, laidLooks := .later }
def TemperRisesCardSaid : Prop := Claim7.holds Tryd.pinned (.plain (OpenSpec.ofChange temperRisesSpec)) temperRisesCard

/-- THE TIED CARD OF 'agraffelaw06.TemperOctaves'. -/
def temperOctavesCard : Claim7 := { stood := { row := temperOctavesRow, standIns := [], harness := (true, "b3af1a1ebfbf56438a82e9a4c47a19e7cb5ca46a6609b0978e191349a82b66b8"), looks := false }, kinds := [], alts := [], laidByText := true, laidKinds := [.data], laidTests := true, laidLooks := .later }
def TemperOctavesCardSaid : Prop := Claim7.holds Tryd.pinned (.plain (OpenSpec.ofChange temperOctavesSpec)) temperOctavesCard

/-- THE TIED CARD OF 'agraffelaw06.TemperPurity'. -/
def temperPurityCard : Claim7 := { stood := { row := temperPurityRow, standIns := [], harness := (true, "b3af1a1ebfbf56438a82e9a4c47a19e7cb5ca46a6609b0978e191349a82b66b8"), looks := false }, kinds := [], alts := [], laidByText := true, laidKinds := [.data], laidTests := true, laidLooks := .later }
def TemperPurityCardSaid : Prop := Claim7.holds Tryd.pinned (.plain (OpenSpec.ofChange temperPuritySpec)) temperPurityCard

/-- THE TIED CARD OF 'agraffelaw06.TemperCircle'. -/
def temperCircleCard : Claim7 := { stood := { row := temperCircleRow, standIns := [], harness := (true, "b3af1a1ebfbf56438a82e9a4c47a19e7cb5ca46a6609b0978e191349a82b66b8"), looks := false }, kinds := [], alts := [], laidByText := true, laidKinds := [.data], laidTests := true, laidLooks := .later }
def TemperCircleCardSaid : Prop := Claim7.holds Tryd.pinned (.plain (OpenSpec.ofChange temperCircleSpec)) temperCircleCard

/-- THE TIED CARD OF 'agraffelaw06.TemperNames'. -/
def temperNamesCard : Claim7 := { stood := { row := temperNamesRow, standIns := [], harness := (true, "b3af1a1ebfbf56438a82e9a4c47a19e7cb5ca46a6609b0978e191349a82b66b8"), looks := false }, kinds := [], alts := [], laidByText := true, laidKinds := [.data], laidTests := true, laidLooks := .later }
def TemperNamesCardSaid : Prop := Claim7.holds Tryd.pinned (.plain (OpenSpec.ofChange temperNamesSpec)) temperNamesCard

/-- THE TIED CARD OF 'agraffelaw06.TemperAccepts'. -/
def temperAcceptsCard : Claim7 := { stood := { row := temperAcceptsRow, standIns := [], harness := (true, "b3af1a1ebfbf56438a82e9a4c47a19e7cb5ca46a6609b0978e191349a82b66b8"), looks := false }, kinds := [], alts := [], laidByText := true, laidKinds := [.data], laidTests := true, laidLooks := .later }
def TemperAcceptsCardSaid : Prop := Claim7.holds Tryd.pinned (.plain (OpenSpec.ofChange temperAcceptsSpec)) temperAcceptsCard

/-- THE TIED CARD OF 'agraffelaw06.TemperOrders'. -/
def temperOrdersCard : Claim7 := { stood := { row := temperOrdersRow, standIns := [], harness := (true, "b3af1a1ebfbf56438a82e9a4c47a19e7cb5ca46a6609b0978e191349a82b66b8"), looks := false }, kinds := [], alts := [], laidByText := true, laidKinds := [.data], laidTests := true, laidLooks := .later }
def TemperOrdersCardSaid : Prop := Claim7.holds Tryd.pinned (.plain (OpenSpec.ofChange temperOrdersSpec)) temperOrdersCard

/-- THE TIED CARD OF 'agraffetop.TopBeatsEnclosed'. -/
def topBeatsEnclosedCard : Claim7 := { stood := { row := topBeatsEnclosedRow, standIns := [], harness := (true, "b3af1a1ebfbf56438a82e9a4c47a19e7cb5ca46a6609b0978e191349a82b66b8"), looks := false }, kinds := [], alts := [], laidByText := true, laidKinds := [.data], laidTests := true, laidLooks := .later }
def TopBeatsEnclosedCardSaid : Prop := Claim7.holds Tryd.pinned (.plain (OpenSpec.ofChange topBeatsEnclosedSpec)) topBeatsEnclosedCard

/-- THE TIED CARD OF 'agraffelaw06.TemperCompares'. -/
def temperComparesCard : Claim7 := { stood := { row := temperComparesRow, standIns := [], harness := (true, "b3af1a1ebfbf56438a82e9a4c47a19e7cb5ca46a6609b0978e191349a82b66b8"), looks := false }, kinds := [], alts := [], laidByText := true, laidKinds := [.data], laidTests := true, laidLooks := .later }
def TemperComparesCardSaid : Prop := Claim7.holds Tryd.pinned (.plain (OpenSpec.ofChange temperComparesSpec)) temperComparesCard

/-- THE TIED CARD OF 'agraffelaw06.TemperDerives'. -/
def temperDerivesCard : Claim7 := { stood := { row := temperDerivesRow, standIns := [], harness := (true, "b3af1a1ebfbf56438a82e9a4c47a19e7cb5ca46a6609b0978e191349a82b66b8"), looks := false }, kinds := [], alts := [], laidByText := true, laidKinds := [.data], laidTests := true, laidLooks := .later }
def TemperDerivesCardSaid : Prop := Claim7.holds Tryd.pinned (.plain (OpenSpec.ofChange temperDerivesSpec)) temperDerivesCard

/-- THE TIED CARD OF 'agraffetop.TopDerivedOnce'. -/
def topDerivedOnceCard : Claim7 := { stood := { row := topDerivedOnceRow, standIns := [], harness := (true, "b3af1a1ebfbf56438a82e9a4c47a19e7cb5ca46a6609b0978e191349a82b66b8"), looks := false }, kinds := [], alts := [], laidByText := true, laidKinds := [.data], laidTests := true, laidLooks := .later }
def TopDerivedOnceCardSaid : Prop := Claim7.holds Tryd.pinned (.plain (OpenSpec.ofChange topDerivedOnceSpec)) topDerivedOnceCard

/-- THE SECOND FORM's CARD OF 'agraffelaw06.TemperNotes'. -/
def temperNotesUptoCard : Claim7 := { stood := { row := temperNotesUptoRow, standIns := [], harness := (true, "b3af1a1ebfbf56438a82e9a4c47a19e7cb5ca46a6609b0978e191349a82b66b8"), looks := false }, kinds := [], alts := [], laidByText := true, laidKinds := [.data], laidTests := true, laidLooks := .later }
def TemperNotesUptoCardSaid : Prop := Claim7.holds Tryd.pinned (.plain (OpenSpec.upto temperNotesSpec)) temperNotesUptoCard

/-- THE SECOND FORM's CARD OF 'agraffelaw06.TemperBeats'. -/
def temperBeatsUptoCard : Claim7 := { stood := { row := temperBeatsUptoRow, standIns := [], harness := (true, "b3af1a1ebfbf56438a82e9a4c47a19e7cb5ca46a6609b0978e191349a82b66b8"), looks := false }, kinds := [], alts := [], laidByText := true, laidKinds := [.data], laidTests := true, laidLooks := .later }
def TemperBeatsUptoCardSaid : Prop := Claim7.holds Tryd.pinned (.plain (OpenSpec.upto temperBeatsSpec)) temperBeatsUptoCard

/-- THE SECOND FORM's CARD OF 'agraffelaw06.TemperFrequencies'. -/
def temperFrequenciesUptoCard : Claim7 := { stood := { row := temperFrequenciesUptoRow, standIns := [], harness := (true, "b3af1a1ebfbf56438a82e9a4c47a19e7cb5ca46a6609b0978e191349a82b66b8"), looks := false }, kinds := [], alts := [], laidByText := true, laidKinds := [.data], laidTests := true, laidLooks := .later }
def TemperFrequenciesUptoCardSaid : Prop := Claim7.holds Tryd.pinned (.plain (OpenSpec.upto temperFrequenciesSpec)) temperFrequenciesUptoCard

/-- THE SECOND FORM's CARD OF 'agraffelaw06.TemperTests'. -/
def temperTestsUptoCard : Claim7 := { stood := { row := temperTestsUptoRow, standIns := [], harness := (true, "b3af1a1ebfbf56438a82e9a4c47a19e7cb5ca46a6609b0978e191349a82b66b8"), looks := false }, kinds := [], alts := [], laidByText := true, laidKinds := [.data], laidTests := true, laidLooks := .later }
def TemperTestsUptoCardSaid : Prop := Claim7.holds Tryd.pinned (.plain (OpenSpec.upto temperTestsSpec)) temperTestsUptoCard

/-- THE SECOND FORM's CARD OF 'agraffelaw06.TemperPitches'. -/
def temperPitchesUptoCard : Claim7 := { stood := { row := temperPitchesUptoRow, standIns := [], harness := (true, "b3af1a1ebfbf56438a82e9a4c47a19e7cb5ca46a6609b0978e191349a82b66b8"), looks := false }, kinds := [], alts := [], laidByText := true, laidKinds := [.data], laidTests := true, laidLooks := .later }
def TemperPitchesUptoCardSaid : Prop := Claim7.holds Tryd.pinned (.plain (OpenSpec.upto temperPitchesSpec)) temperPitchesUptoCard

/-- THE SECOND FORM's CARD OF 'agraffelaw06.TemperRises'. -/
def temperRisesUptoCard : Claim7 := { stood := { row := temperRisesUptoRow, standIns := [], harness := (true, "b3af1a1ebfbf56438a82e9a4c47a19e7cb5ca46a6609b0978e191349a82b66b8"), looks := false }, kinds := [], alts := [], laidByText := true, laidKinds := [.data], laidTests := true, laidLooks := .later }
def TemperRisesUptoCardSaid : Prop := Claim7.holds Tryd.pinned (.plain (OpenSpec.upto temperRisesSpec)) temperRisesUptoCard

/-- THE SECOND FORM's CARD OF 'agraffelaw06.TemperOctaves'. -/
def temperOctavesUptoCard : Claim7 := { stood := { row := temperOctavesUptoRow, standIns := [], harness := (true, "b3af1a1ebfbf56438a82e9a4c47a19e7cb5ca46a6609b0978e191349a82b66b8"), looks := false }, kinds := [], alts := [], laidByText := true, laidKinds := [.data], laidTests := true, laidLooks := .later }
def TemperOctavesUptoCardSaid : Prop := Claim7.holds Tryd.pinned (.plain (OpenSpec.upto temperOctavesSpec)) temperOctavesUptoCard

/-- THE SECOND FORM's CARD OF 'agraffelaw06.TemperPurity'. -/
def temperPurityUptoCard : Claim7 := { stood := { row := temperPurityUptoRow, standIns := [], harness := (true, "b3af1a1ebfbf56438a82e9a4c47a19e7cb5ca46a6609b0978e191349a82b66b8"), looks := false }, kinds := [], alts := [], laidByText := true, laidKinds := [.data], laidTests := true, laidLooks := .later }
def TemperPurityUptoCardSaid : Prop := Claim7.holds Tryd.pinned (.plain (OpenSpec.upto temperPuritySpec)) temperPurityUptoCard

/-- THE SECOND FORM's CARD OF 'agraffelaw06.TemperCircle'. -/
def temperCircleUptoCard : Claim7 := { stood := { row := temperCircleUptoRow, standIns := [], harness := (true, "b3af1a1ebfbf56438a82e9a4c47a19e7cb5ca46a6609b0978e191349a82b66b8"), looks := false }, kinds := [], alts := [], laidByText := true, laidKinds := [.data], laidTests := true, laidLooks := .later }
def TemperCircleUptoCardSaid : Prop := Claim7.holds Tryd.pinned (.plain (OpenSpec.upto temperCircleSpec)) temperCircleUptoCard

/-- THE SECOND FORM's CARD OF 'agraffelaw06.TemperNames'. -/
def temperNamesUptoCard : Claim7 := { stood := { row := temperNamesUptoRow, standIns := [], harness := (true, "b3af1a1ebfbf56438a82e9a4c47a19e7cb5ca46a6609b0978e191349a82b66b8"), looks := false }, kinds := [], alts := [], laidByText := true, laidKinds := [.data], laidTests := true, laidLooks := .later }
def TemperNamesUptoCardSaid : Prop := Claim7.holds Tryd.pinned (.plain (OpenSpec.upto temperNamesSpec)) temperNamesUptoCard

/-- THE SECOND FORM's CARD OF 'agraffelaw06.TemperAccepts'. -/
def temperAcceptsUptoCard : Claim7 := { stood := { row := temperAcceptsUptoRow, standIns := [], harness := (true, "b3af1a1ebfbf56438a82e9a4c47a19e7cb5ca46a6609b0978e191349a82b66b8"), looks := false }, kinds := [], alts := [], laidByText := true, laidKinds := [.data], laidTests := true, laidLooks := .later }
def TemperAcceptsUptoCardSaid : Prop := Claim7.holds Tryd.pinned (.plain (OpenSpec.upto temperAcceptsSpec)) temperAcceptsUptoCard

/-- THE SECOND FORM's CARD OF 'agraffelaw06.TemperOrders'. -/
def temperOrdersUptoCard : Claim7 := { stood := { row := temperOrdersUptoRow, standIns := [], harness := (true, "b3af1a1ebfbf56438a82e9a4c47a19e7cb5ca46a6609b0978e191349a82b66b8"), looks := false }, kinds := [], alts := [], laidByText := true, laidKinds := [.data], laidTests := true, laidLooks := .later }
def TemperOrdersUptoCardSaid : Prop := Claim7.holds Tryd.pinned (.plain (OpenSpec.upto temperOrdersSpec)) temperOrdersUptoCard

/-- THE SECOND FORM's CARD OF 'agraffetop.TopBeatsEnclosed'. -/
def topBeatsEnclosedUptoCard : Claim7 := { stood := { row := topBeatsEnclosedUptoRow, standIns := [], harness := (true, "b3af1a1ebfbf56438a82e9a4c47a19e7cb5ca46a6609b0978e191349a82b66b8"), looks := false }, kinds := [], alts := [], laidByText := true, laidKinds := [.data], laidTests := true, laidLooks := .later }
def TopBeatsEnclosedUptoCardSaid : Prop := Claim7.holds Tryd.pinned (.plain (OpenSpec.upto topBeatsEnclosedSpec)) topBeatsEnclosedUptoCard

/-- THE SECOND FORM's CARD OF 'agraffelaw06.TemperCompares'. -/
def temperComparesUptoCard : Claim7 := { stood := { row := temperComparesUptoRow, standIns := [], harness := (true, "b3af1a1ebfbf56438a82e9a4c47a19e7cb5ca46a6609b0978e191349a82b66b8"), looks := false }, kinds := [], alts := [], laidByText := true, laidKinds := [.data], laidTests := true, laidLooks := .later }
def TemperComparesUptoCardSaid : Prop := Claim7.holds Tryd.pinned (.plain (OpenSpec.upto temperComparesSpec)) temperComparesUptoCard

/-- THE SECOND FORM's CARD OF 'agraffelaw06.TemperDerives'. -/
def temperDerivesUptoCard : Claim7 := { stood := { row := temperDerivesUptoRow, standIns := [], harness := (true, "b3af1a1ebfbf56438a82e9a4c47a19e7cb5ca46a6609b0978e191349a82b66b8"), looks := false }, kinds := [], alts := [], laidByText := true, laidKinds := [.data], laidTests := true, laidLooks := .later }
def TemperDerivesUptoCardSaid : Prop := Claim7.holds Tryd.pinned (.plain (OpenSpec.upto temperDerivesSpec)) temperDerivesUptoCard

/-- THE SECOND FORM's CARD OF 'agraffetop.TopDerivedOnce'. -/
def topDerivedOnceUptoCard : Claim7 := { stood := { row := topDerivedOnceUptoRow, standIns := [], harness := (true, "b3af1a1ebfbf56438a82e9a4c47a19e7cb5ca46a6609b0978e191349a82b66b8"), looks := false }, kinds := [], alts := [], laidByText := true, laidKinds := [.data], laidTests := true, laidLooks := .later }
def TopDerivedOnceUptoCardSaid : Prop := Claim7.holds Tryd.pinned (.plain (OpenSpec.upto topDerivedOnceSpec)) topDerivedOnceUptoCard
end Rows
end Go.Proofs.YtinbdefjjfmfoaaDoor
