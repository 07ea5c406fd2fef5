/-
  DERIVED. GIVEN WITH THE SEED: THE CARDS: each row of YtmjkdaloalaiiaaGreatDoorRows.lean that lists a variable, with what it lists TIED to the program's text (the seventh form; the later family's looks); each row that meets fmt, with fmt's text TOLD by the authors' own Lean function (tested against real Go, not proved from fmt's source: count such statements apart). THE CARD IS WHAT COUNTS. Prove the row's statement (the work); the ties are given (YtmjkdaloalaiiaaGreatDoorTie.lean); close each card by the builder's one call (the guide's Derived/Test/ToyasCard.lean, 'card_holds'). Laid BY PROGRAM, IN A SANDBOX (cutbox-door.mjs). By AI agents, Wed Nov 11 2026. No macro, syntax, notation, axiom, sorry.
-/
import Derived.Test.YtmjkdaloalaiiaaGreatDoorRows
import GoSem.ClaimSeven
namespace Go.Proofs.YtmjkdaloalaiiaaGreatDoor
namespace Rows

/-- THE TIED CARD OF 'agraffelaw06.TemperTexts'. -/
def temperTextsCard : Claim7 := { stood := { row := temperTextsRow, standIns := [], harness := (true, "e84994d6ea116393ea884301333b9a1a8682ef48e3d1a12dceac2fb3f46e5bc7"), looks := true }, kinds := [], alts := [], laidByText := true, laidKinds := [.data, .data, .data, .data, .sentinel, .sentinel, .data, .pinned], laidTests := true, laidLooks := .later }
def TemperTextsCardSaid : Prop := Claim7.holds Tryz.pinned (.plain (OpenSpec.ofChange temperTextsSpec)) temperTextsCard

/-- THE TIED CARD OF 'agraffelaw06.TemperChecks'. -/
def temperChecksCard : Claim7 := { stood := { row := temperChecksRow, standIns := [], harness := (true, "e84994d6ea116393ea884301333b9a1a8682ef48e3d1a12dceac2fb3f46e5bc7"), looks := true }, kinds := [], alts := [], laidByText := true, laidKinds := [.data, .data, .data, .data, .sentinel, .sentinel, .data, .pinned], laidTests := true, laidLooks := .later }
def TemperChecksCardSaid : Prop := Claim7.holds Tryz.pinned (.plain (OpenSpec.ofChange temperChecksSpec)) temperChecksCard

/-- THE SECOND FORM's CARD OF 'agraffelaw06.TemperTexts'. -/
def temperTextsUptoCard : Claim7 := { stood := { row := temperTextsUptoRow, standIns := [], harness := (true, "e84994d6ea116393ea884301333b9a1a8682ef48e3d1a12dceac2fb3f46e5bc7"), looks := true }, kinds := [], alts := [], laidByText := true, laidKinds := [.data, .data, .data, .data, .sentinel, .sentinel, .data, .pinned], laidTests := true, laidLooks := .later }
def TemperTextsUptoCardSaid : Prop := Claim7.holds Tryz.pinned (.plain (OpenSpec.upto temperTextsSpec)) temperTextsUptoCard

/-- THE SECOND FORM's CARD OF 'agraffelaw06.TemperChecks'. -/
def temperChecksUptoCard : Claim7 := { stood := { row := temperChecksUptoRow, standIns := [], harness := (true, "e84994d6ea116393ea884301333b9a1a8682ef48e3d1a12dceac2fb3f46e5bc7"), looks := true }, kinds := [], alts := [], laidByText := true, laidKinds := [.data, .data, .data, .data, .sentinel, .sentinel, .data, .pinned], laidTests := true, laidLooks := .later }
def TemperChecksUptoCardSaid : Prop := Claim7.holds Tryz.pinned (.plain (OpenSpec.upto temperChecksSpec)) temperChecksUptoCard
end Rows
end Go.Proofs.YtmjkdaloalaiiaaGreatDoor
