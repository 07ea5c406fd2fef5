/-
  DERIVED. GIVEN WITH THE SEED: THE CARDS: each row of YtodofkolnmoliaaDoorRows.lean that lists a variable, with what it lists TIED to the program's text (the seventh form; the later family's looks); each row that meets fmt, with fmt's text TOLD by the authors' own Lean function (tested against real Go, not proved from fmt's source: count such statements apart). THE CARD IS WHAT COUNTS. Prove the row's statement (the work); the ties are given (YtodofkolnmoliaaDoorTie.lean); close each card by the builder's one call (the guide's Derived/Test/ToyasCard.lean, 'card_holds'). Laid BY PROGRAM, IN A SANDBOX (cutbox-door.mjs). By AI agents, Wed Nov 11 2026. No macro, syntax, notation, axiom, sorry.
-/
import Derived.Test.YtodofkolnmoliaaDoorRows
import GoSem.ClaimSeven
namespace Go.Proofs.YtodofkolnmoliaaDoor
namespace Rows

/-- THE TIED CARD OF 'agraffetop.TopLengthsSolve'. -/
def topLengthsSolveCard : Claim7 := { stood := { row := topLengthsSolveRow, standIns := [], harness := (true, "5da5919a62bc4c8d1d9d56eb53d9f79ab415ec1a87d1008bcc5c3e9687ac6539"), looks := false }, kinds := [], alts := [], laidByText := true, laidKinds := [.data], laidTests := true, laidLooks := .later }
def TopLengthsSolveCardSaid : Prop := Claim7.holds Tryd.pinned (.plain (OpenSpec.ofChange topLengthsSolveSpec)) topLengthsSolveCard

/-- THE TIED CARD OF 'agraffelaw02.ScaleStringings'. -/
def scaleStringingsCard : Claim7 := { stood := { row := scaleStringingsRow, standIns := [], harness := (true, "5da5919a62bc4c8d1d9d56eb53d9f79ab415ec1a87d1008bcc5c3e9687ac6539"), looks := false }, kinds := [], alts := [], laidByText := true, laidKinds := [.data], laidTests := true, laidLooks := .later }
def ScaleStringingsCardSaid : Prop := Claim7.holds Tryd.pinned (.plain (OpenSpec.ofChange scaleStringingsSpec)) scaleStringingsCard

/-- THE TIED CARD OF 'agraffelaw02.ScaleWith'. -/
def scaleWithCard : Claim7 := { stood := { row := scaleWithRow, standIns := [], harness := (true, "5da5919a62bc4c8d1d9d56eb53d9f79ab415ec1a87d1008bcc5c3e9687ac6539"), looks := false }, kinds := [], alts := [], laidByText := true, laidKinds := [.data], laidTests := true, laidLooks := .later }
def ScaleWithCardSaid : Prop := Claim7.holds Tryd.pinned (.plain (OpenSpec.ofChange scaleWithSpec)) scaleWithCard

/-- THE TIED CARD OF 'agraffelaw02.ScaleKeeps'. -/
def scaleKeepsCard : Claim7 := { stood := { row := scaleKeepsRow, standIns := [], harness := (true, "5da5919a62bc4c8d1d9d56eb53d9f79ab415ec1a87d1008bcc5c3e9687ac6539"), looks := false }, kinds := [], alts := [], laidByText := true, laidKinds := [.data], laidTests := true, laidLooks := .later }
def ScaleKeepsCardSaid : Prop := Claim7.holds Tryd.pinned (.plain (OpenSpec.ofChange scaleKeepsSpec)) scaleKeepsCard

/-- THE TIED CARD OF 'agraffelaw02.ScaleSizes'. -/
def scaleSizesCard : Claim7 := { stood := { row := scaleSizesRow, standIns := [], harness := (true, "5da5919a62bc4c8d1d9d56eb53d9f79ab415ec1a87d1008bcc5c3e9687ac6539"), looks := false }, kinds := [], alts := [], laidByText := true, laidKinds := [.data], laidTests := true, laidLooks := .later }
def ScaleSizesCardSaid : Prop := Claim7.holds Tryd.pinned (.plain (OpenSpec.ofChange scaleSizesSpec)) scaleSizesCard

/-- THE TIED CARD OF 'agraffelaw02.ScaleChanges'. -/
def scaleChangesCard : Claim7 := { stood := { row := scaleChangesRow, standIns := [], harness := (true, "5da5919a62bc4c8d1d9d56eb53d9f79ab415ec1a87d1008bcc5c3e9687ac6539"), looks := false }, kinds := [], alts := [], laidByText := true, laidKinds := [.data], laidTests := true, laidLooks := .later }
def ScaleChangesCardSaid : Prop := Claim7.holds Tryd.pinned (.plain (OpenSpec.ofChange scaleChangesSpec)) scaleChangesCard

/-- THE TIED CARD OF 'agraffetop.TopRigid'. -/
def topRigidCard : Claim7 := { stood := { row := topRigidRow, standIns := [], harness := (true, "5da5919a62bc4c8d1d9d56eb53d9f79ab415ec1a87d1008bcc5c3e9687ac6539"), looks := false }, kinds := [], alts := [], laidByText := true, laidKinds := [.data], laidTests := true, laidLooks := .later }
def TopRigidCardSaid : Prop := Claim7.holds Tryd.pinned (.plain (OpenSpec.ofChange topRigidSpec)) topRigidCard

/-- THE TIED CARD OF 'agraffetop.TopLoadsBalance'. -/
def topLoadsBalanceCard : Claim7 := { stood := { row := topLoadsBalanceRow, standIns := [], harness := (true, "5da5919a62bc4c8d1d9d56eb53d9f79ab415ec1a87d1008bcc5c3e9687ac6539"), looks := false }, kinds := [], alts := [], laidByText := true, laidKinds := [.data], laidTests := true, laidLooks := .later }
def TopLoadsBalanceCardSaid : Prop := Claim7.holds Tryd.pinned (.plain (OpenSpec.ofChange topLoadsBalanceSpec)) topLoadsBalanceCard

/-- THE TIED CARD OF 'agraffetop.TopTensionBounds'. -/
def topTensionBoundsCard : Claim7 := { stood := { row := topTensionBoundsRow, standIns := [], harness := (true, "5da5919a62bc4c8d1d9d56eb53d9f79ab415ec1a87d1008bcc5c3e9687ac6539"), looks := false }, kinds := [], alts := [], laidByText := true, laidKinds := [.data], laidTests := true, laidLooks := .later }
def TopTensionBoundsCardSaid : Prop := Claim7.holds Tryd.pinned (.plain (OpenSpec.ofChange topTensionBoundsSpec)) topTensionBoundsCard

/-- THE SECOND FORM's CARD OF 'agraffetop.TopLengthsSolve'. -/
def topLengthsSolveUptoCard : Claim7 := { stood := { row := topLengthsSolveUptoRow, standIns := [], harness := (true, "5da5919a62bc4c8d1d9d56eb53d9f79ab415ec1a87d1008bcc5c3e9687ac6539"), looks := false }, kinds := [], alts := [], laidByText := true, laidKinds := [.data], laidTests := true, laidLooks := .later }
def TopLengthsSolveUptoCardSaid : Prop := Claim7.holds Tryd.pinned (.plain (OpenSpec.upto topLengthsSolveSpec)) topLengthsSolveUptoCard

/-- THE SECOND FORM's CARD OF 'agraffelaw02.ScaleStringings'. -/
def scaleStringingsUptoCard : Claim7 := { stood := { row := scaleStringingsUptoRow, standIns := [], harness := (true, "5da5919a62bc4c8d1d9d56eb53d9f79ab415ec1a87d1008bcc5c3e9687ac6539"), looks := false }, kinds := [], alts := [], laidByText := true, laidKinds := [.data], laidTests := true, laidLooks := .later }
def ScaleStringingsUptoCardSaid : Prop := Claim7.holds Tryd.pinned (.plain (OpenSpec.upto scaleStringingsSpec)) scaleStringingsUptoCard

/-- THE SECOND FORM's CARD OF 'agraffelaw02.ScaleWith'. -/
def scaleWithUptoCard : Claim7 := { stood := { row := scaleWithUptoRow, standIns := [], harness := (true, "5da5919a62bc4c8d1d9d56eb53d9f79ab415ec1a87d1008bcc5c3e9687ac6539"), looks := false }, kinds := [], alts := [], laidByText := true, laidKinds := [.data], laidTests := true, laidLooks := .later }
def ScaleWithUptoCardSaid : Prop := Claim7.holds Tryd.pinned (.plain (OpenSpec.upto scaleWithSpec)) scaleWithUptoCard

/-- THE SECOND FORM's CARD OF 'agraffelaw02.ScaleKeeps'. -/
def scaleKeepsUptoCard : Claim7 := { stood := { row := scaleKeepsUptoRow, standIns := [], harness := (true, "5da5919a62bc4c8d1d9d56eb53d9f79ab415ec1a87d1008bcc5c3e9687ac6539"), looks := false }, kinds := [], alts := [], laidByText := true, laidKinds := [.data], laidTests := true, laidLooks := .later }
def ScaleKeepsUptoCardSaid : Prop := Claim7.holds Tryd.pinned (.plain (OpenSpec.upto scaleKeepsSpec)) scaleKeepsUptoCard

/-- THE SECOND FORM's CARD OF 'agraffelaw02.ScaleSizes'. -/
def scaleSizesUptoCard : Claim7 := { stood := { row := scaleSizesUptoRow, standIns := [], harness := (true, "5da5919a62bc4c8d1d9d56eb53d9f79ab415ec1a87d1008bcc5c3e9687ac6539"), looks := false }, kinds := [], alts := [], laidByText := true, laidKinds := [.data], laidTests := true, laidLooks := .later }
def ScaleSizesUptoCardSaid : Prop := Claim7.holds Tryd.pinned (.plain (OpenSpec.upto scaleSizesSpec)) scaleSizesUptoCard

/-- THE SECOND FORM's CARD OF 'agraffelaw02.ScaleChanges'. -/
def scaleChangesUptoCard : Claim7 := { stood := { row := scaleChangesUptoRow, standIns := [], harness := (true, "5da5919a62bc4c8d1d9d56eb53d9f79ab415ec1a87d1008bcc5c3e9687ac6539"), looks := false }, kinds := [], alts := [], laidByText := true, laidKinds := [.data], laidTests := true, laidLooks := .later }
def ScaleChangesUptoCardSaid : Prop := Claim7.holds Tryd.pinned (.plain (OpenSpec.upto scaleChangesSpec)) scaleChangesUptoCard

/-- THE SECOND FORM's CARD OF 'agraffetop.TopRigid'. -/
def topRigidUptoCard : Claim7 := { stood := { row := topRigidUptoRow, standIns := [], harness := (true, "5da5919a62bc4c8d1d9d56eb53d9f79ab415ec1a87d1008bcc5c3e9687ac6539"), looks := false }, kinds := [], alts := [], laidByText := true, laidKinds := [.data], laidTests := true, laidLooks := .later }
def TopRigidUptoCardSaid : Prop := Claim7.holds Tryd.pinned (.plain (OpenSpec.upto topRigidSpec)) topRigidUptoCard

/-- THE SECOND FORM's CARD OF 'agraffetop.TopLoadsBalance'. -/
def topLoadsBalanceUptoCard : Claim7 := { stood := { row := topLoadsBalanceUptoRow, standIns := [], harness := (true, "5da5919a62bc4c8d1d9d56eb53d9f79ab415ec1a87d1008bcc5c3e9687ac6539"), looks := false }, kinds := [], alts := [], laidByText := true, laidKinds := [.data], laidTests := true, laidLooks := .later }
def TopLoadsBalanceUptoCardSaid : Prop := Claim7.holds Tryd.pinned (.plain (OpenSpec.upto topLoadsBalanceSpec)) topLoadsBalanceUptoCard

/-- THE SECOND FORM's CARD OF 'agraffetop.TopTensionBounds'. -/
def topTensionBoundsUptoCard : Claim7 := { stood := { row := topTensionBoundsUptoRow, standIns := [], harness := (true, "5da5919a62bc4c8d1d9d56eb53d9f79ab415ec1a87d1008bcc5c3e9687ac6539"), looks := false }, kinds := [], alts := [], laidByText := true, laidKinds := [.data], laidTests := true, laidLooks := .later }
def TopTensionBoundsUptoCardSaid : Prop := Claim7.holds Tryd.pinned (.plain (OpenSpec.upto topTensionBoundsSpec)) topTensionBoundsUptoCard
end Rows
end Go.Proofs.YtodofkolnmoliaaDoor
