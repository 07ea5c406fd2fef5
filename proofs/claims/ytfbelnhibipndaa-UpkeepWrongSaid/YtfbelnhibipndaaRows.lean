/-
  No cell of these rows narrows 'for every input' (looked for: loops, veiled, ifaces, maps, wideKeys, modest, calm, conditions, laid).
  DERIVED. THE GIVEN ROWS OF THIS SEAT. 11 by the template 'for every input the law returns true; each argument reads behind the call as it read before'; 0 by the template 'total and deterministic' (their statements: YtfbelnhibipndaaTotals.lean).
  GIVEN WITH THE SEED: the statements are not yours to turn. If you find one false, say at which input.
  Laid BY PROGRAM, IN A SANDBOX (cutbox-rows.mjs): the forced cells as the released guide's own fill.sh prints them over the translation 89a5b95e4cf8c9c9… (all of the seat's roots in one cut). By AI agents, Wed Nov 11 2026. No macro, syntax, notation, axiom, sorry.
-/
import Derived.Test.YtfbelnhibipndaaChecked
import GoSem.Claim
import GoSem.ClaimJoined
import GoSem.ClaimMapViews
import Derived.JoinedTies
import Derived.KernelRfl
namespace Go.Proofs.Ytfbelnhibipndaa
/- THE CELL 'sum', in the pinned program and in every row, IS THE sha256 OF THE DUMP (.gsa) THAT YtfbelnhibipndaaProg.lean LOADS. Nothing in Lean hashes anything: it is a label: what it is worth is what the hold of that sum in a sandbox is worth. -/
noncomputable def Try.pinned : Pinned := { name := "ytfbelnhibipndaa", sum := "89a5b95e4cf8c9c90378f0c7636fcf68a99dd37f78ee2dd333b694d65be128a1", checked := Try.checked }
namespace Rows
def none {H : Type} : Left H := { results := [], args := [] }

/-- 'agraffelaw07.UpkeepPasses': WHATEVER THE INPUT: true; the input reads as it did. -/
def upkeepPassesSpec : ChangeSpec := { name := "upkeepPasses", fn := fun _ => fun
  | [d1, d2, d3] => { results := [.lit (.bool true)], args := [d1, d2, d3] }
  | _ => none }
def upkeepPassesRow : OpenClaim := { program := "ytfbelnhibipndaa", sum := "89a5b95e4cf8c9c90378f0c7636fcf68a99dd37f78ee2dd333b694d65be128a1", func := "agraffe/agraffelaw07.UpkeepPasses", spec := "upkeepPasses", unfollowed := true, recurses := true, apart := false }
def UpkeepPassesSaid : Prop := upkeepPassesRow.holds Try.pinned (OpenSpec.ofChange upkeepPassesSpec)

/-- ITS FALSE NEIGHBOUR: 'it returns false'. Refute it at one input. -/
def upkeepPassesWrong : ChangeSpec := { name := "upkeepPasses", fn := fun _ => fun
  | [d1, d2, d3] => { results := [.lit (.bool false)], args := [d1, d2, d3] }
  | _ => none }
def UpkeepPassesWrongFalsely : Prop := upkeepPassesRow.holds Try.pinned (OpenSpec.ofChange upkeepPassesWrong)

/-- 'agraffelaw07.UpkeepClimates': WHATEVER THE INPUT: true; the input reads as it did. -/
def upkeepClimatesSpec : ChangeSpec := { name := "upkeepClimates", fn := fun _ => fun
  | [d1, d2] => { results := [.lit (.bool true)], args := [d1, d2] }
  | _ => none }
def upkeepClimatesRow : OpenClaim := { program := "ytfbelnhibipndaa", sum := "89a5b95e4cf8c9c90378f0c7636fcf68a99dd37f78ee2dd333b694d65be128a1", func := "agraffe/agraffelaw07.UpkeepClimates", spec := "upkeepClimates", unfollowed := true, recurses := true, apart := false }
def UpkeepClimatesSaid : Prop := upkeepClimatesRow.holds Try.pinned (OpenSpec.ofChange upkeepClimatesSpec)

/-- ITS FALSE NEIGHBOUR: 'it returns false'. Refute it at one input. -/
def upkeepClimatesWrong : ChangeSpec := { name := "upkeepClimates", fn := fun _ => fun
  | [d1, d2] => { results := [.lit (.bool false)], args := [d1, d2] }
  | _ => none }
def UpkeepClimatesWrongFalsely : Prop := upkeepClimatesRow.holds Try.pinned (OpenSpec.ofChange upkeepClimatesWrong)

/-- 'agraffelaw07.UpkeepDrifts': WHATEVER THE INPUT: true; the input reads as it did. -/
def upkeepDriftsSpec : ChangeSpec := { name := "upkeepDrifts", fn := fun _ => fun
  | [d1, d2, d3] => { results := [.lit (.bool true)], args := [d1, d2, d3] }
  | _ => none }
def upkeepDriftsRow : OpenClaim := { program := "ytfbelnhibipndaa", sum := "89a5b95e4cf8c9c90378f0c7636fcf68a99dd37f78ee2dd333b694d65be128a1", func := "agraffe/agraffelaw07.UpkeepDrifts", spec := "upkeepDrifts", unfollowed := true, recurses := true, apart := false }
def UpkeepDriftsSaid : Prop := upkeepDriftsRow.holds Try.pinned (OpenSpec.ofChange upkeepDriftsSpec)

/-- ITS FALSE NEIGHBOUR: 'it returns false'. Refute it at one input. -/
def upkeepDriftsWrong : ChangeSpec := { name := "upkeepDrifts", fn := fun _ => fun
  | [d1, d2, d3] => { results := [.lit (.bool false)], args := [d1, d2, d3] }
  | _ => none }
def UpkeepDriftsWrongFalsely : Prop := upkeepDriftsRow.holds Try.pinned (OpenSpec.ofChange upkeepDriftsWrong)

/-- 'agraffelaw07.UpkeepMonotone': WHATEVER THE INPUT: true; the input reads as it did. -/
def upkeepMonotoneSpec : ChangeSpec := { name := "upkeepMonotone", fn := fun _ => fun
  | [d1, d2] => { results := [.lit (.bool true)], args := [d1, d2] }
  | _ => none }
def upkeepMonotoneRow : OpenClaim := { program := "ytfbelnhibipndaa", sum := "89a5b95e4cf8c9c90378f0c7636fcf68a99dd37f78ee2dd333b694d65be128a1", func := "agraffe/agraffelaw07.UpkeepMonotone", spec := "upkeepMonotone", unfollowed := true, recurses := true, apart := false }
def UpkeepMonotoneSaid : Prop := upkeepMonotoneRow.holds Try.pinned (OpenSpec.ofChange upkeepMonotoneSpec)

/-- ITS FALSE NEIGHBOUR: 'it returns false'. Refute it at one input. -/
def upkeepMonotoneWrong : ChangeSpec := { name := "upkeepMonotone", fn := fun _ => fun
  | [d1, d2] => { results := [.lit (.bool false)], args := [d1, d2] }
  | _ => none }
def UpkeepMonotoneWrongFalsely : Prop := upkeepMonotoneRow.holds Try.pinned (OpenSpec.ofChange upkeepMonotoneWrong)

/-- 'agraffelaw07.UpkeepOverpulls': WHATEVER THE INPUT: true; the input reads as it did. -/
def upkeepOverpullsSpec : ChangeSpec := { name := "upkeepOverpulls", fn := fun _ => fun
  | [d1, d2] => { results := [.lit (.bool true)], args := [d1, d2] }
  | _ => none }
def upkeepOverpullsRow : OpenClaim := { program := "ytfbelnhibipndaa", sum := "89a5b95e4cf8c9c90378f0c7636fcf68a99dd37f78ee2dd333b694d65be128a1", func := "agraffe/agraffelaw07.UpkeepOverpulls", spec := "upkeepOverpulls", unfollowed := true, recurses := true, apart := false }
def UpkeepOverpullsSaid : Prop := upkeepOverpullsRow.holds Try.pinned (OpenSpec.ofChange upkeepOverpullsSpec)

/-- ITS FALSE NEIGHBOUR: 'it returns false'. Refute it at one input. -/
def upkeepOverpullsWrong : ChangeSpec := { name := "upkeepOverpulls", fn := fun _ => fun
  | [d1, d2] => { results := [.lit (.bool false)], args := [d1, d2] }
  | _ => none }
def UpkeepOverpullsWrongFalsely : Prop := upkeepOverpullsRow.holds Try.pinned (OpenSpec.ofChange upkeepOverpullsWrong)

/-- 'agraffelaw07.UpkeepHears': WHATEVER THE INPUT: true; the input reads as it did. -/
def upkeepHearsSpec : ChangeSpec := { name := "upkeepHears", fn := fun _ => fun
  | [d1, d2] => { results := [.lit (.bool true)], args := [d1, d2] }
  | _ => none }
def upkeepHearsRow : OpenClaim := { program := "ytfbelnhibipndaa", sum := "89a5b95e4cf8c9c90378f0c7636fcf68a99dd37f78ee2dd333b694d65be128a1", func := "agraffe/agraffelaw07.UpkeepHears", spec := "upkeepHears", unfollowed := true, recurses := true, apart := false }
def UpkeepHearsSaid : Prop := upkeepHearsRow.holds Try.pinned (OpenSpec.ofChange upkeepHearsSpec)

/-- ITS FALSE NEIGHBOUR: 'it returns false'. Refute it at one input. -/
def upkeepHearsWrong : ChangeSpec := { name := "upkeepHears", fn := fun _ => fun
  | [d1, d2] => { results := [.lit (.bool false)], args := [d1, d2] }
  | _ => none }
def UpkeepHearsWrongFalsely : Prop := upkeepHearsRow.holds Try.pinned (OpenSpec.ofChange upkeepHearsWrong)

/-- 'agraffelaw07.UpkeepRaises': WHATEVER THE INPUT: true; the input reads as it did. -/
def upkeepRaisesSpec : ChangeSpec := { name := "upkeepRaises", fn := fun _ => fun
  | [d1, d2, d3] => { results := [.lit (.bool true)], args := [d1, d2, d3] }
  | _ => none }
def upkeepRaisesRow : OpenClaim := { program := "ytfbelnhibipndaa", sum := "89a5b95e4cf8c9c90378f0c7636fcf68a99dd37f78ee2dd333b694d65be128a1", func := "agraffe/agraffelaw07.UpkeepRaises", spec := "upkeepRaises", unfollowed := true, recurses := true, apart := false }
def UpkeepRaisesSaid : Prop := upkeepRaisesRow.holds Try.pinned (OpenSpec.ofChange upkeepRaisesSpec)

/-- ITS FALSE NEIGHBOUR: 'it returns false'. Refute it at one input. -/
def upkeepRaisesWrong : ChangeSpec := { name := "upkeepRaises", fn := fun _ => fun
  | [d1, d2, d3] => { results := [.lit (.bool false)], args := [d1, d2, d3] }
  | _ => none }
def UpkeepRaisesWrongFalsely : Prop := upkeepRaisesRow.holds Try.pinned (OpenSpec.ofChange upkeepRaisesWrong)

/-- 'agraffelaw07.UpkeepPins': WHATEVER THE INPUT: true; the input reads as it did. -/
def upkeepPinsSpec : ChangeSpec := { name := "upkeepPins", fn := fun _ => fun
  | [d1, d2] => { results := [.lit (.bool true)], args := [d1, d2] }
  | _ => none }
def upkeepPinsRow : OpenClaim := { program := "ytfbelnhibipndaa", sum := "89a5b95e4cf8c9c90378f0c7636fcf68a99dd37f78ee2dd333b694d65be128a1", func := "agraffe/agraffelaw07.UpkeepPins", spec := "upkeepPins", unfollowed := true, recurses := true, apart := false }
def UpkeepPinsSaid : Prop := upkeepPinsRow.holds Try.pinned (OpenSpec.ofChange upkeepPinsSpec)

/-- ITS FALSE NEIGHBOUR: 'it returns false'. Refute it at one input. -/
def upkeepPinsWrong : ChangeSpec := { name := "upkeepPins", fn := fun _ => fun
  | [d1, d2] => { results := [.lit (.bool false)], args := [d1, d2] }
  | _ => none }
def UpkeepPinsWrongFalsely : Prop := upkeepPinsRow.holds Try.pinned (OpenSpec.ofChange upkeepPinsWrong)

/-- 'agraffelaw07.UpkeepSignatures': WHATEVER THE INPUT: true; the input reads as it did. -/
def upkeepSignaturesSpec : ChangeSpec := { name := "upkeepSignatures", fn := fun _ => fun
  | [d1, d2] => { results := [.lit (.bool true)], args := [d1, d2] }
  | _ => none }
def upkeepSignaturesRow : OpenClaim := { program := "ytfbelnhibipndaa", sum := "89a5b95e4cf8c9c90378f0c7636fcf68a99dd37f78ee2dd333b694d65be128a1", func := "agraffe/agraffelaw07.UpkeepSignatures", spec := "upkeepSignatures", unfollowed := true, recurses := true, apart := false }
def UpkeepSignaturesSaid : Prop := upkeepSignaturesRow.holds Try.pinned (OpenSpec.ofChange upkeepSignaturesSpec)

/-- ITS FALSE NEIGHBOUR: 'it returns false'. Refute it at one input. -/
def upkeepSignaturesWrong : ChangeSpec := { name := "upkeepSignatures", fn := fun _ => fun
  | [d1, d2] => { results := [.lit (.bool false)], args := [d1, d2] }
  | _ => none }
def UpkeepSignaturesWrongFalsely : Prop := upkeepSignaturesRow.holds Try.pinned (OpenSpec.ofChange upkeepSignaturesWrong)

/-- 'agraffelaw07.UpkeepWrong': WHATEVER THE INPUT: true; the input reads as it did. -/
def upkeepWrongSpec : ChangeSpec := { name := "upkeepWrong", fn := fun _ => fun
  | [d1, d2] => { results := [.lit (.bool true)], args := [d1, d2] }
  | _ => none }
def upkeepWrongRow : OpenClaim := { program := "ytfbelnhibipndaa", sum := "89a5b95e4cf8c9c90378f0c7636fcf68a99dd37f78ee2dd333b694d65be128a1", func := "agraffe/agraffelaw07.UpkeepWrong", spec := "upkeepWrong", unfollowed := true, recurses := true, apart := false }
def UpkeepWrongSaid : Prop := upkeepWrongRow.holds Try.pinned (OpenSpec.ofChange upkeepWrongSpec)

/-- ITS FALSE NEIGHBOUR: 'it returns false'. Refute it at one input. -/
def upkeepWrongWrong : ChangeSpec := { name := "upkeepWrong", fn := fun _ => fun
  | [d1, d2] => { results := [.lit (.bool false)], args := [d1, d2] }
  | _ => none }
def UpkeepWrongWrongFalsely : Prop := upkeepWrongRow.holds Try.pinned (OpenSpec.ofChange upkeepWrongWrong)

/-- 'agraffelaw07.UpkeepThins': WHATEVER THE INPUT: true; the input reads as it did. -/
def upkeepThinsSpec : ChangeSpec := { name := "upkeepThins", fn := fun _ => fun
  | [d] => { results := [.lit (.bool true)], args := [d] }
  | _ => none }
def upkeepThinsRow : OpenClaim := { program := "ytfbelnhibipndaa", sum := "89a5b95e4cf8c9c90378f0c7636fcf68a99dd37f78ee2dd333b694d65be128a1", func := "agraffe/agraffelaw07.UpkeepThins", spec := "upkeepThins", unfollowed := true, recurses := true, apart := false }
def UpkeepThinsSaid : Prop := upkeepThinsRow.holds Try.pinned (OpenSpec.ofChange upkeepThinsSpec)

/-- ITS FALSE NEIGHBOUR: 'it returns false'. Refute it at one input. -/
def upkeepThinsWrong : ChangeSpec := { name := "upkeepThins", fn := fun _ => fun
  | [d] => { results := [.lit (.bool false)], args := [d] }
  | _ => none }
def UpkeepThinsWrongFalsely : Prop := upkeepThinsRow.holds Try.pinned (OpenSpec.ofChange upkeepThinsWrong)

/- THE SECOND FORM. 'bulk': how many values and letters a reading holds, each counted each time it is reached (what is shared counts as often as it is met; a slice's spare places count too). A statement '..UptoSaid' is the law's where the arguments, and the package variables that the reading takes, are together of bulk at most 1048576: NARROWER than '..Said'. Prove '..Said' where nothing that the law and all that it calls make is longer than what came in: it says more and counts as full. Else prove '..UptoSaid'. A law counts once. -/
mutual
def uptoBulk {H : Type} : DataW H → Nat
  | .lit (.string bytes) => bytes.length + 1
  | .lit _ => 1
  | .nil => 1
  | .ptr d => uptoBulk d + 1
  | .slice elems spare => uptoBulkAll elems + uptoBulkAll spare + 1
  | .agg parts => uptoBulkAll parts + 1
  | .iface _ d => uptoBulk d + 1
  | .map entries => uptoBulkEntries entries + 1
  | .held _ => 1
def uptoBulkAll {H : Type} : List (DataW H) → Nat
  | [] => 0
  | d :: r => uptoBulk d + uptoBulkAll r
def uptoBulkEntries {H : Type} : List (Lit × DataW H) → Nat
  | [] => 0
  | x :: r => uptoBulkEntry x + uptoBulkEntries r
def uptoBulkEntry {H : Type} : Lit × DataW H → Nat
  | (.string bytes, d) => bytes.length + uptoBulk d + 1
  | (_, d) => uptoBulk d + 1
 end
def uptoSmall : (H : Type) → List (DataW H) → Bool := fun _ ds => decide (uptoBulkAll ds ≤ 1048576)
def OpenSpec.upto (s : _root_.Go.ChangeSpec) : _root_.Go.OpenSpec := { _root_.Go.OpenSpec.ofChange s with cond := some uptoSmall }

/-- 'agraffelaw07.UpkeepPasses', WHERE WHAT IT READS IS OF BULK AT MOST 1048576: true; the input reads as it did. -/
def upkeepPassesUptoRow : OpenClaim := { program := "ytfbelnhibipndaa", sum := "89a5b95e4cf8c9c90378f0c7636fcf68a99dd37f78ee2dd333b694d65be128a1", func := "agraffe/agraffelaw07.UpkeepPasses", spec := "upkeepPasses", unfollowed := true, recurses := true, apart := false, narrowed := true }
def UpkeepPassesUptoSaid : Prop := upkeepPassesUptoRow.holds Try.pinned (OpenSpec.upto upkeepPassesSpec)

/-- 'agraffelaw07.UpkeepClimates', WHERE WHAT IT READS IS OF BULK AT MOST 1048576: true; the input reads as it did. -/
def upkeepClimatesUptoRow : OpenClaim := { program := "ytfbelnhibipndaa", sum := "89a5b95e4cf8c9c90378f0c7636fcf68a99dd37f78ee2dd333b694d65be128a1", func := "agraffe/agraffelaw07.UpkeepClimates", spec := "upkeepClimates", unfollowed := true, recurses := true, apart := false, narrowed := true }
def UpkeepClimatesUptoSaid : Prop := upkeepClimatesUptoRow.holds Try.pinned (OpenSpec.upto upkeepClimatesSpec)

/-- 'agraffelaw07.UpkeepDrifts', WHERE WHAT IT READS IS OF BULK AT MOST 1048576: true; the input reads as it did. -/
def upkeepDriftsUptoRow : OpenClaim := { program := "ytfbelnhibipndaa", sum := "89a5b95e4cf8c9c90378f0c7636fcf68a99dd37f78ee2dd333b694d65be128a1", func := "agraffe/agraffelaw07.UpkeepDrifts", spec := "upkeepDrifts", unfollowed := true, recurses := true, apart := false, narrowed := true }
def UpkeepDriftsUptoSaid : Prop := upkeepDriftsUptoRow.holds Try.pinned (OpenSpec.upto upkeepDriftsSpec)

/-- 'agraffelaw07.UpkeepMonotone', WHERE WHAT IT READS IS OF BULK AT MOST 1048576: true; the input reads as it did. -/
def upkeepMonotoneUptoRow : OpenClaim := { program := "ytfbelnhibipndaa", sum := "89a5b95e4cf8c9c90378f0c7636fcf68a99dd37f78ee2dd333b694d65be128a1", func := "agraffe/agraffelaw07.UpkeepMonotone", spec := "upkeepMonotone", unfollowed := true, recurses := true, apart := false, narrowed := true }
def UpkeepMonotoneUptoSaid : Prop := upkeepMonotoneUptoRow.holds Try.pinned (OpenSpec.upto upkeepMonotoneSpec)

/-- 'agraffelaw07.UpkeepOverpulls', WHERE WHAT IT READS IS OF BULK AT MOST 1048576: true; the input reads as it did. -/
def upkeepOverpullsUptoRow : OpenClaim := { program := "ytfbelnhibipndaa", sum := "89a5b95e4cf8c9c90378f0c7636fcf68a99dd37f78ee2dd333b694d65be128a1", func := "agraffe/agraffelaw07.UpkeepOverpulls", spec := "upkeepOverpulls", unfollowed := true, recurses := true, apart := false, narrowed := true }
def UpkeepOverpullsUptoSaid : Prop := upkeepOverpullsUptoRow.holds Try.pinned (OpenSpec.upto upkeepOverpullsSpec)

/-- 'agraffelaw07.UpkeepHears', WHERE WHAT IT READS IS OF BULK AT MOST 1048576: true; the input reads as it did. -/
def upkeepHearsUptoRow : OpenClaim := { program := "ytfbelnhibipndaa", sum := "89a5b95e4cf8c9c90378f0c7636fcf68a99dd37f78ee2dd333b694d65be128a1", func := "agraffe/agraffelaw07.UpkeepHears", spec := "upkeepHears", unfollowed := true, recurses := true, apart := false, narrowed := true }
def UpkeepHearsUptoSaid : Prop := upkeepHearsUptoRow.holds Try.pinned (OpenSpec.upto upkeepHearsSpec)

/-- 'agraffelaw07.UpkeepRaises', WHERE WHAT IT READS IS OF BULK AT MOST 1048576: true; the input reads as it did. -/
def upkeepRaisesUptoRow : OpenClaim := { program := "ytfbelnhibipndaa", sum := "89a5b95e4cf8c9c90378f0c7636fcf68a99dd37f78ee2dd333b694d65be128a1", func := "agraffe/agraffelaw07.UpkeepRaises", spec := "upkeepRaises", unfollowed := true, recurses := true, apart := false, narrowed := true }
def UpkeepRaisesUptoSaid : Prop := upkeepRaisesUptoRow.holds Try.pinned (OpenSpec.upto upkeepRaisesSpec)

/-- 'agraffelaw07.UpkeepPins', WHERE WHAT IT READS IS OF BULK AT MOST 1048576: true; the input reads as it did. -/
def upkeepPinsUptoRow : OpenClaim := { program := "ytfbelnhibipndaa", sum := "89a5b95e4cf8c9c90378f0c7636fcf68a99dd37f78ee2dd333b694d65be128a1", func := "agraffe/agraffelaw07.UpkeepPins", spec := "upkeepPins", unfollowed := true, recurses := true, apart := false, narrowed := true }
def UpkeepPinsUptoSaid : Prop := upkeepPinsUptoRow.holds Try.pinned (OpenSpec.upto upkeepPinsSpec)

/-- 'agraffelaw07.UpkeepSignatures', WHERE WHAT IT READS IS OF BULK AT MOST 1048576: true; the input reads as it did. -/
def upkeepSignaturesUptoRow : OpenClaim := { program := "ytfbelnhibipndaa", sum := "89a5b95e4cf8c9c90378f0c7636fcf68a99dd37f78ee2dd333b694d65be128a1", func := "agraffe/agraffelaw07.UpkeepSignatures", spec := "upkeepSignatures", unfollowed := true, recurses := true, apart := false, narrowed := true }
def UpkeepSignaturesUptoSaid : Prop := upkeepSignaturesUptoRow.holds Try.pinned (OpenSpec.upto upkeepSignaturesSpec)

/-- 'agraffelaw07.UpkeepWrong', WHERE WHAT IT READS IS OF BULK AT MOST 1048576: true; the input reads as it did. -/
def upkeepWrongUptoRow : OpenClaim := { program := "ytfbelnhibipndaa", sum := "89a5b95e4cf8c9c90378f0c7636fcf68a99dd37f78ee2dd333b694d65be128a1", func := "agraffe/agraffelaw07.UpkeepWrong", spec := "upkeepWrong", unfollowed := true, recurses := true, apart := false, narrowed := true }
def UpkeepWrongUptoSaid : Prop := upkeepWrongUptoRow.holds Try.pinned (OpenSpec.upto upkeepWrongSpec)

/-- 'agraffelaw07.UpkeepThins', WHERE WHAT IT READS IS OF BULK AT MOST 1048576: true; the input reads as it did. -/
def upkeepThinsUptoRow : OpenClaim := { program := "ytfbelnhibipndaa", sum := "89a5b95e4cf8c9c90378f0c7636fcf68a99dd37f78ee2dd333b694d65be128a1", func := "agraffe/agraffelaw07.UpkeepThins", spec := "upkeepThins", unfollowed := true, recurses := true, apart := false, narrowed := true }
def UpkeepThinsUptoSaid : Prop := upkeepThinsUptoRow.holds Try.pinned (OpenSpec.upto upkeepThinsSpec)

end Rows
end Go.Proofs.Ytfbelnhibipndaa
