/-
  NARROWER THAN 'FOR EVERY INPUT', by the rows' own cells (each row's printed sentence says how): TopLengthsSolve: laid · ScaleStringings: laid · ScaleWith: laid · ScaleKeeps: laid · ScaleSizes: laid · ScaleChanges: laid · TopRigid: laid · TopLoadsBalance: laid · TopTensionBounds: laid.
  DERIVED. THE GIVEN ROWS OF THIS SEAT. 9 by the template 'for every input the law returns true; each argument reads behind the call as it read before'; 0 by the template 'total and deterministic' (their statements: YtodofkolnmoliaaDoorTotals.lean).
  GIVEN WITH THE SEED: the statements are not yours to turn. If you find one false, say at which input.
  Laid BY PROGRAM, IN A SANDBOX (cutbox-rows.mjs): the forced cells as the released guide's own fill.sh prints them over the translation 1a8bde1d85c3c6f7… (all of the seat's roots in one cut). By AI agents, Wed Nov 11 2026. No macro, syntax, notation, axiom, sorry.
-/
import Derived.Test.YtodofkolnmoliaaDoorChecked
import GoSem.Claim
import GoSem.ClaimJoined
import GoSem.ClaimMapViews
import Derived.JoinedTies
import Derived.KernelRfl
namespace Go.Proofs.YtodofkolnmoliaaDoor
/- THE CELL 'sum', in the pinned program and in every row, IS THE sha256 OF THE DUMP (.gsa) THAT YtodofkolnmoliaaDoorProg.lean LOADS. Nothing in Lean hashes anything: it is a label: what it is worth is what the hold of that sum in a sandbox is worth. -/
noncomputable def Tryd.pinned : Pinned := { name := "ytodofkolnmoliaadoor", sum := "1a8bde1d85c3c6f74476708995dfebde974ab80443cad14a03726fb24a11aae7", checked := Tryd.checked }
namespace Rows
def none {H : Type} : Left H := { results := [], args := [] }

/- WHAT THE LISTED PACKAGE-LEVEL VARIABLES READ AS WHEN THE CALL BEGINS. Each datum BY PROGRAM (the guide's laid-datum.mjs) off the statement by which the dump's own 'gosem.cut.vars' lays the variable. In a bare row this is a premise. The card (YtodofkolnmoliaaDoorCards.lean) ties it to the program's text. -/
def laid_agraffe_number_primes {H : Type} : DataW H := .agg [.lit (.int .u64 2), .lit (.int .u64 3), .lit (.int .u64 5)]

/-- 'agraffetop.TopLengthsSolve': WHATEVER THE INPUT: true; the input reads as it did. -/
def topLengthsSolveSpec : ChangeSpec := { name := "topLengthsSolve", fn := fun _ => fun
  | [d1, d2] => { results := [.lit (.bool true)], args := [d1, d2] }
  | _ => none }
def topLengthsSolveRow : OpenClaim := { program := "ytodofkolnmoliaadoor", sum := "1a8bde1d85c3c6f74476708995dfebde974ab80443cad14a03726fb24a11aae7", func := "agraffe/agraffetop.TopLengthsSolve", spec := "topLengthsSolve", inPlace := ["math/bits.Add64"], unfollowed := true, recurses := true, named := ["agraffe/number.primes"], apart := false, laid := [("agraffe/number.primes", laid_agraffe_number_primes)] }
def TopLengthsSolveSaid : Prop := topLengthsSolveRow.holds Tryd.pinned (OpenSpec.ofChange topLengthsSolveSpec)

/-- ITS FALSE NEIGHBOUR: 'it returns false'. Refute it at one input. -/
def topLengthsSolveWrong : ChangeSpec := { name := "topLengthsSolve", fn := fun _ => fun
  | [d1, d2] => { results := [.lit (.bool false)], args := [d1, d2] }
  | _ => none }
def TopLengthsSolveWrongFalsely : Prop := topLengthsSolveRow.holds Tryd.pinned (OpenSpec.ofChange topLengthsSolveWrong)

/-- 'agraffelaw02.ScaleStringings': WHATEVER THE INPUT: true; the input reads as it did. -/
def scaleStringingsSpec : ChangeSpec := { name := "scaleStringings", fn := fun _ => fun
  | [d1, d2] => { results := [.lit (.bool true)], args := [d1, d2] }
  | _ => none }
def scaleStringingsRow : OpenClaim := { program := "ytodofkolnmoliaadoor", sum := "1a8bde1d85c3c6f74476708995dfebde974ab80443cad14a03726fb24a11aae7", func := "agraffe/agraffelaw02.ScaleStringings", spec := "scaleStringings", inPlace := ["math/bits.Add64"], unfollowed := true, recurses := true, named := ["agraffe/number.primes"], apart := false, laid := [("agraffe/number.primes", laid_agraffe_number_primes)] }
def ScaleStringingsSaid : Prop := scaleStringingsRow.holds Tryd.pinned (OpenSpec.ofChange scaleStringingsSpec)

/-- ITS FALSE NEIGHBOUR: 'it returns false'. Refute it at one input. -/
def scaleStringingsWrong : ChangeSpec := { name := "scaleStringings", fn := fun _ => fun
  | [d1, d2] => { results := [.lit (.bool false)], args := [d1, d2] }
  | _ => none }
def ScaleStringingsWrongFalsely : Prop := scaleStringingsRow.holds Tryd.pinned (OpenSpec.ofChange scaleStringingsWrong)

/-- 'agraffelaw02.ScaleWith': WHATEVER THE INPUT: true; the input reads as it did. -/
def scaleWithSpec : ChangeSpec := { name := "scaleWith", fn := fun _ => fun
  | [d1, d2, d3] => { results := [.lit (.bool true)], args := [d1, d2, d3] }
  | _ => none }
def scaleWithRow : OpenClaim := { program := "ytodofkolnmoliaadoor", sum := "1a8bde1d85c3c6f74476708995dfebde974ab80443cad14a03726fb24a11aae7", func := "agraffe/agraffelaw02.ScaleWith", spec := "scaleWith", inPlace := ["math/bits.Add64"], unfollowed := true, recurses := true, named := ["agraffe/number.primes"], apart := false, laid := [("agraffe/number.primes", laid_agraffe_number_primes)] }
def ScaleWithSaid : Prop := scaleWithRow.holds Tryd.pinned (OpenSpec.ofChange scaleWithSpec)

/-- ITS FALSE NEIGHBOUR: 'it returns false'. Refute it at one input. -/
def scaleWithWrong : ChangeSpec := { name := "scaleWith", fn := fun _ => fun
  | [d1, d2, d3] => { results := [.lit (.bool false)], args := [d1, d2, d3] }
  | _ => none }
def ScaleWithWrongFalsely : Prop := scaleWithRow.holds Tryd.pinned (OpenSpec.ofChange scaleWithWrong)

/-- 'agraffelaw02.ScaleKeeps': WHATEVER THE INPUT: true; the input reads as it did. -/
def scaleKeepsSpec : ChangeSpec := { name := "scaleKeeps", fn := fun _ => fun
  | [d1, d2] => { results := [.lit (.bool true)], args := [d1, d2] }
  | _ => none }
def scaleKeepsRow : OpenClaim := { program := "ytodofkolnmoliaadoor", sum := "1a8bde1d85c3c6f74476708995dfebde974ab80443cad14a03726fb24a11aae7", func := "agraffe/agraffelaw02.ScaleKeeps", spec := "scaleKeeps", inPlace := ["math/bits.Add64"], unfollowed := true, recurses := true, named := ["agraffe/number.primes"], apart := false, laid := [("agraffe/number.primes", laid_agraffe_number_primes)] }
def ScaleKeepsSaid : Prop := scaleKeepsRow.holds Tryd.pinned (OpenSpec.ofChange scaleKeepsSpec)

/-- ITS FALSE NEIGHBOUR: 'it returns false'. Refute it at one input. -/
def scaleKeepsWrong : ChangeSpec := { name := "scaleKeeps", fn := fun _ => fun
  | [d1, d2] => { results := [.lit (.bool false)], args := [d1, d2] }
  | _ => none }
def ScaleKeepsWrongFalsely : Prop := scaleKeepsRow.holds Tryd.pinned (OpenSpec.ofChange scaleKeepsWrong)

/-- 'agraffelaw02.ScaleSizes': WHATEVER THE INPUT: true; the input reads as it did. -/
def scaleSizesSpec : ChangeSpec := { name := "scaleSizes", fn := fun _ => fun
  | [d1, d2, d3] => { results := [.lit (.bool true)], args := [d1, d2, d3] }
  | _ => none }
def scaleSizesRow : OpenClaim := { program := "ytodofkolnmoliaadoor", sum := "1a8bde1d85c3c6f74476708995dfebde974ab80443cad14a03726fb24a11aae7", func := "agraffe/agraffelaw02.ScaleSizes", spec := "scaleSizes", inPlace := ["math/bits.Add64"], unfollowed := true, recurses := true, named := ["agraffe/number.primes"], apart := false, laid := [("agraffe/number.primes", laid_agraffe_number_primes)] }
def ScaleSizesSaid : Prop := scaleSizesRow.holds Tryd.pinned (OpenSpec.ofChange scaleSizesSpec)

/-- ITS FALSE NEIGHBOUR: 'it returns false'. Refute it at one input. -/
def scaleSizesWrong : ChangeSpec := { name := "scaleSizes", fn := fun _ => fun
  | [d1, d2, d3] => { results := [.lit (.bool false)], args := [d1, d2, d3] }
  | _ => none }
def ScaleSizesWrongFalsely : Prop := scaleSizesRow.holds Tryd.pinned (OpenSpec.ofChange scaleSizesWrong)

/-- 'agraffelaw02.ScaleChanges': WHATEVER THE INPUT: true; the input reads as it did. -/
def scaleChangesSpec : ChangeSpec := { name := "scaleChanges", fn := fun _ => fun
  | [d1, d2, d3] => { results := [.lit (.bool true)], args := [d1, d2, d3] }
  | _ => none }
def scaleChangesRow : OpenClaim := { program := "ytodofkolnmoliaadoor", sum := "1a8bde1d85c3c6f74476708995dfebde974ab80443cad14a03726fb24a11aae7", func := "agraffe/agraffelaw02.ScaleChanges", spec := "scaleChanges", inPlace := ["math/bits.Add64"], unfollowed := true, recurses := true, named := ["agraffe/number.primes"], apart := false, laid := [("agraffe/number.primes", laid_agraffe_number_primes)] }
def ScaleChangesSaid : Prop := scaleChangesRow.holds Tryd.pinned (OpenSpec.ofChange scaleChangesSpec)

/-- ITS FALSE NEIGHBOUR: 'it returns false'. Refute it at one input. -/
def scaleChangesWrong : ChangeSpec := { name := "scaleChanges", fn := fun _ => fun
  | [d1, d2, d3] => { results := [.lit (.bool false)], args := [d1, d2, d3] }
  | _ => none }
def ScaleChangesWrongFalsely : Prop := scaleChangesRow.holds Tryd.pinned (OpenSpec.ofChange scaleChangesWrong)

/-- 'agraffetop.TopRigid': WHATEVER THE INPUT: true; the input reads as it did. -/
def topRigidSpec : ChangeSpec := { name := "topRigid", fn := fun _ => fun
  | [d1, d2, d3] => { results := [.lit (.bool true)], args := [d1, d2, d3] }
  | _ => none }
def topRigidRow : OpenClaim := { program := "ytodofkolnmoliaadoor", sum := "1a8bde1d85c3c6f74476708995dfebde974ab80443cad14a03726fb24a11aae7", func := "agraffe/agraffetop.TopRigid", spec := "topRigid", inPlace := ["math/bits.Add64"], unfollowed := true, recurses := true, named := ["agraffe/number.primes"], apart := false, laid := [("agraffe/number.primes", laid_agraffe_number_primes)] }
def TopRigidSaid : Prop := topRigidRow.holds Tryd.pinned (OpenSpec.ofChange topRigidSpec)

/-- ITS FALSE NEIGHBOUR: 'it returns false'. Refute it at one input. -/
def topRigidWrong : ChangeSpec := { name := "topRigid", fn := fun _ => fun
  | [d1, d2, d3] => { results := [.lit (.bool false)], args := [d1, d2, d3] }
  | _ => none }
def TopRigidWrongFalsely : Prop := topRigidRow.holds Tryd.pinned (OpenSpec.ofChange topRigidWrong)

/-- 'agraffetop.TopLoadsBalance': WHATEVER THE INPUT: true; the input reads as it did. -/
def topLoadsBalanceSpec : ChangeSpec := { name := "topLoadsBalance", fn := fun _ => fun
  | [d1, d2] => { results := [.lit (.bool true)], args := [d1, d2] }
  | _ => none }
def topLoadsBalanceRow : OpenClaim := { program := "ytodofkolnmoliaadoor", sum := "1a8bde1d85c3c6f74476708995dfebde974ab80443cad14a03726fb24a11aae7", func := "agraffe/agraffetop.TopLoadsBalance", spec := "topLoadsBalance", inPlace := ["math/bits.Add64"], unfollowed := true, recurses := true, named := ["agraffe/number.primes"], apart := false, laid := [("agraffe/number.primes", laid_agraffe_number_primes)] }
def TopLoadsBalanceSaid : Prop := topLoadsBalanceRow.holds Tryd.pinned (OpenSpec.ofChange topLoadsBalanceSpec)

/-- ITS FALSE NEIGHBOUR: 'it returns false'. Refute it at one input. -/
def topLoadsBalanceWrong : ChangeSpec := { name := "topLoadsBalance", fn := fun _ => fun
  | [d1, d2] => { results := [.lit (.bool false)], args := [d1, d2] }
  | _ => none }
def TopLoadsBalanceWrongFalsely : Prop := topLoadsBalanceRow.holds Tryd.pinned (OpenSpec.ofChange topLoadsBalanceWrong)

/-- 'agraffetop.TopTensionBounds': WHATEVER THE INPUT: true; the input reads as it did. -/
def topTensionBoundsSpec : ChangeSpec := { name := "topTensionBounds", fn := fun _ => fun
  | [d1, d2, d3] => { results := [.lit (.bool true)], args := [d1, d2, d3] }
  | _ => none }
def topTensionBoundsRow : OpenClaim := { program := "ytodofkolnmoliaadoor", sum := "1a8bde1d85c3c6f74476708995dfebde974ab80443cad14a03726fb24a11aae7", func := "agraffe/agraffetop.TopTensionBounds", spec := "topTensionBounds", inPlace := ["math/bits.Add64"], unfollowed := true, recurses := true, named := ["agraffe/number.primes"], apart := false, laid := [("agraffe/number.primes", laid_agraffe_number_primes)] }
def TopTensionBoundsSaid : Prop := topTensionBoundsRow.holds Tryd.pinned (OpenSpec.ofChange topTensionBoundsSpec)

/-- ITS FALSE NEIGHBOUR: 'it returns false'. Refute it at one input. -/
def topTensionBoundsWrong : ChangeSpec := { name := "topTensionBounds", fn := fun _ => fun
  | [d1, d2, d3] => { results := [.lit (.bool false)], args := [d1, d2, d3] }
  | _ => none }
def TopTensionBoundsWrongFalsely : Prop := topTensionBoundsRow.holds Tryd.pinned (OpenSpec.ofChange topTensionBoundsWrong)

/- THE SECOND FORM. 'bulk': how many values and letters a reading holds, each counted each time it is reached (what is shared counts as often as it is met; a slice's spare places count too). A statement '..UptoSaid' is the law's where the arguments, and the package variables that the reading takes, are together of bulk at most 1048576: NARROWER than '..Said'. Prove '..Said' where nothing that the law and all that it calls make is longer than what came in: it says more and counts as full. Else prove '..UptoSaid'. A law counts once. -/
mutual
def uptoBulk {H : Type} : DataW H → Nat
  | .lit (.string bytes) => bytes.length + 1
  | .lit _ => 1
  | .nil => 1
  | .ptr d => uptoBulk d + 1
  | .slice elems spare => uptoBulkAll elems + uptoBulkAll spare + 1
  | .agg parts => uptoBulkAll parts + 1
  | .iface _ d => uptoBulk d + 1
  | .map entries => uptoBulkEntries entries + 1
  | .held _ => 1
def uptoBulkAll {H : Type} : List (DataW H) → Nat
  | [] => 0
  | d :: r => uptoBulk d + uptoBulkAll r
def uptoBulkEntries {H : Type} : List (Lit × DataW H) → Nat
  | [] => 0
  | x :: r => uptoBulkEntry x + uptoBulkEntries r
def uptoBulkEntry {H : Type} : Lit × DataW H → Nat
  | (.string bytes, d) => bytes.length + uptoBulk d + 1
  | (_, d) => uptoBulk d + 1
 end
def uptoSmall : (H : Type) → List (DataW H) → Bool := fun _ ds => decide (uptoBulkAll ds ≤ 1048576)
def OpenSpec.upto (s : _root_.Go.ChangeSpec) : _root_.Go.OpenSpec := { _root_.Go.OpenSpec.ofChange s with cond := some uptoSmall }

/-- 'agraffetop.TopLengthsSolve', WHERE WHAT IT READS IS OF BULK AT MOST 1048576: true; the input reads as it did. -/
def topLengthsSolveUptoRow : OpenClaim := { program := "ytodofkolnmoliaadoor", sum := "1a8bde1d85c3c6f74476708995dfebde974ab80443cad14a03726fb24a11aae7", func := "agraffe/agraffetop.TopLengthsSolve", spec := "topLengthsSolve", inPlace := ["math/bits.Add64"], unfollowed := true, recurses := true, named := ["agraffe/number.primes"], apart := false, laid := [("agraffe/number.primes", laid_agraffe_number_primes)], narrowed := true }
def TopLengthsSolveUptoSaid : Prop := topLengthsSolveUptoRow.holds Tryd.pinned (OpenSpec.upto topLengthsSolveSpec)

/-- 'agraffelaw02.ScaleStringings', WHERE WHAT IT READS IS OF BULK AT MOST 1048576: true; the input reads as it did. -/
def scaleStringingsUptoRow : OpenClaim := { program := "ytodofkolnmoliaadoor", sum := "1a8bde1d85c3c6f74476708995dfebde974ab80443cad14a03726fb24a11aae7", func := "agraffe/agraffelaw02.ScaleStringings", spec := "scaleStringings", inPlace := ["math/bits.Add64"], unfollowed := true, recurses := true, named := ["agraffe/number.primes"], apart := false, laid := [("agraffe/number.primes", laid_agraffe_number_primes)], narrowed := true }
def ScaleStringingsUptoSaid : Prop := scaleStringingsUptoRow.holds Tryd.pinned (OpenSpec.upto scaleStringingsSpec)

/-- 'agraffelaw02.ScaleWith', WHERE WHAT IT READS IS OF BULK AT MOST 1048576: true; the input reads as it did. -/
def scaleWithUptoRow : OpenClaim := { program := "ytodofkolnmoliaadoor", sum := "1a8bde1d85c3c6f74476708995dfebde974ab80443cad14a03726fb24a11aae7", func := "agraffe/agraffelaw02.ScaleWith", spec := "scaleWith", inPlace := ["math/bits.Add64"], unfollowed := true, recurses := true, named := ["agraffe/number.primes"], apart := false, laid := [("agraffe/number.primes", laid_agraffe_number_primes)], narrowed := true }
def ScaleWithUptoSaid : Prop := scaleWithUptoRow.holds Tryd.pinned (OpenSpec.upto scaleWithSpec)

/-- 'agraffelaw02.ScaleKeeps', WHERE WHAT IT READS IS OF BULK AT MOST 1048576: true; the input reads as it did. -/
def scaleKeepsUptoRow : OpenClaim := { program := "ytodofkolnmoliaadoor", sum := "1a8bde1d85c3c6f74476708995dfebde974ab80443cad14a03726fb24a11aae7", func := "agraffe/agraffelaw02.ScaleKeeps", spec := "scaleKeeps", inPlace := ["math/bits.Add64"], unfollowed := true, recurses := true, named := ["agraffe/number.primes"], apart := false, laid := [("agraffe/number.primes", laid_agraffe_number_primes)], narrowed := true }
def ScaleKeepsUptoSaid : Prop := scaleKeepsUptoRow.holds Tryd.pinned (OpenSpec.upto scaleKeepsSpec)

/-- 'agraffelaw02.ScaleSizes', WHERE WHAT IT READS IS OF BULK AT MOST 1048576: true; the input reads as it did. -/
def scaleSizesUptoRow : OpenClaim := { program := "ytodofkolnmoliaadoor", sum := "1a8bde1d85c3c6f74476708995dfebde974ab80443cad14a03726fb24a11aae7", func := "agraffe/agraffelaw02.ScaleSizes", spec := "scaleSizes", inPlace := ["math/bits.Add64"], unfollowed := true, recurses := true, named := ["agraffe/number.primes"], apart := false, laid := [("agraffe/number.primes", laid_agraffe_number_primes)], narrowed := true }
def ScaleSizesUptoSaid : Prop := scaleSizesUptoRow.holds Tryd.pinned (OpenSpec.upto scaleSizesSpec)

/-- 'agraffelaw02.ScaleChanges', WHERE WHAT IT READS IS OF BULK AT MOST 1048576: true; the input reads as it did. -/
def scaleChangesUptoRow : OpenClaim := { program := "ytodofkolnmoliaadoor", sum := "1a8bde1d85c3c6f74476708995dfebde974ab80443cad14a03726fb24a11aae7", func := "agraffe/agraffelaw02.ScaleChanges", spec := "scaleChanges", inPlace := ["math/bits.Add64"], unfollowed := true, recurses := true, named := ["agraffe/number.primes"], apart := false, laid := [("agraffe/number.primes", laid_agraffe_number_primes)], narrowed := true }
def ScaleChangesUptoSaid : Prop := scaleChangesUptoRow.holds Tryd.pinned (OpenSpec.upto scaleChangesSpec)

/-- 'agraffetop.TopRigid', WHERE WHAT IT READS IS OF BULK AT MOST 1048576: true; the input reads as it did. -/
def topRigidUptoRow : OpenClaim := { program := "ytodofkolnmoliaadoor", sum := "1a8bde1d85c3c6f74476708995dfebde974ab80443cad14a03726fb24a11aae7", func := "agraffe/agraffetop.TopRigid", spec := "topRigid", inPlace := ["math/bits.Add64"], unfollowed := true, recurses := true, named := ["agraffe/number.primes"], apart := false, laid := [("agraffe/number.primes", laid_agraffe_number_primes)], narrowed := true }
def TopRigidUptoSaid : Prop := topRigidUptoRow.holds Tryd.pinned (OpenSpec.upto topRigidSpec)

/-- 'agraffetop.TopLoadsBalance', WHERE WHAT IT READS IS OF BULK AT MOST 1048576: true; the input reads as it did. -/
def topLoadsBalanceUptoRow : OpenClaim := { program := "ytodofkolnmoliaadoor", sum := "1a8bde1d85c3c6f74476708995dfebde974ab80443cad14a03726fb24a11aae7", func := "agraffe/agraffetop.TopLoadsBalance", spec := "topLoadsBalance", inPlace := ["math/bits.Add64"], unfollowed := true, recurses := true, named := ["agraffe/number.primes"], apart := false, laid := [("agraffe/number.primes", laid_agraffe_number_primes)], narrowed := true }
def TopLoadsBalanceUptoSaid : Prop := topLoadsBalanceUptoRow.holds Tryd.pinned (OpenSpec.upto topLoadsBalanceSpec)

/-- 'agraffetop.TopTensionBounds', WHERE WHAT IT READS IS OF BULK AT MOST 1048576: true; the input reads as it did. -/
def topTensionBoundsUptoRow : OpenClaim := { program := "ytodofkolnmoliaadoor", sum := "1a8bde1d85c3c6f74476708995dfebde974ab80443cad14a03726fb24a11aae7", func := "agraffe/agraffetop.TopTensionBounds", spec := "topTensionBounds", inPlace := ["math/bits.Add64"], unfollowed := true, recurses := true, named := ["agraffe/number.primes"], apart := false, laid := [("agraffe/number.primes", laid_agraffe_number_primes)], narrowed := true }
def TopTensionBoundsUptoSaid : Prop := topTensionBoundsUptoRow.holds Tryd.pinned (OpenSpec.upto topTensionBoundsSpec)

end Rows
end Go.Proofs.YtodofkolnmoliaaDoor
