/-
  No cell of these rows narrows 'for every input' (looked for: loops, veiled, ifaces, maps, wideKeys, modest, calm, conditions, laid).
  DERIVED. THE GIVEN ROWS OF THIS SEAT. 6 by the template 'for every input the law returns true; each argument reads behind the call as it read before'; 0 by the template 'total and deterministic' (their statements: YtodofkolnmoliaaTotals.lean).
  GIVEN WITH THE SEED: the statements are not yours to turn. If you find one false, say at which input.
  Laid BY PROGRAM, IN A SANDBOX (cutbox-rows.mjs): the forced cells as the released guide's own fill.sh prints them over the translation df4a64f9429c79a2… (all of the seat's roots in one cut). By AI agents, Wed Nov 11 2026. No macro, syntax, notation, axiom, sorry.
-/
import Derived.Test.YtodofkolnmoliaaChecked
import GoSem.Claim
import GoSem.ClaimJoined
import GoSem.ClaimMapViews
import Derived.JoinedTies
import Derived.KernelRfl
namespace Go.Proofs.Ytodofkolnmoliaa
/- THE CELL 'sum', in the pinned program and in every row, IS THE sha256 OF THE DUMP (.gsa) THAT YtodofkolnmoliaaProg.lean LOADS. Nothing in Lean hashes anything: it is a label: what it is worth is what the hold of that sum in a sandbox is worth. -/
noncomputable def Try.pinned : Pinned := { name := "ytodofkolnmoliaa", sum := "df4a64f9429c79a21a16599e4920d7754768ee19e8f19639c10dd70d42cde40a", checked := Try.checked }
namespace Rows
def none {H : Type} : Left H := { results := [], args := [] }

/-- 'agraffelaw02.ScaleGrows': WHATEVER THE INPUT: true; the input reads as it did. -/
def scaleGrowsSpec : ChangeSpec := { name := "scaleGrows", fn := fun _ => fun
  | [d1, d2, d3] => { results := [.lit (.bool true)], args := [d1, d2, d3] }
  | _ => none }
def scaleGrowsRow : OpenClaim := { program := "ytodofkolnmoliaa", sum := "df4a64f9429c79a21a16599e4920d7754768ee19e8f19639c10dd70d42cde40a", func := "agraffe/agraffelaw02.ScaleGrows", spec := "scaleGrows", unfollowed := true, recurses := true, apart := false }
def ScaleGrowsSaid : Prop := scaleGrowsRow.holds Try.pinned (OpenSpec.ofChange scaleGrowsSpec)

/-- ITS FALSE NEIGHBOUR: 'it returns false'. Refute it at one input. -/
def scaleGrowsWrong : ChangeSpec := { name := "scaleGrows", fn := fun _ => fun
  | [d1, d2, d3] => { results := [.lit (.bool false)], args := [d1, d2, d3] }
  | _ => none }
def ScaleGrowsWrongFalsely : Prop := scaleGrowsRow.holds Try.pinned (OpenSpec.ofChange scaleGrowsWrong)

/-- 'agraffelaw02.ScaleStrands': WHATEVER THE INPUT: true; the input reads as it did. -/
def scaleStrandsSpec : ChangeSpec := { name := "scaleStrands", fn := fun _ => fun
  | [d1, d2] => { results := [.lit (.bool true)], args := [d1, d2] }
  | _ => none }
def scaleStrandsRow : OpenClaim := { program := "ytodofkolnmoliaa", sum := "df4a64f9429c79a21a16599e4920d7754768ee19e8f19639c10dd70d42cde40a", func := "agraffe/agraffelaw02.ScaleStrands", spec := "scaleStrands", unfollowed := true, recurses := true, apart := false }
def ScaleStrandsSaid : Prop := scaleStrandsRow.holds Try.pinned (OpenSpec.ofChange scaleStrandsSpec)

/-- ITS FALSE NEIGHBOUR: 'it returns false'. Refute it at one input. -/
def scaleStrandsWrong : ChangeSpec := { name := "scaleStrands", fn := fun _ => fun
  | [d1, d2] => { results := [.lit (.bool false)], args := [d1, d2] }
  | _ => none }
def ScaleStrandsWrongFalsely : Prop := scaleStrandsRow.holds Try.pinned (OpenSpec.ofChange scaleStrandsWrong)

/-- 'agraffelaw02.ScaleTensions': WHATEVER THE INPUT: true; the input reads as it did. -/
def scaleTensionsSpec : ChangeSpec := { name := "scaleTensions", fn := fun _ => fun
  | [d1, d2, d3] => { results := [.lit (.bool true)], args := [d1, d2, d3] }
  | _ => none }
def scaleTensionsRow : OpenClaim := { program := "ytodofkolnmoliaa", sum := "df4a64f9429c79a21a16599e4920d7754768ee19e8f19639c10dd70d42cde40a", func := "agraffe/agraffelaw02.ScaleTensions", spec := "scaleTensions", unfollowed := true, recurses := true, apart := false }
def ScaleTensionsSaid : Prop := scaleTensionsRow.holds Try.pinned (OpenSpec.ofChange scaleTensionsSpec)

/-- ITS FALSE NEIGHBOUR: 'it returns false'. Refute it at one input. -/
def scaleTensionsWrong : ChangeSpec := { name := "scaleTensions", fn := fun _ => fun
  | [d1, d2, d3] => { results := [.lit (.bool false)], args := [d1, d2, d3] }
  | _ => none }
def ScaleTensionsWrongFalsely : Prop := scaleTensionsRow.holds Try.pinned (OpenSpec.ofChange scaleTensionsWrong)

/-- 'agraffelaw02.ScaleSounds': WHATEVER THE INPUT: true; the input reads as it did. -/
def scaleSoundsSpec : ChangeSpec := { name := "scaleSounds", fn := fun _ => fun
  | [d1, d2, d3] => { results := [.lit (.bool true)], args := [d1, d2, d3] }
  | _ => none }
def scaleSoundsRow : OpenClaim := { program := "ytodofkolnmoliaa", sum := "df4a64f9429c79a21a16599e4920d7754768ee19e8f19639c10dd70d42cde40a", func := "agraffe/agraffelaw02.ScaleSounds", spec := "scaleSounds", unfollowed := true, recurses := true, apart := false }
def ScaleSoundsSaid : Prop := scaleSoundsRow.holds Try.pinned (OpenSpec.ofChange scaleSoundsSpec)

/-- ITS FALSE NEIGHBOUR: 'it returns false'. Refute it at one input. -/
def scaleSoundsWrong : ChangeSpec := { name := "scaleSounds", fn := fun _ => fun
  | [d1, d2, d3] => { results := [.lit (.bool false)], args := [d1, d2, d3] }
  | _ => none }
def ScaleSoundsWrongFalsely : Prop := scaleSoundsRow.holds Try.pinned (OpenSpec.ofChange scaleSoundsWrong)

/-- 'agraffelaw02.ScaleLengths': WHATEVER THE INPUT: true; the input reads as it did. -/
def scaleLengthsSpec : ChangeSpec := { name := "scaleLengths", fn := fun _ => fun
  | [d1, d2] => { results := [.lit (.bool true)], args := [d1, d2] }
  | _ => none }
def scaleLengthsRow : OpenClaim := { program := "ytodofkolnmoliaa", sum := "df4a64f9429c79a21a16599e4920d7754768ee19e8f19639c10dd70d42cde40a", func := "agraffe/agraffelaw02.ScaleLengths", spec := "scaleLengths", unfollowed := true, recurses := true, apart := false }
def ScaleLengthsSaid : Prop := scaleLengthsRow.holds Try.pinned (OpenSpec.ofChange scaleLengthsSpec)

/-- ITS FALSE NEIGHBOUR: 'it returns false'. Refute it at one input. -/
def scaleLengthsWrong : ChangeSpec := { name := "scaleLengths", fn := fun _ => fun
  | [d1, d2] => { results := [.lit (.bool false)], args := [d1, d2] }
  | _ => none }
def ScaleLengthsWrongFalsely : Prop := scaleLengthsRow.holds Try.pinned (OpenSpec.ofChange scaleLengthsWrong)

/-- 'agraffelaw02.ScaleClasses': WHATEVER THE INPUT: true; the input reads as it did. -/
def scaleClassesSpec : ChangeSpec := { name := "scaleClasses", fn := fun _ => fun
  | [d1, d2] => { results := [.lit (.bool true)], args := [d1, d2] }
  | _ => none }
def scaleClassesRow : OpenClaim := { program := "ytodofkolnmoliaa", sum := "df4a64f9429c79a21a16599e4920d7754768ee19e8f19639c10dd70d42cde40a", func := "agraffe/agraffelaw02.ScaleClasses", spec := "scaleClasses", unfollowed := true, recurses := true, apart := false }
def ScaleClassesSaid : Prop := scaleClassesRow.holds Try.pinned (OpenSpec.ofChange scaleClassesSpec)

/-- ITS FALSE NEIGHBOUR: 'it returns false'. Refute it at one input. -/
def scaleClassesWrong : ChangeSpec := { name := "scaleClasses", fn := fun _ => fun
  | [d1, d2] => { results := [.lit (.bool false)], args := [d1, d2] }
  | _ => none }
def ScaleClassesWrongFalsely : Prop := scaleClassesRow.holds Try.pinned (OpenSpec.ofChange scaleClassesWrong)

/- THE SECOND FORM. 'bulk': how many values and letters a reading holds, each counted each time it is reached (what is shared counts as often as it is met; a slice's spare places count too). A statement '..UptoSaid' is the law's where the arguments, and the package variables that the reading takes, are together of bulk at most 1048576: NARROWER than '..Said'. Prove '..Said' where nothing that the law and all that it calls make is longer than what came in: it says more and counts as full. Else prove '..UptoSaid'. A law counts once. -/
mutual
def uptoBulk {H : Type} : DataW H → Nat
  | .lit (.string bytes) => bytes.length + 1
  | .lit _ => 1
  | .nil => 1
  | .ptr d => uptoBulk d + 1
  | .slice elems spare => uptoBulkAll elems + uptoBulkAll spare + 1
  | .agg parts => uptoBulkAll parts + 1
  | .iface _ d => uptoBulk d + 1
  | .map entries => uptoBulkEntries entries + 1
  | .held _ => 1
def uptoBulkAll {H : Type} : List (DataW H) → Nat
  | [] => 0
  | d :: r => uptoBulk d + uptoBulkAll r
def uptoBulkEntries {H : Type} : List (Lit × DataW H) → Nat
  | [] => 0
  | x :: r => uptoBulkEntry x + uptoBulkEntries r
def uptoBulkEntry {H : Type} : Lit × DataW H → Nat
  | (.string bytes, d) => bytes.length + uptoBulk d + 1
  | (_, d) => uptoBulk d + 1
 end
def uptoSmall : (H : Type) → List (DataW H) → Bool := fun _ ds => decide (uptoBulkAll ds ≤ 1048576)
def OpenSpec.upto (s : _root_.Go.ChangeSpec) : _root_.Go.OpenSpec := { _root_.Go.OpenSpec.ofChange s with cond := some uptoSmall }

/-- 'agraffelaw02.ScaleGrows', WHERE WHAT IT READS IS OF BULK AT MOST 1048576: true; the input reads as it did. -/
def scaleGrowsUptoRow : OpenClaim := { program := "ytodofkolnmoliaa", sum := "df4a64f9429c79a21a16599e4920d7754768ee19e8f19639c10dd70d42cde40a", func := "agraffe/agraffelaw02.ScaleGrows", spec := "scaleGrows", unfollowed := true, recurses := true, apart := false, narrowed := true }
def ScaleGrowsUptoSaid : Prop := scaleGrowsUptoRow.holds Try.pinned (OpenSpec.upto scaleGrowsSpec)

/-- 'agraffelaw02.ScaleStrands', WHERE WHAT IT READS IS OF BULK AT MOST 1048576: true; the input reads as it did. -/
def scaleStrandsUptoRow : OpenClaim := { program := "ytodofkolnmoliaa", sum := "df4a64f9429c79a21a16599e4920d7754768ee19e8f19639c10dd70d42cde40a", func := "agraffe/agraffelaw02.ScaleStrands", spec := "scaleStrands", unfollowed := true, recurses := true, apart := false, narrowed := true }
def ScaleStrandsUptoSaid : Prop := scaleStrandsUptoRow.holds Try.pinned (OpenSpec.upto scaleStrandsSpec)

/-- 'agraffelaw02.ScaleTensions', WHERE WHAT IT READS IS OF BULK AT MOST 1048576: true; the input reads as it did. -/
def scaleTensionsUptoRow : OpenClaim := { program := "ytodofkolnmoliaa", sum := "df4a64f9429c79a21a16599e4920d7754768ee19e8f19639c10dd70d42cde40a", func := "agraffe/agraffelaw02.ScaleTensions", spec := "scaleTensions", unfollowed := true, recurses := true, apart := false, narrowed := true }
def ScaleTensionsUptoSaid : Prop := scaleTensionsUptoRow.holds Try.pinned (OpenSpec.upto scaleTensionsSpec)

/-- 'agraffelaw02.ScaleSounds', WHERE WHAT IT READS IS OF BULK AT MOST 1048576: true; the input reads as it did. -/
def scaleSoundsUptoRow : OpenClaim := { program := "ytodofkolnmoliaa", sum := "df4a64f9429c79a21a16599e4920d7754768ee19e8f19639c10dd70d42cde40a", func := "agraffe/agraffelaw02.ScaleSounds", spec := "scaleSounds", unfollowed := true, recurses := true, apart := false, narrowed := true }
def ScaleSoundsUptoSaid : Prop := scaleSoundsUptoRow.holds Try.pinned (OpenSpec.upto scaleSoundsSpec)

/-- 'agraffelaw02.ScaleLengths', WHERE WHAT IT READS IS OF BULK AT MOST 1048576: true; the input reads as it did. -/
def scaleLengthsUptoRow : OpenClaim := { program := "ytodofkolnmoliaa", sum := "df4a64f9429c79a21a16599e4920d7754768ee19e8f19639c10dd70d42cde40a", func := "agraffe/agraffelaw02.ScaleLengths", spec := "scaleLengths", unfollowed := true, recurses := true, apart := false, narrowed := true }
def ScaleLengthsUptoSaid : Prop := scaleLengthsUptoRow.holds Try.pinned (OpenSpec.upto scaleLengthsSpec)

/-- 'agraffelaw02.ScaleClasses', WHERE WHAT IT READS IS OF BULK AT MOST 1048576: true; the input reads as it did. -/
def scaleClassesUptoRow : OpenClaim := { program := "ytodofkolnmoliaa", sum := "df4a64f9429c79a21a16599e4920d7754768ee19e8f19639c10dd70d42cde40a", func := "agraffe/agraffelaw02.ScaleClasses", spec := "scaleClasses", unfollowed := true, recurses := true, apart := false, narrowed := true }
def ScaleClassesUptoSaid : Prop := scaleClassesUptoRow.holds Try.pinned (OpenSpec.upto scaleClassesSpec)

end Rows
end Go.Proofs.Ytodofkolnmoliaa
