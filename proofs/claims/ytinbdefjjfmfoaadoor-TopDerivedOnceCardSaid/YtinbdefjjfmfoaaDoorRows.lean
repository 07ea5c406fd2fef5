/-
  NARROWER THAN 'FOR EVERY INPUT', by the rows' own cells (each row's printed sentence says how): TemperNotes: laid · TemperBeats: laid · TemperFrequencies: laid · TemperTests: laid · TemperPitches: laid · TemperRises: laid · TemperOctaves: laid · TemperPurity: laid · TemperCircle: laid · TemperNames: laid · TemperAccepts: laid · TemperOrders: laid · TopBeatsEnclosed: laid · TemperCompares: laid · TemperDerives: laid · TopDerivedOnce: laid.
  DERIVED. THE GIVEN ROWS OF THIS SEAT. 16 by the template 'for every input the law returns true; each argument reads behind the call as it read before'; 0 by the template 'total and deterministic' (their statements: YtinbdefjjfmfoaaDoorTotals.lean).
  GIVEN WITH THE SEED: the statements are not yours to turn. If you find one false, say at which input.
  Laid BY PROGRAM, IN A SANDBOX (cutbox-rows.mjs): the forced cells as the released guide's own fill.sh prints them over the translation b8c37deed5ec2f53… (all of the seat's roots in one cut). By AI agents, Wed Nov 11 2026. No macro, syntax, notation, axiom, sorry.
-/
import Derived.Test.YtinbdefjjfmfoaaDoorChecked
import GoSem.Claim
import GoSem.ClaimJoined
import GoSem.ClaimMapViews
import Derived.JoinedTies
import Derived.KernelRfl
namespace Go.Proofs.YtinbdefjjfmfoaaDoor
/- THE CELL 'sum', in the pinned program and in every row, IS THE sha256 OF THE DUMP (.gsa) THAT YtinbdefjjfmfoaaDoorProg.lean LOADS. Nothing in Lean hashes anything: it is a label: what it is worth is what the hold of that sum in a sandbox is worth. -/
noncomputable def Tryd.pinned : Pinned := { name := "ytinbdefjjfmfoaadoor", sum := "b8c37deed5ec2f53a23eaae5d1b52791e60ff89ca71d5bd9067a360255bbe011", checked := Tryd.checked }
namespace Rows
def none {H : Type} : Left H := { results := [], args := [] }

/- WHAT THE LISTED PACKAGE-LEVEL VARIABLES READ AS WHEN THE CALL BEGINS. Each datum BY PROGRAM (the guide's laid-datum.mjs) off the statement by which the dump's own 'gosem.cut.vars' lays the variable. In a bare row this is a premise. The card (YtinbdefjjfmfoaaDoorCards.lean) ties it to the program's text. -/
def laid_agraffe_number_primes {H : Type} : DataW H := .agg [.lit (.int .u64 2), .lit (.int .u64 3), .lit (.int .u64 5)]

/-- 'agraffelaw06.TemperNotes': WHATEVER THE INPUT: true; the input reads as it did. -/
def temperNotesSpec : ChangeSpec := { name := "temperNotes", fn := fun _ => fun
  | [d1, d2, d3] => { results := [.lit (.bool true)], args := [d1, d2, d3] }
  | _ => none }
def temperNotesRow : OpenClaim := { program := "ytinbdefjjfmfoaadoor", sum := "b8c37deed5ec2f53a23eaae5d1b52791e60ff89ca71d5bd9067a360255bbe011", func := "agraffe/agraffelaw06.TemperNotes", spec := "temperNotes", inPlace := ["math/bits.Add64"], unfollowed := true, recurses := true, named := ["agraffe/number.primes"], apart := false, laid := [("agraffe/number.primes", laid_agraffe_number_primes)] }
def TemperNotesSaid : Prop := temperNotesRow.holds Tryd.pinned (OpenSpec.ofChange temperNotesSpec)

/-- ITS FALSE NEIGHBOUR: 'it returns false'. Refute it at one input. -/
def temperNotesWrong : ChangeSpec := { name := "temperNotes", fn := fun _ => fun
  | [d1, d2, d3] => { results := [.lit (.bool false)], args := [d1, d2, d3] }
  | _ => none }
def TemperNotesWrongFalsely : Prop := temperNotesRow.holds Tryd.pinned (OpenSpec.ofChange temperNotesWrong)

/-- 'agraffelaw06.TemperBeats': WHATEVER THE INPUT: true; the input reads as it did. -/
def temperBeatsSpec : ChangeSpec := { name := "temperBeats", fn := fun _ => fun
  | [d1, d2, d3] => { results := [.lit (.bool true)], args := [d1, d2, d3] }
  | _ => none }
def temperBeatsRow : OpenClaim := { program := "ytinbdefjjfmfoaadoor", sum := "b8c37deed5ec2f53a23eaae5d1b52791e60ff89ca71d5bd9067a360255bbe011", func := "agraffe/agraffelaw06.TemperBeats", spec := "temperBeats", inPlace := ["math/bits.Add64"], unfollowed := true, recurses := true, named := ["agraffe/number.primes"], apart := false, laid := [("agraffe/number.primes", laid_agraffe_number_primes)] }
def TemperBeatsSaid : Prop := temperBeatsRow.holds Tryd.pinned (OpenSpec.ofChange temperBeatsSpec)

/-- ITS FALSE NEIGHBOUR: 'it returns false'. Refute it at one input. -/
def temperBeatsWrong : ChangeSpec := { name := "temperBeats", fn := fun _ => fun
  | [d1, d2, d3] => { results := [.lit (.bool false)], args := [d1, d2, d3] }
  | _ => none }
def TemperBeatsWrongFalsely : Prop := temperBeatsRow.holds Tryd.pinned (OpenSpec.ofChange temperBeatsWrong)

/-- 'agraffelaw06.TemperFrequencies': WHATEVER THE INPUT: true; the input reads as it did. -/
def temperFrequenciesSpec : ChangeSpec := { name := "temperFrequencies", fn := fun _ => fun
  | [d1, d2, d3] => { results := [.lit (.bool true)], args := [d1, d2, d3] }
  | _ => none }
def temperFrequenciesRow : OpenClaim := { program := "ytinbdefjjfmfoaadoor", sum := "b8c37deed5ec2f53a23eaae5d1b52791e60ff89ca71d5bd9067a360255bbe011", func := "agraffe/agraffelaw06.TemperFrequencies", spec := "temperFrequencies", inPlace := ["math/bits.Add64"], unfollowed := true, recurses := true, named := ["agraffe/number.primes"], apart := false, laid := [("agraffe/number.primes", laid_agraffe_number_primes)] }
def TemperFrequenciesSaid : Prop := temperFrequenciesRow.holds Tryd.pinned (OpenSpec.ofChange temperFrequenciesSpec)

/-- ITS FALSE NEIGHBOUR: 'it returns false'. Refute it at one input. -/
def temperFrequenciesWrong : ChangeSpec := { name := "temperFrequencies", fn := fun _ => fun
  | [d1, d2, d3] => { results := [.lit (.bool false)], args := [d1, d2, d3] }
  | _ => none }
def TemperFrequenciesWrongFalsely : Prop := temperFrequenciesRow.holds Tryd.pinned (OpenSpec.ofChange temperFrequenciesWrong)

/-- 'agraffelaw06.TemperTests': WHATEVER THE INPUT: true; the input reads as it did. -/
def temperTestsSpec : ChangeSpec := { name := "temperTests", fn := fun _ => fun
  | [d1, d2] => { results := [.lit (.bool true)], args := [d1, d2] }
  | _ => none }
def temperTestsRow : OpenClaim := { program := "ytinbdefjjfmfoaadoor", sum := "b8c37deed5ec2f53a23eaae5d1b52791e60ff89ca71d5bd9067a360255bbe011", func := "agraffe/agraffelaw06.TemperTests", spec := "temperTests", inPlace := ["math/bits.Add64"], unfollowed := true, recurses := true, named := ["agraffe/number.primes"], apart := false, laid := [("agraffe/number.primes", laid_agraffe_number_primes)] }
def TemperTestsSaid : Prop := temperTestsRow.holds Tryd.pinned (OpenSpec.ofChange temperTestsSpec)

/-- ITS FALSE NEIGHBOUR: 'it returns false'. Refute it at one input. -/
def temperTestsWrong : ChangeSpec := { name := "temperTests", fn := fun _ => fun
  | [d1, d2] => { results := [.lit (.bool false)], args := [d1, d2] }
  | _ => none }
def TemperTestsWrongFalsely : Prop := temperTestsRow.holds Tryd.pinned (OpenSpec.ofChange temperTestsWrong)

/-- 'agraffelaw06.TemperPitches': WHATEVER THE INPUT: true; the input reads as it did. -/
def temperPitchesSpec : ChangeSpec := { name := "temperPitches", fn := fun _ => fun
  | [d1, d2, d3] => { results := [.lit (.bool true)], args := [d1, d2, d3] }
  | _ => none }
def temperPitchesRow : OpenClaim := { program := "ytinbdefjjfmfoaadoor", sum := "b8c37deed5ec2f53a23eaae5d1b52791e60ff89ca71d5bd9067a360255bbe011", func := "agraffe/agraffelaw06.TemperPitches", spec := "temperPitches", inPlace := ["math/bits.Add64"], unfollowed := true, recurses := true, named := ["agraffe/number.primes"], apart := false, laid := [("agraffe/number.primes", laid_agraffe_number_primes)] }
def TemperPitchesSaid : Prop := temperPitchesRow.holds Tryd.pinned (OpenSpec.ofChange temperPitchesSpec)

/-- ITS FALSE NEIGHBOUR: 'it returns false'. Refute it at one input. -/
def temperPitchesWrong : ChangeSpec := { name := "temperPitches", fn := fun _ => fun
  | [d1, d2, d3] => { results := [.lit (.bool false)], args := [d1, d2, d3] }
  | _ => none }
def TemperPitchesWrongFalsely : Prop := temperPitchesRow.holds Tryd.pinned (OpenSpec.ofChange temperPitchesWrong)

/-- 'agraffelaw06.TemperRises': WHATEVER THE INPUT: true; the input reads as it did. -/
def temperRisesSpec : ChangeSpec := { name := "temperRises", fn := fun _ => fun
  | [d1, d2] => { results := [.lit (.bool true)], args := [d1, d2] }
  | _ => none }
def temperRisesRow : OpenClaim := { program := "ytinbdefjjfmfoaadoor", sum := "b8c37deed5ec2f53a23eaae5d1b52791e60ff89ca71d5bd9067a360255bbe011", func := "agraffe/agraffelaw06.TemperRises", spec := "temperRises", inPlace := ["math/bits.Add64"], unfollowed := true, recurses := true, named := ["agraffe/number.primes"], apart := false, laid := [("agraffe/number.primes", laid_agraffe_number_primes)] }
def TemperRisesSaid : Prop := temperRisesRow.holds Tryd.pinned (OpenSpec.ofChange temperRisesSpec)

/-- ITS FALSE NEIGHBOUR: 'it returns false'. Refute it at one input. -/
def temperRisesWrong : ChangeSpec := { name := "temperRises", fn := fun _ => fun
  | [d1, d2] => { results := [.lit (.bool false)], args := [d1, d2] }
  | _ => none }
def TemperRisesWrongFalsely : Prop := temperRisesRow.holds Tryd.pinned (OpenSpec.ofChange temperRisesWrong)

/-- 'agraffelaw06.TemperOctaves': WHATEVER THE INPUT: true; the input reads as it did. -/
def temperOctavesSpec : ChangeSpec := { name := "temperOctaves", fn := fun _ => fun
  | [d1, d2] => { results := [.lit (.bool true)], args := [d1, d2] }
  | _ => none }
def temperOctavesRow : OpenClaim := { program := "ytinbdefjjfmfoaadoor", sum := "b8c37deed5ec2f53a23eaae5d1b52791e60ff89ca71d5bd9067a360255bbe011", func := "agraffe/agraffelaw06.TemperOctaves", spec := "temperOctaves", inPlace := ["math/bits.Add64"], unfollowed := true, recurses := true, named := ["agraffe/number.primes"], apart := false, laid := [("agraffe/number.primes", laid_agraffe_number_primes)] }
def TemperOctavesSaid : Prop := temperOctavesRow.holds Tryd.pinned (OpenSpec.ofChange temperOctavesSpec)

/-- ITS FALSE NEIGHBOUR: 'it returns false'. Refute it at one input. -/
def temperOctavesWrong : ChangeSpec := { name := "temperOctaves", fn := fun _ => fun
  | [d1, d2] => { results := [.lit (.bool false)], args := [d1, d2] }
  | _ => none }
def TemperOctavesWrongFalsely : Prop := temperOctavesRow.holds Tryd.pinned (OpenSpec.ofChange temperOctavesWrong)

/-- 'agraffelaw06.TemperPurity': WHATEVER THE INPUT: true; the input reads as it did. -/
def temperPuritySpec : ChangeSpec := { name := "temperPurity", fn := fun _ => fun
  | [d1, d2, d3] => { results := [.lit (.bool true)], args := [d1, d2, d3] }
  | _ => none }
def temperPurityRow : OpenClaim := { program := "ytinbdefjjfmfoaadoor", sum := "b8c37deed5ec2f53a23eaae5d1b52791e60ff89ca71d5bd9067a360255bbe011", func := "agraffe/agraffelaw06.TemperPurity", spec := "temperPurity", inPlace := ["math/bits.Add64"], unfollowed := true, recurses := true, named := ["agraffe/number.primes"], apart := false, laid := [("agraffe/number.primes", laid_agraffe_number_primes)] }
def TemperPuritySaid : Prop := temperPurityRow.holds Tryd.pinned (OpenSpec.ofChange temperPuritySpec)

/-- ITS FALSE NEIGHBOUR: 'it returns false'. Refute it at one input. -/
def temperPurityWrong : ChangeSpec := { name := "temperPurity", fn := fun _ => fun
  | [d1, d2, d3] => { results := [.lit (.bool false)], args := [d1, d2, d3] }
  | _ => none }
def TemperPurityWrongFalsely : Prop := temperPurityRow.holds Tryd.pinned (OpenSpec.ofChange temperPurityWrong)

/-- 'agraffelaw06.TemperCircle': WHATEVER THE INPUT: true; the input reads as it did. -/
def temperCircleSpec : ChangeSpec := { name := "temperCircle", fn := fun _ => fun
  | [d] => { results := [.lit (.bool true)], args := [d] }
  | _ => none }
def temperCircleRow : OpenClaim := { program := "ytinbdefjjfmfoaadoor", sum := "b8c37deed5ec2f53a23eaae5d1b52791e60ff89ca71d5bd9067a360255bbe011", func := "agraffe/agraffelaw06.TemperCircle", spec := "temperCircle", inPlace := ["math/bits.Add64"], unfollowed := true, recurses := true, named := ["agraffe/number.primes"], apart := false, laid := [("agraffe/number.primes", laid_agraffe_number_primes)] }
def TemperCircleSaid : Prop := temperCircleRow.holds Tryd.pinned (OpenSpec.ofChange temperCircleSpec)

/-- ITS FALSE NEIGHBOUR: 'it returns false'. Refute it at one input. -/
def temperCircleWrong : ChangeSpec := { name := "temperCircle", fn := fun _ => fun
  | [d] => { results := [.lit (.bool false)], args := [d] }
  | _ => none }
def TemperCircleWrongFalsely : Prop := temperCircleRow.holds Tryd.pinned (OpenSpec.ofChange temperCircleWrong)

/-- 'agraffelaw06.TemperNames': WHATEVER THE INPUT: true; the input reads as it did. -/
def temperNamesSpec : ChangeSpec := { name := "temperNames", fn := fun _ => fun
  | [d1, d2, d3] => { results := [.lit (.bool true)], args := [d1, d2, d3] }
  | _ => none }
def temperNamesRow : OpenClaim := { program := "ytinbdefjjfmfoaadoor", sum := "b8c37deed5ec2f53a23eaae5d1b52791e60ff89ca71d5bd9067a360255bbe011", func := "agraffe/agraffelaw06.TemperNames", spec := "temperNames", inPlace := ["math/bits.Add64"], unfollowed := true, recurses := true, named := ["agraffe/number.primes"], apart := false, laid := [("agraffe/number.primes", laid_agraffe_number_primes)] }
def TemperNamesSaid : Prop := temperNamesRow.holds Tryd.pinned (OpenSpec.ofChange temperNamesSpec)

/-- ITS FALSE NEIGHBOUR: 'it returns false'. Refute it at one input. -/
def temperNamesWrong : ChangeSpec := { name := "temperNames", fn := fun _ => fun
  | [d1, d2, d3] => { results := [.lit (.bool false)], args := [d1, d2, d3] }
  | _ => none }
def TemperNamesWrongFalsely : Prop := temperNamesRow.holds Tryd.pinned (OpenSpec.ofChange temperNamesWrong)

/-- 'agraffelaw06.TemperAccepts': WHATEVER THE INPUT: true; the input reads as it did. -/
def temperAcceptsSpec : ChangeSpec := { name := "temperAccepts", fn := fun _ => fun
  | [d1, d2, d3] => { results := [.lit (.bool true)], args := [d1, d2, d3] }
  | _ => none }
def temperAcceptsRow : OpenClaim := { program := "ytinbdefjjfmfoaadoor", sum := "b8c37deed5ec2f53a23eaae5d1b52791e60ff89ca71d5bd9067a360255bbe011", func := "agraffe/agraffelaw06.TemperAccepts", spec := "temperAccepts", inPlace := ["math/bits.Add64"], unfollowed := true, recurses := true, named := ["agraffe/number.primes"], apart := false, laid := [("agraffe/number.primes", laid_agraffe_number_primes)] }
def TemperAcceptsSaid : Prop := temperAcceptsRow.holds Tryd.pinned (OpenSpec.ofChange temperAcceptsSpec)

/-- ITS FALSE NEIGHBOUR: 'it returns false'. Refute it at one input. -/
def temperAcceptsWrong : ChangeSpec := { name := "temperAccepts", fn := fun _ => fun
  | [d1, d2, d3] => { results := [.lit (.bool false)], args := [d1, d2, d3] }
  | _ => none }
def TemperAcceptsWrongFalsely : Prop := temperAcceptsRow.holds Tryd.pinned (OpenSpec.ofChange temperAcceptsWrong)

/-- 'agraffelaw06.TemperOrders': WHATEVER THE INPUT: true; the input reads as it did. -/
def temperOrdersSpec : ChangeSpec := { name := "temperOrders", fn := fun _ => fun
  | [d1, d2] => { results := [.lit (.bool true)], args := [d1, d2] }
  | _ => none }
def temperOrdersRow : OpenClaim := { program := "ytinbdefjjfmfoaadoor", sum := "b8c37deed5ec2f53a23eaae5d1b52791e60ff89ca71d5bd9067a360255bbe011", func := "agraffe/agraffelaw06.TemperOrders", spec := "temperOrders", inPlace := ["math/bits.Add64"], unfollowed := true, recurses := true, named := ["agraffe/number.primes"], apart := false, laid := [("agraffe/number.primes", laid_agraffe_number_primes)] }
def TemperOrdersSaid : Prop := temperOrdersRow.holds Tryd.pinned (OpenSpec.ofChange temperOrdersSpec)

/-- ITS FALSE NEIGHBOUR: 'it returns false'. Refute it at one input. -/
def temperOrdersWrong : ChangeSpec := { name := "temperOrders", fn := fun _ => fun
  | [d1, d2] => { results := [.lit (.bool false)], args := [d1, d2] }
  | _ => none }
def TemperOrdersWrongFalsely : Prop := temperOrdersRow.holds Tryd.pinned (OpenSpec.ofChange temperOrdersWrong)

/-- 'agraffetop.TopBeatsEnclosed': WHATEVER THE INPUT: true; the input reads as it did. -/
def topBeatsEnclosedSpec : ChangeSpec := { name := "topBeatsEnclosed", fn := fun _ => fun
  | [d1, d2, d3] => { results := [.lit (.bool true)], args := [d1, d2, d3] }
  | _ => none }
def topBeatsEnclosedRow : OpenClaim := { program := "ytinbdefjjfmfoaadoor", sum := "b8c37deed5ec2f53a23eaae5d1b52791e60ff89ca71d5bd9067a360255bbe011", func := "agraffe/agraffetop.TopBeatsEnclosed", spec := "topBeatsEnclosed", inPlace := ["math/bits.Add64"], unfollowed := true, recurses := true, named := ["agraffe/number.primes"], apart := false, laid := [("agraffe/number.primes", laid_agraffe_number_primes)] }
def TopBeatsEnclosedSaid : Prop := topBeatsEnclosedRow.holds Tryd.pinned (OpenSpec.ofChange topBeatsEnclosedSpec)

/-- ITS FALSE NEIGHBOUR: 'it returns false'. Refute it at one input. -/
def topBeatsEnclosedWrong : ChangeSpec := { name := "topBeatsEnclosed", fn := fun _ => fun
  | [d1, d2, d3] => { results := [.lit (.bool false)], args := [d1, d2, d3] }
  | _ => none }
def TopBeatsEnclosedWrongFalsely : Prop := topBeatsEnclosedRow.holds Tryd.pinned (OpenSpec.ofChange topBeatsEnclosedWrong)

/-- 'agraffelaw06.TemperCompares': WHATEVER THE INPUT: true; the input reads as it did. -/
def temperComparesSpec : ChangeSpec := { name := "temperCompares", fn := fun _ => fun
  | [d1, d2] => { results := [.lit (.bool true)], args := [d1, d2] }
  | _ => none }
def temperComparesRow : OpenClaim := { program := "ytinbdefjjfmfoaadoor", sum := "b8c37deed5ec2f53a23eaae5d1b52791e60ff89ca71d5bd9067a360255bbe011", func := "agraffe/agraffelaw06.TemperCompares", spec := "temperCompares", inPlace := ["math/bits.Add64"], unfollowed := true, recurses := true, named := ["agraffe/number.primes"], apart := false, laid := [("agraffe/number.primes", laid_agraffe_number_primes)] }
def TemperComparesSaid : Prop := temperComparesRow.holds Tryd.pinned (OpenSpec.ofChange temperComparesSpec)

/-- ITS FALSE NEIGHBOUR: 'it returns false'. Refute it at one input. -/
def temperComparesWrong : ChangeSpec := { name := "temperCompares", fn := fun _ => fun
  | [d1, d2] => { results := [.lit (.bool false)], args := [d1, d2] }
  | _ => none }
def TemperComparesWrongFalsely : Prop := temperComparesRow.holds Tryd.pinned (OpenSpec.ofChange temperComparesWrong)

/-- 'agraffelaw06.TemperDerives': WHATEVER THE INPUT: true; the input reads as it did. -/
def temperDerivesSpec : ChangeSpec := { name := "temperDerives", fn := fun _ => fun
  | [d1, d2, d3] => { results := [.lit (.bool true)], args := [d1, d2, d3] }
  | _ => none }
def temperDerivesRow : OpenClaim := { program := "ytinbdefjjfmfoaadoor", sum := "b8c37deed5ec2f53a23eaae5d1b52791e60ff89ca71d5bd9067a360255bbe011", func := "agraffe/agraffelaw06.TemperDerives", spec := "temperDerives", inPlace := ["math/bits.Add64"], unfollowed := true, recurses := true, named := ["agraffe/number.primes"], apart := false, laid := [("agraffe/number.primes", laid_agraffe_number_primes)] }
def TemperDerivesSaid : Prop := temperDerivesRow.holds Tryd.pinned (OpenSpec.ofChange temperDerivesSpec)

/-- ITS FALSE NEIGHBOUR: 'it returns false'. Refute it at one input. -/
def temperDerivesWrong : ChangeSpec := { name := "temperDerives", fn := fun _ => fun
  | [d1, d2, d3] => { results := [.lit (.bool false)], args := [d1, d2, d3] }
  | _ => none }
def TemperDerivesWrongFalsely : Prop := temperDerivesRow.holds Tryd.pinned (OpenSpec.ofChange temperDerivesWrong)

/-- 'agraffetop.TopDerivedOnce': WHATEVER THE INPUT: true; the input reads as it did. -/
def topDerivedOnceSpec : ChangeSpec := { name := "topDerivedOnce", fn := fun _ => fun
  | [d1, d2, d3] => { results := [.lit (.bool true)], args := [d1, d2, d3] }
  | _ => none }
def topDerivedOnceRow : OpenClaim := { program := "ytinbdefjjfmfoaadoor", sum := "b8c37deed5ec2f53a23eaae5d1b52791e60ff89ca71d5bd9067a360255bbe011", func := "agraffe/agraffetop.TopDerivedOnce", spec := "topDerivedOnce", inPlace := ["math/bits.Add64"], unfollowed := true, recurses := true, named := ["agraffe/number.primes"], apart := false, laid := [("agraffe/number.primes", laid_agraffe_number_primes)] }
def TopDerivedOnceSaid : Prop := topDerivedOnceRow.holds Tryd.pinned (OpenSpec.ofChange topDerivedOnceSpec)

/-- ITS FALSE NEIGHBOUR: 'it returns false'. Refute it at one input. -/
def topDerivedOnceWrong : ChangeSpec := { name := "topDerivedOnce", fn := fun _ => fun
  | [d1, d2, d3] => { results := [.lit (.bool false)], args := [d1, d2, d3] }
  | _ => none }
def TopDerivedOnceWrongFalsely : Prop := topDerivedOnceRow.holds Tryd.pinned (OpenSpec.ofChange topDerivedOnceWrong)

/- THE SECOND FORM. 'bulk': how many values and letters a reading holds, each counted each time it is reached (what is shared counts as often as it is met; a slice's spare places count too). A statement '..UptoSaid' is the law's where the arguments, and the package variables that the reading takes, are together of bulk at most 1048576: NARROWER than '..Said'. Prove '..Said' where nothing that the law and all that it calls make is longer than what came in: it says more and counts as full. Else prove '..UptoSaid'. A law counts once. -/
mutual
def uptoBulk {H : Type} : DataW H → Nat
  | .lit (.string bytes) => bytes.length + 1
  | .lit _ => 1
  | .nil => 1
  | .ptr d => uptoBulk d + 1
  | .slice elems spare => uptoBulkAll elems + uptoBulkAll spare + 1
  | .agg parts => uptoBulkAll parts + 1
  | .iface _ d => uptoBulk d + 1
  | .map entries => uptoBulkEntries entries + 1
  | .held _ => 1
def uptoBulkAll {H : Type} : List (DataW H) → Nat
  | [] => 0
  | d :: r => uptoBulk d + uptoBulkAll r
def uptoBulkEntries {H : Type} : List (Lit × DataW H) → Nat
  | [] => 0
  | x :: r => uptoBulkEntry x + uptoBulkEntries r
def uptoBulkEntry {H : Type} : Lit × DataW H → Nat
  | (.string bytes, d) => bytes.length + uptoBulk d + 1
  | (_, d) => uptoBulk d + 1
 end
def uptoSmall : (H : Type) → List (DataW H) → Bool := fun _ ds => decide (uptoBulkAll ds ≤ 1048576)
def OpenSpec.upto (s : _root_.Go.ChangeSpec) : _root_.Go.OpenSpec := { _root_.Go.OpenSpec.ofChange s with cond := some uptoSmall }

/-- 'agraffelaw06.TemperNotes', WHERE WHAT IT READS IS OF BULK AT MOST 1048576: true; the input reads as it did. -/
def temperNotesUptoRow : OpenClaim := { program := "ytinbdefjjfmfoaadoor", sum := "b8c37deed5ec2f53a23eaae5d1b52791e60ff89ca71d5bd9067a360255bbe011", func := "agraffe/agraffelaw06.TemperNotes", spec := "temperNotes", inPlace := ["math/bits.Add64"], unfollowed := true, recurses := true, named := ["agraffe/number.primes"], apart := false, laid := [("agraffe/number.primes", laid_agraffe_number_primes)], narrowed := true }
def TemperNotesUptoSaid : Prop := temperNotesUptoRow.holds Tryd.pinned (OpenSpec.upto temperNotesSpec)

/-- 'agraffelaw06.TemperBeats', WHERE WHAT IT READS IS OF BULK AT MOST 1048576: true; the input reads as it did. -/
def temperBeatsUptoRow : OpenClaim := { program := "ytinbdefjjfmfoaadoor", sum := "b8c37deed5ec2f53a23eaae5d1b52791e60ff89ca71d5bd9067a360255bbe011", func := "agraffe/agraffelaw06.TemperBeats", spec := "temperBeats", inPlace := ["math/bits.Add64"], unfollowed := true, recurses := true, named := ["agraffe/number.primes"], apart := false, laid := [("agraffe/number.primes", laid_agraffe_number_primes)], narrowed := true }
def TemperBeatsUptoSaid : Prop := temperBeatsUptoRow.holds Tryd.pinned (OpenSpec.upto temperBeatsSpec)

/-- 'agraffelaw06.TemperFrequencies', WHERE WHAT IT READS IS OF BULK AT MOST 1048576: true; the input reads as it did. -/
def temperFrequenciesUptoRow : OpenClaim := { program := "ytinbdefjjfmfoaadoor", sum := "b8c37deed5ec2f53a23eaae5d1b52791e60ff89ca71d5bd9067a360255bbe011", func := "agraffe/agraffelaw06.TemperFrequencies", spec := "temperFrequencies", inPlace := ["math/bits.Add64"], unfollowed := true, recurses := true, named := ["agraffe/number.primes"], apart := false, laid := [("agraffe/number.primes", laid_agraffe_number_primes)], narrowed := true }
def TemperFrequenciesUptoSaid : Prop := temperFrequenciesUptoRow.holds Tryd.pinned (OpenSpec.upto temperFrequenciesSpec)

/-- 'agraffelaw06.TemperTests', WHERE WHAT IT READS IS OF BULK AT MOST 1048576: true; the input reads as it did. -/
def temperTestsUptoRow : OpenClaim := { program := "ytinbdefjjfmfoaadoor", sum := "b8c37deed5ec2f53a23eaae5d1b52791e60ff89ca71d5bd9067a360255bbe011", func := "agraffe/agraffelaw06.TemperTests", spec := "temperTests", inPlace := ["math/bits.Add64"], unfollowed := true, recurses := true, named := ["agraffe/number.primes"], apart := false, laid := [("agraffe/number.primes", laid_agraffe_number_primes)], narrowed := true }
def TemperTestsUptoSaid : Prop := temperTestsUptoRow.holds Tryd.pinned (OpenSpec.upto temperTestsSpec)

/-- 'agraffelaw06.TemperPitches', WHERE WHAT IT READS IS OF BULK AT MOST 1048576: true; the input reads as it did. -/
def temperPitchesUptoRow : OpenClaim := { program := "ytinbdefjjfmfoaadoor", sum := "b8c37deed5ec2f53a23eaae5d1b52791e60ff89ca71d5bd9067a360255bbe011", func := "agraffe/agraffelaw06.TemperPitches", spec := "temperPitches", inPlace := ["math/bits.Add64"], unfollowed := true, recurses := true, named := ["agraffe/number.primes"], apart := false, laid := [("agraffe/number.primes", laid_agraffe_number_primes)], narrowed := true }
def TemperPitchesUptoSaid : Prop := temperPitchesUptoRow.holds Tryd.pinned (OpenSpec.upto temperPitchesSpec)

/-- 'agraffelaw06.TemperRises', WHERE WHAT IT READS IS OF BULK AT MOST 1048576: true; the input reads as it did. -/
def temperRisesUptoRow : OpenClaim := { program := "ytinbdefjjfmfoaadoor", sum := "b8c37deed5ec2f53a23eaae5d1b52791e60ff89ca71d5bd9067a360255bbe011", func := "agraffe/agraffelaw06.TemperRises", spec := "temperRises", inPlace := ["math/bits.Add64"], unfollowed := true, recurses := true, named := ["agraffe/number.primes"], apart := false, laid := [("agraffe/number.primes", laid_agraffe_number_primes)], narrowed := true }
def TemperRisesUptoSaid : Prop := temperRisesUptoRow.holds Tryd.pinned (OpenSpec.upto temperRisesSpec)

/-- 'agraffelaw06.TemperOctaves', WHERE WHAT IT READS IS OF BULK AT MOST 1048576: true; the input reads as it did. -/
def temperOctavesUptoRow : OpenClaim := { program := "ytinbdefjjfmfoaadoor", sum := "b8c37deed5ec2f53a23eaae5d1b52791e60ff89ca71d5bd9067a360255bbe011", func := "agraffe/agraffelaw06.TemperOctaves", spec := "temperOctaves", inPlace := ["math/bits.Add64"], unfollowed := true, recurses := true, named := ["agraffe/number.primes"], apart := false, laid := [("agraffe/number.primes", laid_agraffe_number_primes)], narrowed := true }
def TemperOctavesUptoSaid : Prop := temperOctavesUptoRow.holds Tryd.pinned (OpenSpec.upto temperOctavesSpec)

/-- 'agraffelaw06.TemperPurity', WHERE WHAT IT READS IS OF BULK AT MOST 1048576: true; the input reads as it did. -/
def temperPurityUptoRow : OpenClaim := { program := "ytinbdefjjfmfoaadoor", sum := "b8c37deed5ec2f53a23eaae5d1b52791e60ff89ca71d5bd9067a360255bbe011", func := "agraffe/agraffelaw06.TemperPurity", spec := "temperPurity", inPlace := ["math/bits.Add64"], unfollowed := true, recurses := true, named := ["agraffe/number.primes"], apart := false, laid := [("agraffe/number.primes", laid_agraffe_number_primes)], narrowed := true }
def TemperPurityUptoSaid : Prop := temperPurityUptoRow.holds Tryd.pinned (OpenSpec.upto temperPuritySpec)

/-- 'agraffelaw06.TemperCircle', WHERE WHAT IT READS IS OF BULK AT MOST 1048576: true; the input reads as it did. -/
def temperCircleUptoRow : OpenClaim := { program := "ytinbdefjjfmfoaadoor", sum := "b8c37deed5ec2f53a23eaae5d1b52791e60ff89ca71d5bd9067a360255bbe011", func := "agraffe/agraffelaw06.TemperCircle", spec := "temperCircle", inPlace := ["math/bits.Add64"], unfollowed := true, recurses := true, named := ["agraffe/number.primes"], apart := false, laid := [("agraffe/number.primes", laid_agraffe_number_primes)], narrowed := true }
def TemperCircleUptoSaid : Prop := temperCircleUptoRow.holds Tryd.pinned (OpenSpec.upto temperCircleSpec)

/-- 'agraffelaw06.TemperNames', WHERE WHAT IT READS IS OF BULK AT MOST 1048576: true; the input reads as it did. -/
def temperNamesUptoRow : OpenClaim := { program := "ytinbdefjjfmfoaadoor", sum := "b8c37deed5ec2f53a23eaae5d1b52791e60ff89ca71d5bd9067a360255bbe011", func := "agraffe/agraffelaw06.TemperNames", spec := "temperNames", inPlace := ["math/bits.Add64"], unfollowed := true, recurses := true, named := ["agraffe/number.primes"], apart := false, laid := [("agraffe/number.primes", laid_agraffe_number_primes)], narrowed := true }
def TemperNamesUptoSaid : Prop := temperNamesUptoRow.holds Tryd.pinned (OpenSpec.upto temperNamesSpec)

/-- 'agraffelaw06.TemperAccepts', WHERE WHAT IT READS IS OF BULK AT MOST 1048576: true; the input reads as it did. -/
def temperAcceptsUptoRow : OpenClaim := { program := "ytinbdefjjfmfoaadoor", sum := "b8c37deed5ec2f53a23eaae5d1b52791e60ff89ca71d5bd9067a360255bbe011", func := "agraffe/agraffelaw06.TemperAccepts", spec := "temperAccepts", inPlace := ["math/bits.Add64"], unfollowed := true, recurses := true, named := ["agraffe/number.primes"], apart := false, laid := [("agraffe/number.primes", laid_agraffe_number_primes)], narrowed := true }
def TemperAcceptsUptoSaid : Prop := temperAcceptsUptoRow.holds Tryd.pinned (OpenSpec.upto temperAcceptsSpec)

/-- 'agraffelaw06.TemperOrders', WHERE WHAT IT READS IS OF BULK AT MOST 1048576: true; the input reads as it did. -/
def temperOrdersUptoRow : OpenClaim := { program := "ytinbdefjjfmfoaadoor", sum := "b8c37deed5ec2f53a23eaae5d1b52791e60ff89ca71d5bd9067a360255bbe011", func := "agraffe/agraffelaw06.TemperOrders", spec := "temperOrders", inPlace := ["math/bits.Add64"], unfollowed := true, recurses := true, named := ["agraffe/number.primes"], apart := false, laid := [("agraffe/number.primes", laid_agraffe_number_primes)], narrowed := true }
def TemperOrdersUptoSaid : Prop := temperOrdersUptoRow.holds Tryd.pinned (OpenSpec.upto temperOrdersSpec)

/-- 'agraffetop.TopBeatsEnclosed', WHERE WHAT IT READS IS OF BULK AT MOST 1048576: true; the input reads as it did. -/
def topBeatsEnclosedUptoRow : OpenClaim := { program := "ytinbdefjjfmfoaadoor", sum := "b8c37deed5ec2f53a23eaae5d1b52791e60ff89ca71d5bd9067a360255bbe011", func := "agraffe/agraffetop.TopBeatsEnclosed", spec := "topBeatsEnclosed", inPlace := ["math/bits.Add64"], unfollowed := true, recurses := true, named := ["agraffe/number.primes"], apart := false, laid := [("agraffe/number.primes", laid_agraffe_number_primes)], narrowed := true }
def TopBeatsEnclosedUptoSaid : Prop := topBeatsEnclosedUptoRow.holds Tryd.pinned (OpenSpec.upto topBeatsEnclosedSpec)

/-- 'agraffelaw06.TemperCompares', WHERE WHAT IT READS IS OF BULK AT MOST 1048576: true; the input reads as it did. -/
def temperComparesUptoRow : OpenClaim := { program := "ytinbdefjjfmfoaadoor", sum := "b8c37deed5ec2f53a23eaae5d1b52791e60ff89ca71d5bd9067a360255bbe011", func := "agraffe/agraffelaw06.TemperCompares", spec := "temperCompares", inPlace := ["math/bits.Add64"], unfollowed := true, recurses := true, named := ["agraffe/number.primes"], apart := false, laid := [("agraffe/number.primes", laid_agraffe_number_primes)], narrowed := true }
def TemperComparesUptoSaid : Prop := temperComparesUptoRow.holds Tryd.pinned (OpenSpec.upto temperComparesSpec)

/-- 'agraffelaw06.TemperDerives', WHERE WHAT IT READS IS OF BULK AT MOST 1048576: true; the input reads as it did. -/
def temperDerivesUptoRow : OpenClaim := { program := "ytinbdefjjfmfoaadoor", sum := "b8c37deed5ec2f53a23eaae5d1b52791e60ff89ca71d5bd9067a360255bbe011", func := "agraffe/agraffelaw06.TemperDerives", spec := "temperDerives", inPlace := ["math/bits.Add64"], unfollowed := true, recurses := true, named := ["agraffe/number.primes"], apart := false, laid := [("agraffe/number.primes", laid_agraffe_number_primes)], narrowed := true }
def TemperDerivesUptoSaid : Prop := temperDerivesUptoRow.holds Tryd.pinned (OpenSpec.upto temperDerivesSpec)

/-- 'agraffetop.TopDerivedOnce', WHERE WHAT IT READS IS OF BULK AT MOST 1048576: true; the input reads as it did. -/
def topDerivedOnceUptoRow : OpenClaim := { program := "ytinbdefjjfmfoaadoor", sum := "b8c37deed5ec2f53a23eaae5d1b52791e60ff89ca71d5bd9067a360255bbe011", func := "agraffe/agraffetop.TopDerivedOnce", spec := "topDerivedOnce", inPlace := ["math/bits.Add64"], unfollowed := true, recurses := true, named := ["agraffe/number.primes"], apart := false, laid := [("agraffe/number.primes", laid_agraffe_number_primes)], narrowed := true }
def TopDerivedOnceUptoSaid : Prop := topDerivedOnceUptoRow.holds Tryd.pinned (OpenSpec.upto topDerivedOnceSpec)

end Rows
end Go.Proofs.YtinbdefjjfmfoaaDoor
