/-
  NARROWER THAN 'FOR EVERY INPUT', by the rows' own cells (each row's printed sentence says how): NumberEncloses: laid · NumberBest: laid · NumberRanges: laid · NumberSystems: laid · NumberPowers: laid · NumberRounded: laid · NumberRoots: laid · NumberPitches: laid · NumberOrders: laid · NumberLines: laid · NumberLineChecks: laid · TopLinesTilt: laid · NumberFracs: laid · NumberOctaves: laid · NumberTexts: laid.
  DERIVED. THE GIVEN ROWS OF THIS SEAT. 15 by the template 'for every input the law returns true; each argument reads behind the call as it read before'; 0 by the template 'total and deterministic' (their statements: YtjalhpdmdiimoaaDoorTotals.lean).
  GIVEN WITH THE SEED: the statements are not yours to turn. If you find one false, say at which input.
  Laid BY PROGRAM, IN A SANDBOX (cutbox-rows.mjs): the forced cells as the released guide's own fill.sh prints them over the translation 72eebd21648516b0… (all of the seat's roots in one cut). By AI agents, Wed Nov 11 2026. No macro, syntax, notation, axiom, sorry.
-/
import Derived.Test.YtjalhpdmdiimoaaDoorChecked
import GoSem.Claim
import GoSem.ClaimJoined
import GoSem.ClaimMapViews
import Derived.JoinedTies
import Derived.KernelRfl
namespace Go.Proofs.YtjalhpdmdiimoaaDoor
/- THE CELL 'sum', in the pinned program and in every row, IS THE sha256 OF THE DUMP (.gsa) THAT YtjalhpdmdiimoaaDoorProg.lean LOADS. Nothing in Lean hashes anything: it is a label: what it is worth is what the hold of that sum in a sandbox is worth. -/
noncomputable def Tryd.pinned : Pinned := { name := "ytjalhpdmdiimoaadoor", sum := "72eebd21648516b060420bab7cd2b545b0cc9e611b4684b9a63dd3d390fbaa34", checked := Tryd.checked }
namespace Rows
def none {H : Type} : Left H := { results := [], args := [] }

/- WHAT THE LISTED PACKAGE-LEVEL VARIABLES READ AS WHEN THE CALL BEGINS. Each datum BY PROGRAM (the guide's laid-datum.mjs) off the statement by which the dump's own 'gosem.cut.vars' lays the variable. In a bare row this is a premise. The card (YtjalhpdmdiimoaaDoorCards.lean) ties it to the program's text. -/
def laid_agraffe_number_primes {H : Type} : DataW H := .agg [.lit (.int .u64 2), .lit (.int .u64 3), .lit (.int .u64 5)]
def laid_math_bits_deBruijn32tab {H : Type} : DataW H := .agg [.lit (.int .u8 0), .lit (.int .u8 1), .lit (.int .u8 28), .lit (.int .u8 2), .lit (.int .u8 29), .lit (.int .u8 14), .lit (.int .u8 24), .lit (.int .u8 3), .lit (.int .u8 30), .lit (.int .u8 22), .lit (.int .u8 20), .lit (.int .u8 15), .lit (.int .u8 25), .lit (.int .u8 17), .lit (.int .u8 4), .lit (.int .u8 8), .lit (.int .u8 31), .lit (.int .u8 27), .lit (.int .u8 13), .lit (.int .u8 23), .lit (.int .u8 21), .lit (.int .u8 19), .lit (.int .u8 16), .lit (.int .u8 7), .lit (.int .u8 26), .lit (.int .u8 12), .lit (.int .u8 18), .lit (.int .u8 6), .lit (.int .u8 11), .lit (.int .u8 5), .lit (.int .u8 10), .lit (.int .u8 9)]
def laid_math_bits_deBruijn64tab {H : Type} : DataW H := .agg [.lit (.int .u8 0), .lit (.int .u8 1), .lit (.int .u8 56), .lit (.int .u8 2), .lit (.int .u8 57), .lit (.int .u8 49), .lit (.int .u8 28), .lit (.int .u8 3), .lit (.int .u8 61), .lit (.int .u8 58), .lit (.int .u8 42), .lit (.int .u8 50), .lit (.int .u8 38), .lit (.int .u8 29), .lit (.int .u8 17), .lit (.int .u8 4), .lit (.int .u8 62), .lit (.int .u8 47), .lit (.int .u8 59), .lit (.int .u8 36), .lit (.int .u8 45), .lit (.int .u8 43), .lit (.int .u8 51), .lit (.int .u8 22), .lit (.int .u8 53), .lit (.int .u8 39), .lit (.int .u8 33), .lit (.int .u8 30), .lit (.int .u8 24), .lit (.int .u8 18), .lit (.int .u8 12), .lit (.int .u8 5), .lit (.int .u8 63), .lit (.int .u8 55), .lit (.int .u8 48), .lit (.int .u8 27), .lit (.int .u8 60), .lit (.int .u8 41), .lit (.int .u8 37), .lit (.int .u8 16), .lit (.int .u8 46), .lit (.int .u8 35), .lit (.int .u8 44), .lit (.int .u8 21), .lit (.int .u8 52), .lit (.int .u8 32), .lit (.int .u8 23), .lit (.int .u8 11), .lit (.int .u8 54), .lit (.int .u8 26), .lit (.int .u8 40), .lit (.int .u8 15), .lit (.int .u8 34), .lit (.int .u8 20), .lit (.int .u8 31), .lit (.int .u8 10), .lit (.int .u8 25), .lit (.int .u8 14), .lit (.int .u8 19), .lit (.int .u8 9), .lit (.int .u8 13), .lit (.int .u8 8), .lit (.int .u8 7), .lit (.int .u8 6)]
def laid_internal_strconv_uint64pow10 {H : Type} : DataW H := .agg [.lit (.int .u64 1), .lit (.int .u64 10), .lit (.int .u64 100), .lit (.int .u64 1000), .lit (.int .u64 10000), .lit (.int .u64 100000), .lit (.int .u64 1000000), .lit (.int .u64 10000000), .lit (.int .u64 100000000), .lit (.int .u64 1000000000), .lit (.int .u64 10000000000), .lit (.int .u64 100000000000), .lit (.int .u64 1000000000000), .lit (.int .u64 10000000000000), .lit (.int .u64 100000000000000), .lit (.int .u64 1000000000000000), .lit (.int .u64 10000000000000000), .lit (.int .u64 100000000000000000), .lit (.int .u64 1000000000000000000), .lit (.int .u64 10000000000000000000)]
def laid_strconv_ErrRange {H : Type} : DataW H := .iface "*errors.errorString" (.ptr (.agg [.lit (.string [118, 97, 108, 117, 101, 32, 111, 117, 116, 32, 111, 102, 32, 114, 97, 110, 103, 101])]))
def laid_strconv_ErrSyntax {H : Type} : DataW H := .iface "*errors.errorString" (.ptr (.agg [.lit (.string [105, 110, 118, 97, 108, 105, 100, 32, 115, 121, 110, 116, 97, 120])]))

/-- 'agraffelaw01.NumberEncloses': WHATEVER THE INPUT: true; the input reads as it did. -/
def numberEnclosesSpec : ChangeSpec := { name := "numberEncloses", fn := fun _ => fun
  | [d1, d2] => { results := [.lit (.bool true)], args := [d1, d2] }
  | _ => none }
def numberEnclosesRow : OpenClaim := { program := "ytjalhpdmdiimoaadoor", sum := "72eebd21648516b060420bab7cd2b545b0cc9e611b4684b9a63dd3d390fbaa34", func := "agraffe/agraffelaw01.NumberEncloses", spec := "numberEncloses", inPlace := ["math/bits.Add64"], unfollowed := true, recurses := true, named := ["agraffe/number.primes"], apart := false, laid := [("agraffe/number.primes", laid_agraffe_number_primes)] }
def NumberEnclosesSaid : Prop := numberEnclosesRow.holds Tryd.pinned (OpenSpec.ofChange numberEnclosesSpec)

/-- ITS FALSE NEIGHBOUR: 'it returns false'. Refute it at one input. -/
def numberEnclosesWrong : ChangeSpec := { name := "numberEncloses", fn := fun _ => fun
  | [d1, d2] => { results := [.lit (.bool false)], args := [d1, d2] }
  | _ => none }
def NumberEnclosesWrongFalsely : Prop := numberEnclosesRow.holds Tryd.pinned (OpenSpec.ofChange numberEnclosesWrong)

/-- 'agraffelaw01.NumberBest': WHATEVER THE INPUT: true; the input reads as it did. -/
def numberBestSpec : ChangeSpec := { name := "numberBest", fn := fun _ => fun
  | [d1, d2, d3] => { results := [.lit (.bool true)], args := [d1, d2, d3] }
  | _ => none }
def numberBestRow : OpenClaim := { program := "ytjalhpdmdiimoaadoor", sum := "72eebd21648516b060420bab7cd2b545b0cc9e611b4684b9a63dd3d390fbaa34", func := "agraffe/agraffelaw01.NumberBest", spec := "numberBest", inPlace := ["math/bits.Add64"], unfollowed := true, recurses := true, named := ["agraffe/number.primes"], apart := false, laid := [("agraffe/number.primes", laid_agraffe_number_primes)] }
def NumberBestSaid : Prop := numberBestRow.holds Tryd.pinned (OpenSpec.ofChange numberBestSpec)

/-- ITS FALSE NEIGHBOUR: 'it returns false'. Refute it at one input. -/
def numberBestWrong : ChangeSpec := { name := "numberBest", fn := fun _ => fun
  | [d1, d2, d3] => { results := [.lit (.bool false)], args := [d1, d2, d3] }
  | _ => none }
def NumberBestWrongFalsely : Prop := numberBestRow.holds Tryd.pinned (OpenSpec.ofChange numberBestWrong)

/-- 'agraffelaw01.NumberRanges': WHATEVER THE INPUT: true; the input reads as it did. -/
def numberRangesSpec : ChangeSpec := { name := "numberRanges", fn := fun _ => fun
  | [d1, d2] => { results := [.lit (.bool true)], args := [d1, d2] }
  | _ => none }
def numberRangesRow : OpenClaim := { program := "ytjalhpdmdiimoaadoor", sum := "72eebd21648516b060420bab7cd2b545b0cc9e611b4684b9a63dd3d390fbaa34", func := "agraffe/agraffelaw01.NumberRanges", spec := "numberRanges", inPlace := ["math/bits.Add64"], unfollowed := true, recurses := true, named := ["agraffe/number.primes"], apart := false, laid := [("agraffe/number.primes", laid_agraffe_number_primes)] }
def NumberRangesSaid : Prop := numberRangesRow.holds Tryd.pinned (OpenSpec.ofChange numberRangesSpec)

/-- ITS FALSE NEIGHBOUR: 'it returns false'. Refute it at one input. -/
def numberRangesWrong : ChangeSpec := { name := "numberRanges", fn := fun _ => fun
  | [d1, d2] => { results := [.lit (.bool false)], args := [d1, d2] }
  | _ => none }
def NumberRangesWrongFalsely : Prop := numberRangesRow.holds Tryd.pinned (OpenSpec.ofChange numberRangesWrong)

/-- 'agraffelaw01.NumberSystems': WHATEVER THE INPUT: true; the input reads as it did. -/
def numberSystemsSpec : ChangeSpec := { name := "numberSystems", fn := fun _ => fun
  | [d1, d2] => { results := [.lit (.bool true)], args := [d1, d2] }
  | _ => none }
def numberSystemsRow : OpenClaim := { program := "ytjalhpdmdiimoaadoor", sum := "72eebd21648516b060420bab7cd2b545b0cc9e611b4684b9a63dd3d390fbaa34", func := "agraffe/agraffelaw01.NumberSystems", spec := "numberSystems", inPlace := ["math/bits.Add64"], unfollowed := true, recurses := true, named := ["agraffe/number.primes"], apart := false, laid := [("agraffe/number.primes", laid_agraffe_number_primes)] }
def NumberSystemsSaid : Prop := numberSystemsRow.holds Tryd.pinned (OpenSpec.ofChange numberSystemsSpec)

/-- ITS FALSE NEIGHBOUR: 'it returns false'. Refute it at one input. -/
def numberSystemsWrong : ChangeSpec := { name := "numberSystems", fn := fun _ => fun
  | [d1, d2] => { results := [.lit (.bool false)], args := [d1, d2] }
  | _ => none }
def NumberSystemsWrongFalsely : Prop := numberSystemsRow.holds Tryd.pinned (OpenSpec.ofChange numberSystemsWrong)

/-- 'agraffelaw01.NumberPowers': WHATEVER THE INPUT: true; the input reads as it did. -/
def numberPowersSpec : ChangeSpec := { name := "numberPowers", fn := fun _ => fun
  | [d1, d2] => { results := [.lit (.bool true)], args := [d1, d2] }
  | _ => none }
def numberPowersRow : OpenClaim := { program := "ytjalhpdmdiimoaadoor", sum := "72eebd21648516b060420bab7cd2b545b0cc9e611b4684b9a63dd3d390fbaa34", func := "agraffe/agraffelaw01.NumberPowers", spec := "numberPowers", inPlace := ["math/bits.Add64"], unfollowed := true, recurses := true, named := ["agraffe/number.primes"], apart := false, laid := [("agraffe/number.primes", laid_agraffe_number_primes)] }
def NumberPowersSaid : Prop := numberPowersRow.holds Tryd.pinned (OpenSpec.ofChange numberPowersSpec)

/-- ITS FALSE NEIGHBOUR: 'it returns false'. Refute it at one input. -/
def numberPowersWrong : ChangeSpec := { name := "numberPowers", fn := fun _ => fun
  | [d1, d2] => { results := [.lit (.bool false)], args := [d1, d2] }
  | _ => none }
def NumberPowersWrongFalsely : Prop := numberPowersRow.holds Tryd.pinned (OpenSpec.ofChange numberPowersWrong)

/-- 'agraffelaw01.NumberRounded': WHATEVER THE INPUT: true; the input reads as it did. -/
def numberRoundedSpec : ChangeSpec := { name := "numberRounded", fn := fun _ => fun
  | [d1, d2] => { results := [.lit (.bool true)], args := [d1, d2] }
  | _ => none }
def numberRoundedRow : OpenClaim := { program := "ytjalhpdmdiimoaadoor", sum := "72eebd21648516b060420bab7cd2b545b0cc9e611b4684b9a63dd3d390fbaa34", func := "agraffe/agraffelaw01.NumberRounded", spec := "numberRounded", inPlace := ["math/bits.Add64"], unfollowed := true, recurses := true, named := ["agraffe/number.primes"], apart := false, laid := [("agraffe/number.primes", laid_agraffe_number_primes)] }
def NumberRoundedSaid : Prop := numberRoundedRow.holds Tryd.pinned (OpenSpec.ofChange numberRoundedSpec)

/-- ITS FALSE NEIGHBOUR: 'it returns false'. Refute it at one input. -/
def numberRoundedWrong : ChangeSpec := { name := "numberRounded", fn := fun _ => fun
  | [d1, d2] => { results := [.lit (.bool false)], args := [d1, d2] }
  | _ => none }
def NumberRoundedWrongFalsely : Prop := numberRoundedRow.holds Tryd.pinned (OpenSpec.ofChange numberRoundedWrong)

/-- 'agraffelaw01.NumberRoots': WHATEVER THE INPUT: true; the input reads as it did. -/
def numberRootsSpec : ChangeSpec := { name := "numberRoots", fn := fun _ => fun
  | [d1, d2] => { results := [.lit (.bool true)], args := [d1, d2] }
  | _ => none }
def numberRootsRow : OpenClaim := { program := "ytjalhpdmdiimoaadoor", sum := "72eebd21648516b060420bab7cd2b545b0cc9e611b4684b9a63dd3d390fbaa34", func := "agraffe/agraffelaw01.NumberRoots", spec := "numberRoots", inPlace := ["math/bits.Add64"], unfollowed := true, recurses := true, named := ["agraffe/number.primes"], apart := false, laid := [("agraffe/number.primes", laid_agraffe_number_primes)] }
def NumberRootsSaid : Prop := numberRootsRow.holds Tryd.pinned (OpenSpec.ofChange numberRootsSpec)

/-- ITS FALSE NEIGHBOUR: 'it returns false'. Refute it at one input. -/
def numberRootsWrong : ChangeSpec := { name := "numberRoots", fn := fun _ => fun
  | [d1, d2] => { results := [.lit (.bool false)], args := [d1, d2] }
  | _ => none }
def NumberRootsWrongFalsely : Prop := numberRootsRow.holds Tryd.pinned (OpenSpec.ofChange numberRootsWrong)

/-- 'agraffelaw01.NumberPitches': WHATEVER THE INPUT: true; the input reads as it did. -/
def numberPitchesSpec : ChangeSpec := { name := "numberPitches", fn := fun _ => fun
  | [d1, d2] => { results := [.lit (.bool true)], args := [d1, d2] }
  | _ => none }
def numberPitchesRow : OpenClaim := { program := "ytjalhpdmdiimoaadoor", sum := "72eebd21648516b060420bab7cd2b545b0cc9e611b4684b9a63dd3d390fbaa34", func := "agraffe/agraffelaw01.NumberPitches", spec := "numberPitches", inPlace := ["math/bits.Add64"], unfollowed := true, recurses := true, named := ["agraffe/number.primes"], apart := false, laid := [("agraffe/number.primes", laid_agraffe_number_primes)] }
def NumberPitchesSaid : Prop := numberPitchesRow.holds Tryd.pinned (OpenSpec.ofChange numberPitchesSpec)

/-- ITS FALSE NEIGHBOUR: 'it returns false'. Refute it at one input. -/
def numberPitchesWrong : ChangeSpec := { name := "numberPitches", fn := fun _ => fun
  | [d1, d2] => { results := [.lit (.bool false)], args := [d1, d2] }
  | _ => none }
def NumberPitchesWrongFalsely : Prop := numberPitchesRow.holds Tryd.pinned (OpenSpec.ofChange numberPitchesWrong)

/-- 'agraffelaw01.NumberOrders': WHATEVER THE INPUT: true; the input reads as it did. -/
def numberOrdersSpec : ChangeSpec := { name := "numberOrders", fn := fun _ => fun
  | [d1, d2, d3] => { results := [.lit (.bool true)], args := [d1, d2, d3] }
  | _ => none }
def numberOrdersRow : OpenClaim := { program := "ytjalhpdmdiimoaadoor", sum := "72eebd21648516b060420bab7cd2b545b0cc9e611b4684b9a63dd3d390fbaa34", func := "agraffe/agraffelaw01.NumberOrders", spec := "numberOrders", inPlace := ["math/bits.Add64"], unfollowed := true, recurses := true, named := ["agraffe/number.primes"], apart := false, laid := [("agraffe/number.primes", laid_agraffe_number_primes)] }
def NumberOrdersSaid : Prop := numberOrdersRow.holds Tryd.pinned (OpenSpec.ofChange numberOrdersSpec)

/-- ITS FALSE NEIGHBOUR: 'it returns false'. Refute it at one input. -/
def numberOrdersWrong : ChangeSpec := { name := "numberOrders", fn := fun _ => fun
  | [d1, d2, d3] => { results := [.lit (.bool false)], args := [d1, d2, d3] }
  | _ => none }
def NumberOrdersWrongFalsely : Prop := numberOrdersRow.holds Tryd.pinned (OpenSpec.ofChange numberOrdersWrong)

/-- 'agraffelaw01.NumberLines': WHATEVER THE INPUT: true; the input reads as it did. -/
def numberLinesSpec : ChangeSpec := { name := "numberLines", fn := fun _ => fun
  | [d] => { results := [.lit (.bool true)], args := [d] }
  | _ => none }
def numberLinesRow : OpenClaim := { program := "ytjalhpdmdiimoaadoor", sum := "72eebd21648516b060420bab7cd2b545b0cc9e611b4684b9a63dd3d390fbaa34", func := "agraffe/agraffelaw01.NumberLines", spec := "numberLines", inPlace := ["math/bits.Add64"], unfollowed := true, recurses := true, named := ["agraffe/number.primes"], apart := false, laid := [("agraffe/number.primes", laid_agraffe_number_primes)] }
def NumberLinesSaid : Prop := numberLinesRow.holds Tryd.pinned (OpenSpec.ofChange numberLinesSpec)

/-- ITS FALSE NEIGHBOUR: 'it returns false'. Refute it at one input. -/
def numberLinesWrong : ChangeSpec := { name := "numberLines", fn := fun _ => fun
  | [d] => { results := [.lit (.bool false)], args := [d] }
  | _ => none }
def NumberLinesWrongFalsely : Prop := numberLinesRow.holds Tryd.pinned (OpenSpec.ofChange numberLinesWrong)

/-- 'agraffelaw01.NumberLineChecks': WHATEVER THE INPUT: true; the input reads as it did. -/
def numberLineChecksSpec : ChangeSpec := { name := "numberLineChecks", fn := fun _ => fun
  | [d1, d2] => { results := [.lit (.bool true)], args := [d1, d2] }
  | _ => none }
def numberLineChecksRow : OpenClaim := { program := "ytjalhpdmdiimoaadoor", sum := "72eebd21648516b060420bab7cd2b545b0cc9e611b4684b9a63dd3d390fbaa34", func := "agraffe/agraffelaw01.NumberLineChecks", spec := "numberLineChecks", inPlace := ["math/bits.Add64"], unfollowed := true, recurses := true, named := ["agraffe/number.primes"], apart := false, laid := [("agraffe/number.primes", laid_agraffe_number_primes)] }
def NumberLineChecksSaid : Prop := numberLineChecksRow.holds Tryd.pinned (OpenSpec.ofChange numberLineChecksSpec)

/-- ITS FALSE NEIGHBOUR: 'it returns false'. Refute it at one input. -/
def numberLineChecksWrong : ChangeSpec := { name := "numberLineChecks", fn := fun _ => fun
  | [d1, d2] => { results := [.lit (.bool false)], args := [d1, d2] }
  | _ => none }
def NumberLineChecksWrongFalsely : Prop := numberLineChecksRow.holds Tryd.pinned (OpenSpec.ofChange numberLineChecksWrong)

/-- 'agraffetop.TopLinesTilt': WHATEVER THE INPUT: true; the input reads as it did. -/
def topLinesTiltSpec : ChangeSpec := { name := "topLinesTilt", fn := fun _ => fun
  | [d1, d2, d3] => { results := [.lit (.bool true)], args := [d1, d2, d3] }
  | _ => none }
def topLinesTiltRow : OpenClaim := { program := "ytjalhpdmdiimoaadoor", sum := "72eebd21648516b060420bab7cd2b545b0cc9e611b4684b9a63dd3d390fbaa34", func := "agraffe/agraffetop.TopLinesTilt", spec := "topLinesTilt", inPlace := ["math/bits.Add64"], unfollowed := true, recurses := true, named := ["agraffe/number.primes"], apart := false, laid := [("agraffe/number.primes", laid_agraffe_number_primes)] }
def TopLinesTiltSaid : Prop := topLinesTiltRow.holds Tryd.pinned (OpenSpec.ofChange topLinesTiltSpec)

/-- ITS FALSE NEIGHBOUR: 'it returns false'. Refute it at one input. -/
def topLinesTiltWrong : ChangeSpec := { name := "topLinesTilt", fn := fun _ => fun
  | [d1, d2, d3] => { results := [.lit (.bool false)], args := [d1, d2, d3] }
  | _ => none }
def TopLinesTiltWrongFalsely : Prop := topLinesTiltRow.holds Tryd.pinned (OpenSpec.ofChange topLinesTiltWrong)

/-- 'agraffelaw01.NumberFracs': WHATEVER THE INPUT: true; the input reads as it did. -/
def numberFracsSpec : ChangeSpec := { name := "numberFracs", fn := fun _ => fun
  | [d1, d2] => { results := [.lit (.bool true)], args := [d1, d2] }
  | _ => none }
def numberFracsRow : OpenClaim := { program := "ytjalhpdmdiimoaadoor", sum := "72eebd21648516b060420bab7cd2b545b0cc9e611b4684b9a63dd3d390fbaa34", func := "agraffe/agraffelaw01.NumberFracs", spec := "numberFracs", inPlace := ["math/bits.Add64"], unfollowed := true, recurses := true, named := ["agraffe/number.primes"], apart := false, laid := [("agraffe/number.primes", laid_agraffe_number_primes)] }
def NumberFracsSaid : Prop := numberFracsRow.holds Tryd.pinned (OpenSpec.ofChange numberFracsSpec)

/-- ITS FALSE NEIGHBOUR: 'it returns false'. Refute it at one input. -/
def numberFracsWrong : ChangeSpec := { name := "numberFracs", fn := fun _ => fun
  | [d1, d2] => { results := [.lit (.bool false)], args := [d1, d2] }
  | _ => none }
def NumberFracsWrongFalsely : Prop := numberFracsRow.holds Tryd.pinned (OpenSpec.ofChange numberFracsWrong)

/-- 'agraffelaw01.NumberOctaves': WHATEVER THE INPUT: true; the input reads as it did. -/
def numberOctavesSpec : ChangeSpec := { name := "numberOctaves", fn := fun _ => fun
  | [d] => { results := [.lit (.bool true)], args := [d] }
  | _ => none }
def numberOctavesRow : OpenClaim := { program := "ytjalhpdmdiimoaadoor", sum := "72eebd21648516b060420bab7cd2b545b0cc9e611b4684b9a63dd3d390fbaa34", func := "agraffe/agraffelaw01.NumberOctaves", spec := "numberOctaves", inPlace := ["math/bits.Add64"], unfollowed := true, recurses := true, named := ["agraffe/number.primes"], apart := false, laid := [("agraffe/number.primes", laid_agraffe_number_primes)] }
def NumberOctavesSaid : Prop := numberOctavesRow.holds Tryd.pinned (OpenSpec.ofChange numberOctavesSpec)

/-- ITS FALSE NEIGHBOUR: 'it returns false'. Refute it at one input. -/
def numberOctavesWrong : ChangeSpec := { name := "numberOctaves", fn := fun _ => fun
  | [d] => { results := [.lit (.bool false)], args := [d] }
  | _ => none }
def NumberOctavesWrongFalsely : Prop := numberOctavesRow.holds Tryd.pinned (OpenSpec.ofChange numberOctavesWrong)

/-- 'agraffelaw01.NumberTexts': WHATEVER THE INPUT: true; the input reads as it did. -/
def numberTextsSpec : ChangeSpec := { name := "numberTexts", fn := fun _ => fun
  | [d1, d2] => { results := [.lit (.bool true)], args := [d1, d2] }
  | _ => none }
def numberTextsRow : OpenClaim := { program := "ytjalhpdmdiimoaadoor", sum := "72eebd21648516b060420bab7cd2b545b0cc9e611b4684b9a63dd3d390fbaa34", func := "agraffe/agraffelaw01.NumberTexts", spec := "numberTexts", inPlace := ["math/bits.Add64", "internal/bytealg.IndexByteString", "internal/bytealg.IndexString"], unfollowed := true, recurses := true, named := ["agraffe/number.primes", "internal/bytealg.MaxLen", "strconv.ErrSyntax", "strconv.ErrRange", "internal/strconv.uint64pow10", "math/bits.deBruijn32tab", "math/bits.deBruijn64tab"], apart := false, laid := [("math/bits.deBruijn32tab", laid_math_bits_deBruijn32tab), ("math/bits.deBruijn64tab", laid_math_bits_deBruijn64tab), ("internal/strconv.uint64pow10", laid_internal_strconv_uint64pow10), ("strconv.ErrRange", laid_strconv_ErrRange), ("strconv.ErrSyntax", laid_strconv_ErrSyntax), ("agraffe/number.primes", laid_agraffe_number_primes)] }
def NumberTextsSaid : Prop := numberTextsRow.holds Tryd.pinned (OpenSpec.ofChange numberTextsSpec)

/-- ITS FALSE NEIGHBOUR: 'it returns false'. Refute it at one input. -/
def numberTextsWrong : ChangeSpec := { name := "numberTexts", fn := fun _ => fun
  | [d1, d2] => { results := [.lit (.bool false)], args := [d1, d2] }
  | _ => none }
def NumberTextsWrongFalsely : Prop := numberTextsRow.holds Tryd.pinned (OpenSpec.ofChange numberTextsWrong)

/- THE SECOND FORM. 'bulk': how many values and letters a reading holds, each counted each time it is reached (what is shared counts as often as it is met; a slice's spare places count too). A statement '..UptoSaid' is the law's where the arguments, and the package variables that the reading takes, are together of bulk at most 1048576: NARROWER than '..Said'. Prove '..Said' where nothing that the law and all that it calls make is longer than what came in: it says more and counts as full. Else prove '..UptoSaid'. A law counts once. -/
mutual
def uptoBulk {H : Type} : DataW H → Nat
  | .lit (.string bytes) => bytes.length + 1
  | .lit _ => 1
  | .nil => 1
  | .ptr d => uptoBulk d + 1
  | .slice elems spare => uptoBulkAll elems + uptoBulkAll spare + 1
  | .agg parts => uptoBulkAll parts + 1
  | .iface _ d => uptoBulk d + 1
  | .map entries => uptoBulkEntries entries + 1
  | .held _ => 1
def uptoBulkAll {H : Type} : List (DataW H) → Nat
  | [] => 0
  | d :: r => uptoBulk d + uptoBulkAll r
def uptoBulkEntries {H : Type} : List (Lit × DataW H) → Nat
  | [] => 0
  | x :: r => uptoBulkEntry x + uptoBulkEntries r
def uptoBulkEntry {H : Type} : Lit × DataW H → Nat
  | (.string bytes, d) => bytes.length + uptoBulk d + 1
  | (_, d) => uptoBulk d + 1
 end
def uptoSmall : (H : Type) → List (DataW H) → Bool := fun _ ds => decide (uptoBulkAll ds ≤ 1048576)
def OpenSpec.upto (s : _root_.Go.ChangeSpec) : _root_.Go.OpenSpec := { _root_.Go.OpenSpec.ofChange s with cond := some uptoSmall }

/-- 'agraffelaw01.NumberEncloses', WHERE WHAT IT READS IS OF BULK AT MOST 1048576: true; the input reads as it did. -/
def numberEnclosesUptoRow : OpenClaim := { program := "ytjalhpdmdiimoaadoor", sum := "72eebd21648516b060420bab7cd2b545b0cc9e611b4684b9a63dd3d390fbaa34", func := "agraffe/agraffelaw01.NumberEncloses", spec := "numberEncloses", inPlace := ["math/bits.Add64"], unfollowed := true, recurses := true, named := ["agraffe/number.primes"], apart := false, laid := [("agraffe/number.primes", laid_agraffe_number_primes)], narrowed := true }
def NumberEnclosesUptoSaid : Prop := numberEnclosesUptoRow.holds Tryd.pinned (OpenSpec.upto numberEnclosesSpec)

/-- 'agraffelaw01.NumberBest', WHERE WHAT IT READS IS OF BULK AT MOST 1048576: true; the input reads as it did. -/
def numberBestUptoRow : OpenClaim := { program := "ytjalhpdmdiimoaadoor", sum := "72eebd21648516b060420bab7cd2b545b0cc9e611b4684b9a63dd3d390fbaa34", func := "agraffe/agraffelaw01.NumberBest", spec := "numberBest", inPlace := ["math/bits.Add64"], unfollowed := true, recurses := true, named := ["agraffe/number.primes"], apart := false, laid := [("agraffe/number.primes", laid_agraffe_number_primes)], narrowed := true }
def NumberBestUptoSaid : Prop := numberBestUptoRow.holds Tryd.pinned (OpenSpec.upto numberBestSpec)

/-- 'agraffelaw01.NumberRanges', WHERE WHAT IT READS IS OF BULK AT MOST 1048576: true; the input reads as it did. -/
def numberRangesUptoRow : OpenClaim := { program := "ytjalhpdmdiimoaadoor", sum := "72eebd21648516b060420bab7cd2b545b0cc9e611b4684b9a63dd3d390fbaa34", func := "agraffe/agraffelaw01.NumberRanges", spec := "numberRanges", inPlace := ["math/bits.Add64"], unfollowed := true, recurses := true, named := ["agraffe/number.primes"], apart := false, laid := [("agraffe/number.primes", laid_agraffe_number_primes)], narrowed := true }
def NumberRangesUptoSaid : Prop := numberRangesUptoRow.holds Tryd.pinned (OpenSpec.upto numberRangesSpec)

/-- 'agraffelaw01.NumberSystems', WHERE WHAT IT READS IS OF BULK AT MOST 1048576: true; the input reads as it did. -/
def numberSystemsUptoRow : OpenClaim := { program := "ytjalhpdmdiimoaadoor", sum := "72eebd21648516b060420bab7cd2b545b0cc9e611b4684b9a63dd3d390fbaa34", func := "agraffe/agraffelaw01.NumberSystems", spec := "numberSystems", inPlace := ["math/bits.Add64"], unfollowed := true, recurses := true, named := ["agraffe/number.primes"], apart := false, laid := [("agraffe/number.primes", laid_agraffe_number_primes)], narrowed := true }
def NumberSystemsUptoSaid : Prop := numberSystemsUptoRow.holds Tryd.pinned (OpenSpec.upto numberSystemsSpec)

/-- 'agraffelaw01.NumberPowers', WHERE WHAT IT READS IS OF BULK AT MOST 1048576: true; the input reads as it did. -/
def numberPowersUptoRow : OpenClaim := { program := "ytjalhpdmdiimoaadoor", sum := "72eebd21648516b060420bab7cd2b545b0cc9e611b4684b9a63dd3d390fbaa34", func := "agraffe/agraffelaw01.NumberPowers", spec := "numberPowers", inPlace := ["math/bits.Add64"], unfollowed := true, recurses := true, named := ["agraffe/number.primes"], apart := false, laid := [("agraffe/number.primes", laid_agraffe_number_primes)], narrowed := true }
def NumberPowersUptoSaid : Prop := numberPowersUptoRow.holds Tryd.pinned (OpenSpec.upto numberPowersSpec)

/-- 'agraffelaw01.NumberRounded', WHERE WHAT IT READS IS OF BULK AT MOST 1048576: true; the input reads as it did. -/
def numberRoundedUptoRow : OpenClaim := { program := "ytjalhpdmdiimoaadoor", sum := "72eebd21648516b060420bab7cd2b545b0cc9e611b4684b9a63dd3d390fbaa34", func := "agraffe/agraffelaw01.NumberRounded", spec := "numberRounded", inPlace := ["math/bits.Add64"], unfollowed := true, recurses := true, named := ["agraffe/number.primes"], apart := false, laid := [("agraffe/number.primes", laid_agraffe_number_primes)], narrowed := true }
def NumberRoundedUptoSaid : Prop := numberRoundedUptoRow.holds Tryd.pinned (OpenSpec.upto numberRoundedSpec)

/-- 'agraffelaw01.NumberRoots', WHERE WHAT IT READS IS OF BULK AT MOST 1048576: true; the input reads as it did. -/
def numberRootsUptoRow : OpenClaim := { program := "ytjalhpdmdiimoaadoor", sum := "72eebd21648516b060420bab7cd2b545b0cc9e611b4684b9a63dd3d390fbaa34", func := "agraffe/agraffelaw01.NumberRoots", spec := "numberRoots", inPlace := ["math/bits.Add64"], unfollowed := true, recurses := true, named := ["agraffe/number.primes"], apart := false, laid := [("agraffe/number.primes", laid_agraffe_number_primes)], narrowed := true }
def NumberRootsUptoSaid : Prop := numberRootsUptoRow.holds Tryd.pinned (OpenSpec.upto numberRootsSpec)

/-- 'agraffelaw01.NumberPitches', WHERE WHAT IT READS IS OF BULK AT MOST 1048576: true; the input reads as it did. -/
def numberPitchesUptoRow : OpenClaim := { program := "ytjalhpdmdiimoaadoor", sum := "72eebd21648516b060420bab7cd2b545b0cc9e611b4684b9a63dd3d390fbaa34", func := "agraffe/agraffelaw01.NumberPitches", spec := "numberPitches", inPlace := ["math/bits.Add64"], unfollowed := true, recurses := true, named := ["agraffe/number.primes"], apart := false, laid := [("agraffe/number.primes", laid_agraffe_number_primes)], narrowed := true }
def NumberPitchesUptoSaid : Prop := numberPitchesUptoRow.holds Tryd.pinned (OpenSpec.upto numberPitchesSpec)

/-- 'agraffelaw01.NumberOrders', WHERE WHAT IT READS IS OF BULK AT MOST 1048576: true; the input reads as it did. -/
def numberOrdersUptoRow : OpenClaim := { program := "ytjalhpdmdiimoaadoor", sum := "72eebd21648516b060420bab7cd2b545b0cc9e611b4684b9a63dd3d390fbaa34", func := "agraffe/agraffelaw01.NumberOrders", spec := "numberOrders", inPlace := ["math/bits.Add64"], unfollowed := true, recurses := true, named := ["agraffe/number.primes"], apart := false, laid := [("agraffe/number.primes", laid_agraffe_number_primes)], narrowed := true }
def NumberOrdersUptoSaid : Prop := numberOrdersUptoRow.holds Tryd.pinned (OpenSpec.upto numberOrdersSpec)

/-- 'agraffelaw01.NumberLines', WHERE WHAT IT READS IS OF BULK AT MOST 1048576: true; the input reads as it did. -/
def numberLinesUptoRow : OpenClaim := { program := "ytjalhpdmdiimoaadoor", sum := "72eebd21648516b060420bab7cd2b545b0cc9e611b4684b9a63dd3d390fbaa34", func := "agraffe/agraffelaw01.NumberLines", spec := "numberLines", inPlace := ["math/bits.Add64"], unfollowed := true, recurses := true, named := ["agraffe/number.primes"], apart := false, laid := [("agraffe/number.primes", laid_agraffe_number_primes)], narrowed := true }
def NumberLinesUptoSaid : Prop := numberLinesUptoRow.holds Tryd.pinned (OpenSpec.upto numberLinesSpec)

/-- 'agraffelaw01.NumberLineChecks', WHERE WHAT IT READS IS OF BULK AT MOST 1048576: true; the input reads as it did. -/
def numberLineChecksUptoRow : OpenClaim := { program := "ytjalhpdmdiimoaadoor", sum := "72eebd21648516b060420bab7cd2b545b0cc9e611b4684b9a63dd3d390fbaa34", func := "agraffe/agraffelaw01.NumberLineChecks", spec := "numberLineChecks", inPlace := ["math/bits.Add64"], unfollowed := true, recurses := true, named := ["agraffe/number.primes"], apart := false, laid := [("agraffe/number.primes", laid_agraffe_number_primes)], narrowed := true }
def NumberLineChecksUptoSaid : Prop := numberLineChecksUptoRow.holds Tryd.pinned (OpenSpec.upto numberLineChecksSpec)

/-- 'agraffetop.TopLinesTilt', WHERE WHAT IT READS IS OF BULK AT MOST 1048576: true; the input reads as it did. -/
def topLinesTiltUptoRow : OpenClaim := { program := "ytjalhpdmdiimoaadoor", sum := "72eebd21648516b060420bab7cd2b545b0cc9e611b4684b9a63dd3d390fbaa34", func := "agraffe/agraffetop.TopLinesTilt", spec := "topLinesTilt", inPlace := ["math/bits.Add64"], unfollowed := true, recurses := true, named := ["agraffe/number.primes"], apart := false, laid := [("agraffe/number.primes", laid_agraffe_number_primes)], narrowed := true }
def TopLinesTiltUptoSaid : Prop := topLinesTiltUptoRow.holds Tryd.pinned (OpenSpec.upto topLinesTiltSpec)

/-- 'agraffelaw01.NumberFracs', WHERE WHAT IT READS IS OF BULK AT MOST 1048576: true; the input reads as it did. -/
def numberFracsUptoRow : OpenClaim := { program := "ytjalhpdmdiimoaadoor", sum := "72eebd21648516b060420bab7cd2b545b0cc9e611b4684b9a63dd3d390fbaa34", func := "agraffe/agraffelaw01.NumberFracs", spec := "numberFracs", inPlace := ["math/bits.Add64"], unfollowed := true, recurses := true, named := ["agraffe/number.primes"], apart := false, laid := [("agraffe/number.primes", laid_agraffe_number_primes)], narrowed := true }
def NumberFracsUptoSaid : Prop := numberFracsUptoRow.holds Tryd.pinned (OpenSpec.upto numberFracsSpec)

/-- 'agraffelaw01.NumberOctaves', WHERE WHAT IT READS IS OF BULK AT MOST 1048576: true; the input reads as it did. -/
def numberOctavesUptoRow : OpenClaim := { program := "ytjalhpdmdiimoaadoor", sum := "72eebd21648516b060420bab7cd2b545b0cc9e611b4684b9a63dd3d390fbaa34", func := "agraffe/agraffelaw01.NumberOctaves", spec := "numberOctaves", inPlace := ["math/bits.Add64"], unfollowed := true, recurses := true, named := ["agraffe/number.primes"], apart := false, laid := [("agraffe/number.primes", laid_agraffe_number_primes)], narrowed := true }
def NumberOctavesUptoSaid : Prop := numberOctavesUptoRow.holds Tryd.pinned (OpenSpec.upto numberOctavesSpec)

/-- 'agraffelaw01.NumberTexts', WHERE WHAT IT READS IS OF BULK AT MOST 1048576: true; the input reads as it did. -/
def numberTextsUptoRow : OpenClaim := { program := "ytjalhpdmdiimoaadoor", sum := "72eebd21648516b060420bab7cd2b545b0cc9e611b4684b9a63dd3d390fbaa34", func := "agraffe/agraffelaw01.NumberTexts", spec := "numberTexts", inPlace := ["math/bits.Add64", "internal/bytealg.IndexByteString", "internal/bytealg.IndexString"], unfollowed := true, recurses := true, named := ["agraffe/number.primes", "internal/bytealg.MaxLen", "strconv.ErrSyntax", "strconv.ErrRange", "internal/strconv.uint64pow10", "math/bits.deBruijn32tab", "math/bits.deBruijn64tab"], apart := false, laid := [("math/bits.deBruijn32tab", laid_math_bits_deBruijn32tab), ("math/bits.deBruijn64tab", laid_math_bits_deBruijn64tab), ("internal/strconv.uint64pow10", laid_internal_strconv_uint64pow10), ("strconv.ErrRange", laid_strconv_ErrRange), ("strconv.ErrSyntax", laid_strconv_ErrSyntax), ("agraffe/number.primes", laid_agraffe_number_primes)], narrowed := true }
def NumberTextsUptoSaid : Prop := numberTextsUptoRow.holds Tryd.pinned (OpenSpec.upto numberTextsSpec)

end Rows
end Go.Proofs.YtjalhpdmdiimoaaDoor
