/- The functions, compiled for the abstract evaluator. Written by wip/abs/Print.lean. -/
import Derived.Test.YtjalhpdmdiimoaaDoorAbsN1
import Derived.Test.YtjalhpdmdiimoaaDoorAbsN2
set_option linter.unusedSimpArgs false
set_option linter.unusedVariables false
set_option maxRecDepth 100000
set_option maxHeartbeats 0
namespace Go.Abs.N
open Go Go.Abs
/-- All functions. -/
def fns : Nat → Option EFun
  | 6 => some ef6
  | 18 => some ef18
  | 20 => some ef20
  | 22 => some ef22
  | 25 => some ef25
  | 29 => some ef29
  | 34 => some ef34
  | 35 => some ef35
  | 36 => some ef36
  | 37 => some ef37
  | 38 => some ef38
  | 39 => some ef39
  | 40 => some ef40
  | 41 => some ef41
  | 51 => some ef51
  | 76 => some ef76
  | 77 => some ef77
  | 78 => some ef78
  | 79 => some ef79
  | 80 => some ef80
  | 81 => some ef81
  | 82 => some ef82
  | 83 => some ef83
  | 84 => some ef84
  | 91 => some ef91
  | 92 => some ef92
  | 93 => some ef93
  | 94 => some ef94
  | 95 => some ef95
  | 97 => some ef97
  | 98 => some ef98
  | 99 => some ef99
  | 120 => some ef120
  | 128 => some ef128
  | 129 => some ef129
  | _ => none
def E : EProg := ⟨fns, glob, 2 ^ 64⟩
theorem fn6 : E.fn 6 = some ef6 := rfl
theorem fn18 : E.fn 18 = some ef18 := rfl
theorem fn20 : E.fn 20 = some ef20 := rfl
theorem fn22 : E.fn 22 = some ef22 := rfl
theorem fn25 : E.fn 25 = some ef25 := rfl
theorem fn29 : E.fn 29 = some ef29 := rfl
theorem fn34 : E.fn 34 = some ef34 := rfl
theorem fn35 : E.fn 35 = some ef35 := rfl
theorem fn36 : E.fn 36 = some ef36 := rfl
theorem fn37 : E.fn 37 = some ef37 := rfl
theorem fn38 : E.fn 38 = some ef38 := rfl
theorem fn39 : E.fn 39 = some ef39 := rfl
theorem fn40 : E.fn 40 = some ef40 := rfl
theorem fn41 : E.fn 41 = some ef41 := rfl
theorem fn51 : E.fn 51 = some ef51 := rfl
theorem fn76 : E.fn 76 = some ef76 := rfl
theorem fn77 : E.fn 77 = some ef77 := rfl
theorem fn78 : E.fn 78 = some ef78 := rfl
theorem fn79 : E.fn 79 = some ef79 := rfl
theorem fn80 : E.fn 80 = some ef80 := rfl
theorem fn81 : E.fn 81 = some ef81 := rfl
theorem fn82 : E.fn 82 = some ef82 := rfl
theorem fn83 : E.fn 83 = some ef83 := rfl
theorem fn84 : E.fn 84 = some ef84 := rfl
theorem fn91 : E.fn 91 = some ef91 := rfl
theorem fn92 : E.fn 92 = some ef92 := rfl
theorem fn93 : E.fn 93 = some ef93 := rfl
theorem fn94 : E.fn 94 = some ef94 := rfl
theorem fn95 : E.fn 95 = some ef95 := rfl
theorem fn97 : E.fn 97 = some ef97 := rfl
theorem fn98 : E.fn 98 = some ef98 := rfl
theorem fn99 : E.fn 99 = some ef99 := rfl
theorem fn120 : E.fn 120 = some ef120 := rfl
theorem fn128 : E.fn 128 = some ef128 := rfl
theorem fn129 : E.fn 129 = some ef129 := rfl
end Go.Abs.N
