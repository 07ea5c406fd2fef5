/- The functions, compiled for the abstract evaluator. Written by wip/abs/Print.lean. -/
import Derived.Test.YtodofkolnmoliaaDoorAbsX1
import Derived.Test.YtodofkolnmoliaaDoorAbsX2
import Derived.Test.YtodofkolnmoliaaDoorAbsX3
set_option linter.unusedSimpArgs false
set_option linter.unusedVariables false
set_option maxRecDepth 100000
set_option maxHeartbeats 0
namespace Go.Abs.X
open Go Go.Abs
/-- All functions. -/
def fns : Nat → Option EFun
  | 3 => some ef3
  | 12 => some ef12
  | 13 => some ef13
  | 14 => some ef14
  | 15 => some ef15
  | 16 => some ef16
  | 17 => some ef17
  | 18 => some ef18
  | 57 => some ef57
  | 58 => some ef58
  | 60 => some ef60
  | 61 => some ef61
  | 62 => some ef62
  | 63 => some ef63
  | 64 => some ef64
  | 69 => some ef69
  | 70 => some ef70
  | 89 => some ef89
  | 92 => some ef92
  | 120 => some ef120
  | 121 => some ef121
  | 122 => some ef122
  | 123 => some ef123
  | 124 => some ef124
  | 125 => some ef125
  | 126 => some ef126
  | 127 => some ef127
  | 128 => some ef128
  | 129 => some ef129
  | 131 => some ef131
  | 132 => some ef132
  | 145 => some ef145
  | 146 => some ef146
  | 147 => some ef147
  | 148 => some ef148
  | 164 => some ef164
  | 165 => some ef165
  | 166 => some ef166
  | 167 => some ef167
  | 176 => some ef176
  | 177 => some ef177
  | _ => none
def E : EProg := ⟨fns, glob, 2 ^ 64⟩
theorem fn3 : E.fn 3 = some ef3 := rfl
theorem fn12 : E.fn 12 = some ef12 := rfl
theorem fn13 : E.fn 13 = some ef13 := rfl
theorem fn14 : E.fn 14 = some ef14 := rfl
theorem fn15 : E.fn 15 = some ef15 := rfl
theorem fn16 : E.fn 16 = some ef16 := rfl
theorem fn17 : E.fn 17 = some ef17 := rfl
theorem fn18 : E.fn 18 = some ef18 := rfl
theorem fn57 : E.fn 57 = some ef57 := rfl
theorem fn58 : E.fn 58 = some ef58 := rfl
theorem fn60 : E.fn 60 = some ef60 := rfl
theorem fn61 : E.fn 61 = some ef61 := rfl
theorem fn62 : E.fn 62 = some ef62 := rfl
theorem fn63 : E.fn 63 = some ef63 := rfl
theorem fn64 : E.fn 64 = some ef64 := rfl
theorem fn69 : E.fn 69 = some ef69 := rfl
theorem fn70 : E.fn 70 = some ef70 := rfl
theorem fn89 : E.fn 89 = some ef89 := rfl
theorem fn92 : E.fn 92 = some ef92 := rfl
theorem fn120 : E.fn 120 = some ef120 := rfl
theorem fn121 : E.fn 121 = some ef121 := rfl
theorem fn122 : E.fn 122 = some ef122 := rfl
theorem fn123 : E.fn 123 = some ef123 := rfl
theorem fn124 : E.fn 124 = some ef124 := rfl
theorem fn125 : E.fn 125 = some ef125 := rfl
theorem fn126 : E.fn 126 = some ef126 := rfl
theorem fn127 : E.fn 127 = some ef127 := rfl
theorem fn128 : E.fn 128 = some ef128 := rfl
theorem fn129 : E.fn 129 = some ef129 := rfl
theorem fn131 : E.fn 131 = some ef131 := rfl
theorem fn132 : E.fn 132 = some ef132 := rfl
theorem fn145 : E.fn 145 = some ef145 := rfl
theorem fn146 : E.fn 146 = some ef146 := rfl
theorem fn147 : E.fn 147 = some ef147 := rfl
theorem fn148 : E.fn 148 = some ef148 := rfl
theorem fn164 : E.fn 164 = some ef164 := rfl
theorem fn165 : E.fn 165 = some ef165 := rfl
theorem fn166 : E.fn 166 = some ef166 := rfl
theorem fn167 : E.fn 167 = some ef167 := rfl
theorem fn176 : E.fn 176 = some ef176 := rfl
theorem fn177 : E.fn 177 = some ef177 := rfl
end Go.Abs.X
