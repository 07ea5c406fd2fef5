/- The functions, compiled for the abstract evaluator. Written by wip/abs/Print.lean. -/
import Derived.Test.YtodofkolnmoliaaDoorAbsX1
import Derived.Test.YtodofkolnmoliaaDoorAbsX2
import Derived.Test.YtodofkolnmoliaaDoorAbsX3
set_option linter.unusedSimpArgs false
set_option linter.unusedVariables false
set_option maxRecDepth 100000
set_option maxHeartbeats 0
namespace Go.Abs.X
open Go Go.Abs
/-- All functions. -/
def fns : Nat → Option EFun
  | 9 => some ef9
  | 12 => some ef12
  | 18 => some ef18
  | 46 => some ef46
  | 47 => some ef47
  | 48 => some ef48
  | 49 => some ef49
  | 50 => some ef50
  | 51 => some ef51
  | 52 => some ef52
  | 57 => some ef57
  | 58 => some ef58
  | 60 => some ef60
  | 61 => some ef61
  | 69 => some ef69
  | 70 => some ef70
  | 89 => some ef89
  | 92 => some ef92
  | 100 => some ef100
  | 101 => some ef101
  | 102 => some ef102
  | 103 => some ef103
  | 104 => some ef104
  | 105 => some ef105
  | 106 => some ef106
  | 107 => some ef107
  | 108 => some ef108
  | 109 => some ef109
  | 110 => some ef110
  | 112 => some ef112
  | 120 => some ef120
  | 121 => some ef121
  | 122 => some ef122
  | 123 => some ef123
  | 124 => some ef124
  | 125 => some ef125
  | 126 => some ef126
  | 127 => some ef127
  | 128 => some ef128
  | 129 => some ef129
  | 131 => some ef131
  | 132 => some ef132
  | 145 => some ef145
  | 146 => some ef146
  | 147 => some ef147
  | 148 => some ef148
  | 153 => some ef153
  | 154 => some ef154
  | 155 => some ef155
  | 156 => some ef156
  | 157 => some ef157
  | 158 => some ef158
  | 159 => some ef159
  | 164 => some ef164
  | 165 => some ef165
  | 166 => some ef166
  | 167 => some ef167
  | 176 => some ef176
  | 177 => some ef177
  | 179 => some ef179
  | _ => none
def E : EProg := ⟨fns, glob, 2 ^ 64⟩
theorem fn9 : E.fn 9 = some ef9 := rfl
theorem fn12 : E.fn 12 = some ef12 := rfl
theorem fn18 : E.fn 18 = some ef18 := rfl
theorem fn46 : E.fn 46 = some ef46 := rfl
theorem fn47 : E.fn 47 = some ef47 := rfl
theorem fn48 : E.fn 48 = some ef48 := rfl
theorem fn49 : E.fn 49 = some ef49 := rfl
theorem fn50 : E.fn 50 = some ef50 := rfl
theorem fn51 : E.fn 51 = some ef51 := rfl
theorem fn52 : E.fn 52 = some ef52 := rfl
theorem fn57 : E.fn 57 = some ef57 := rfl
theorem fn58 : E.fn 58 = some ef58 := rfl
theorem fn60 : E.fn 60 = some ef60 := rfl
theorem fn61 : E.fn 61 = some ef61 := rfl
theorem fn69 : E.fn 69 = some ef69 := rfl
theorem fn70 : E.fn 70 = some ef70 := rfl
theorem fn89 : E.fn 89 = some ef89 := rfl
theorem fn92 : E.fn 92 = some ef92 := rfl
theorem fn100 : E.fn 100 = some ef100 := rfl
theorem fn101 : E.fn 101 = some ef101 := rfl
theorem fn102 : E.fn 102 = some ef102 := rfl
theorem fn103 : E.fn 103 = some ef103 := rfl
theorem fn104 : E.fn 104 = some ef104 := rfl
theorem fn105 : E.fn 105 = some ef105 := rfl
theorem fn106 : E.fn 106 = some ef106 := rfl
theorem fn107 : E.fn 107 = some ef107 := rfl
theorem fn108 : E.fn 108 = some ef108 := rfl
theorem fn109 : E.fn 109 = some ef109 := rfl
theorem fn110 : E.fn 110 = some ef110 := rfl
theorem fn112 : E.fn 112 = some ef112 := rfl
theorem fn120 : E.fn 120 = some ef120 := rfl
theorem fn121 : E.fn 121 = some ef121 := rfl
theorem fn122 : E.fn 122 = some ef122 := rfl
theorem fn123 : E.fn 123 = some ef123 := rfl
theorem fn124 : E.fn 124 = some ef124 := rfl
theorem fn125 : E.fn 125 = some ef125 := rfl
theorem fn126 : E.fn 126 = some ef126 := rfl
theorem fn127 : E.fn 127 = some ef127 := rfl
theorem fn128 : E.fn 128 = some ef128 := rfl
theorem fn129 : E.fn 129 = some ef129 := rfl
theorem fn131 : E.fn 131 = some ef131 := rfl
theorem fn132 : E.fn 132 = some ef132 := rfl
theorem fn145 : E.fn 145 = some ef145 := rfl
theorem fn146 : E.fn 146 = some ef146 := rfl
theorem fn147 : E.fn 147 = some ef147 := rfl
theorem fn148 : E.fn 148 = some ef148 := rfl
theorem fn153 : E.fn 153 = some ef153 := rfl
theorem fn154 : E.fn 154 = some ef154 := rfl
theorem fn155 : E.fn 155 = some ef155 := rfl
theorem fn156 : E.fn 156 = some ef156 := rfl
theorem fn157 : E.fn 157 = some ef157 := rfl
theorem fn158 : E.fn 158 = some ef158 := rfl
theorem fn159 : E.fn 159 = some ef159 := rfl
theorem fn164 : E.fn 164 = some ef164 := rfl
theorem fn165 : E.fn 165 = some ef165 := rfl
theorem fn166 : E.fn 166 = some ef166 := rfl
theorem fn167 : E.fn 167 = some ef167 := rfl
theorem fn176 : E.fn 176 = some ef176 := rfl
theorem fn177 : E.fn 177 = some ef177 := rfl
theorem fn179 : E.fn 179 = some ef179 := rfl
end Go.Abs.X
