/- The functions, compiled for the abstract evaluator. Written by wip/abs/Print.lean. -/
import Derived.Test.YtodofkolnmoliaaDoorAbsX1
import Derived.Test.YtodofkolnmoliaaDoorAbsX2
import Derived.Test.YtodofkolnmoliaaDoorAbsX3
set_option linter.unusedSimpArgs false
set_option linter.unusedVariables false
set_option maxRecDepth 100000
set_option maxHeartbeats 0
namespace Go.Abs.X
open Go Go.Abs
/-- All functions. -/
def fns : Nat → Option EFun
  | 4 => some ef4
  | 5 => some ef5
  | 14 => some ef14
  | 15 => some ef15
  | 16 => some ef16
  | 17 => some ef17
  | 18 => some ef18
  | 19 => some ef19
  | 20 => some ef20
  | 21 => some ef21
  | 22 => some ef22
  | 23 => some ef23
  | 24 => some ef24
  | 25 => some ef25
  | 26 => some ef26
  | 27 => some ef27
  | 28 => some ef28
  | 29 => some ef29
  | 30 => some ef30
  | 31 => some ef31
  | 32 => some ef32
  | 33 => some ef33
  | 34 => some ef34
  | 55 => some ef55
  | 56 => some ef56
  | 57 => some ef57
  | 58 => some ef58
  | 60 => some ef60
  | 61 => some ef61
  | 62 => some ef62
  | 63 => some ef63
  | 64 => some ef64
  | 65 => some ef65
  | 66 => some ef66
  | 67 => some ef67
  | 68 => some ef68
  | 69 => some ef69
  | 70 => some ef70
  | 71 => some ef71
  | 72 => some ef72
  | 73 => some ef73
  | 74 => some ef74
  | 75 => some ef75
  | 76 => some ef76
  | 77 => some ef77
  | 78 => some ef78
  | 79 => some ef79
  | 80 => some ef80
  | 81 => some ef81
  | 89 => some ef89
  | 92 => some ef92
  | 94 => some ef94
  | 120 => some ef120
  | 121 => some ef121
  | 122 => some ef122
  | 123 => some ef123
  | 124 => some ef124
  | 125 => some ef125
  | 126 => some ef126
  | 127 => some ef127
  | 128 => some ef128
  | 129 => some ef129
  | 130 => some ef130
  | 131 => some ef131
  | 132 => some ef132
  | 133 => some ef133
  | 134 => some ef134
  | 135 => some ef135
  | 136 => some ef136
  | 137 => some ef137
  | 138 => some ef138
  | 139 => some ef139
  | 140 => some ef140
  | 141 => some ef141
  | 142 => some ef142
  | 143 => some ef143
  | 144 => some ef144
  | 145 => some ef145
  | 146 => some ef146
  | 147 => some ef147
  | 148 => some ef148
  | 149 => some ef149
  | 150 => some ef150
  | 151 => some ef151
  | 162 => some ef162
  | 163 => some ef163
  | 164 => some ef164
  | 165 => some ef165
  | 166 => some ef166
  | 167 => some ef167
  | 168 => some ef168
  | 169 => some ef169
  | 170 => some ef170
  | 171 => some ef171
  | 172 => some ef172
  | 173 => some ef173
  | 174 => some ef174
  | 175 => some ef175
  | 176 => some ef176
  | 177 => some ef177
  | 182 => some ef182
  | 183 => some ef183
  | _ => none
def E : EProg := ⟨fns, glob, 2 ^ 64⟩
theorem fn4 : E.fn 4 = some ef4 := rfl
theorem fn5 : E.fn 5 = some ef5 := rfl
theorem fn14 : E.fn 14 = some ef14 := rfl
theorem fn15 : E.fn 15 = some ef15 := rfl
theorem fn16 : E.fn 16 = some ef16 := rfl
theorem fn17 : E.fn 17 = some ef17 := rfl
theorem fn18 : E.fn 18 = some ef18 := rfl
theorem fn19 : E.fn 19 = some ef19 := rfl
theorem fn20 : E.fn 20 = some ef20 := rfl
theorem fn21 : E.fn 21 = some ef21 := rfl
theorem fn22 : E.fn 22 = some ef22 := rfl
theorem fn23 : E.fn 23 = some ef23 := rfl
theorem fn24 : E.fn 24 = some ef24 := rfl
theorem fn25 : E.fn 25 = some ef25 := rfl
theorem fn26 : E.fn 26 = some ef26 := rfl
theorem fn27 : E.fn 27 = some ef27 := rfl
theorem fn28 : E.fn 28 = some ef28 := rfl
theorem fn29 : E.fn 29 = some ef29 := rfl
theorem fn30 : E.fn 30 = some ef30 := rfl
theorem fn31 : E.fn 31 = some ef31 := rfl
theorem fn32 : E.fn 32 = some ef32 := rfl
theorem fn33 : E.fn 33 = some ef33 := rfl
theorem fn34 : E.fn 34 = some ef34 := rfl
theorem fn55 : E.fn 55 = some ef55 := rfl
theorem fn56 : E.fn 56 = some ef56 := rfl
theorem fn57 : E.fn 57 = some ef57 := rfl
theorem fn58 : E.fn 58 = some ef58 := rfl
theorem fn60 : E.fn 60 = some ef60 := rfl
theorem fn61 : E.fn 61 = some ef61 := rfl
theorem fn62 : E.fn 62 = some ef62 := rfl
theorem fn63 : E.fn 63 = some ef63 := rfl
theorem fn64 : E.fn 64 = some ef64 := rfl
theorem fn65 : E.fn 65 = some ef65 := rfl
theorem fn66 : E.fn 66 = some ef66 := rfl
theorem fn67 : E.fn 67 = some ef67 := rfl
theorem fn68 : E.fn 68 = some ef68 := rfl
theorem fn69 : E.fn 69 = some ef69 := rfl
theorem fn70 : E.fn 70 = some ef70 := rfl
theorem fn71 : E.fn 71 = some ef71 := rfl
theorem fn72 : E.fn 72 = some ef72 := rfl
theorem fn73 : E.fn 73 = some ef73 := rfl
theorem fn74 : E.fn 74 = some ef74 := rfl
theorem fn75 : E.fn 75 = some ef75 := rfl
theorem fn76 : E.fn 76 = some ef76 := rfl
theorem fn77 : E.fn 77 = some ef77 := rfl
theorem fn78 : E.fn 78 = some ef78 := rfl
theorem fn79 : E.fn 79 = some ef79 := rfl
theorem fn80 : E.fn 80 = some ef80 := rfl
theorem fn81 : E.fn 81 = some ef81 := rfl
theorem fn89 : E.fn 89 = some ef89 := rfl
theorem fn92 : E.fn 92 = some ef92 := rfl
theorem fn94 : E.fn 94 = some ef94 := rfl
theorem fn120 : E.fn 120 = some ef120 := rfl
theorem fn121 : E.fn 121 = some ef121 := rfl
theorem fn122 : E.fn 122 = some ef122 := rfl
theorem fn123 : E.fn 123 = some ef123 := rfl
theorem fn124 : E.fn 124 = some ef124 := rfl
theorem fn125 : E.fn 125 = some ef125 := rfl
theorem fn126 : E.fn 126 = some ef126 := rfl
theorem fn127 : E.fn 127 = some ef127 := rfl
theorem fn128 : E.fn 128 = some ef128 := rfl
theorem fn129 : E.fn 129 = some ef129 := rfl
theorem fn130 : E.fn 130 = some ef130 := rfl
theorem fn131 : E.fn 131 = some ef131 := rfl
theorem fn132 : E.fn 132 = some ef132 := rfl
theorem fn133 : E.fn 133 = some ef133 := rfl
theorem fn134 : E.fn 134 = some ef134 := rfl
theorem fn135 : E.fn 135 = some ef135 := rfl
theorem fn136 : E.fn 136 = some ef136 := rfl
theorem fn137 : E.fn 137 = some ef137 := rfl
theorem fn138 : E.fn 138 = some ef138 := rfl
theorem fn139 : E.fn 139 = some ef139 := rfl
theorem fn140 : E.fn 140 = some ef140 := rfl
theorem fn141 : E.fn 141 = some ef141 := rfl
theorem fn142 : E.fn 142 = some ef142 := rfl
theorem fn143 : E.fn 143 = some ef143 := rfl
theorem fn144 : E.fn 144 = some ef144 := rfl
theorem fn145 : E.fn 145 = some ef145 := rfl
theorem fn146 : E.fn 146 = some ef146 := rfl
theorem fn147 : E.fn 147 = some ef147 := rfl
theorem fn148 : E.fn 148 = some ef148 := rfl
theorem fn149 : E.fn 149 = some ef149 := rfl
theorem fn150 : E.fn 150 = some ef150 := rfl
theorem fn151 : E.fn 151 = some ef151 := rfl
theorem fn162 : E.fn 162 = some ef162 := rfl
theorem fn163 : E.fn 163 = some ef163 := rfl
theorem fn164 : E.fn 164 = some ef164 := rfl
theorem fn165 : E.fn 165 = some ef165 := rfl
theorem fn166 : E.fn 166 = some ef166 := rfl
theorem fn167 : E.fn 167 = some ef167 := rfl
theorem fn168 : E.fn 168 = some ef168 := rfl
theorem fn169 : E.fn 169 = some ef169 := rfl
theorem fn170 : E.fn 170 = some ef170 := rfl
theorem fn171 : E.fn 171 = some ef171 := rfl
theorem fn172 : E.fn 172 = some ef172 := rfl
theorem fn173 : E.fn 173 = some ef173 := rfl
theorem fn174 : E.fn 174 = some ef174 := rfl
theorem fn175 : E.fn 175 = some ef175 := rfl
theorem fn176 : E.fn 176 = some ef176 := rfl
theorem fn177 : E.fn 177 = some ef177 := rfl
theorem fn182 : E.fn 182 = some ef182 := rfl
theorem fn183 : E.fn 183 = some ef183 := rfl
end Go.Abs.X
