/- The functions, compiled for the abstract evaluator. Written by wip/abs/Print.lean. -/
import Derived.Test.YtfbelnhibipndaaGreatDoorAbsZ1
import Derived.Test.YtfbelnhibipndaaGreatDoorAbsZ2
import Derived.Test.YtfbelnhibipndaaGreatDoorAbsZ3
set_option linter.unusedSimpArgs false
set_option linter.unusedVariables false
set_option maxRecDepth 100000
set_option maxHeartbeats 0
namespace Go.Abs.Z
open Go Go.Abs
/-- All functions. -/
def fns : Nat → Option EFun
  | 4 => some ef4
  | 8 => some ef8
  | 9 => some ef9
  | 10 => some ef10
  | 11 => some ef11
  | 13 => some ef13
  | 15 => some ef15
  | 18 => some ef18
  | 19 => some ef19
  | 20 => some ef20
  | 21 => some ef21
  | 22 => some ef22
  | 23 => some ef23
  | 24 => some ef24
  | 36 => some ef36
  | 37 => some ef37
  | 40 => some ef40
  | 44 => some ef44
  | 45 => some ef45
  | 46 => some ef46
  | 47 => some ef47
  | 48 => some ef48
  | 49 => some ef49
  | 50 => some ef50
  | 51 => some ef51
  | 52 => some ef52
  | 53 => some ef53
  | 54 => some ef54
  | 56 => some ef56
  | 68 => some ef68
  | 69 => some ef69
  | 72 => some ef72
  | 73 => some ef73
  | 74 => some ef74
  | 75 => some ef75
  | 80 => some ef80
  | 81 => some ef81
  | 82 => some ef82
  | 83 => some ef83
  | 84 => some ef84
  | 85 => some ef85
  | 86 => some ef86
  | 87 => some ef87
  | 88 => some ef88
  | 89 => some ef89
  | 90 => some ef90
  | 91 => some ef91
  | 92 => some ef92
  | 93 => some ef93
  | 94 => some ef94
  | 97 => some ef97
  | 101 => some ef101
  | 108 => some ef108
  | 109 => some ef109
  | 110 => some ef110
  | 111 => some ef111
  | 112 => some ef112
  | 113 => some ef113
  | 114 => some ef114
  | 115 => some ef115
  | 116 => some ef116
  | 117 => some ef117
  | 118 => some ef118
  | 119 => some ef119
  | 120 => some ef120
  | 121 => some ef121
  | 123 => some ef123
  | 124 => some ef124
  | 125 => some ef125
  | 126 => some ef126
  | 127 => some ef127
  | 128 => some ef128
  | 129 => some ef129
  | 130 => some ef130
  | 131 => some ef131
  | 132 => some ef132
  | 133 => some ef133
  | 134 => some ef134
  | 135 => some ef135
  | 136 => some ef136
  | 137 => some ef137
  | 138 => some ef138
  | 139 => some ef139
  | 149 => some ef149
  | 150 => some ef150
  | 151 => some ef151
  | 152 => some ef152
  | 153 => some ef153
  | 154 => some ef154
  | 155 => some ef155
  | 156 => some ef156
  | 157 => some ef157
  | 158 => some ef158
  | 159 => some ef159
  | 160 => some ef160
  | 161 => some ef161
  | 162 => some ef162
  | 163 => some ef163
  | 164 => some ef164
  | 165 => some ef165
  | 166 => some ef166
  | 167 => some ef167
  | 168 => some ef168
  | 178 => some ef178
  | 179 => some ef179
  | 180 => some ef180
  | 181 => some ef181
  | 182 => some ef182
  | 183 => some ef183
  | 184 => some ef184
  | 185 => some ef185
  | 186 => some ef186
  | 187 => some ef187
  | 188 => some ef188
  | 189 => some ef189
  | 190 => some ef190
  | 191 => some ef191
  | 192 => some ef192
  | 193 => some ef193
  | 194 => some ef194
  | 195 => some ef195
  | 196 => some ef196
  | 197 => some ef197
  | 198 => some ef198
  | 199 => some ef199
  | 200 => some ef200
  | 201 => some ef201
  | 202 => some ef202
  | 218 => some ef218
  | 219 => some ef219
  | 220 => some ef220
  | 221 => some ef221
  | 222 => some ef222
  | 223 => some ef223
  | 224 => some ef224
  | 225 => some ef225
  | 226 => some ef226
  | 227 => some ef227
  | 228 => some ef228
  | 241 => some ef241
  | _ => none
def E : EProg := ⟨fns, glob, 2 ^ 64⟩
theorem fn4 : E.fn 4 = some ef4 := rfl
theorem fn8 : E.fn 8 = some ef8 := rfl
theorem fn9 : E.fn 9 = some ef9 := rfl
theorem fn10 : E.fn 10 = some ef10 := rfl
theorem fn11 : E.fn 11 = some ef11 := rfl
theorem fn13 : E.fn 13 = some ef13 := rfl
theorem fn15 : E.fn 15 = some ef15 := rfl
theorem fn18 : E.fn 18 = some ef18 := rfl
theorem fn19 : E.fn 19 = some ef19 := rfl
theorem fn20 : E.fn 20 = some ef20 := rfl
theorem fn21 : E.fn 21 = some ef21 := rfl
theorem fn22 : E.fn 22 = some ef22 := rfl
theorem fn23 : E.fn 23 = some ef23 := rfl
theorem fn24 : E.fn 24 = some ef24 := rfl
theorem fn36 : E.fn 36 = some ef36 := rfl
theorem fn37 : E.fn 37 = some ef37 := rfl
theorem fn40 : E.fn 40 = some ef40 := rfl
theorem fn44 : E.fn 44 = some ef44 := rfl
theorem fn45 : E.fn 45 = some ef45 := rfl
theorem fn46 : E.fn 46 = some ef46 := rfl
theorem fn47 : E.fn 47 = some ef47 := rfl
theorem fn48 : E.fn 48 = some ef48 := rfl
theorem fn49 : E.fn 49 = some ef49 := rfl
theorem fn50 : E.fn 50 = some ef50 := rfl
theorem fn51 : E.fn 51 = some ef51 := rfl
theorem fn52 : E.fn 52 = some ef52 := rfl
theorem fn53 : E.fn 53 = some ef53 := rfl
theorem fn54 : E.fn 54 = some ef54 := rfl
theorem fn56 : E.fn 56 = some ef56 := rfl
theorem fn68 : E.fn 68 = some ef68 := rfl
theorem fn69 : E.fn 69 = some ef69 := rfl
theorem fn72 : E.fn 72 = some ef72 := rfl
theorem fn73 : E.fn 73 = some ef73 := rfl
theorem fn74 : E.fn 74 = some ef74 := rfl
theorem fn75 : E.fn 75 = some ef75 := rfl
theorem fn80 : E.fn 80 = some ef80 := rfl
theorem fn81 : E.fn 81 = some ef81 := rfl
theorem fn82 : E.fn 82 = some ef82 := rfl
theorem fn83 : E.fn 83 = some ef83 := rfl
theorem fn84 : E.fn 84 = some ef84 := rfl
theorem fn85 : E.fn 85 = some ef85 := rfl
theorem fn86 : E.fn 86 = some ef86 := rfl
theorem fn87 : E.fn 87 = some ef87 := rfl
theorem fn88 : E.fn 88 = some ef88 := rfl
theorem fn89 : E.fn 89 = some ef89 := rfl
theorem fn90 : E.fn 90 = some ef90 := rfl
theorem fn91 : E.fn 91 = some ef91 := rfl
theorem fn92 : E.fn 92 = some ef92 := rfl
theorem fn93 : E.fn 93 = some ef93 := rfl
theorem fn94 : E.fn 94 = some ef94 := rfl
theorem fn97 : E.fn 97 = some ef97 := rfl
theorem fn101 : E.fn 101 = some ef101 := rfl
theorem fn108 : E.fn 108 = some ef108 := rfl
theorem fn109 : E.fn 109 = some ef109 := rfl
theorem fn110 : E.fn 110 = some ef110 := rfl
theorem fn111 : E.fn 111 = some ef111 := rfl
theorem fn112 : E.fn 112 = some ef112 := rfl
theorem fn113 : E.fn 113 = some ef113 := rfl
theorem fn114 : E.fn 114 = some ef114 := rfl
theorem fn115 : E.fn 115 = some ef115 := rfl
theorem fn116 : E.fn 116 = some ef116 := rfl
theorem fn117 : E.fn 117 = some ef117 := rfl
theorem fn118 : E.fn 118 = some ef118 := rfl
theorem fn119 : E.fn 119 = some ef119 := rfl
theorem fn120 : E.fn 120 = some ef120 := rfl
theorem fn121 : E.fn 121 = some ef121 := rfl
theorem fn123 : E.fn 123 = some ef123 := rfl
theorem fn124 : E.fn 124 = some ef124 := rfl
theorem fn125 : E.fn 125 = some ef125 := rfl
theorem fn126 : E.fn 126 = some ef126 := rfl
theorem fn127 : E.fn 127 = some ef127 := rfl
theorem fn128 : E.fn 128 = some ef128 := rfl
theorem fn129 : E.fn 129 = some ef129 := rfl
theorem fn130 : E.fn 130 = some ef130 := rfl
theorem fn131 : E.fn 131 = some ef131 := rfl
theorem fn132 : E.fn 132 = some ef132 := rfl
theorem fn133 : E.fn 133 = some ef133 := rfl
theorem fn134 : E.fn 134 = some ef134 := rfl
theorem fn135 : E.fn 135 = some ef135 := rfl
theorem fn136 : E.fn 136 = some ef136 := rfl
theorem fn137 : E.fn 137 = some ef137 := rfl
theorem fn138 : E.fn 138 = some ef138 := rfl
theorem fn139 : E.fn 139 = some ef139 := rfl
theorem fn149 : E.fn 149 = some ef149 := rfl
theorem fn150 : E.fn 150 = some ef150 := rfl
theorem fn151 : E.fn 151 = some ef151 := rfl
theorem fn152 : E.fn 152 = some ef152 := rfl
theorem fn153 : E.fn 153 = some ef153 := rfl
theorem fn154 : E.fn 154 = some ef154 := rfl
theorem fn155 : E.fn 155 = some ef155 := rfl
theorem fn156 : E.fn 156 = some ef156 := rfl
theorem fn157 : E.fn 157 = some ef157 := rfl
theorem fn158 : E.fn 158 = some ef158 := rfl
theorem fn159 : E.fn 159 = some ef159 := rfl
theorem fn160 : E.fn 160 = some ef160 := rfl
theorem fn161 : E.fn 161 = some ef161 := rfl
theorem fn162 : E.fn 162 = some ef162 := rfl
theorem fn163 : E.fn 163 = some ef163 := rfl
theorem fn164 : E.fn 164 = some ef164 := rfl
theorem fn165 : E.fn 165 = some ef165 := rfl
theorem fn166 : E.fn 166 = some ef166 := rfl
theorem fn167 : E.fn 167 = some ef167 := rfl
theorem fn168 : E.fn 168 = some ef168 := rfl
theorem fn178 : E.fn 178 = some ef178 := rfl
theorem fn179 : E.fn 179 = some ef179 := rfl
theorem fn180 : E.fn 180 = some ef180 := rfl
theorem fn181 : E.fn 181 = some ef181 := rfl
theorem fn182 : E.fn 182 = some ef182 := rfl
theorem fn183 : E.fn 183 = some ef183 := rfl
theorem fn184 : E.fn 184 = some ef184 := rfl
theorem fn185 : E.fn 185 = some ef185 := rfl
theorem fn186 : E.fn 186 = some ef186 := rfl
theorem fn187 : E.fn 187 = some ef187 := rfl
theorem fn188 : E.fn 188 = some ef188 := rfl
theorem fn189 : E.fn 189 = some ef189 := rfl
theorem fn190 : E.fn 190 = some ef190 := rfl
theorem fn191 : E.fn 191 = some ef191 := rfl
theorem fn192 : E.fn 192 = some ef192 := rfl
theorem fn193 : E.fn 193 = some ef193 := rfl
theorem fn194 : E.fn 194 = some ef194 := rfl
theorem fn195 : E.fn 195 = some ef195 := rfl
theorem fn196 : E.fn 196 = some ef196 := rfl
theorem fn197 : E.fn 197 = some ef197 := rfl
theorem fn198 : E.fn 198 = some ef198 := rfl
theorem fn199 : E.fn 199 = some ef199 := rfl
theorem fn200 : E.fn 200 = some ef200 := rfl
theorem fn201 : E.fn 201 = some ef201 := rfl
theorem fn202 : E.fn 202 = some ef202 := rfl
theorem fn218 : E.fn 218 = some ef218 := rfl
theorem fn219 : E.fn 219 = some ef219 := rfl
theorem fn220 : E.fn 220 = some ef220 := rfl
theorem fn221 : E.fn 221 = some ef221 := rfl
theorem fn222 : E.fn 222 = some ef222 := rfl
theorem fn223 : E.fn 223 = some ef223 := rfl
theorem fn224 : E.fn 224 = some ef224 := rfl
theorem fn225 : E.fn 225 = some ef225 := rfl
theorem fn226 : E.fn 226 = some ef226 := rfl
theorem fn227 : E.fn 227 = some ef227 := rfl
theorem fn228 : E.fn 228 = some ef228 := rfl
theorem fn241 : E.fn 241 = some ef241 := rfl
end Go.Abs.Z
