/- The functions, compiled for the abstract evaluator. Written by wip/abs/Print.lean. -/
import Derived.Test.YtllhkifkiabkbaaGreatDoorAbsH1
import Derived.Test.YtllhkifkiabkbaaGreatDoorAbsH2
set_option linter.unusedSimpArgs false
set_option linter.unusedVariables false
set_option maxRecDepth 100000
set_option maxHeartbeats 0
namespace Go.Abs.H
open Go Go.Abs
/-- All functions. -/
def fns : Nat → Option EFun
  | 4 => some ef4
  | 14 => some ef14
  | 15 => some ef15
  | 16 => some ef16
  | 17 => some ef17
  | 18 => some ef18
  | 19 => some ef19
  | 20 => some ef20
  | 21 => some ef21
  | 22 => some ef22
  | 23 => some ef23
  | 24 => some ef24
  | 26 => some ef26
  | 27 => some ef27
  | 28 => some ef28
  | 34 => some ef34
  | 41 => some ef41
  | 44 => some ef44
  | 45 => some ef45
  | 47 => some ef47
  | 49 => some ef49
  | 51 => some ef51
  | 52 => some ef52
  | 53 => some ef53
  | 54 => some ef54
  | 55 => some ef55
  | 56 => some ef56
  | 57 => some ef57
  | 58 => some ef58
  | 59 => some ef59
  | 60 => some ef60
  | 61 => some ef61
  | 62 => some ef62
  | 71 => some ef71
  | 72 => some ef72
  | 80 => some ef80
  | 81 => some ef81
  | 82 => some ef82
  | 84 => some ef84
  | 86 => some ef86
  | 87 => some ef87
  | 88 => some ef88
  | 89 => some ef89
  | 90 => some ef90
  | 91 => some ef91
  | 92 => some ef92
  | 93 => some ef93
  | 94 => some ef94
  | 95 => some ef95
  | 96 => some ef96
  | 97 => some ef97
  | 98 => some ef98
  | 115 => some ef115
  | 123 => some ef123
  | 124 => some ef124
  | 125 => some ef125
  | 126 => some ef126
  | 127 => some ef127
  | 128 => some ef128
  | 129 => some ef129
  | 130 => some ef130
  | 131 => some ef131
  | 132 => some ef132
  | 133 => some ef133
  | 134 => some ef134
  | 135 => some ef135
  | 136 => some ef136
  | 137 => some ef137
  | 138 => some ef138
  | 139 => some ef139
  | 140 => some ef140
  | 141 => some ef141
  | 142 => some ef142
  | 143 => some ef143
  | 144 => some ef144
  | 145 => some ef145
  | 146 => some ef146
  | 147 => some ef147
  | 148 => some ef148
  | 167 => some ef167
  | 169 => some ef169
  | 171 => some ef171
  | 172 => some ef172
  | 173 => some ef173
  | 174 => some ef174
  | 175 => some ef175
  | 176 => some ef176
  | 177 => some ef177
  | 178 => some ef178
  | 179 => some ef179
  | 180 => some ef180
  | 181 => some ef181
  | 199 => some ef199
  | 204 => some ef204
  | 205 => some ef205
  | 206 => some ef206
  | 207 => some ef207
  | 208 => some ef208
  | 209 => some ef209
  | 210 => some ef210
  | 211 => some ef211
  | 212 => some ef212
  | 213 => some ef213
  | 214 => some ef214
  | 215 => some ef215
  | 216 => some ef216
  | 217 => some ef217
  | 227 => some ef227
  | 228 => some ef228
  | 229 => some ef229
  | 230 => some ef230
  | 231 => some ef231
  | 232 => some ef232
  | 237 => some ef237
  | _ => none
def E : EProg := ⟨fns, glob, 2 ^ 64⟩
theorem fn4 : E.fn 4 = some ef4 := rfl
theorem fn14 : E.fn 14 = some ef14 := rfl
theorem fn15 : E.fn 15 = some ef15 := rfl
theorem fn16 : E.fn 16 = some ef16 := rfl
theorem fn17 : E.fn 17 = some ef17 := rfl
theorem fn18 : E.fn 18 = some ef18 := rfl
theorem fn19 : E.fn 19 = some ef19 := rfl
theorem fn20 : E.fn 20 = some ef20 := rfl
theorem fn21 : E.fn 21 = some ef21 := rfl
theorem fn22 : E.fn 22 = some ef22 := rfl
theorem fn23 : E.fn 23 = some ef23 := rfl
theorem fn24 : E.fn 24 = some ef24 := rfl
theorem fn26 : E.fn 26 = some ef26 := rfl
theorem fn27 : E.fn 27 = some ef27 := rfl
theorem fn28 : E.fn 28 = some ef28 := rfl
theorem fn34 : E.fn 34 = some ef34 := rfl
theorem fn41 : E.fn 41 = some ef41 := rfl
theorem fn44 : E.fn 44 = some ef44 := rfl
theorem fn45 : E.fn 45 = some ef45 := rfl
theorem fn47 : E.fn 47 = some ef47 := rfl
theorem fn49 : E.fn 49 = some ef49 := rfl
theorem fn51 : E.fn 51 = some ef51 := rfl
theorem fn52 : E.fn 52 = some ef52 := rfl
theorem fn53 : E.fn 53 = some ef53 := rfl
theorem fn54 : E.fn 54 = some ef54 := rfl
theorem fn55 : E.fn 55 = some ef55 := rfl
theorem fn56 : E.fn 56 = some ef56 := rfl
theorem fn57 : E.fn 57 = some ef57 := rfl
theorem fn58 : E.fn 58 = some ef58 := rfl
theorem fn59 : E.fn 59 = some ef59 := rfl
theorem fn60 : E.fn 60 = some ef60 := rfl
theorem fn61 : E.fn 61 = some ef61 := rfl
theorem fn62 : E.fn 62 = some ef62 := rfl
theorem fn71 : E.fn 71 = some ef71 := rfl
theorem fn72 : E.fn 72 = some ef72 := rfl
theorem fn80 : E.fn 80 = some ef80 := rfl
theorem fn81 : E.fn 81 = some ef81 := rfl
theorem fn82 : E.fn 82 = some ef82 := rfl
theorem fn84 : E.fn 84 = some ef84 := rfl
theorem fn86 : E.fn 86 = some ef86 := rfl
theorem fn87 : E.fn 87 = some ef87 := rfl
theorem fn88 : E.fn 88 = some ef88 := rfl
theorem fn89 : E.fn 89 = some ef89 := rfl
theorem fn90 : E.fn 90 = some ef90 := rfl
theorem fn91 : E.fn 91 = some ef91 := rfl
theorem fn92 : E.fn 92 = some ef92 := rfl
theorem fn93 : E.fn 93 = some ef93 := rfl
theorem fn94 : E.fn 94 = some ef94 := rfl
theorem fn95 : E.fn 95 = some ef95 := rfl
theorem fn96 : E.fn 96 = some ef96 := rfl
theorem fn97 : E.fn 97 = some ef97 := rfl
theorem fn98 : E.fn 98 = some ef98 := rfl
theorem fn115 : E.fn 115 = some ef115 := rfl
theorem fn123 : E.fn 123 = some ef123 := rfl
theorem fn124 : E.fn 124 = some ef124 := rfl
theorem fn125 : E.fn 125 = some ef125 := rfl
theorem fn126 : E.fn 126 = some ef126 := rfl
theorem fn127 : E.fn 127 = some ef127 := rfl
theorem fn128 : E.fn 128 = some ef128 := rfl
theorem fn129 : E.fn 129 = some ef129 := rfl
theorem fn130 : E.fn 130 = some ef130 := rfl
theorem fn131 : E.fn 131 = some ef131 := rfl
theorem fn132 : E.fn 132 = some ef132 := rfl
theorem fn133 : E.fn 133 = some ef133 := rfl
theorem fn134 : E.fn 134 = some ef134 := rfl
theorem fn135 : E.fn 135 = some ef135 := rfl
theorem fn136 : E.fn 136 = some ef136 := rfl
theorem fn137 : E.fn 137 = some ef137 := rfl
theorem fn138 : E.fn 138 = some ef138 := rfl
theorem fn139 : E.fn 139 = some ef139 := rfl
theorem fn140 : E.fn 140 = some ef140 := rfl
theorem fn141 : E.fn 141 = some ef141 := rfl
theorem fn142 : E.fn 142 = some ef142 := rfl
theorem fn143 : E.fn 143 = some ef143 := rfl
theorem fn144 : E.fn 144 = some ef144 := rfl
theorem fn145 : E.fn 145 = some ef145 := rfl
theorem fn146 : E.fn 146 = some ef146 := rfl
theorem fn147 : E.fn 147 = some ef147 := rfl
theorem fn148 : E.fn 148 = some ef148 := rfl
theorem fn167 : E.fn 167 = some ef167 := rfl
theorem fn169 : E.fn 169 = some ef169 := rfl
theorem fn171 : E.fn 171 = some ef171 := rfl
theorem fn172 : E.fn 172 = some ef172 := rfl
theorem fn173 : E.fn 173 = some ef173 := rfl
theorem fn174 : E.fn 174 = some ef174 := rfl
theorem fn175 : E.fn 175 = some ef175 := rfl
theorem fn176 : E.fn 176 = some ef176 := rfl
theorem fn177 : E.fn 177 = some ef177 := rfl
theorem fn178 : E.fn 178 = some ef178 := rfl
theorem fn179 : E.fn 179 = some ef179 := rfl
theorem fn180 : E.fn 180 = some ef180 := rfl
theorem fn181 : E.fn 181 = some ef181 := rfl
theorem fn199 : E.fn 199 = some ef199 := rfl
theorem fn204 : E.fn 204 = some ef204 := rfl
theorem fn205 : E.fn 205 = some ef205 := rfl
theorem fn206 : E.fn 206 = some ef206 := rfl
theorem fn207 : E.fn 207 = some ef207 := rfl
theorem fn208 : E.fn 208 = some ef208 := rfl
theorem fn209 : E.fn 209 = some ef209 := rfl
theorem fn210 : E.fn 210 = some ef210 := rfl
theorem fn211 : E.fn 211 = some ef211 := rfl
theorem fn212 : E.fn 212 = some ef212 := rfl
theorem fn213 : E.fn 213 = some ef213 := rfl
theorem fn214 : E.fn 214 = some ef214 := rfl
theorem fn215 : E.fn 215 = some ef215 := rfl
theorem fn216 : E.fn 216 = some ef216 := rfl
theorem fn217 : E.fn 217 = some ef217 := rfl
theorem fn227 : E.fn 227 = some ef227 := rfl
theorem fn228 : E.fn 228 = some ef228 := rfl
theorem fn229 : E.fn 229 = some ef229 := rfl
theorem fn230 : E.fn 230 = some ef230 := rfl
theorem fn231 : E.fn 231 = some ef231 := rfl
theorem fn232 : E.fn 232 = some ef232 := rfl
theorem fn237 : E.fn 237 = some ef237 := rfl
end Go.Abs.H
