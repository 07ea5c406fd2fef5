/- The functions, compiled for the abstract evaluator. Written by wip/abs/Print.lean. -/
import Derived.Test.YtfbelnhibipndaaGreatDoorAbsZ0
import Derived.Test.YtfbelnhibipndaaGreatDoorAbsZ1
import Derived.Test.YtfbelnhibipndaaGreatDoorAbsZ2
set_option linter.unusedSimpArgs false
set_option linter.unusedVariables false
/- The functions, compiled for the abstract evaluator. Written by wip/abs/Print.lean. -/
set_option maxRecDepth 100000
set_option maxHeartbeats 0
namespace Go.Abs.Z
open Go Go.Abs
/-- slices.medianOrdered[int] -/
def ef227 : EFun := ⟨
 .seq (.region false [⟨(some 10), .move (.const (.int .i64 0)), none, [], false, false⟩])
 (.seq (.region false [⟨(some 12), .move (.tmp 0), none, [], false, false⟩,
     ⟨(some 13), .move (.tmp 1), none, [], false, false⟩,
     ⟨(some 14), .move (.tmp 2), none, [], false, false⟩,
     ⟨(some 15), .move (.tmp 4), none, [], false, false⟩,
     ⟨(some 16), .call 241 [(.tmp 12), (.tmp 13), (.tmp 14), (.tmp 15)], none, [], false, false⟩,
     ⟨(some 11), .move (.tmp 16), none, [], false, false⟩,
     ⟨(some 17), .extract (.tmp 11) 0, none, [], false, false⟩,
     ⟨(some 18), .extract (.tmp 11) 1, none, [], false, false⟩,
     ⟨(some 1), .move (.tmp 17), none, [], false, false⟩,
     ⟨(some 2), .move (.tmp 18), none, [], false, false⟩])
  (.seq (.region false [⟨(some 20), .move (.tmp 0), none, [], false, false⟩,
      ⟨(some 21), .move (.tmp 2), none, [], false, false⟩,
      ⟨(some 22), .move (.tmp 3), none, [], false, false⟩,
      ⟨(some 23), .move (.tmp 4), none, [], false, false⟩,
      ⟨(some 24), .call 241 [(.tmp 20), (.tmp 21), (.tmp 22), (.tmp 23)], none, [], false, false⟩,
      ⟨(some 19), .move (.tmp 24), none, [], false, false⟩,
      ⟨(some 25), .extract (.tmp 19) 0, none, [], false, false⟩,
      ⟨(some 26), .extract (.tmp 19) 1, none, [], false, false⟩,
      ⟨(some 2), .move (.tmp 25), none, [], false, false⟩,
      ⟨(some 3), .move (.tmp 26), none, [], false, false⟩])
   (.seq (.region false [⟨(some 28), .move (.tmp 0), none, [], false, false⟩,
       ⟨(some 29), .move (.tmp 1), none, [], false, false⟩,
       ⟨(some 30), .move (.tmp 2), none, [], false, false⟩,
       ⟨(some 31), .move (.tmp 4), none, [], false, false⟩,
       ⟨(some 32), .call 241 [(.tmp 28), (.tmp 29), (.tmp 30), (.tmp 31)], none, [], false, false⟩,
       ⟨(some 27), .move (.tmp 32), none, [], false, false⟩,
       ⟨(some 33), .extract (.tmp 27) 0, none, [], false, false⟩,
       ⟨(some 34), .extract (.tmp 27) 1, none, [], false, false⟩,
       ⟨(some 1), .move (.tmp 33), none, [], false, false⟩,
       ⟨(some 2), .move (.tmp 34), none, [], false, false⟩])
    (.seq (.region false [⟨(some 35), .move (.tmp 2), none, [], false, false⟩,
        ⟨(some 10), .move (.tmp 35), none, [], false, false⟩])
     (.ret))))),
 [.tmp 10], .trunc, 36⟩

/-- slices.order2Ordered[int] -/
def ef241 : EFun := ⟨
 .seq (.region false [⟨(some 8), .move (.const (.int .i64 0)), none, [], false, false⟩,
    ⟨(some 9), .move (.const (.int .i64 0)), none, [], false, false⟩])
 (.seq (.seq (.region true [⟨(some 10), .move (.tmp 0), none, [], false, false⟩,
      ⟨(some 11), .move (.tmp 2), none, [], false, false⟩,
      ⟨(some 12), .indexAddr none 1 (.tmp 10) (.tmp 11), none, [], false, false⟩,
      ⟨(some 13), .load false 1 (.tmp 12), none, [], false, false⟩,
      ⟨(some 14), .move (.tmp 0), none, [], false, false⟩,
      ⟨(some 15), .move (.tmp 1), none, [], false, false⟩,
      ⟨(some 16), .indexAddr none 1 (.tmp 14) (.tmp 15), none, [], false, false⟩,
      ⟨(some 17), .load false 1 (.tmp 16), none, [], false, false⟩,
      ⟨(some 18), .call 159 [(.tmp 13), (.tmp 17)], none, [], false, false⟩])
   (.cond (.tmp 18) (.seq (.region false [⟨(some 19), .move (.tmp 3), none, [], false, false⟩,
        ⟨(some 20), .nilCheck (.tmp 19), none, [], false, false⟩,
        ⟨(some 21), .load false 1 (.tmp 20), none, [], false, false⟩,
        ⟨(some 22), .bin .add (.tmp 21) (.const (.int .i64 1)), none, [], false, false⟩,
        ⟨(some 23), .nilCheck (.tmp 19), none, [], false, false⟩,
        ⟨none, .store 1 (.tmp 23) (.tmp 22), none, [], false, false⟩])
     (.seq (.region false [⟨(some 24), .move (.tmp 2), none, [], false, false⟩,
         ⟨(some 25), .move (.tmp 1), none, [], false, false⟩,
         ⟨(some 8), .move (.tmp 24), none, [], false, false⟩,
         ⟨(some 9), .move (.tmp 25), none, [], false, false⟩])
      (.ret)))
    (.skip)))
  (.seq (.region false [⟨(some 26), .move (.tmp 1), none, [], false, false⟩,
      ⟨(some 27), .move (.tmp 2), none, [], false, false⟩,
      ⟨(some 8), .move (.tmp 26), none, [], false, false⟩,
      ⟨(some 9), .move (.tmp 27), none, [], false, false⟩])
   (.ret))),
 [.tmp 8, .tmp 9], .trunc, 28⟩

end Go.Abs.Z
/- The functions, compiled for the abstract evaluator. Written by wip/abs/Print.lean. -/
set_option maxRecDepth 100000
set_option maxHeartbeats 0
namespace Go.Abs.Z
open Go Go.Abs
/-- All functions. -/
def fns : Nat → Option EFun
  | 7 => some ef7
  | 9 => some ef9
  | 11 => some ef11
  | 13 => some ef13
  | 19 => some ef19
  | 22 => some ef22
  | 23 => some ef23
  | 35 => some ef35
  | 36 => some ef36
  | 37 => some ef37
  | 38 => some ef38
  | 39 => some ef39
  | 41 => some ef41
  | 42 => some ef42
  | 43 => some ef43
  | 47 => some ef47
  | 48 => some ef48
  | 49 => some ef49
  | 50 => some ef50
  | 51 => some ef51
  | 54 => some ef54
  | 66 => some ef66
  | 67 => some ef67
  | 68 => some ef68
  | 69 => some ef69
  | 70 => some ef70
  | 71 => some ef71
  | 72 => some ef72
  | 73 => some ef73
  | 74 => some ef74
  | 76 => some ef76
  | 77 => some ef77
  | 78 => some ef78
  | 79 => some ef79
  | 82 => some ef82
  | 83 => some ef83
  | 84 => some ef84
  | 85 => some ef85
  | 86 => some ef86
  | 87 => some ef87
  | 88 => some ef88
  | 89 => some ef89
  | 90 => some ef90
  | 91 => some ef91
  | 106 => some ef106
  | 107 => some ef107
  | 108 => some ef108
  | 109 => some ef109
  | 110 => some ef110
  | 111 => some ef111
  | 112 => some ef112
  | 113 => some ef113
  | 114 => some ef114
  | 115 => some ef115
  | 116 => some ef116
  | 117 => some ef117
  | 118 => some ef118
  | 122 => some ef122
  | 123 => some ef123
  | 127 => some ef127
  | 128 => some ef128
  | 129 => some ef129
  | 130 => some ef130
  | 131 => some ef131
  | 132 => some ef132
  | 148 => some ef148
  | 149 => some ef149
  | 150 => some ef150
  | 151 => some ef151
  | 152 => some ef152
  | 153 => some ef153
  | 154 => some ef154
  | 155 => some ef155
  | 156 => some ef156
  | 157 => some ef157
  | 158 => some ef158
  | 159 => some ef159
  | 160 => some ef160
  | 164 => some ef164
  | 165 => some ef165
  | 166 => some ef166
  | 178 => some ef178
  | 179 => some ef179
  | 180 => some ef180
  | 181 => some ef181
  | 182 => some ef182
  | 183 => some ef183
  | 184 => some ef184
  | 185 => some ef185
  | 186 => some ef186
  | 187 => some ef187
  | 188 => some ef188
  | 189 => some ef189
  | 190 => some ef190
  | 191 => some ef191
  | 192 => some ef192
  | 193 => some ef193
  | 194 => some ef194
  | 195 => some ef195
  | 196 => some ef196
  | 197 => some ef197
  | 198 => some ef198
  | 199 => some ef199
  | 200 => some ef200
  | 218 => some ef218
  | 219 => some ef219
  | 220 => some ef220
  | 221 => some ef221
  | 222 => some ef222
  | 223 => some ef223
  | 224 => some ef224
  | 225 => some ef225
  | 226 => some ef226
  | 227 => some ef227
  | 241 => some ef241
  | _ => none
def E : EProg := ⟨fns, glob, 2 ^ 64⟩
theorem fn7 : E.fn 7 = some ef7 := rfl
theorem fn9 : E.fn 9 = some ef9 := rfl
theorem fn11 : E.fn 11 = some ef11 := rfl
theorem fn13 : E.fn 13 = some ef13 := rfl
theorem fn19 : E.fn 19 = some ef19 := rfl
theorem fn22 : E.fn 22 = some ef22 := rfl
theorem fn23 : E.fn 23 = some ef23 := rfl
theorem fn35 : E.fn 35 = some ef35 := rfl
theorem fn36 : E.fn 36 = some ef36 := rfl
theorem fn37 : E.fn 37 = some ef37 := rfl
theorem fn38 : E.fn 38 = some ef38 := rfl
theorem fn39 : E.fn 39 = some ef39 := rfl
theorem fn41 : E.fn 41 = some ef41 := rfl
theorem fn42 : E.fn 42 = some ef42 := rfl
theorem fn43 : E.fn 43 = some ef43 := rfl
theorem fn47 : E.fn 47 = some ef47 := rfl
theorem fn48 : E.fn 48 = some ef48 := rfl
theorem fn49 : E.fn 49 = some ef49 := rfl
theorem fn50 : E.fn 50 = some ef50 := rfl
theorem fn51 : E.fn 51 = some ef51 := rfl
theorem fn54 : E.fn 54 = some ef54 := rfl
theorem fn66 : E.fn 66 = some ef66 := rfl
theorem fn67 : E.fn 67 = some ef67 := rfl
theorem fn68 : E.fn 68 = some ef68 := rfl
theorem fn69 : E.fn 69 = some ef69 := rfl
theorem fn70 : E.fn 70 = some ef70 := rfl
theorem fn71 : E.fn 71 = some ef71 := rfl
theorem fn72 : E.fn 72 = some ef72 := rfl
theorem fn73 : E.fn 73 = some ef73 := rfl
theorem fn74 : E.fn 74 = some ef74 := rfl
theorem fn76 : E.fn 76 = some ef76 := rfl
theorem fn77 : E.fn 77 = some ef77 := rfl
theorem fn78 : E.fn 78 = some ef78 := rfl
theorem fn79 : E.fn 79 = some ef79 := rfl
theorem fn82 : E.fn 82 = some ef82 := rfl
theorem fn83 : E.fn 83 = some ef83 := rfl
theorem fn84 : E.fn 84 = some ef84 := rfl
theorem fn85 : E.fn 85 = some ef85 := rfl
theorem fn86 : E.fn 86 = some ef86 := rfl
theorem fn87 : E.fn 87 = some ef87 := rfl
theorem fn88 : E.fn 88 = some ef88 := rfl
theorem fn89 : E.fn 89 = some ef89 := rfl
theorem fn90 : E.fn 90 = some ef90 := rfl
theorem fn91 : E.fn 91 = some ef91 := rfl
theorem fn106 : E.fn 106 = some ef106 := rfl
theorem fn107 : E.fn 107 = some ef107 := rfl
theorem fn108 : E.fn 108 = some ef108 := rfl
theorem fn109 : E.fn 109 = some ef109 := rfl
theorem fn110 : E.fn 110 = some ef110 := rfl
theorem fn111 : E.fn 111 = some ef111 := rfl
theorem fn112 : E.fn 112 = some ef112 := rfl
theorem fn113 : E.fn 113 = some ef113 := rfl
theorem fn114 : E.fn 114 = some ef114 := rfl
theorem fn115 : E.fn 115 = some ef115 := rfl
theorem fn116 : E.fn 116 = some ef116 := rfl
theorem fn117 : E.fn 117 = some ef117 := rfl
theorem fn118 : E.fn 118 = some ef118 := rfl
theorem fn122 : E.fn 122 = some ef122 := rfl
theorem fn123 : E.fn 123 = some ef123 := rfl
theorem fn127 : E.fn 127 = some ef127 := rfl
theorem fn128 : E.fn 128 = some ef128 := rfl
theorem fn129 : E.fn 129 = some ef129 := rfl
theorem fn130 : E.fn 130 = some ef130 := rfl
theorem fn131 : E.fn 131 = some ef131 := rfl
theorem fn132 : E.fn 132 = some ef132 := rfl
theorem fn148 : E.fn 148 = some ef148 := rfl
theorem fn149 : E.fn 149 = some ef149 := rfl
theorem fn150 : E.fn 150 = some ef150 := rfl
theorem fn151 : E.fn 151 = some ef151 := rfl
theorem fn152 : E.fn 152 = some ef152 := rfl
theorem fn153 : E.fn 153 = some ef153 := rfl
theorem fn154 : E.fn 154 = some ef154 := rfl
theorem fn155 : E.fn 155 = some ef155 := rfl
theorem fn156 : E.fn 156 = some ef156 := rfl
theorem fn157 : E.fn 157 = some ef157 := rfl
theorem fn158 : E.fn 158 = some ef158 := rfl
theorem fn159 : E.fn 159 = some ef159 := rfl
theorem fn160 : E.fn 160 = some ef160 := rfl
theorem fn164 : E.fn 164 = some ef164 := rfl
theorem fn165 : E.fn 165 = some ef165 := rfl
theorem fn166 : E.fn 166 = some ef166 := rfl
theorem fn178 : E.fn 178 = some ef178 := rfl
theorem fn179 : E.fn 179 = some ef179 := rfl
theorem fn180 : E.fn 180 = some ef180 := rfl
theorem fn181 : E.fn 181 = some ef181 := rfl
theorem fn182 : E.fn 182 = some ef182 := rfl
theorem fn183 : E.fn 183 = some ef183 := rfl
theorem fn184 : E.fn 184 = some ef184 := rfl
theorem fn185 : E.fn 185 = some ef185 := rfl
theorem fn186 : E.fn 186 = some ef186 := rfl
theorem fn187 : E.fn 187 = some ef187 := rfl
theorem fn188 : E.fn 188 = some ef188 := rfl
theorem fn189 : E.fn 189 = some ef189 := rfl
theorem fn190 : E.fn 190 = some ef190 := rfl
theorem fn191 : E.fn 191 = some ef191 := rfl
theorem fn192 : E.fn 192 = some ef192 := rfl
theorem fn193 : E.fn 193 = some ef193 := rfl
theorem fn194 : E.fn 194 = some ef194 := rfl
theorem fn195 : E.fn 195 = some ef195 := rfl
theorem fn196 : E.fn 196 = some ef196 := rfl
theorem fn197 : E.fn 197 = some ef197 := rfl
theorem fn198 : E.fn 198 = some ef198 := rfl
theorem fn199 : E.fn 199 = some ef199 := rfl
theorem fn200 : E.fn 200 = some ef200 := rfl
theorem fn218 : E.fn 218 = some ef218 := rfl
theorem fn219 : E.fn 219 = some ef219 := rfl
theorem fn220 : E.fn 220 = some ef220 := rfl
theorem fn221 : E.fn 221 = some ef221 := rfl
theorem fn222 : E.fn 222 = some ef222 := rfl
theorem fn223 : E.fn 223 = some ef223 := rfl
theorem fn224 : E.fn 224 = some ef224 := rfl
theorem fn225 : E.fn 225 = some ef225 := rfl
theorem fn226 : E.fn 226 = some ef226 := rfl
theorem fn227 : E.fn 227 = some ef227 := rfl
theorem fn241 : E.fn 241 = some ef241 := rfl
end Go.Abs.Z
