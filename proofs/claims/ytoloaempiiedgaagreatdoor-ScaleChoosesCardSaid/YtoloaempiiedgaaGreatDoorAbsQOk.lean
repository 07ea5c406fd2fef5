--
import Derived.Test.YtoloaempiiedgaaGreatDoorProg
import Derived.Test.YtoloaempiiedgaaGreatDoorAbsQ
import Derived.Test.YtoloaempiiedgaaGreatDoorAbsQSh
set_option linter.unusedSimpArgs false
set_option linter.unusedVariables false
set_option maxRecDepth 100000
set_option maxHeartbeats 0
namespace Go.Abs.Q
open Go Go.Abs
theorem ef5_ok:compileFun Go.Proofs.Tryz.prog glob 5 [] .pure=some ef5:=by kernel_rfl
theorem ef10_ok:compileFun Go.Proofs.Tryz.prog glob 10 [] .pure=some ef10:=by kernel_rfl
theorem ef11_ok:compileFun Go.Proofs.Tryz.prog glob 11 [some [1,3]] .pure=some ef11:=by kernel_rfl
theorem ef12_ok:compileFun Go.Proofs.Tryz.prog glob 12 [] .pure=some ef12:=by kernel_rfl
theorem ef14_ok:compileFun Go.Proofs.Tryz.prog glob 14 [] .pure=some ef14:=by kernel_rfl
theorem ef15_ok:compileFun Go.Proofs.Tryz.prog glob 15 [] .pure=some ef15:=by kernel_rfl
theorem ef16_ok:compileFun Go.Proofs.Tryz.prog glob 16 [] .pure=some ef16:=by kernel_rfl
theorem ef18_ok:compileFun Go.Proofs.Tryz.prog glob 18 [some [2,3,4,7,8],some [2,3,4,7,8,9,10]] .full=some ef18:=by kernel_rfl
theorem ef19_ok:compileFun Go.Proofs.Tryz.prog glob 19 [some [1,2,3,4]] .pure=some ef19:=by kernel_rfl
theorem ef20_ok:compileFun Go.Proofs.Tryz.prog glob 20 [some [7,10,13,59,60,61]] .full=some ef20:=by kernel_rfl
theorem ef21_ok:compileFun Go.Proofs.Tryz.prog glob 21 [some [1,2,3,4]] .full=some ef21:=by kernel_rfl
theorem ef22_ok:compileFun Go.Proofs.Tryz.prog glob 22 [some [2,4,5,7,10,11],some [2,4,5,7,10,12,14],some [2,4,5,7,10,12,14,15]] .pure=some ef22:=by kernel_rfl
theorem ef23_ok:compileFun Go.Proofs.Tryz.prog glob 23 [some [6,9,11,39,40,41],some [6,9,11,14,15,16],some [6,9,11,14,15,16,17,88,89,90]] .full=some ef23:=by kernel_rfl
theorem ef24_ok:compileFun Go.Proofs.Tryz.prog glob 24 [some [2,3,4,8,9,10],some [2,3,4,8,9,10,11,12,13],some [2,3,4,8,9,10,11,12,13,14],some [9,16,17]] .full=some ef24:=by kernel_rfl
theorem ef34_ok:compileFun Go.Proofs.Tryz.prog glob 34 [some [1,5]] .pure=some ef34:=by kernel_rfl
theorem ef54_ok:compileFun Go.Proofs.Tryz.prog glob 54 [] .pure=some ef54:=by kernel_rfl
theorem ef55_ok:compileFun Go.Proofs.Tryz.prog glob 55 [] .pure=some ef55:=by kernel_rfl
theorem ef56_ok:compileFun Go.Proofs.Tryz.prog glob 56 [] .pure=some ef56:=by kernel_rfl
theorem ef57_ok:compileFun Go.Proofs.Tryz.prog glob 57 [] .pure=some ef57:=by kernel_rfl
theorem ef58_ok:compileFun Go.Proofs.Tryz.prog glob 58 [some [3,12,38,39,40],some [3,12,51,52],some [3,12,15,51,52]] .pure=some ef58:=by kernel_rfl
theorem ef59_ok:compileFun Go.Proofs.Tryz.prog glob 59 [some [0,1,5]] .pure=some ef59:=by kernel_rfl
theorem ef60_ok:compileFun Go.Proofs.Tryz.prog glob 60 [some [0,3]] .pure=some ef60:=by kernel_rfl
theorem ef61_ok:compileFun Go.Proofs.Tryz.prog glob 61 [] .pure=some ef61:=by kernel_rfl
theorem ef62_ok:compileFun Go.Proofs.Tryz.prog glob 62 [some [2,3,4,12,45,46,47],some [2,3,4,12,14,15,16,17,45,46,47,61,62,63]] .full=some ef62:=by kernel_rfl
theorem ef63_ok:compileFun Go.Proofs.Tryz.prog glob 63 [] .pure=some ef63:=by kernel_rfl
theorem ef64_ok:compileFun Go.Proofs.Tryz.prog glob 64 [some [0,3]] .pure=some ef64:=by kernel_rfl
theorem ef65_ok:compileFun Go.Proofs.Tryz.prog glob 65 [] .pure=some ef65:=by kernel_rfl
theorem ef66_ok:compileFun Go.Proofs.Tryz.prog glob 66 [some [2,4,6,7,8,9]] .pure=some ef66:=by kernel_rfl
theorem ef67_ok:compileFun Go.Proofs.Tryz.prog glob 67 [] .pure=some ef67:=by kernel_rfl
theorem ef68_ok:compileFun Go.Proofs.Tryz.prog glob 68 [] .pure=some ef68:=by kernel_rfl
theorem ef69_ok:compileFun Go.Proofs.Tryz.prog glob 69 [some [0,1,6,9,10,11]] .pure=some ef69:=by kernel_rfl
theorem ef70_ok:compileFun Go.Proofs.Tryz.prog glob 70 [some [0,3,9,10,11],some [6,25,26,27]] .full=some ef70:=by kernel_rfl
theorem ef71_ok:compileFun Go.Proofs.Tryz.prog glob 71 [] .pure=some ef71:=by kernel_rfl
theorem ef72_ok:compileFun Go.Proofs.Tryz.prog glob 72 [some [0,2,4,6,16,17,18],some [0,2,4,6,7,16,17,18,23,24,25],some [0,0,4,6,7]] .full=some ef72:=by kernel_rfl
theorem ef73_ok:compileFun Go.Proofs.Tryz.prog glob 73 [some [2,3,4,5,10,11]] .pure=some ef73:=by kernel_rfl
theorem ef74_ok:compileFun Go.Proofs.Tryz.prog glob 74 [] .pure=some ef74:=by kernel_rfl
theorem ef75_ok:compileFun Go.Proofs.Tryz.prog glob 75 [some [2,3,4,5,10,11,12],some [2,3,4,5,10,11,12,13,14],some [2,3,4,5,10,11,12,13,14,15,16]] .full=some ef75:=by kernel_rfl
theorem ef76_ok:compileFun Go.Proofs.Tryz.prog glob 76 [some [0,3,14,15,16],some [0,3,4,6,14,15,16,24,25,26],some [0,0,3,4,6]] .full=some ef76:=by kernel_rfl
theorem ef77_ok:compileFun Go.Proofs.Tryz.prog glob 77 [some [0,1,2,7,10,11,12]] .pure=some ef77:=by kernel_rfl
theorem ef78_ok:compileFun Go.Proofs.Tryz.prog glob 78 [] .pure=some ef78:=by kernel_rfl
theorem ef79_ok:compileFun Go.Proofs.Tryz.prog glob 79 [] .pure=some ef79:=by kernel_rfl
theorem ef80_ok:compileFun Go.Proofs.Tryz.prog glob 80 [some [0,1,5]] .pure=some ef80:=by kernel_rfl
theorem ef81_ok:compileFun Go.Proofs.Tryz.prog glob 81 [] .pure=some ef81:=by kernel_rfl
theorem ef82_ok:compileFun Go.Proofs.Tryz.prog glob 82 [] .pure=some ef82:=by kernel_rfl
theorem ef93_ok:compileFun Go.Proofs.Tryz.prog glob 93 [some [0,3]] .pure=some ef93:=by kernel_rfl
theorem ef102_ok:compileFun Go.Proofs.Tryz.prog glob 102 [some [1,23,24]] .pure=some ef102:=by kernel_rfl
theorem ef106_ok:compileFun Go.Proofs.Tryz.prog glob 106 [some [0,3]] .pure=some ef106:=by kernel_rfl
theorem ef107_ok:compileFun Go.Proofs.Tryz.prog glob 107 [] .pure=some ef107:=by kernel_rfl
theorem ef124_ok:compileFun Go.Proofs.Tryz.prog glob 124 [] .pure=some ef124:=by kernel_rfl
theorem ef125_ok:compileFun Go.Proofs.Tryz.prog glob 125 [] .pure=some ef125:=by kernel_rfl
theorem ef126_ok:compileFun Go.Proofs.Tryz.prog glob 126 [some [0,3,16,17,18],some [3,8,9,55,56,57],some [3,8,9,12]] .pure=some ef126:=by kernel_rfl
theorem ef127_ok:compileFun Go.Proofs.Tryz.prog glob 127 [some [0,1,8,9,10,23,24],some [1,9,10,34,35],some [1,9,10,11,12]] .pure=some ef127:=by kernel_rfl
theorem ef128_ok:compileFun Go.Proofs.Tryz.prog glob 128 [] .pure=some ef128:=by kernel_rfl
theorem ef129_ok:compileFun Go.Proofs.Tryz.prog glob 129 [some [0,13,14,15]] .pure=some ef129:=by kernel_rfl
theorem ef130_ok:compileFun Go.Proofs.Tryz.prog glob 130 [] .pure=some ef130:=by kernel_rfl
theorem ef131_ok:compileFun Go.Proofs.Tryz.prog glob 131 [] .pure=some ef131:=by kernel_rfl
theorem ef132_ok:compileFun Go.Proofs.Tryz.prog glob 132 [] .pure=some ef132:=by kernel_rfl
theorem ef133_ok:compileFun Go.Proofs.Tryz.prog glob 133 [] .pure=some ef133:=by kernel_rfl
theorem ef134_ok:compileFun Go.Proofs.Tryz.prog glob 134 [] .pure=some ef134:=by kernel_rfl
theorem ef135_ok:compileFun Go.Proofs.Tryz.prog glob 135 [] .pure=some ef135:=by kernel_rfl
theorem ef136_ok:compileFun Go.Proofs.Tryz.prog glob 136 [] .pure=some ef136:=by kernel_rfl
theorem ef137_ok:compileFun Go.Proofs.Tryz.prog glob 137 [some [8,9,18,19]] .pure=some ef137:=by kernel_rfl
theorem ef138_ok:compileFun Go.Proofs.Tryz.prog glob 138 [some [0,1,5,6],some [0,1,5,6,7,8],some [5]] .pure=some ef138:=by kernel_rfl
theorem ef139_ok:compileFun Go.Proofs.Tryz.prog glob 139 [some [0,1,5]] .pure=some ef139:=by kernel_rfl
theorem ef140_ok:compileFun Go.Proofs.Tryz.prog glob 140 [some [0,3]] .pure=some ef140:=by kernel_rfl
theorem ef141_ok:compileFun Go.Proofs.Tryz.prog glob 141 [some [0,1,5]] .pure=some ef141:=by kernel_rfl
theorem ef142_ok:compileFun Go.Proofs.Tryz.prog glob 142 [some [0,1,7,8]] .pure=some ef142:=by kernel_rfl
theorem ef144_ok:compileFun Go.Proofs.Tryz.prog glob 144 [] .pure=some ef144:=by kernel_rfl
theorem ef145_ok:compileFun Go.Proofs.Tryz.prog glob 145 [] .pure=some ef145:=by kernel_rfl
theorem ef146_ok:compileFun Go.Proofs.Tryz.prog glob 146 [] .pure=some ef146:=by kernel_rfl
theorem ef147_ok:compileFun Go.Proofs.Tryz.prog glob 147 [] .pure=some ef147:=by kernel_rfl
theorem ef156_ok:compileFun Go.Proofs.Tryz.prog glob 156 [] .pure=some ef156:=by kernel_rfl
theorem ef159_ok:compileFun Go.Proofs.Tryz.prog glob 159 [] .pure=some ef159:=by kernel_rfl
theorem ef164_ok:compileFun Go.Proofs.Tryz.prog glob 164 [some [3,10,11,12]] .pure=some ef164:=by kernel_rfl
theorem ef165_ok:compileFun Go.Proofs.Tryz.prog glob 165 [] .pure=some ef165:=by kernel_rfl
theorem ef167_ok:compileFun Go.Proofs.Tryz.prog glob 167 [some [0,1,5]] .pure=some ef167:=by kernel_rfl
theorem ef168_ok:compileFun Go.Proofs.Tryz.prog glob 168 [some [1,11,12]] .pure=some ef168:=by kernel_rfl
theorem ef169_ok:compileFun Go.Proofs.Tryz.prog glob 169 [] .pure=some ef169:=by kernel_rfl
theorem ef170_ok:compileFun Go.Proofs.Tryz.prog glob 170 [] .pure=some ef170:=by kernel_rfl
theorem ef186_ok:compileFun Go.Proofs.Tryz.prog glob 186 [] .pure=some ef186:=by kernel_rfl
theorem ef187_ok:compileFun Go.Proofs.Tryz.prog glob 187 [] .pure=some ef187:=by kernel_rfl
theorem ef188_ok:compileFun Go.Proofs.Tryz.prog glob 188 [] .pure=some ef188:=by kernel_rfl
theorem ef189_ok:compileFun Go.Proofs.Tryz.prog glob 189 [some [0,15,16,17]] .pure=some ef189:=by kernel_rfl
theorem ef190_ok:compileFun Go.Proofs.Tryz.prog glob 190 [some [1,2,7,11,12,13]] .trunc=some ef190:=by kernel_rfl
theorem ef191_ok:compileFun Go.Proofs.Tryz.prog glob 191 [some [0,2,3]] .trunc=some ef191:=by kernel_rfl
theorem ef192_ok:compileFun Go.Proofs.Tryz.prog glob 192 [some [4,8,9,10]] .pure=some ef192:=by kernel_rfl
theorem ef193_ok:compileFun Go.Proofs.Tryz.prog glob 193 [] .pure=some ef193:=by kernel_rfl
theorem ef194_ok:compileFun Go.Proofs.Tryz.prog glob 194 [] .pure=some ef194:=by kernel_rfl
theorem ef195_ok:compileFun Go.Proofs.Tryz.prog glob 195 [] .pure=some ef195:=by kernel_rfl
theorem ef196_ok:compileFun Go.Proofs.Tryz.prog glob 196 [] .pure=some ef196:=by kernel_rfl
theorem ef197_ok:compileFun Go.Proofs.Tryz.prog glob 197 [some [0,1,2,13,14],some [0,1,2,4,13,14,25,26]] .trunc=some ef197:=by kernel_rfl
theorem ef198_ok:compileFun Go.Proofs.Tryz.prog glob 198 [] .pure=some ef198:=by kernel_rfl
theorem ef217_ok:compileFun Go.Proofs.Tryz.prog glob 217 [some [0,7,8,9]] .pure=some ef217:=by kernel_rfl
theorem ef218_ok:compileFun Go.Proofs.Tryz.prog glob 218 [some [1,6,7]] .pure=some ef218:=by kernel_rfl
theorem ef219_ok:compileFun Go.Proofs.Tryz.prog glob 219 [] .pure=some ef219:=by kernel_rfl
theorem ef221_ok:compileFun Go.Proofs.Tryz.prog glob 221 [] .pure=some ef221:=by kernel_rfl
theorem ef222_ok:compileFun Go.Proofs.Tryz.prog glob 222 [] .pure=some ef222:=by kernel_rfl
theorem ef241_ok:compileFun Go.Proofs.Tryz.prog glob 241 [] .pure=some ef241:=by kernel_rfl
theorem ef242_ok:compileFun Go.Proofs.Tryz.prog glob 242 [] .pure=some ef242:=by kernel_rfl
theorem ef243_ok:compileFun Go.Proofs.Tryz.prog glob 243 [some [2,3,9,10]] .pure=some ef243:=by kernel_rfl
theorem ef244_ok:compileFun Go.Proofs.Tryz.prog glob 244 [] .pure=some ef244:=by kernel_rfl
theorem ef245_ok:compileFun Go.Proofs.Tryz.prog glob 245 [some [0,1,2],some [0,1,2,7]] .pure=some ef245:=by kernel_rfl
theorem ef246_ok:compileFun Go.Proofs.Tryz.prog glob 246 [] .pure=some ef246:=by kernel_rfl
theorem ef247_ok:compileFun Go.Proofs.Tryz.prog glob 247 [some [0,1,5]] .pure=some ef247:=by kernel_rfl
theorem ef248_ok:compileFun Go.Proofs.Tryz.prog glob 248 [] .pure=some ef248:=by kernel_rfl
theorem ef249_ok:compileFun Go.Proofs.Tryz.prog glob 249 [some [0,1,7,8]] .pure=some ef249:=by kernel_rfl
theorem ef250_ok:compileFun Go.Proofs.Tryz.prog glob 250 [] .pure=some ef250:=by kernel_rfl
theorem ef251_ok:compileFun Go.Proofs.Tryz.prog glob 251 [] .pure=some ef251:=by kernel_rfl
theorem ef252_ok:compileFun Go.Proofs.Tryz.prog glob 252 [] .pure=some ef252:=by kernel_rfl
theorem ef253_ok:compileFun Go.Proofs.Tryz.prog glob 253 [] .pure=some ef253:=by kernel_rfl
theorem ef254_ok:compileFun Go.Proofs.Tryz.prog glob 254 [] .pure=some ef254:=by kernel_rfl
theorem ef255_ok:compileFun Go.Proofs.Tryz.prog glob 255 [] .pure=some ef255:=by kernel_rfl
theorem ef274_ok:compileFun Go.Proofs.Tryz.prog glob 274 [] .pure=some ef274:=by kernel_rfl
theorem ef275_ok:compileFun Go.Proofs.Tryz.prog glob 275 [] .pure=some ef275:=by kernel_rfl
theorem ef276_ok:compileFun Go.Proofs.Tryz.prog glob 276 [some [0,1]] .pure=some ef276:=by kernel_rfl
theorem ef288_ok:compileFun Go.Proofs.Tryz.prog glob 288 [some [0,1]] .pure=some ef288:=by kernel_rfl
theorem ef289_ok:compileFun Go.Proofs.Tryz.prog glob 289 [] .pure=some ef289:=by kernel_rfl
theorem ef290_ok:compileFun Go.Proofs.Tryz.prog glob 290 [some [1,5,6,17,18,19]] .pure=some ef290:=by kernel_rfl
theorem ef291_ok:compileFun Go.Proofs.Tryz.prog glob 291 [] .pure=some ef291:=by kernel_rfl
theorem ef292_ok:compileFun Go.Proofs.Tryz.prog glob 292 [] .pure=some ef292:=by kernel_rfl
theorem ef293_ok:compileFun Go.Proofs.Tryz.prog glob 293 [] .pure=some ef293:=by kernel_rfl
theorem ef307_ok:compileFun Go.Proofs.Tryz.prog glob 307 [] .pure=some ef307:=by kernel_rfl
theorem E_ok:ProgOk Go.Proofs.Tryz.prog E where
 mix:=by kernel_rfl
 fn:=by
  intro f F h
  replace h:fns f=some F:=h
  unfold fns at h
  split at h
  ·cases h; exact .inl ⟨_,_,rfl,ef5_ok⟩
  ·cases h; exact .inl ⟨_,_,rfl,ef10_ok⟩
  ·cases h; exact .inl ⟨_,_,rfl,ef11_ok⟩
  ·cases h; exact .inl ⟨_,_,rfl,ef12_ok⟩
  ·cases h; exact .inl ⟨_,_,rfl,ef14_ok⟩
  ·cases h; exact .inl ⟨_,_,rfl,ef15_ok⟩
  ·cases h; exact .inl ⟨_,_,rfl,ef16_ok⟩
  ·cases h; exact .inl ⟨_,_,rfl,ef18_ok⟩
  ·cases h; exact .inl ⟨_,_,rfl,ef19_ok⟩
  ·cases h; exact .inl ⟨_,_,rfl,ef20_ok⟩
  ·cases h; exact .inl ⟨_,_,rfl,ef21_ok⟩
  ·cases h; exact .inl ⟨_,_,rfl,ef22_ok⟩
  ·cases h; exact .inl ⟨_,_,rfl,ef23_ok⟩
  ·cases h; exact .inl ⟨_,_,rfl,ef24_ok⟩
  ·cases h; exact .inl ⟨_,_,rfl,ef34_ok⟩
  ·cases h; exact .inl ⟨_,_,rfl,ef54_ok⟩
  ·cases h; exact .inl ⟨_,_,rfl,ef55_ok⟩
  ·cases h; exact .inl ⟨_,_,rfl,ef56_ok⟩
  ·cases h; exact .inl ⟨_,_,rfl,ef57_ok⟩
  ·cases h; exact .inl ⟨_,_,rfl,ef58_ok⟩
  ·cases h; exact .inl ⟨_,_,rfl,ef59_ok⟩
  ·cases h; exact .inl ⟨_,_,rfl,ef60_ok⟩
  ·cases h; exact .inl ⟨_,_,rfl,ef61_ok⟩
  ·cases h; exact .inl ⟨_,_,rfl,ef62_ok⟩
  ·cases h; exact .inl ⟨_,_,rfl,ef63_ok⟩
  ·cases h; exact .inl ⟨_,_,rfl,ef64_ok⟩
  ·cases h; exact .inl ⟨_,_,rfl,ef65_ok⟩
  ·cases h; exact .inl ⟨_,_,rfl,ef66_ok⟩
  ·cases h; exact .inl ⟨_,_,rfl,ef67_ok⟩
  ·cases h; exact .inl ⟨_,_,rfl,ef68_ok⟩
  ·cases h; exact .inl ⟨_,_,rfl,ef69_ok⟩
  ·cases h; exact .inl ⟨_,_,rfl,ef70_ok⟩
  ·cases h; exact .inl ⟨_,_,rfl,ef71_ok⟩
  ·cases h; exact .inl ⟨_,_,rfl,ef72_ok⟩
  ·cases h; exact .inl ⟨_,_,rfl,ef73_ok⟩
  ·cases h; exact .inl ⟨_,_,rfl,ef74_ok⟩
  ·cases h; exact .inl ⟨_,_,rfl,ef75_ok⟩
  ·cases h; exact .inl ⟨_,_,rfl,ef76_ok⟩
  ·cases h; exact .inl ⟨_,_,rfl,ef77_ok⟩
  ·cases h; exact .inl ⟨_,_,rfl,ef78_ok⟩
  ·cases h; exact .inl ⟨_,_,rfl,ef79_ok⟩
  ·cases h; exact .inl ⟨_,_,rfl,ef80_ok⟩
  ·cases h; exact .inl ⟨_,_,rfl,ef81_ok⟩
  ·cases h; exact .inl ⟨_,_,rfl,ef82_ok⟩
  ·cases h; exact .inl ⟨_,_,rfl,ef93_ok⟩
  ·cases h; exact .inl ⟨_,_,rfl,ef102_ok⟩
  ·cases h; exact .inl ⟨_,_,rfl,ef106_ok⟩
  ·cases h; exact .inl ⟨_,_,rfl,ef107_ok⟩
  ·cases h; exact .inl ⟨_,_,rfl,ef124_ok⟩
  ·cases h; exact .inl ⟨_,_,rfl,ef125_ok⟩
  ·cases h; exact .inl ⟨_,_,rfl,ef126_ok⟩
  ·cases h; exact .inl ⟨_,_,rfl,ef127_ok⟩
  ·cases h; exact .inl ⟨_,_,rfl,ef128_ok⟩
  ·cases h; exact .inl ⟨_,_,rfl,ef129_ok⟩
  ·cases h; exact .inl ⟨_,_,rfl,ef130_ok⟩
  ·cases h; exact .inl ⟨_,_,rfl,ef131_ok⟩
  ·cases h; exact .inl ⟨_,_,rfl,ef132_ok⟩
  ·cases h; exact .inl ⟨_,_,rfl,ef133_ok⟩
  ·cases h; exact .inl ⟨_,_,rfl,ef134_ok⟩
  ·cases h; exact .inl ⟨_,_,rfl,ef135_ok⟩
  ·cases h; exact .inl ⟨_,_,rfl,ef136_ok⟩
  ·cases h; exact .inl ⟨_,_,rfl,ef137_ok⟩
  ·cases h; exact .inl ⟨_,_,rfl,ef138_ok⟩
  ·cases h; exact .inl ⟨_,_,rfl,ef139_ok⟩
  ·cases h; exact .inl ⟨_,_,rfl,ef140_ok⟩
  ·cases h; exact .inl ⟨_,_,rfl,ef141_ok⟩
  ·cases h; exact .inl ⟨_,_,rfl,ef142_ok⟩
  ·cases h; exact .inr ⟨_,rfl,okGrow⟩ -- ef143_ok
  ·cases h; exact .inl ⟨_,_,rfl,ef144_ok⟩
  ·cases h; exact .inl ⟨_,_,rfl,ef145_ok⟩
  ·cases h; exact .inl ⟨_,_,rfl,ef146_ok⟩
  ·cases h; exact .inl ⟨_,_,rfl,ef147_ok⟩
  ·cases h; exact .inl ⟨_,_,rfl,ef156_ok⟩
  ·cases h; exact .inl ⟨_,_,rfl,ef159_ok⟩
  ·cases h; exact .inl ⟨_,_,rfl,ef164_ok⟩
  ·cases h; exact .inl ⟨_,_,rfl,ef165_ok⟩
  ·cases h; exact .inl ⟨_,_,rfl,ef167_ok⟩
  ·cases h; exact .inl ⟨_,_,rfl,ef168_ok⟩
  ·cases h; exact .inl ⟨_,_,rfl,ef169_ok⟩
  ·cases h; exact .inl ⟨_,_,rfl,ef170_ok⟩
  ·cases h; exact .inl ⟨_,_,rfl,ef186_ok⟩
  ·cases h; exact .inl ⟨_,_,rfl,ef187_ok⟩
  ·cases h; exact .inl ⟨_,_,rfl,ef188_ok⟩
  ·cases h; exact .inl ⟨_,_,rfl,ef189_ok⟩
  ·cases h; exact .inl ⟨_,_,rfl,ef190_ok⟩
  ·cases h; exact .inl ⟨_,_,rfl,ef191_ok⟩
  ·cases h; exact .inl ⟨_,_,rfl,ef192_ok⟩
  ·cases h; exact .inl ⟨_,_,rfl,ef193_ok⟩
  ·cases h; exact .inl ⟨_,_,rfl,ef194_ok⟩
  ·cases h; exact .inl ⟨_,_,rfl,ef195_ok⟩
  ·cases h; exact .inl ⟨_,_,rfl,ef196_ok⟩
  ·cases h; exact .inl ⟨_,_,rfl,ef197_ok⟩
  ·cases h; exact .inl ⟨_,_,rfl,ef198_ok⟩
  ·cases h; exact .inl ⟨_,_,rfl,ef217_ok⟩
  ·cases h; exact .inl ⟨_,_,rfl,ef218_ok⟩
  ·cases h; exact .inl ⟨_,_,rfl,ef219_ok⟩
  ·cases h; exact .inl ⟨_,_,rfl,ef221_ok⟩
  ·cases h; exact .inl ⟨_,_,rfl,ef222_ok⟩
  ·cases h; exact .inl ⟨_,_,rfl,ef241_ok⟩
  ·cases h; exact .inl ⟨_,_,rfl,ef242_ok⟩
  ·cases h; exact .inl ⟨_,_,rfl,ef243_ok⟩
  ·cases h; exact .inl ⟨_,_,rfl,ef244_ok⟩
  ·cases h; exact .inl ⟨_,_,rfl,ef245_ok⟩
  ·cases h; exact .inl ⟨_,_,rfl,ef246_ok⟩
  ·cases h; exact .inl ⟨_,_,rfl,ef247_ok⟩
  ·cases h; exact .inl ⟨_,_,rfl,ef248_ok⟩
  ·cases h; exact .inl ⟨_,_,rfl,ef249_ok⟩
  ·cases h; exact .inl ⟨_,_,rfl,ef250_ok⟩
  ·cases h; exact .inl ⟨_,_,rfl,ef251_ok⟩
  ·cases h; exact .inl ⟨_,_,rfl,ef252_ok⟩
  ·cases h; exact .inl ⟨_,_,rfl,ef253_ok⟩
  ·cases h; exact .inl ⟨_,_,rfl,ef254_ok⟩
  ·cases h; exact .inl ⟨_,_,rfl,ef255_ok⟩
  ·cases h; exact .inl ⟨_,_,rfl,ef274_ok⟩
  ·cases h; exact .inl ⟨_,_,rfl,ef275_ok⟩
  ·cases h; exact .inl ⟨_,_,rfl,ef276_ok⟩
  ·cases h; exact .inl ⟨_,_,rfl,ef288_ok⟩
  ·cases h; exact .inl ⟨_,_,rfl,ef289_ok⟩
  ·cases h; exact .inl ⟨_,_,rfl,ef290_ok⟩
  ·cases h; exact .inl ⟨_,_,rfl,ef291_ok⟩
  ·cases h; exact .inl ⟨_,_,rfl,ef292_ok⟩
  ·cases h; exact .inl ⟨_,_,rfl,ef293_ok⟩
  ·cases h; exact .inl ⟨_,_,rfl,ef307_ok⟩
  ·cases h
end Go.Abs.Q
