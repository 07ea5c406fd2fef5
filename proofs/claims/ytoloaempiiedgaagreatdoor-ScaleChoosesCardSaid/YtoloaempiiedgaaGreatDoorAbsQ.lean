--
import Derived.Test.YtoloaempiiedgaaGreatDoorAbsQ1
import Derived.Test.YtoloaempiiedgaaGreatDoorAbsQ2
set_option linter.unusedSimpArgs false
set_option linter.unusedVariables false
set_option maxRecDepth 100000
set_option maxHeartbeats 0
namespace Go.Abs.Q
open Go Go.Abs
def fns:Nat→Option EFun
 | 5=>some ef5
 | 10=>some ef10
 | 11=>some ef11
 | 12=>some ef12
 | 14=>some ef14
 | 15=>some ef15
 | 16=>some ef16
 | 18=>some ef18
 | 19=>some ef19
 | 20=>some ef20
 | 21=>some ef21
 | 22=>some ef22
 | 23=>some ef23
 | 24=>some ef24
 | 34=>some ef34
 | 54=>some ef54
 | 55=>some ef55
 | 56=>some ef56
 | 57=>some ef57
 | 58=>some ef58
 | 59=>some ef59
 | 60=>some ef60
 | 61=>some ef61
 | 62=>some ef62
 | 63=>some ef63
 | 64=>some ef64
 | 65=>some ef65
 | 66=>some ef66
 | 67=>some ef67
 | 68=>some ef68
 | 69=>some ef69
 | 70=>some ef70
 | 71=>some ef71
 | 72=>some ef72
 | 73=>some ef73
 | 74=>some ef74
 | 75=>some ef75
 | 76=>some ef76
 | 77=>some ef77
 | 78=>some ef78
 | 79=>some ef79
 | 80=>some ef80
 | 81=>some ef81
 | 82=>some ef82
 | 93=>some ef93
 | 102=>some ef102
 | 106=>some ef106
 | 107=>some ef107
 | 124=>some ef124
 | 125=>some ef125
 | 126=>some ef126
 | 127=>some ef127
 | 128=>some ef128
 | 129=>some ef129
 | 130=>some ef130
 | 131=>some ef131
 | 132=>some ef132
 | 133=>some ef133
 | 134=>some ef134
 | 135=>some ef135
 | 136=>some ef136
 | 137=>some ef137
 | 138=>some ef138
 | 139=>some ef139
 | 140=>some ef140
 | 141=>some ef141
 | 142=>some ef142
 | 143=>some ef143
 | 144=>some ef144
 | 145=>some ef145
 | 146=>some ef146
 | 147=>some ef147
 | 156=>some ef156
 | 159=>some ef159
 | 164=>some ef164
 | 165=>some ef165
 | 167=>some ef167
 | 168=>some ef168
 | 169=>some ef169
 | 170=>some ef170
 | 186=>some ef186
 | 187=>some ef187
 | 188=>some ef188
 | 189=>some ef189
 | 190=>some ef190
 | 191=>some ef191
 | 192=>some ef192
 | 193=>some ef193
 | 194=>some ef194
 | 195=>some ef195
 | 196=>some ef196
 | 197=>some ef197
 | 198=>some ef198
 | 217=>some ef217
 | 218=>some ef218
 | 219=>some ef219
 | 221=>some ef221
 | 222=>some ef222
 | 241=>some ef241
 | 242=>some ef242
 | 243=>some ef243
 | 244=>some ef244
 | 245=>some ef245
 | 246=>some ef246
 | 247=>some ef247
 | 248=>some ef248
 | 249=>some ef249
 | 250=>some ef250
 | 251=>some ef251
 | 252=>some ef252
 | 253=>some ef253
 | 254=>some ef254
 | 255=>some ef255
 | 274=>some ef274
 | 275=>some ef275
 | 276=>some ef276
 | 288=>some ef288
 | 289=>some ef289
 | 290=>some ef290
 | 291=>some ef291
 | 292=>some ef292
 | 293=>some ef293
 | 307=>some ef307
 | _=>none
def E:EProg:=⟨fns,glob,2 ^ 64⟩
theorem fn5:E.fn 5=some ef5:=rfl
theorem fn10:E.fn 10=some ef10:=rfl
theorem fn11:E.fn 11=some ef11:=rfl
theorem fn12:E.fn 12=some ef12:=rfl
theorem fn14:E.fn 14=some ef14:=rfl
theorem fn15:E.fn 15=some ef15:=rfl
theorem fn16:E.fn 16=some ef16:=rfl
theorem fn18:E.fn 18=some ef18:=rfl
theorem fn19:E.fn 19=some ef19:=rfl
theorem fn20:E.fn 20=some ef20:=rfl
theorem fn21:E.fn 21=some ef21:=rfl
theorem fn22:E.fn 22=some ef22:=rfl
theorem fn23:E.fn 23=some ef23:=rfl
theorem fn24:E.fn 24=some ef24:=rfl
theorem fn34:E.fn 34=some ef34:=rfl
theorem fn54:E.fn 54=some ef54:=rfl
theorem fn55:E.fn 55=some ef55:=rfl
theorem fn56:E.fn 56=some ef56:=rfl
theorem fn57:E.fn 57=some ef57:=rfl
theorem fn58:E.fn 58=some ef58:=rfl
theorem fn59:E.fn 59=some ef59:=rfl
theorem fn60:E.fn 60=some ef60:=rfl
theorem fn61:E.fn 61=some ef61:=rfl
theorem fn62:E.fn 62=some ef62:=rfl
theorem fn63:E.fn 63=some ef63:=rfl
theorem fn64:E.fn 64=some ef64:=rfl
theorem fn65:E.fn 65=some ef65:=rfl
theorem fn66:E.fn 66=some ef66:=rfl
theorem fn67:E.fn 67=some ef67:=rfl
theorem fn68:E.fn 68=some ef68:=rfl
theorem fn69:E.fn 69=some ef69:=rfl
theorem fn70:E.fn 70=some ef70:=rfl
theorem fn71:E.fn 71=some ef71:=rfl
theorem fn72:E.fn 72=some ef72:=rfl
theorem fn73:E.fn 73=some ef73:=rfl
theorem fn74:E.fn 74=some ef74:=rfl
theorem fn75:E.fn 75=some ef75:=rfl
theorem fn76:E.fn 76=some ef76:=rfl
theorem fn77:E.fn 77=some ef77:=rfl
theorem fn78:E.fn 78=some ef78:=rfl
theorem fn79:E.fn 79=some ef79:=rfl
theorem fn80:E.fn 80=some ef80:=rfl
theorem fn81:E.fn 81=some ef81:=rfl
theorem fn82:E.fn 82=some ef82:=rfl
theorem fn93:E.fn 93=some ef93:=rfl
theorem fn102:E.fn 102=some ef102:=rfl
theorem fn106:E.fn 106=some ef106:=rfl
theorem fn107:E.fn 107=some ef107:=rfl
theorem fn124:E.fn 124=some ef124:=rfl
theorem fn125:E.fn 125=some ef125:=rfl
theorem fn126:E.fn 126=some ef126:=rfl
theorem fn127:E.fn 127=some ef127:=rfl
theorem fn128:E.fn 128=some ef128:=rfl
theorem fn129:E.fn 129=some ef129:=rfl
theorem fn130:E.fn 130=some ef130:=rfl
theorem fn131:E.fn 131=some ef131:=rfl
theorem fn132:E.fn 132=some ef132:=rfl
theorem fn133:E.fn 133=some ef133:=rfl
theorem fn134:E.fn 134=some ef134:=rfl
theorem fn135:E.fn 135=some ef135:=rfl
theorem fn136:E.fn 136=some ef136:=rfl
theorem fn137:E.fn 137=some ef137:=rfl
theorem fn138:E.fn 138=some ef138:=rfl
theorem fn139:E.fn 139=some ef139:=rfl
theorem fn140:E.fn 140=some ef140:=rfl
theorem fn141:E.fn 141=some ef141:=rfl
theorem fn142:E.fn 142=some ef142:=rfl
theorem fn143:E.fn 143=some ef143:=rfl
theorem fn144:E.fn 144=some ef144:=rfl
theorem fn145:E.fn 145=some ef145:=rfl
theorem fn146:E.fn 146=some ef146:=rfl
theorem fn147:E.fn 147=some ef147:=rfl
theorem fn156:E.fn 156=some ef156:=rfl
theorem fn159:E.fn 159=some ef159:=rfl
theorem fn164:E.fn 164=some ef164:=rfl
theorem fn165:E.fn 165=some ef165:=rfl
theorem fn167:E.fn 167=some ef167:=rfl
theorem fn168:E.fn 168=some ef168:=rfl
theorem fn169:E.fn 169=some ef169:=rfl
theorem fn170:E.fn 170=some ef170:=rfl
theorem fn186:E.fn 186=some ef186:=rfl
theorem fn187:E.fn 187=some ef187:=rfl
theorem fn188:E.fn 188=some ef188:=rfl
theorem fn189:E.fn 189=some ef189:=rfl
theorem fn190:E.fn 190=some ef190:=rfl
theorem fn191:E.fn 191=some ef191:=rfl
theorem fn192:E.fn 192=some ef192:=rfl
theorem fn193:E.fn 193=some ef193:=rfl
theorem fn194:E.fn 194=some ef194:=rfl
theorem fn195:E.fn 195=some ef195:=rfl
theorem fn196:E.fn 196=some ef196:=rfl
theorem fn197:E.fn 197=some ef197:=rfl
theorem fn198:E.fn 198=some ef198:=rfl
theorem fn217:E.fn 217=some ef217:=rfl
theorem fn218:E.fn 218=some ef218:=rfl
theorem fn219:E.fn 219=some ef219:=rfl
theorem fn221:E.fn 221=some ef221:=rfl
theorem fn222:E.fn 222=some ef222:=rfl
theorem fn241:E.fn 241=some ef241:=rfl
theorem fn242:E.fn 242=some ef242:=rfl
theorem fn243:E.fn 243=some ef243:=rfl
theorem fn244:E.fn 244=some ef244:=rfl
theorem fn245:E.fn 245=some ef245:=rfl
theorem fn246:E.fn 246=some ef246:=rfl
theorem fn247:E.fn 247=some ef247:=rfl
theorem fn248:E.fn 248=some ef248:=rfl
theorem fn249:E.fn 249=some ef249:=rfl
theorem fn250:E.fn 250=some ef250:=rfl
theorem fn251:E.fn 251=some ef251:=rfl
theorem fn252:E.fn 252=some ef252:=rfl
theorem fn253:E.fn 253=some ef253:=rfl
theorem fn254:E.fn 254=some ef254:=rfl
theorem fn255:E.fn 255=some ef255:=rfl
theorem fn274:E.fn 274=some ef274:=rfl
theorem fn275:E.fn 275=some ef275:=rfl
theorem fn276:E.fn 276=some ef276:=rfl
theorem fn288:E.fn 288=some ef288:=rfl
theorem fn289:E.fn 289=some ef289:=rfl
theorem fn290:E.fn 290=some ef290:=rfl
theorem fn291:E.fn 291=some ef291:=rfl
theorem fn292:E.fn 292=some ef292:=rfl
theorem fn293:E.fn 293=some ef293:=rfl
theorem fn307:E.fn 307=some ef307:=rfl
end Go.Abs.Q
