--
import Derived.Test.YtoloaempiiedgaaDoorAbsR0
set_option linter.unusedSimpArgs false
set_option linter.unusedVariables false
set_option maxRecDepth 100000
set_option maxHeartbeats 0
namespace Go.Abs.R
open Go Go.Abs
def ef5 : EFun := ⟨
.seq (xr [xv 3 0,
xv 4 1,
xi 6 (.move xF)])
(.seq (.seq (xr [xc 34 20 [],
xi 35 (.un .not (.tmp 34))])
(.cond (.tmp 35) (.seq (xr [xi 6 (.move xF)])
.ret)
.skip))
(.seq (.seq (xr [xL 36 3 3,
xc 37 7 [.tmp 36],
xi 38 (.un .not (.tmp 37)),
xm 39 38,
yf 40 2 3 39 false,
yl 41 40 39 false,
xg 42 (.len false (.tmp 41)) 39 false,
yb 43 .gtr (.tmp 42) (xk 4) 39 false,
xi 44 (.pick (.tmp 39) xT (.tmp 43)),
xm 45 44,
ym 46 2 45 false,
xg 47 (.len false (.tmp 46)) 45 false,
xg 48 (.call 21 [.tmp 47, (xk 1), (xk 3)]) 45 false,
xg 49 (.un .not (.tmp 48)) 45 false,
xi 50 (.pick (.tmp 45) xT (.tmp 49)),
xm 51 50,
xg 52 (.load true 4 (.tmp 4)) 51 false,
xg 53 (.call 22 [.tmp 52]) 51 false,
yb 54 .neq (.tmp 53) xq 51 false,
xi 55 (.pick (.tmp 51) xT (.tmp 54)),
xm 56 55,
ym 57 2 56 false,
xg 58 (.call 23 [.tmp 57]) 56 false,
yb 59 .neq (.tmp 58) xq 56 false,
xi 60 (.pick (.tmp 56) xT (.tmp 59))])
(.cond (.tmp 60) (.seq (xr [xi 6 (.move xT)])
.ret)
.skip))
(.seq (.seq (xr [xL 62 3 3,
xc 63 24 [.tmp 62],
xm 61 63,
xe 64 61 0,
xe 65 61 1,
xm 7 64,
xm 8 65])
(.seq (xr [xm 66 8,
xb 67 .neq (.tmp 66) xq])
(.cond (.tmp 67) (.seq (xr [xi 6 (.move xT)])
.ret)
.skip)))
(.seq (xR [xL 69 3 3,
xL 70 4 4,
xm 71 2,
xC 72 11 [.tmp 71],
xC 73 9 [.tmp 69, .tmp 70, .tmp 72],
xm 68 73,
xe 74 68 0,
xe 75 68 1,
xe 76 68 2,
xi 9 (.push [(.slice none 0 0), (.slice none 0 0)]),
xt 2 9 74,
xm 10 75,
xm 11 76])
(.seq (.seq (xr [xm 77 11,
xb 78 .eql (.tmp 77) xq])
(.cond (.tmp 78) (.seq (xr [xL 80 3 3,
xm 81 2,
xf 82 0 9,
xl 83 82,
xc 84 12 [.tmp 80, .tmp 81, .tmp 83],
xm 79 84,
xe 85 79 0,
xe 86 79 1,
xi 12 (.push [xz, (.slice none 0 0), (.slice none 0 0)]),
xt 3 12 85,
xm 13 86])
(.seq (.seq (xr [xm 87 13,
xb 88 .neq (.tmp 87) xq,
xm 89 88,
yf 90 2 12 89 false,
yl 91 90 89 false,
xg 92 (.len false (.tmp 91)) 89 false,
yf 93 2 3 89 false,
yl 94 93 89 false,
xg 95 (.len false (.tmp 94)) 89 false,
yb 96 .neq (.tmp 92) (.tmp 95) 89 false,
xi 97 (.pick (.tmp 89) xT (.tmp 96))])
(.cond (.tmp 97) (.seq (xr [xi 6 (.move xF)])
.ret)
.skip))
(.seq (xr [xi 14 (.push [xz, xz])])
(.seq (.seq (xr [xi 15 (.move xq)])
(.block 0 (.loop (some [4, 12, 14, 15]) (
.seq (.seq (xr [xm 98 15,
xf 99 2 12,
xl 100 99,
xn 101 100,
xB 102 .lss 98 101])
(.cond (.tmp 102) .skip
(.exit 0)))
(.seq (.block 1 (.seq (xr [xf 105 2 12,
xl 106 105,
xm 107 15,
xi 108 (.indexAddr none 10 (.tmp 106) (.tmp 107)),
xL 109 10 108,
xi 16 (.push [xz, xz, xz, xz, xz, xz, xz, xz, (.string ⟨#[]⟩), (.string ⟨#[]⟩)]),
xt 10 16 109])
(.seq (xr [xf 111 0 16,
xL 112 4 111,
xf 113 0 12,
xl 114 113,
xc 115 25 [.tmp 112, .tmp 114],
xm 110 115,
xe 116 110 0,
xe 117 110 1,
xi 17 (.push [xz, xz]),
xt 2 17 116,
xm 18 117])
(.seq (xr [xf 119 1 12,
xl 120 119,
xf 121 5 16,
xL 122 5 121,
xL 123 2 17,
xc 124 26 [.tmp 120, .tmp 122, .tmp 123],
xm 118 124,
xe 125 118 0,
xe 126 118 1,
xi 19 (.push [xz, xz]),
xt 2 19 125,
xm 20 126])
(.seq (xr [xf 128 1 12,
xl 129 128,
xf 130 5 16,
xL 131 5 130,
xf 132 0 17,
xl 133 132,
xf 134 0 17,
xl 135 134,
xi 136 (.build [xz, xz] [(0, 1, (.tmp 133)), (1, 1, (.tmp 135))]),
xc 137 26 [.tmp 129, .tmp 131, .tmp 136],
xm 127 137,
xe 138 127 0,
xe 139 127 1,
xi 21 (.push [xz, xz]),
xt 2 21 138,
xm 22 139])
(.seq (xr [xf 141 1 12,
xl 142 141,
xf 143 5 16,
xL 144 5 143,
xf 145 1 17,
xl 146 145,
xf 147 1 17,
xl 148 147,
xi 149 (.build [xz, xz] [(0, 1, (.tmp 146)), (1, 1, (.tmp 148))]),
xc 150 26 [.tmp 142, .tmp 144, .tmp 149],
xm 140 150,
xe 151 140 0,
xe 152 140 1,
xi 23 (.push [xz, xz]),
xt 2 23 151,
xm 24 152])
(.seq (.seq (xr [xm 153 18,
xb 154 .neq (.tmp 153) xq,
xm 155 154,
ym 156 20 155 false,
yb 157 .neq (.tmp 156) xq 155 false,
xi 158 (.pick (.tmp 155) xT (.tmp 157)),
xm 159 158,
ym 160 22 159 false,
yb 161 .neq (.tmp 160) xq 159 false,
xi 162 (.pick (.tmp 159) xT (.tmp 161)),
xm 163 162,
ym 164 24 163 false,
yb 165 .neq (.tmp 164) xq 163 false,
xi 166 (.pick (.tmp 163) xT (.tmp 165)),
xm 167 166,
yf 168 0 19 167 false,
yl 169 168 167 false,
yf 170 0 4 167 false,
yl 171 170 167 false,
yb 172 .lss (.tmp 169) (.tmp 171) 167 false,
xi 173 (.pick (.tmp 167) xT (.tmp 172)),
xm 174 173,
yf 175 1 19 174 false,
yl 176 175 174 false,
yf 177 1 4 174 false,
yl 178 177 174 false,
yb 179 .gtr (.tmp 176) (.tmp 178) 174 false,
xi 180 (.pick (.tmp 174) xT (.tmp 179)),
xm 181 180,
yf 182 0 21 181 false,
yl 183 182 181 false,
yf 184 0 4 181 false,
yl 185 184 181 false,
yb 186 .lss (.tmp 183) (.tmp 185) 181 false,
xi 187 (.pick (.tmp 181) xT (.tmp 186)),
xm 188 187,
yf 189 1 23 188 false,
yl 190 189 188 false,
yf 191 1 4 188 false,
yl 192 191 188 false,
yb 193 .gtr (.tmp 190) (.tmp 192) 188 false,
xi 194 (.pick (.tmp 188) xT (.tmp 193)),
xm 195 194,
ym 196 15 195 false,
yb 197 .gtr (.tmp 196) xq 195 false,
ym 198 197 195 false,
xg 199 (.load true 2 (.tmp 14)) 198 true,
xg 200 (.load true 2 (.tmp 19)) 198 true,
yf 201 3 4 198 true,
yl 202 201 198 true,
xg 203 (.call 27 [.tmp 199, .tmp 200, .tmp 202]) 198 true,
xg 204 (.pick (.tmp 198) (.tmp 203) xF) 195 false,
xi 205 (.pick (.tmp 195) xT (.tmp 204))])
(.cond (.tmp 205) (.seq (xr [xi 6 (.move xF)])
.ret)
.skip))
(xr [xL 206 2 19,
xt 2 14 206]))))))))
(xr [xm 103 15,
xb 104 .add (.tmp 103) (xk 1),
xm 15 104]))))))
(.seq (xr [xi 6 (.move xT)])
.ret)))))
.skip))
(.seq (.seq (xr [xm 207 11,
xb 208 .neq (.tmp 207) (xk 12),
xm 209 208,
ym 210 10 209 false,
yf 211 2 3 209 false,
yl 212 211 209 false,
xg 213 (.len false (.tmp 212)) 209 false,
yb 214 .sub (.tmp 213) (xk 1) 209 false,
xg 215 (.call 21 [.tmp 210, xq, .tmp 214]) 209 false,
xg 216 (.un .not (.tmp 215)) 209 false,
xi 217 (.pick (.tmp 209) xT (.tmp 216))])
(.cond (.tmp 217) (.seq (xr [xi 6 (.move xF)])
.ret)
.skip))
(.seq (xr [xi 25 (.move (xk 1))])
(.seq (.seq (xr [xi 26 (.move xq)])
(.block 2 (.loop (some [2, 3, 4, 10, 25, 26]) (
.seq (.seq (xr [xm 218 26,
xm 219 10,
xB 220 .leq 218 219])
(.cond (.tmp 220) .skip
(.exit 2)))
(.seq (.block 3 (xr [xm 223 25,
xm 224 2,
xn 225 224,
xB 226 .mul 223 225,
xm 25 226]))
(xr [xm 221 26,
xb 222 .add (.tmp 221) (xk 1),
xm 26 222]))))))
(.seq (.seq (xr [xi 27 (.move xq)])
(.block 4 (.loop (some [2, 3, 4, 10, 25, 27]) (
.seq (.seq (xr [xm 227 27,
xm 228 25,
xB 229 .lss 227 228])
(.cond (.tmp 229) .skip
(.exit 4)))
(.seq (.block 5 (.seq (xr [xf 232 0 3,
xl 233 232,
xf 234 1 3,
xl 235 234,
xi 236 (.build [xz, (.slice none 0 0), (.slice none 0 0)] [(0, 1, (.tmp 233)), (1, 1, (.tmp 235))]),
xi 28 (.push [xz, (.slice none 0 0), (.slice none 0 0)]),
xt 3 28 236])
(.seq (xr [xm 237 27,
xm 29 237])
(.seq (.seq (xr [xi 30 (.move xq)])
(.block 6 (.loop (some [2, 3, 4, 10, 25, 27, 28, 29, 30]) (
.seq (.seq (xr [xm 238 30,
xm 239 10,
xB 240 .leq 238 239])
(.cond (.tmp 240) .skip
(.exit 6)))
(.seq (.block 7 (.seq (xr [xf 243 2 3,
xl 244 243,
xm 245 30,
xi 246 (.indexAddr none 10 (.tmp 244) (.tmp 245)),
xL 247 10 246,
xi 31 (.push [xz, xz, xz, xz, xz, xz, xz, xz, (.string ⟨#[]⟩), (.string ⟨#[]⟩)]),
xt 10 31 247])
(.seq (xr [xm 248 2,
xm 249 29,
xm 250 2,
xn 251 250,
xB 252 .rem 249 251,
xa 253 248 252,
xl 254 253,
xf 255 5 31,
xf 256 1 255,
xt 1 256 254])
(.seq (xr [xm 257 29,
xm 258 2,
xn 259 258,
xB 260 .quo 257 259,
xm 29 260])
(xr [xf 261 2 28,
xl 262 261,
xL 263 10 31,
xi 264 (.buildSlice 10 1 [xz, xz, xz, xz, xz, xz, xz, xz, (.string ⟨#[]⟩), (.string ⟨#[]⟩)] [(0, 10, (.tmp 263))]),
xi 265 (.appendT 10 96 (.tmp 262) (.tmp 264)),
xf 266 2 28,
xt 1 266 265])))))
(xr [xm 241 30,
xb 242 .add (.tmp 241) (xk 1),
xm 30 242]))))))
(.seq (xr [xL 268 3 28,
xL 269 4 4,
xc 270 13 [.tmp 268, .tmp 269],
xm 267 270,
xe 271 267 0,
xe 272 267 1,
xm 32 271,
xm 33 272])
(.seq (xr [xm 273 33,
xb 274 .eql (.tmp 273) xq])
(.cond (.tmp 274) (.seq (xr [xi 6 (.move xF)])
.ret)
.skip)))))))
(xr [xm 230 27,
xb 231 .add (.tmp 230) (xk 1),
xm 27 231]))))))
(.seq (xr [xi 6 (.move xT)])
.ret)))))))))),
[.tmp 6], .full, 275⟩
def ef7 : EFun := ⟨
.seq (xr [xv 1 0,
xi 2 (.move xF)])
(.seq (.seq (xr [xf 4 1 1,
xl 5 4,
xc 6 33 [.tmp 5],
xi 7 (.un .not (.tmp 6)),
xm 8 7,
yf 9 2 1 8 false,
yl 10 9 8 false,
xg 11 (.len false (.tmp 10)) 8 false,
yb 12 .gtr (.tmp 11) (xk 6) 8 false,
xi 13 (.pick (.tmp 8) xT (.tmp 12))])
(.cond (.tmp 13) (.seq (xr [xi 2 (.move xF)])
.ret)
.skip))
(.seq (.seq (xr [xi 3 (.move xq)])
(.block 0 (.loop (some [1, 3]) (
.seq (.seq (xr [xm 14 3,
xf 15 2 1,
xl 16 15,
xn 17 16,
xB 18 .lss 14 17])
(.cond (.tmp 18) .skip
(.exit 0)))
(.seq (.block 1 (.seq (xr [xf 21 2 1,
xl 22 21,
xm 23 3,
xi 24 (.indexAddr none 10 (.tmp 22) (.tmp 23)),
xf 25 5 24,
xL 26 5 25,
xc 27 34 [.tmp 26],
xi 28 (.un .not (.tmp 27))])
(.cond (.tmp 28) (.seq (xr [xi 2 (.move xF)])
.ret)
.skip)))
(xr [xm 19 3,
xb 20 .add (.tmp 19) (xk 1),
xm 3 20]))))))
(.seq (xr [xi 2 (.move xT)])
.ret))),
[.tmp 2], .pure, 29⟩
def ef9 : EFun := ⟨
.seq (xr [xv 3 0,
xv 4 1,
xi 6 (.push [(.slice none 0 0), (.slice none 0 0)]),
xi 7 (.move xq),
xi 8 (.move xq)])
(.seq (xr [xL 21 3 3,
xL 22 4 4,
xm 23 2,
xc 24 35 [.tmp 21, .tmp 22, .tmp 23],
xm 20 24,
xe 25 20 0,
xe 26 20 1,
xm 9 25,
xm 10 26])
(.seq (.seq (xr [xm 27 10,
xb 28 .neq (.tmp 27) xq,
xm 29 28,
yf 30 2 3 29 false,
yl 31 30 29 false,
xg 32 (.len false (.tmp 31)) 29 false,
yb 33 .eql (.tmp 32) xq 29 false,
xi 34 (.pick (.tmp 29) xT (.tmp 33))])
(.cond (.tmp 34) (.seq (xr [xi 35 (.build [(.slice none 0 0), (.slice none 0 0)] []),
xm 36 10,
xt 2 6 35,
xi 7 (.move xq),
xm 8 36])
.ret)
.skip))
(.seq (xr [xm 37 9,
xc 38 36 [.tmp 37],
xm 11 38])
(.seq (.seq (xr [xm 39 11,
xn 40 39,
xi 41 (.move xq)])
(.block 0 (.loop (some [6, 9, 11, 39, 40, 41]) (
.seq (xr [xB 42 .lss 41 40])
(.seq (.cond (.tmp 42) .skip
(.exit 0))
(.seq (.block 1 (.seq (xr [xm 43 41,
xa 44 39 41,
xl 45 44,
xm 12 43,
xm 13 45])
(.seq (xr [xm 46 9,
xm 47 12,
xm 48 13,
xc 49 37 [.tmp 46, .tmp 47, .tmp 48],
xb 50 .lss (.tmp 49) xq])
(.cond (.tmp 50) (.seq (xr [xi 51 (.build [(.slice none 0 0), (.slice none 0 0)] []),
xm 52 12,
xt 2 6 51,
xm 7 52,
xi 8 (.move (xk 12))])
.ret)
.skip))))
(xr [xb 53 .add (.tmp 41) (xk 1),
xm 41 53])))))))
(.seq (xr [xm 54 11,
xn 55 54,
xb 56 .sub (.tmp 55) (xk 1),
xm 14 56])
(.seq (xr [xm 57 11,
xn 58 57,
xi 59 (.makeSlice 1 8 [xz] (.tmp 58) (.tmp 58)),
xm 60 11,
xi 61 (.build [(.slice none 0 0), (.slice none 0 0)] [(0, 1, (.tmp 59)), (1, 1, (.tmp 60))]),
xi 15 (.push [(.slice none 0 0), (.slice none 0 0)]),
xt 2 15 61])
(.seq (xR [xf 62 0 15,
xl 63 62,
xm 64 14,
xm 65 9,
xm 66 14,
xm 67 11,
xm 68 14,
xa 69 67 68,
xl 70 69,
xC 71 37 [.tmp 65, .tmp 66, .tmp 70],
xa 72 63 64,
xt 1 72 71])
(.seq (.seq (xr [xm 73 14,
xb 74 .sub (.tmp 73) (xk 1),
xm 16 74])
(.block 2 (.loop (some [6, 9, 11, 14, 15, 16]) (
.seq (.seq (xr [xm 75 16,
xb 76 .geq (.tmp 75) xq])
(.cond (.tmp 76) .skip
(.exit 2)))
(.seq (.block 3 (.seq (xr [xf 79 0 15,
xl 80 79,
xm 81 16,
xb 82 .add (.tmp 81) (xk 1),
xa 83 80 82,
xl 84 83,
xm 17 84])
(.seq (xr [xm 85 11,
xm 86 16,
xa 87 85 86,
xl 88 87,
xn 89 88,
xi 90 (.move xq)])
(.block 4 (.loop (some [6, 9, 11, 14, 15, 16, 17, 88, 89, 90]) (
.seq (xr [xB 91 .lss 90 89])
(.seq (.cond (.tmp 91) .skip
(.exit 4))
(.seq (.block 5 (.seq (xr [xm 92 90,
xa 93 88 90,
xl 94 93,
xm 18 92,
xm 19 94])
(.seq (xR [xm 95 9,
xm 96 16,
xm 97 18,
xm 98 17,
xc 99 38 [.tmp 95, .tmp 96, .tmp 97, .tmp 98],
xm 100 99,
ym 101 19 100 true,
ym 102 18 100 true,
ym 103 17 100 true,
⟨(some 104), .call 39 [.tmp 102, .tmp 103], (some (100, true)), [], false, true⟩,
yb 105 .add (.tmp 101) (.tmp 104) 100 true,
ym 106 11 100 true,
ym 107 16 100 true,
yb 108 .add (.tmp 107) (xk 1) 100 true,
ya 109 106 108 100 true,
yl 110 109 100 true,
ym 111 17 100 true,
ya 112 110 111 100 true,
yl 113 112 100 true,
yb 114 .eql (.tmp 105) (.tmp 113) 100 true,
xi 115 (.pick (.tmp 100) (.tmp 114) xF)])
(.cond (.tmp 115) (.seq (xr [xf 116 0 15,
xl 117 116,
xm 118 16,
xm 119 18,
xa 120 117 118,
xt 1 120 119])
(.exit 4))
.skip))))
(xr [xb 121 .add (.tmp 90) (xk 1),
xm 90 121])))))))))
(xr [xm 77 16,
xb 78 .sub (.tmp 77) (xk 1),
xm 16 78]))))))
(.seq (xR [xL 122 2 15,
xm 123 11,
xm 124 14,
xa 125 123 124,
⟨(some 126), .load false 1 (.tmp 125), none, [], true, false⟩,
xf 127 0 15,
⟨(some 128), .load false 1 (.tmp 127), none, [], true, false⟩,
xm 129 14,
xa 130 128 129,
⟨(some 131), .load false 1 (.tmp 130), none, [], true, false⟩,
xa 132 126 131,
⟨(some 133), .load false 1 (.tmp 132), none, [], true, false⟩,
⟨none, .store 2 (.tmp 6) (.tmp 122), none, [4, 6, 9, 11], false, false⟩,
xm 7 133,
xi 8 (.move xq)])
.ret))))))))),
[.cell 6 true 2, .tmp 7, .tmp 8], .full, 134⟩
def ef11 : EFun := ⟨
.seq (xr [xi 2 (.move (.const (.slice none 0 0)))])
(.seq (xr [xi 3 (.buildSlice 1 0 [] []),
xm 4 0,
xi 5 (.append 1 8 (.tmp 3) (.tmp 4)),
xm 2 5])
.ret),
[.tmp 2], .pure, 6⟩
def ef12 : EFun := ⟨
.seq (xr [xv 3 0,
xi 6 (.push [xz, (.slice none 0 0), (.slice none 0 0)]),
xi 7 (.move xq)])
(.seq (.seq (xr [xL 17 3 3,
xc 18 40 [.tmp 17],
xm 16 18,
xe 19 16 0,
xe 20 16 1,
xm 8 19,
xm 9 20])
(.seq (xr [xm 21 9,
xb 22 .neq (.tmp 21) xq])
(.cond (.tmp 22) (.seq (xr [xi 23 (.build [xz, (.slice none 0 0), (.slice none 0 0)] []),
xm 24 9,
xt 3 6 23,
xm 7 24])
.ret)
.skip)))
(.seq (.seq (xr [xm 25 1,
xc 26 41 [.tmp 25],
xm 10 26])
(.seq (xr [xm 27 10,
xb 28 .neq (.tmp 27) xq])
(.cond (.tmp 28) (.seq (xr [xi 29 (.build [xz, (.slice none 0 0), (.slice none 0 0)] []),
xm 30 10,
xt 3 6 29,
xm 7 30])
.ret)
.skip)))
(.seq (.seq (xr [xm 31 2,
xn 32 31,
xf 33 2 3,
xl 34 33,
xn 35 34,
xB 36 .neq 32 35])
(.cond (.tmp 36) (.seq (xr [xi 37 (.build [xz, (.slice none 0 0), (.slice none 0 0)] []),
xt 3 6 37,
xi 7 (.move (xk 10))])
.ret)
.skip))
(.seq (xR [xf 38 0 3,
xl 39 38,
xf 40 1 3,
xl 41 40,
xC 42 42 [.tmp 41],
xf 43 2 3,
xl 44 43,
xC 45 43 [.tmp 44],
xi 46 (.build [xz, (.slice none 0 0), (.slice none 0 0)] [(0, 1, (.tmp 39)), (1, 1, (.tmp 42)), (2, 1, (.tmp 45))]),
xi 11 (.push [xz, (.slice none 0 0), (.slice none 0 0)]),
xt 3 11 46])
(.seq (.seq (xr [xm 47 2,
xn 48 47,
xi 49 (.move xq)])
(.block 0 (.loop (some [1, 6, 11, 47, 48, 49]) (
.seq (xr [xB 50 .lss 49 48])
(.seq (.cond (.tmp 50) .skip
(.exit 0))
(.seq (.block 1 (.seq (xr [xm 51 49,
xa 52 47 49,
xl 53 52,
xm 12 51,
xm 13 53])
(.seq (.seq (xr [xm 54 13,
xm 55 1,
xn 56 55,
xb 57 .sub (.tmp 56) (xk 1),
xc 58 44 [.tmp 54, xq, .tmp 57],
xi 59 (.un .not (.tmp 58))])
(.cond (.tmp 59) (.seq (xr [xi 60 (.build [xz, (.slice none 0 0), (.slice none 0 0)] []),
xt 3 6 60,
xi 7 (.move (xk 6))])
.ret)
.skip))
(xR [xf 61 2 11,
xl 62 61,
xm 63 12,
xm 64 1,
xm 65 13,
xa 66 64 65,
xl 67 66,
xi 68 (.indexAddr none 10 (.tmp 62) (.tmp 63)),
xf 69 5 68,
xf 70 1 69,
xt 1 70 67]))))
(xr [xb 71 .add (.tmp 49) (xk 1),
xm 49 71])))))))
(.seq (.seq (xr [xL 73 3 11,
xc 74 40 [.tmp 73],
xm 72 74,
xe 75 72 0,
xe 76 72 1,
xm 14 75,
xm 15 76])
(.seq (xr [xm 77 15,
xb 78 .neq (.tmp 77) xq])
(.cond (.tmp 78) (.seq (xr [xi 79 (.build [xz, (.slice none 0 0), (.slice none 0 0)] []),
xm 80 15,
xt 3 6 79,
xm 7 80])
.ret)
.skip)))
(.seq (xr [xL 81 3 11,
xt 3 6 81,
xi 7 (.move xq)])
.ret))))))),
[.cell 6 true 3, .tmp 7], .pure, 82⟩
def ef13 : EFun := ⟨
.seq (xr [xv 2 0,
xv 3 1,
xi 4 (.move xq),
xi 5 (.move xq)])
(.seq (xr [xL 12 3 2,
xc 13 45 [.tmp 12],
xm 11 13,
xe 14 11 0,
xe 15 11 1,
xm 6 14,
xm 7 15])
(.seq (.seq (xr [xm 16 7,
xb 17 .neq (.tmp 16) xq])
(.cond (.tmp 17) (.seq (xr [xm 18 7,
xi 4 (.move xq),
xm 5 18])
.ret)
.skip))
(.seq (.seq (xr [xL 19 4 3,
xc 20 46 [.tmp 19],
xm 8 20])
(.seq (xr [xm 21 8,
xb 22 .neq (.tmp 21) xq])
(.cond (.tmp 22) (.seq (xr [xm 23 8,
xi 4 (.move xq),
xm 5 23])
.ret)
.skip)))
(.seq (.seq (xr [xm 24 6,
xn 25 24,
xi 26 (.move xq)])
(.block 0 (.loop (some [2, 3, 6, 24, 25, 26]) (
.seq (xr [xB 27 .lss 26 25])
(.seq (.cond (.tmp 27) .skip
(.exit 0))
(.seq (.block 1 (.seq (xr [xm 28 26,
xi 29 (.indexAddr none 2 (.tmp 24) (.tmp 26)),
xL 30 2 29,
xi 10 (.push [xz, xz]),
xm 9 28,
xt 2 10 30])
(.seq (xR [xL 31 3 2,
xm 32 9,
xC 33 47 [.tmp 31, .tmp 32],
xL 34 4 3,
xc 35 48 [.tmp 33, .tmp 34],
xi 36 (.un .not (.tmp 35)),
xm 37 36,
ym 38 9 37 false,
yb 39 .gtr (.tmp 38) xq 37 false,
ym 40 39 37 false,
ym 41 6 40 true,
ym 42 9 40 true,
yb 43 .sub (.tmp 42) (xk 1) 40 true,
xg 44 (.indexAddr none 2 (.tmp 41) (.tmp 43)) 40 true,
xg 45 (.load true 2 (.tmp 44)) 40 true,
xg 46 (.load true 2 (.tmp 10)) 40 true,
⟨(some 47), .call 49 [.tmp 45, .tmp 46], (some (40, true)), [], false, true⟩,
yf 48 3 3 40 true,
yl 49 48 40 true,
yb 50 .gtr (.tmp 47) (.tmp 49) 40 true,
xg 51 (.pick (.tmp 40) (.tmp 50) xF) 37 false,
xi 52 (.pick (.tmp 37) xT (.tmp 51))])
(.cond (.tmp 52) (.seq (xr [xm 53 9,
xm 4 53,
xi 5 (.move (xk 26))])
.ret)
.skip))))
(xr [xb 54 .add (.tmp 26) (xk 1),
xm 26 54])))))))
(.seq (xr [xi 4 (.move (.const (.int .i64 (-1)))),
xi 5 (.move xq)])
.ret))))),
[.tmp 4, .tmp 5], .pure, 55⟩
def ef20 : EFun := ⟨
.seq (xr [xi 0 (.move xF)])
(.seq (xr [xi 6 (.build [xz, xz, xz, xz] [(3, 1, (xk 1))]),
xc 7 25 [.tmp 6, (xk 440000)],
xm 5 7,
xe 8 5 0,
xe 9 5 1,
xi 1 (.push [xz, xz]),
xt 2 1 8,
xm 2 9])
(.seq (xR [xC 11 28 [],
xC 12 29 [],
xL 13 2 1,
xC 14 26 [.tmp 11, .tmp 12, .tmp 13],
xm 10 14,
xe 15 10 0,
xe 16 10 1,
xi 3 (.push [xz, xz]),
xt 2 3 15,
xm 4 16])
(.seq (xr [xm 17 2,
xb 18 .eql (.tmp 17) xq,
xm 19 18,
xg 20 (.load true 2 (.tmp 1)) 19 true,
xg 21 (.build [xz, xz] [(0, 1, (xk 440000)), (1, 1, (xk 440000))]) 19 true,
xg 22 (.eqAgg false [(.int .i64), (.int .i64)] (.tmp 20) (.tmp 21)) 19 true,
xi 23 (.pick (.tmp 19) (.tmp 22) xF),
xm 24 23,
ym 25 4 24 true,
yb 26 .eql (.tmp 25) xq 24 true,
xi 27 (.pick (.tmp 24) (.tmp 26) xF),
xm 28 27,
xg 29 (.load true 2 (.tmp 3)) 28 true,
xg 30 (.build [xz, xz] [(0, 1, (xk 76389)), (1, 1, (xk 76390))]) 28 true,
xg 31 (.eqAgg false [(.int .i64), (.int .i64)] (.tmp 29) (.tmp 30)) 28 true,
xi 32 (.pick (.tmp 28) (.tmp 31) xF),
xm 0 32])
.ret))),
[.tmp 0], .pure, 33⟩
def ef21 : EFun := ⟨
.seq (xr [xi 6 (.move xF)])
(.seq (xr [xm 7 0,
xm 8 1,
xB 9 .geq 7 8,
xm 10 9,
ym 11 0 10 true,
ym 12 2 10 true,
yb 13 .leq (.tmp 11) (.tmp 12) 10 true,
xi 14 (.pick (.tmp 10) (.tmp 13) xF),
xm 6 14])
.ret),
[.tmp 6], .pure, 15⟩
def ef22 : EFun := ⟨
.seq (xr [xv 1 0,
xi 2 (.move xq)])
(.seq (.seq (xr [xf 3 0 1,
xl 4 3,
xc 5 21 [.tmp 4, xq, (xk 1000000000000000)],
xi 6 (.un .not (.tmp 5)),
xm 7 6,
yf 8 1 1 7 false,
yl 9 8 7 false,
xg 10 (.call 21 [.tmp 9, xq, (xk 1000000000000000)]) 7 false,
xg 11 (.un .not (.tmp 10)) 7 false,
xi 12 (.pick (.tmp 7) xT (.tmp 11)),
xm 13 12,
yf 14 3 1 13 false,
yl 15 14 13 false,
xg 16 (.call 21 [.tmp 15, xq, (xk 1000000000000000)]) 13 false,
xg 17 (.un .not (.tmp 16)) 13 false,
xi 18 (.pick (.tmp 13) xT (.tmp 17)),
xm 19 18,
yf 20 2 1 19 false,
yl 21 20 19 false,
xg 22 (.call 21 [.tmp 21, xq, (xk 1000000)]) 19 false,
xg 23 (.un .not (.tmp 22)) 19 false,
xi 24 (.pick (.tmp 19) xT (.tmp 23))])
(.cond (.tmp 24) (.seq (xr [xi 2 (.move (xk 2))])
.ret)
.skip))
(.seq (.seq (xr [xf 25 0 1,
xl 26 25,
xf 27 1 1,
xl 28 27,
xB 29 .gtr 26 28])
(.cond (.tmp 29) (.seq (xr [xi 2 (.move (xk 9))])
.ret)
.skip))
(.seq (xr [xi 2 (.move xq)])
.ret))),
[.tmp 2], .pure, 30⟩
def ef23 : EFun := ⟨
.seq (xr [xi 2 (.move xq)])
(.seq (.seq (xr [xm 4 0,
xn 5 4,
xb 6 .eql (.tmp 5) xq,
xm 7 6,
ym 8 0 7 false,
xg 9 (.len false (.tmp 8)) 7 false,
yb 10 .gtr (.tmp 9) (xk 20) 7 false,
xi 11 (.pick (.tmp 7) xT (.tmp 10))])
(.cond (.tmp 11) (.seq (xr [xi 2 (.move (xk 8))])
.ret)
.skip))
(.seq (.seq (xr [xi 3 (.move xq)])
(.block 0 (.loop (some [0, 3]) (
.seq (.seq (xr [xm 12 3,
xm 13 0,
xn 14 13,
xB 15 .lss 12 14])
(.cond (.tmp 15) .skip
(.exit 0)))
(.seq (.block 1 (.seq (.seq (xr [xm 18 0,
xm 19 3,
xa 20 18 19,
xl 21 20,
xc 22 21 [.tmp 21, (xk 100), (xk 3000)],
xi 23 (.un .not (.tmp 22))])
(.cond (.tmp 23) (.seq (xr [xi 2 (.move (xk 2))])
.ret)
.skip))
(.seq (xR [xm 24 3,
xb 25 .gtr (.tmp 24) xq,
xm 26 25,
ym 27 0 26 true,
ym 28 3 26 true,
yb 29 .sub (.tmp 28) (xk 1) 26 true,
ya 30 27 29 26 true,
yl 31 30 26 true,
ym 32 0 26 true,
ym 33 3 26 true,
ya 34 32 33 26 true,
yl 35 34 26 true,
yb 36 .geq (.tmp 31) (.tmp 35) 26 true,
xi 37 (.pick (.tmp 26) (.tmp 36) xF)])
(.cond (.tmp 37) (.seq (xr [xi 2 (.move (xk 9))])
.ret)
.skip))))
(xr [xm 16 3,
xb 17 .add (.tmp 16) (xk 1),
xm 3 17]))))))
(.seq (xr [xi 2 (.move xq)])
.ret))),
[.tmp 2], .pure, 38⟩
def ef24 : EFun := ⟨
.seq (xr [xv 1 0,
xi 2 (.move xq),
xi 3 (.move xq)])
(.seq (.seq (xr [xf 7 0 1,
xl 8 7,
xc 9 21 [.tmp 8, (xk 1000), (xk 10000000)],
xi 10 (.un .not (.tmp 9))])
(.cond (.tmp 10) (.seq (xr [xi 2 (.move xq),
xi 3 (.move (xk 2))])
.ret)
.skip))
(.seq (.seq (xr [xf 11 1 1,
xl 12 11,
xc 13 61 [.tmp 12],
xm 4 13])
(.seq (xr [xm 14 4,
xb 15 .neq (.tmp 14) xq])
(.cond (.tmp 15) (.seq (xr [xm 16 4,
xi 2 (.move xq),
xm 3 16])
.ret)
.skip)))
(.seq (.seq (xr [xf 17 2 1,
xl 18 17,
xn 19 18,
xb 20 .gtr (.tmp 19) (xk 90)])
(.cond (.tmp 20) (.seq (xr [xi 2 (.move xq),
xi 3 (.move (xk 8))])
.ret)
.skip))
(.seq (.seq (xr [xi 5 (.move xq)])
(.block 0 (.loop (some [1, 5]) (
.seq (.seq (xr [xm 21 5,
xf 22 2 1,
xl 23 22,
xn 24 23,
xB 25 .lss 21 24])
(.cond (.tmp 25) .skip
(.exit 0)))
(.seq (.block 1 (.seq (xr [xL 28 3 1,
xm 29 5,
xc 30 62 [.tmp 28, .tmp 29],
xm 6 30])
(.seq (xr [xm 31 6,
xb 32 .neq (.tmp 31) xq])
(.cond (.tmp 32) (.seq (xr [xm 33 5,
xm 34 6,
xm 2 33,
xm 3 34])
.ret)
.skip))))
(xr [xm 26 5,
xb 27 .add (.tmp 26) (xk 1),
xm 5 27]))))))
(.seq (xr [xi 2 (.move xq),
xi 3 (.move xq)])
.ret))))),
[.tmp 2, .tmp 3], .pure, 35⟩
def ef25 : EFun := ⟨
.seq (xr [xv 2 0,
xi 4 (.push [xz, xz]),
xi 5 (.move xq)])
(.seq (.seq (xr [xL 13 4 2,
xc 14 63 [.tmp 13],
xm 6 14])
(.seq (xr [xm 15 6,
xb 16 .neq (.tmp 15) xq])
(.cond (.tmp 16) (.seq (xr [xi 17 (.build [xz, xz] []),
xm 18 6,
xt 2 4 17,
xm 5 18])
.ret)
.skip)))
(.seq (.seq (xr [xm 19 1,
xc 20 64 [.tmp 19, (xk 1), (xk 1000000000)],
xi 21 (.un .not (.tmp 20))])
(.cond (.tmp 21) (.seq (xr [xi 22 (.build [xz, xz] []),
xt 2 4 22,
xi 5 (.move (xk 2))])
.ret)
.skip))
(.seq (xr [xL 23 4 2,
xc 24 65 [.tmp 23],
xt 4 2 24])
(.seq (xr [xL 25 4 2,
xc 26 67 [.tmp 25],
xc 27 66 [.tmp 26],
xi 7 (.push [(.slice none 0 0), (.slice none 0 0)]),
xt 2 7 27])
(.seq (xr [xm 28 1,
xi 29 (.conv .u64 (.tmp 28)),
xf 30 3 2,
xl 31 30,
xf 32 0 7,
xl 33 32,
xc 34 68 [.tmp 29, .tmp 31, .tmp 33],
xf 35 0 7,
xt 1 35 34])
(.seq (xr [xi 36 (.makeFunc (.func 69) [.tmp 2, .tmp 7]),
xm 8 36])
(.seq (xr [xi 9 (.move xq),
xi 10 (.move (xk 1000000000000001))])
(.seq (.block 0 (.loop (some [4, 8, 9, 10]) (
.seq (.seq (xr [xm 37 9,
xm 38 10,
xB 39 .lss 37 38])
(.cond (.tmp 39) .skip
(.exit 0)))
(.block 1 (.seq (xr [xm 40 10,
xm 41 10,
xm 42 9,
xB 43 .sub 41 42,
xb 44 .quo (.tmp 43) (xk 2),
xB 45 .sub 40 44,
xm 11 45])
(.seq (xr [xm 46 8,
xm 47 11,
xi 48 (.callVal (.tmp 46) [.tmp 47]),
xb 49 .leq (.tmp 48) xq])
(.cond (.tmp 49) (xr [xm 50 11,
xm 9 50])
(xr [xm 51 11,
xb 52 .sub (.tmp 51) (xk 1),
xm 10 52]))))))))
(.seq (xr [xm 53 9,
xm 54 9,
xi 55 (.build [xz, xz] [(0, 1, (.tmp 53)), (1, 1, (.tmp 54))]),
xi 12 (.push [xz, xz]),
xt 2 12 55])
(.seq (.seq (xr [xm 56 9,
xb 57 .eql (.tmp 56) xq,
xm 58 57,
ym 59 8 58 false,
ym 60 9 58 false,
xg 61 (.callVal (.tmp 59) [.tmp 60]) 58 false,
yb 62 .neq (.tmp 61) xq 58 false,
xi 63 (.pick (.tmp 58) xT (.tmp 62))])
(.cond (.tmp 63) (xr [xf 64 1 12,
xl 65 64,
xb 66 .add (.tmp 65) (xk 1),
xf 67 1 12,
xt 1 67 66])
.skip))
(.seq (xr [xL 68 2 12,
xc 69 71 [.tmp 68],
xe 70 69 0,
xe 71 69 1,
xt 2 4 70,
xm 5 71])
.ret))))))))))),
[.cell 4 true 2, .tmp 5], .pure, 72⟩
def ef26 : EFun := ⟨
.seq (xr [xv 4 1,
xv 5 2,
xi 6 (.push [xz, xz]),
xi 7 (.move xq)])
(.seq (xr [xm 11 0,
xL 12 5 4,
xL 13 2 5,
xc 14 72 [.tmp 11, .tmp 12, .tmp 13],
xm 10 14,
xe 15 10 0,
xe 16 10 1,
xi 8 (.push [(.string ⟨#[]⟩), xz, xz, xz, xz, xz, xz, (.string ⟨#[]⟩), (.string ⟨#[]⟩), xz, xz, xz, xz]),
xt 13 8 15,
xm 9 16])
(.seq (xr [xf 17 11 8,
xL 18 2 17,
xm 19 9,
xt 2 6 18,
xm 7 19])
.ret)),
[.cell 6 true 2, .tmp 7], .pure, 20⟩
def ef27 : EFun := ⟨
.seq (xr [xv 3 0,
xv 4 1,
xi 6 (.move xF)])
(.seq (xr [xf 7 1 3,
xl 8 7,
xf 9 0 4,
xl 10 9,
xB 11 .sub 8 10,
xm 12 2,
xB 13 .gtr 11 12,
xm 14 13,
yf 15 1 4 14 false,
yl 16 15 14 false,
yf 17 0 3 14 false,
yl 18 17 14 false,
yb 19 .sub (.tmp 16) (.tmp 18) 14 false,
ym 20 2 14 false,
yb 21 .gtr (.tmp 19) (.tmp 20) 14 false,
xi 22 (.pick (.tmp 14) xT (.tmp 21)),
xm 6 22])
.ret),
[.tmp 6], .pure, 23⟩
def ef28 : EFun := ⟨
.seq (xr [xi 0 (.move (.const (.slice none 0 0)))])
(.seq (xr [xi 1 (.build [(.string ⟨#[]⟩), xz, xz, xz] [(0, 1, (.const (.string ⟨#[115, 116, 101, 101, 108]⟩))), (1, 1, (xk 24661)), (2, 1, (xk 180000)), (3, 1, (xk 97000000))]),
xi 2 (.buildSlice 4 1 [(.string ⟨#[]⟩), xz, xz, xz] [(0, 4, (.tmp 1))]),
xm 0 2])
.ret),
[.tmp 0], .pure, 3⟩
def ef29 : EFun := ⟨
.seq (xr [xi 0 (.push [xz, xz, xz, (.string ⟨#[]⟩), (.string ⟨#[]⟩)])])
(.seq (xr [xi 1 (.build [xz, xz, xz, (.string ⟨#[]⟩), (.string ⟨#[]⟩)] [(0, 1, (xk 40000)), (1, 1, (xk 1000)), (3, 1, (.const (.string ⟨#[115, 116, 101, 101, 108]⟩)))]),
xt 5 0 1])
.ret),
[.cell 0 true 5], .pure, 2⟩
def ef33 : EFun := ⟨
.seq (xr [xi 2 (.move xF)])
(.seq (.seq (xr [xm 4 0,
xn 5 4,
xb 6 .gtr (.tmp 5) (xk 6),
xm 7 6,
ym 8 0 7 true,
xg 9 (.len false (.tmp 8)) 7 true,
yb 10 .leq (.tmp 9) (xk 20) 7 true,
xi 11 (.pick (.tmp 7) (.tmp 10) xF),
xm 12 11,
ym 13 0 12 false,
xg 14 (.len false (.tmp 13)) 12 false,
yb 15 .gtr (.tmp 14) (xk 23) 12 false,
xi 16 (.pick (.tmp 12) xT (.tmp 15))])
(.cond (.tmp 16) (.seq (xr [xi 2 (.move xF)])
.ret)
.skip))
(.seq (.seq (xr [xi 3 (.move xq)])
(.block 0 (.loop (some [0, 3]) (
.seq (.seq (xr [xm 17 3,
xm 18 0,
xn 19 18,
xB 20 .lss 17 19])
(.cond (.tmp 20) .skip
(.exit 0)))
(.seq (.block 1 (.seq (xr [xm 23 0,
xm 24 3,
xi 25 (.indexAddr none 4 (.tmp 23) (.tmp 24)),
xf 26 0 25,
xl 27 26,
xi 28 (.len true (.tmp 27)),
xb 29 .gtr (.tmp 28) (xk 20)])
(.cond (.tmp 29) (.seq (xr [xi 2 (.move xF)])
.ret)
.skip)))
(xr [xm 21 3,
xb 22 .add (.tmp 21) (xk 1),
xm 3 22]))))))
(.seq (xr [xi 2 (.move xT)])
.ret))),
[.tmp 2], .pure, 30⟩
def ef34 : EFun := ⟨
.seq (xr [xv 1 0,
xi 2 (.move xF)])
(.seq (xr [xf 3 3 1,
xl 4 3,
xi 5 (.len true (.tmp 4)),
xb 6 .leq (.tmp 5) (xk 20),
xm 7 6,
yf 8 4 1 7 true,
yl 9 8 7 true,
xg 10 (.len true (.tmp 9)) 7 true,
yb 11 .leq (.tmp 10) (xk 20) 7 true,
xi 12 (.pick (.tmp 7) (.tmp 11) xF),
xm 2 12])
.ret),
[.tmp 2], .pure, 13⟩
def ef35 : EFun := ⟨
.seq (xr [xv 3 0,
xv 4 1,
xi 6 (.move (.const (.pointer none))),
xi 7 (.move xq)])
(.seq (.seq (xr [xL 23 3 3,
xc 24 40 [.tmp 23],
xm 22 24,
xe 25 22 0,
xe 26 22 1,
xm 8 25,
xm 9 26])
(.seq (xr [xm 27 9,
xb 28 .neq (.tmp 27) xq])
(.cond (.tmp 28) (.seq (xr [xm 29 9,
xi 6 (.move (.const (.pointer none))),
xm 7 29])
.ret)
.skip)))
(.seq (.seq (xr [xL 30 4 4,
xc 31 46 [.tmp 30],
xm 10 31])
(.seq (xr [xm 32 10,
xb 33 .neq (.tmp 32) xq])
(.cond (.tmp 33) (.seq (xr [xm 34 10,
xi 6 (.move (.const (.pointer none))),
xm 7 34])
.ret)
.skip)))
(.seq (.seq (xr [xm 35 2,
xc 36 41 [.tmp 35],
xm 11 36])
(.seq (xr [xm 37 11,
xb 38 .neq (.tmp 37) xq])
(.cond (.tmp 38) (.seq (xr [xm 39 11,
xi 6 (.move (.const (.pointer none))),
xm 7 39])
.ret)
.skip)))
(.seq (xr [xf 40 3 4,
xl 41 40,
xi 42 (.build [(.slice none 0 0), (.slice none 0 0), xz] [(2, 1, (.tmp 41))]),
xv 43 42,
xm 12 43])
(.seq (.seq (xr [xf 44 2 3,
xl 45 44,
xn 46 45,
xi 47 (.move xq)])
(.block 0 (.loop (some [2, 3, 4, 12, 45, 46, 47]) (
.seq (xr [xB 48 .lss 47 46])
(.seq (.cond (.tmp 48) .skip
(.exit 0))
(.seq (.block 1 (.seq (xr [xm 49 47,
xi 50 (.indexAddr none 10 (.tmp 45) (.tmp 47)),
xL 51 10 50,
xi 14 (.push [xz, xz, xz, xz, xz, xz, xz, xz, (.string ⟨#[]⟩), (.string ⟨#[]⟩)]),
xm 13 49,
xt 10 14 51])
(.seq (xr [xL 52 3 3,
xm 53 13,
xc 54 75 [.tmp 52, .tmp 53],
xi 15 (.push [xz, xz]),
xt 2 15 54])
(.seq (xR [xm 55 2,
xn 56 55,
xi 57 (.makeSlice 1 1 [(.bool false)] (.tmp 56) (.tmp 56)),
xm 58 2,
xn 59 58,
xi 60 (.makeSlice 2 16 [xz, xz] (.tmp 59) (.tmp 59)),
xm 16 57,
xm 17 60])
(.seq (.seq (xr [xm 61 2,
xn 62 61,
xi 63 (.move xq)])
(.block 2 (.loop (some [2, 3, 4, 12, 14, 15, 16, 17, 45, 46, 47, 61, 62, 63]) (
.seq (xr [xB 64 .lss 63 62])
(.seq (.cond (.tmp 64) .skip
(.exit 2))
(.seq (.block 3 (.seq (xr [xm 65 63,
xa 66 61 63,
xl 67 66,
xm 18 65,
xm 19 67])
(.seq (xr [xf 68 5 14,
xL 69 5 68,
xi 20 (.push [xz, xz, xz, (.string ⟨#[]⟩), (.string ⟨#[]⟩)]),
xt 5 20 69])
(.seq (xr [xm 70 19,
xf 71 1 20,
xt 1 71 70])
(.seq (.seq (xr [xf 72 1 3,
xl 73 72,
xL 74 5 20,
xc 75 76 [.tmp 73, .tmp 74],
xb 76 .neq (.tmp 75) xq])
(.cond (.tmp 76) (.exit 3)
.skip))
(.seq (xr [xf 77 1 3,
xl 78 77,
xL 79 5 20,
xL 80 2 15,
xc 81 77 [.tmp 78, .tmp 79, .tmp 80],
xi 21 (.push [(.string ⟨#[]⟩), xz, xz, xz, xz, xz, xz, (.string ⟨#[]⟩), (.string ⟨#[]⟩), xz, xz, xz, xz]),
xt 13 21 81])
(xR [xm 82 16,
xm 83 18,
xm 84 17,
xm 85 18,
xL 86 13 21,
xL 87 4 4,
xC 88 48 [.tmp 86, .tmp 87],
xf 89 11 21,
⟨(some 90), .load true 2 (.tmp 89), none, [], true, false⟩,
xa 91 82 83,
⟨none, .store 1 (.tmp 91) (.tmp 88), none, [8], false, false⟩,
xi 92 (.indexAddr none 2 (.tmp 84) (.tmp 85)),
xt 2 92 90])))))))
(xr [xb 93 .add (.tmp 63) (xk 1),
xm 63 93])))))))
(xR [xm 94 12,
xm 95 12,
xm 96 12,
xi 97 (.nilCheck (.tmp 96)),
xf 98 0 97,
xl 99 98,
xm 100 16,
xi 101 (.buildSlice 1 1 [(.slice none 0 0)] [(0, 1, (.tmp 100))]),
⟨(some 102), .appendT 1 24 (.tmp 99) (.tmp 101), none, [], true, false⟩,
xm 103 12,
xi 104 (.nilCheck (.tmp 103)),
xf 105 1 104,
⟨(some 106), .load false 1 (.tmp 105), none, [8], false, false⟩,
xm 107 17,
xi 108 (.buildSlice 1 1 [(.slice none 0 0)] [(0, 1, (.tmp 107))]),
xi 109 (.appendT 1 24 (.tmp 106) (.tmp 108)),
xi 110 (.nilCheck (.tmp 94)),
xf 111 0 110,
xt 1 111 102,
xi 112 (.nilCheck (.tmp 95)),
xf 113 1 112,
xt 1 113 109]))))))
(xr [xb 114 .add (.tmp 47) (xk 1),
xm 47 114])))))))
(.seq (xr [xm 115 12,
xm 6 115,
xi 7 (.move xq)])
.ret)))))),
[.tmp 6, .tmp 7], .full, 116⟩
def ef36 : EFun := ⟨
.seq (xr [xi 2 (.move (.const (.slice none 0 0)))])
(.seq (xr [xi 3 (.push [(.slice none 0 0)])])
(.seq (.seq (xr [xm 11 0,
xi 12 (.nilCheck (.tmp 11)),
xf 13 0 12,
xl 14 13,
xn 15 14,
xi 16 (.move xq)])
(.block 0 (.loop (some [0, 3, 14, 15, 16]) (
.seq (xr [xB 17 .lss 16 15])
(.seq (.cond (.tmp 17) .skip
(.exit 0))
(.seq (.block 1 (.seq (xr [xm 18 16,
xa 19 14 16,
xl 20 19,
xi 4 (.push [xz]),
xt 1 4 18,
xm 5 20])
(.seq (xr [xm 21 5,
xn 22 21,
xi 23 (.makeSlice 1 8 [xz] (.tmp 22) (.tmp 22)),
xi 6 (.push [(.slice none 0 0)]),
xt 1 6 23])
(.seq (.seq (xr [xm 24 5,
xn 25 24,
xi 26 (.move xq)])
(.block 2 (.loop (some [0, 3, 4, 6, 14, 15, 16, 24, 25, 26]) (
.seq (xr [xB 27 .lss 26 25])
(.seq (.cond (.tmp 27) .skip
(.exit 2))
(.seq (.block 3 (.seq (xr [xm 28 26,
xa 29 24 26,
xl 30 29,
xm 7 28,
xm 8 30])
(.seq (xr [xm 31 8,
xm 32 31,
yl 33 4 32 true,
yb 34 .gtr (.tmp 33) xq 32 true,
xi 35 (.pick (.tmp 32) (.tmp 34) xF)])
(.cond (.tmp 35) (xr [xl 36 6,
xm 37 7,
xa 38 36 37,
⟨none, .store 1 (.tmp 38) (xk 1000000), none, [], false, false⟩])
.skip))))
(xr [xb 39 .add (.tmp 26) (xk 1),
xm 26 39])))))))
(.seq (xr [xl 40 3,
xl 41 6,
xi 42 (.buildSlice 1 1 [(.slice none 0 0)] [(0, 1, (.tmp 41))]),
xi 43 (.appendT 1 24 (.tmp 40) (.tmp 42)),
xt 1 3 43])
(.seq (xr [xl 44 4,
xb 45 .gtr (.tmp 44) xq])
(.cond (.tmp 45) (.seq (xr [xm 46 0,
xl 47 4,
xb 48 .sub (.tmp 47) (xk 1),
xc 49 78 [.tmp 46, .tmp 48]])
(.block 4 (.rangeF (.tmp 49) 36 0 false [3, 4, 6] [50, 51]
(.seq (xr [xm 9 50])
(xr [xm 10 51]))
(.block 5 (xR [xl 52 6,
xm 53 10,
xl 54 6,
xm 55 10,
xa 56 54 55,
xl 57 56,
xl 58 3,
xl 59 4,
xb 60 .sub (.tmp 59) (xk 1),
xa 61 58 60,
xl 62 61,
xm 63 9,
xa 64 62 63,
xl 65 64,
xm 66 9,
xm 67 10,
xC 68 39 [.tmp 66, .tmp 67],
xB 69 .add 65 68,
xi 70 (.min [.tmp 57, .tmp 69]),
xa 71 52 53,
xt 1 71 70])))))
.skip)))))))
(xr [xb 72 .add (.tmp 16) (xk 1),
xm 16 72])))))))
(.seq (xr [xl 73 3,
xm 2 73])
.ret))),
[.tmp 2], .full, 74⟩
def ef37 : EFun := ⟨
.seq (xr [xi 6 (.move xq)])
(.seq (xr [xi 7 (.move (.const (.int .i64 (-1))))])
(.seq (.seq (xr [xm 10 2,
xn 11 10,
xi 12 (.move xq)])
(.block 0 (.loop (some [0, 1, 2, 7, 10, 11, 12]) (
.seq (xr [xB 13 .lss 12 11])
(.seq (.cond (.tmp 13) .skip
(.exit 0))
(.seq (.block 1 (.seq (xr [xm 14 12,
xa 15 10 12,
xl 16 15,
xm 8 14,
xm 9 16])
(.seq (xr [xm 17 0,
xi 18 (.nilCheck (.tmp 17)),
xf 19 0 18,
xl 20 19,
xm 21 1,
xa 22 20 21,
xl 23 22,
xm 24 8,
xa 25 23 24,
xl 26 25,
xm 27 26,
ym 28 9 27 true,
yb 29 .lss (.tmp 28) (xk 1000000) 27 true,
xi 30 (.pick (.tmp 27) (.tmp 29) xF),
xm 31 30,
ym 32 7 31 true,
yb 33 .lss (.tmp 32) xq 31 true,
ym 34 33 31 true,
ym 35 9 34 false,
ym 36 2 34 false,
ym 37 7 34 false,
ya 38 36 37 34 false,
yl 39 38 34 false,
yb 40 .lss (.tmp 35) (.tmp 39) 34 false,
xg 41 (.pick (.tmp 34) xT (.tmp 40)) 31 true,
xi 42 (.pick (.tmp 31) (.tmp 41) xF)])
(.cond (.tmp 42) (xr [xm 43 8,
xm 7 43])
.skip))))
(xr [xb 44 .add (.tmp 12) (xk 1),
xm 12 44])))))))
(.seq (xr [xm 45 7,
xm 6 45])
.ret))),
[.tmp 6], .pure, 46⟩
def ef38 : EFun := ⟨
.seq (xr [xi 8 (.move xF)])
(.seq (xR [xm 9 0,
xi 10 (.nilCheck (.tmp 9)),
xf 11 0 10,
xl 12 11,
xm 13 1,
xa 14 12 13,
xl 15 14,
xm 16 2,
xa 17 15 16,
xl 18 17,
xm 19 18,
ym 20 0 19 true,
xg 21 (.nilCheck (.tmp 20)) 19 true,
yf 22 0 21 19 true,
yl 23 22 19 true,
ym 24 1 19 true,
yb 25 .add (.tmp 24) (xk 1) 19 true,
ya 26 23 25 19 true,
yl 27 26 19 true,
ym 28 3 19 true,
ya 29 27 28 19 true,
yl 30 29 19 true,
xi 31 (.pick (.tmp 19) (.tmp 30) xF),
xm 32 31,
ym 33 0 32 true,
xg 34 (.nilCheck (.tmp 33)) 32 true,
yf 35 1 34 32 true,
yl 36 35 32 true,
ym 37 1 32 true,
ya 38 36 37 32 true,
yl 39 38 32 true,
ym 40 2 32 true,
xg 41 (.indexAddr none 2 (.tmp 39) (.tmp 40)) 32 true,
xg 42 (.load true 2 (.tmp 41)) 32 true,
ym 43 0 32 true,
xg 44 (.nilCheck (.tmp 43)) 32 true,
yf 45 1 44 32 true,
yl 46 45 32 true,
ym 47 1 32 true,
yb 48 .add (.tmp 47) (xk 1) 32 true,
ya 49 46 48 32 true,
yl 50 49 32 true,
ym 51 3 32 true,
xg 52 (.indexAddr none 2 (.tmp 50) (.tmp 51)) 32 true,
xg 53 (.load true 2 (.tmp 52)) 32 true,
⟨(some 54), .call 49 [.tmp 42, .tmp 53], (some (32, true)), [], false, true⟩,
ym 55 0 32 true,
xg 56 (.nilCheck (.tmp 55)) 32 true,
yf 57 2 56 32 true,
yl 58 57 32 true,
yb 59 .leq (.tmp 54) (.tmp 58) 32 true,
xi 60 (.pick (.tmp 32) (.tmp 59) xF),
xm 8 60])
.ret),
[.tmp 8], .pure, 61⟩
def ef39 : EFun := ⟨
.seq (xr [xi 4 (.move xq)])
(.seq (xr [xm 5 0,
xm 6 1,
xB 7 .sub 5 6,
xm 8 1,
xm 9 0,
xB 10 .sub 8 9,
xi 11 (.max [.tmp 7, .tmp 10]),
xm 4 11])
.ret),
[.tmp 4], .pure, 12⟩
def ef40 : EFun := ⟨
.seq (xr [xv 1 0,
xi 2 (.move xq),
xi 3 (.move xq)])
(.seq (.seq (xr [xf 7 0 1,
xl 8 7,
xc 9 44 [.tmp 8, (xk 1000), (xk 10000000)],
xi 10 (.un .not (.tmp 9))])
(.cond (.tmp 10) (.seq (xr [xi 2 (.move xq),
xi 3 (.move (xk 2))])
.ret)
.skip))
(.seq (.seq (xr [xf 11 1 1,
xl 12 11,
xc 13 79 [.tmp 12],
xm 4 13])
(.seq (xr [xm 14 4,
xb 15 .neq (.tmp 14) xq])
(.cond (.tmp 15) (.seq (xr [xm 16 4,
xi 2 (.move xq),
xm 3 16])
.ret)
.skip)))
(.seq (.seq (xr [xf 17 2 1,
xl 18 17,
xn 19 18,
xb 20 .gtr (.tmp 19) (xk 90)])
(.cond (.tmp 20) (.seq (xr [xi 2 (.move xq),
xi 3 (.move (xk 8))])
.ret)
.skip))
(.seq (.seq (xr [xf 21 2 1,
xl 22 21,
xn 23 22,
xi 24 (.move xq)])
(.block 0 (.loop (some [1, 23, 24]) (
.seq (xr [xB 25 .lss 24 23])
(.seq (.cond (.tmp 25) .skip
(.exit 0))
(.seq (.block 1 (.seq (xr [xm 26 24,
xm 5 26])
(.seq (xr [xL 27 3 1,
xm 28 5,
xc 29 80 [.tmp 27, .tmp 28],
xm 6 29])
(.seq (xr [xm 30 6,
xb 31 .neq (.tmp 30) xq])
(.cond (.tmp 31) (.seq (xr [xm 32 5,
xm 33 6,
xm 2 32,
xm 3 33])
.ret)
.skip)))))
(xr [xb 34 .add (.tmp 24) (xk 1),
xm 24 34])))))))
(.seq (xr [xi 2 (.move xq),
xi 3 (.move xq)])
.ret))))),
[.tmp 2, .tmp 3], .pure, 35⟩
def ef41 : EFun := ⟨
.seq (xr [xi 2 (.move xq)])
(.seq (.seq (xr [xm 5 0,
xn 6 5,
xb 7 .eql (.tmp 6) xq,
xm 8 7,
ym 9 0 8 false,
xg 10 (.len false (.tmp 9)) 8 false,
yb 11 .gtr (.tmp 10) (xk 20) 8 false,
xi 12 (.pick (.tmp 8) xT (.tmp 11))])
(.cond (.tmp 12) (.seq (xr [xi 2 (.move (xk 8))])
.ret)
.skip))
(.seq (.seq (xr [xm 13 0,
xn 14 13,
xi 15 (.move xq)])
(.block 0 (.loop (some [0, 13, 14, 15]) (
.seq (xr [xB 16 .lss 15 14])
(.seq (.cond (.tmp 16) .skip
(.exit 0))
(.seq (.block 1 (.seq (xr [xm 17 15,
xa 18 13 15,
xl 19 18,
xm 3 17,
xm 4 19])
(.block 2 (.seq (xr [xm 21 4,
xc 22 44 [.tmp 21, (xk 100), (xk 3000)],
xi 23 (.un .not (.tmp 22)),
xm 20 23])
(.cond (.tmp 20) (.seq (xr [xi 2 (.move (xk 2))])
.ret)
(.seq (xr [xm 25 3,
xb 26 .gtr (.tmp 25) xq,
xm 27 26,
ym 28 4 27 true,
ym 29 0 27 true,
ym 30 3 27 true,
yb 31 .sub (.tmp 30) (xk 1) 27 true,
ya 32 29 31 27 true,
yl 33 32 27 true,
yb 34 .leq (.tmp 28) (.tmp 33) 27 true,
xi 35 (.pick (.tmp 27) (.tmp 34) xF),
xm 24 35])
(.cond (.tmp 24) (.seq (xr [xi 2 (.move (xk 9))])
.ret)
.skip)))))))
(xr [xb 36 .add (.tmp 15) (xk 1),
xm 15 36])))))))
(.seq (xr [xi 2 (.move xq)])
.ret))),
[.tmp 2], .pure, 37⟩
def ef42 : EFun := ⟨
.seq (xr [xi 2 (.move (.const (.slice none 0 0)))])
(.seq (.seq (xr [xm 3 0,
xi 4 (.eqNilS false (.tmp 3))])
(.cond (.tmp 4) (.seq (xr [xi 2 (.move (.const (.slice none 0 0)))])
.ret)
.skip))
(.seq (xr [xi 5 (.buildSlice 4 0 [] []),
xm 6 0,
xi 7 (.append 4 40 (.tmp 5) (.tmp 6)),
xm 2 7])
.ret)),
[.tmp 2], .pure, 8⟩
def ef43 : EFun := ⟨
.seq (xr [xi 2 (.move (.const (.slice none 0 0)))])
(.seq (.seq (xr [xm 3 0,
xi 4 (.eqNilS false (.tmp 3))])
(.cond (.tmp 4) (.seq (xr [xi 2 (.move (.const (.slice none 0 0)))])
.ret)
.skip))
(.seq (xr [xi 5 (.buildSlice 10 0 [] []),
xm 6 0,
xi 7 (.append 10 96 (.tmp 5) (.tmp 6)),
xm 2 7])
.ret)),
[.tmp 2], .pure, 8⟩
def ef44 : EFun := ⟨
.seq (xr [xi 6 (.move xF)])
(.seq (xr [xm 7 1,
xm 8 0,
xB 9 .leq 7 8,
xm 10 9,
ym 11 0 10 true,
ym 12 2 10 true,
yb 13 .leq (.tmp 11) (.tmp 12) 10 true,
xi 14 (.pick (.tmp 10) (.tmp 13) xF),
xm 6 14])
.ret),
[.tmp 6], .pure, 15⟩
def ef45 : EFun := ⟨
.seq (xr [xv 1 0,
xi 2 (.move (.const (.slice none 0 0))),
xi 3 (.move xq)])
(.seq (.seq (xr [xL 9 3 1,
xc 10 40 [.tmp 9],
xm 8 10,
xe 11 8 0,
xe 12 8 1,
xm 4 11,
xm 5 12])
(.seq (xr [xm 13 5,
xb 14 .neq (.tmp 13) xq])
(.cond (.tmp 14) (.seq (xr [xm 15 5,
xi 2 (.move (.const (.slice none 0 0))),
xm 3 15])
.ret)
.skip)))
(.seq (xr [xi 6 (.move (.const (.slice none 0 0)))])
(.seq (.seq (xr [xf 16 2 1,
xl 17 16,
xn 18 17,
xi 19 (.move xq)])
(.block 0 (.loop (some [1, 6, 18, 19]) (
.seq (xr [xB 20 .lss 19 18])
(.seq (.cond (.tmp 20) .skip
(.exit 0))
(.seq (.block 1 (.seq (xr [xm 21 19,
xm 7 21])
(xr [xm 22 6,
xL 23 3 1,
xm 24 7,
xc 25 47 [.tmp 23, .tmp 24],
xi 26 (.field true 11 2 (.tmp 25)),
xi 27 (.buildSlice 2 1 [xz, xz] [(0, 2, (.tmp 26))]),
xi 28 (.append 2 16 (.tmp 22) (.tmp 27)),
xm 6 28])))
(xr [xb 29 .add (.tmp 19) (xk 1),
xm 19 29])))))))
(.seq (xr [xm 30 6,
xm 2 30,
xi 3 (.move xq)])
.ret)))),
[.tmp 2, .tmp 3], .pure, 31⟩
def ef46 : EFun := ⟨
.seq (xr [xv 1 0,
xi 2 (.move xq)])
(.seq (.block 0 (.seq (xr [xf 4 0 1,
xl 5 4,
xc 6 44 [.tmp 5, xq, (xk 1000000000000000)],
xi 7 (.un .not (.tmp 6)),
xm 8 7,
yf 9 1 1 8 false,
yl 10 9 8 false,
xg 11 (.call 44 [.tmp 10, xq, (xk 1000000000000000)]) 8 false,
xg 12 (.un .not (.tmp 11)) 8 false,
xi 13 (.pick (.tmp 8) xT (.tmp 12)),
xm 14 13,
yf 15 3 1 14 false,
yl 16 15 14 false,
xg 17 (.call 44 [.tmp 16, xq, (xk 1000000000000000)]) 14 false,
xg 18 (.un .not (.tmp 17)) 14 false,
xi 19 (.pick (.tmp 14) xT (.tmp 18)),
xm 20 19,
yf 21 2 1 20 false,
yl 22 21 20 false,
xg 23 (.call 44 [.tmp 22, xq, (xk 1000000)]) 20 false,
xg 24 (.un .not (.tmp 23)) 20 false,
xi 25 (.pick (.tmp 20) xT (.tmp 24)),
xm 3 25])
(.cond (.tmp 3) (.seq (xr [xi 2 (.move (xk 2))])
.ret)
(.seq (xr [xf 27 0 1,
xl 28 27,
xf 29 1 1,
xl 30 29,
xB 31 .gtr 28 30,
xm 26 31])
(.cond (.tmp 26) (.seq (xr [xi 2 (.move (xk 9))])
.ret)
.skip)))))
(.seq (xr [xi 2 (.move xq)])
.ret)),
[.tmp 2], .pure, 32⟩
def ef47 : EFun := ⟨
.seq (xr [xv 2 0,
xi 4 (.push [(.string ⟨#[]⟩), xz, xz, xz, xz, xz, xz, (.string ⟨#[]⟩), (.string ⟨#[]⟩), xz, xz, xz, xz])])
(.seq (xR [xf 5 1 2,
xl 6 5,
xf 7 2 2,
xl 8 7,
xm 9 1,
xi 10 (.indexAddr none 10 (.tmp 8) (.tmp 9)),
xf 11 5 10,
xL 12 5 11,
xL 13 3 2,
xm 14 1,
xC 15 75 [.tmp 13, .tmp 14],
xc 16 77 [.tmp 6, .tmp 12, .tmp 15],
xt 13 4 16])
.ret),
[.cell 4 true 13], .pure, 17⟩
def ef48 : EFun := ⟨
.seq (xr [xv 2 0,
xv 3 1,
xi 4 (.move xF)])
(.seq (xR [xf 5 11 2,
xf 6 0 5,
xl 7 6,
xf 8 0 3,
xl 9 8,
xB 10 .geq 7 9,
xm 11 10,
yf 12 11 2 11 true,
yf 13 1 12 11 true,
yl 14 13 11 true,
yf 15 1 3 11 true,
yl 16 15 11 true,
yb 17 .leq (.tmp 14) (.tmp 16) 11 true,
xi 18 (.pick (.tmp 11) (.tmp 17) xF),
xm 19 18,
xg 20 (.load true 13 (.tmp 2)) 19 true,
⟨(some 21), .call 81 [.tmp 20], (some (19, true)), [], false, true⟩,
xg 22 (.field false 1 1 (.tmp 21)) 19 true,
yf 23 2 3 19 true,
yl 24 23 19 true,
yb 25 .leq (.tmp 22) (.tmp 24) 19 true,
xi 26 (.pick (.tmp 19) (.tmp 25) xF),
xm 4 26])
.ret),
[.tmp 4], .pure, 27⟩
def ef49 : EFun := ⟨
.seq (xr [xv 2 0,
xv 3 1,
xi 4 (.move xq)])
(.seq (xr [xf 5 1 2,
xl 6 5,
xf 7 0 3,
xl 8 7,
xB 9 .sub 6 8,
xf 10 1 3,
xl 11 10,
xf 12 0 2,
xl 13 12,
xB 14 .sub 11 13,
xi 15 (.max [.tmp 9, .tmp 14]),
xm 4 15])
.ret),
[.tmp 4], .pure, 16⟩
def ef61 : EFun := ⟨
.seq (xr [xi 2 (.move xq)])
(.seq (.seq (xr [xm 4 0,
xn 5 4,
xb 6 .gtr (.tmp 5) (xk 20)])
(.cond (.tmp 6) (.seq (xr [xi 2 (.move (xk 8))])
.ret)
.skip))
(.seq (.seq (xr [xi 3 (.move xq)])
(.block 0 (.loop (some [0, 3]) (
.seq (.seq (xr [xm 7 3,
xm 8 0,
xn 9 8,
xB 10 .lss 7 9])
(.cond (.tmp 10) .skip
(.exit 0)))
(.seq (.block 1 (.seq (.seq (xr [xm 13 0,
xm 14 3,
xi 15 (.indexAddr none 4 (.tmp 13) (.tmp 14)),
xf 16 0 15,
xl 17 16,
xc 18 98 [.tmp 17],
xi 19 (.un .not (.tmp 18))])
(.cond (.tmp 19) (.seq (xr [xi 2 (.move (xk 4))])
.ret)
.skip))
(.seq (.seq (xR [xm 20 0,
xm 21 3,
xi 22 (.slice 4 (.tmp 20) none (some (.tmp 21))),
xm 23 0,
xm 24 3,
xi 25 (.indexAddr none 4 (.tmp 23) (.tmp 24)),
xf 26 0 25,
xl 27 26,
xc 28 99 [.tmp 22, .tmp 27],
xb 29 .geq (.tmp 28) xq])
(.cond (.tmp 29) (.seq (xr [xi 2 (.move (xk 5))])
.ret)
.skip))
(.seq (xr [xm 30 0,
xm 31 3,
xi 32 (.indexAddr none 4 (.tmp 30) (.tmp 31)),
xf 33 1 32,
xl 34 33,
xc 35 21 [.tmp 34, (xk 1), (xk 200000)],
xi 36 (.un .not (.tmp 35)),
xm 37 36,
ym 38 0 37 false,
ym 39 3 37 false,
xg 40 (.indexAddr none 4 (.tmp 38) (.tmp 39)) 37 false,
yf 41 2 40 37 false,
yl 42 41 37 false,
xg 43 (.call 21 [.tmp 42, (xk 1), (xk 1000000)]) 37 false,
xg 44 (.un .not (.tmp 43)) 37 false,
xi 45 (.pick (.tmp 37) xT (.tmp 44)),
xm 46 45,
ym 47 0 46 false,
ym 48 3 46 false,
xg 49 (.indexAddr none 4 (.tmp 47) (.tmp 48)) 46 false,
yf 50 3 49 46 false,
yl 51 50 46 false,
xg 52 (.call 21 [.tmp 51, xq, (xk 100000000)]) 46 false,
xg 53 (.un .not (.tmp 52)) 46 false,
xi 54 (.pick (.tmp 46) xT (.tmp 53))])
(.cond (.tmp 54) (.seq (xr [xi 2 (.move (xk 2))])
.ret)
.skip)))))
(xr [xm 11 3,
xb 12 .add (.tmp 11) (xk 1),
xm 3 12]))))))
(.seq (xr [xi 2 (.move xq)])
.ret))),
[.tmp 2], .pure, 55⟩
def ef62 : EFun := ⟨
.seq (xr [xv 2 0,
xi 4 (.move xq)])
(.seq (xr [xf 9 2 2,
xl 10 9,
xm 11 1,
xi 12 (.indexAddr none 10 (.tmp 10) (.tmp 11)),
xL 13 10 12,
xi 5 (.push [xz, xz, xz, xz, xz, xz, xz, xz, (.string ⟨#[]⟩), (.string ⟨#[]⟩)]),
xt 10 5 13])
(.seq (.seq (xr [xf 14 0 5,
xL 15 4 14,
xc 16 100 [.tmp 15],
xi 17 (.un .not (.tmp 16))])
(.cond (.tmp 17) (.seq (xr [xi 4 (.move (xk 2))])
.ret)
.skip))
(.seq (.seq (xr [xf 18 4 5,
xl 19 18,
xc 20 21 [.tmp 19, (xk 1), (xk 4)],
xi 21 (.un .not (.tmp 20))])
(.cond (.tmp 21) (.seq (xr [xi 4 (.move (xk 2))])
.ret)
.skip))
(.seq (.seq (xr [xf 22 1 2,
xl 23 22,
xf 24 5 5,
xL 25 5 24,
xc 26 101 [.tmp 23, .tmp 25],
xm 6 26])
(.seq (xr [xm 27 6,
xb 28 .neq (.tmp 27) xq])
(.cond (.tmp 28) (.seq (xr [xm 29 6,
xm 4 29])
.ret)
.skip)))
(.seq (xr [xf 31 0 5,
xL 32 4 31,
xf 33 0 2,
xl 34 33,
xc 35 102 [.tmp 32, .tmp 34],
xm 30 35,
xe 36 30 0,
xe 37 30 1,
xi 7 (.push [xz, xz]),
xt 2 7 36,
xm 8 37])
(.seq (.seq (xr [xm 38 8,
xb 39 .neq (.tmp 38) xq])
(.cond (.tmp 39) (.seq (xr [xm 40 8,
xm 4 40])
.ret)
.skip))
(.seq (.seq (xr [xL 41 2 7,
xc 42 103 [.tmp 41],
xi 43 (.un .not (.tmp 42))])
(.cond (.tmp 43) (.seq (xr [xi 4 (.move (xk 2))])
.ret)
.skip))
(.seq (.seq (xR [xm 44 1,
xb 45 .gtr (.tmp 44) xq,
xm 46 45,
yf 47 0 5 46 true,
xg 48 (.load true 4 (.tmp 47)) 46 true,
yf 49 2 2 46 true,
yl 50 49 46 true,
ym 51 1 46 true,
yb 52 .sub (.tmp 51) (xk 1) 46 true,
xg 53 (.indexAddr none 10 (.tmp 50) (.tmp 52)) 46 true,
yf 54 0 53 46 true,
xg 55 (.load true 4 (.tmp 54)) 46 true,
xg 56 (.call 104 [.tmp 48, .tmp 55]) 46 true,
yb 57 .leq (.tmp 56) xq 46 true,
xi 58 (.pick (.tmp 46) (.tmp 57) xF)])
(.cond (.tmp 58) (.seq (xr [xi 4 (.move (xk 9))])
.ret)
.skip))
(.seq (xr [xi 4 (.move xq)])
.ret))))))))),
[.tmp 4], .pure, 59⟩
def ef63 : EFun := ⟨
.seq (xr [xv 1 0,
xi 2 (.move xq)])
(.seq (.seq (xr [xL 5 4 1,
xc 6 67 [.tmp 5],
xi 7 (.move xq)])
(.block 0 (.loop (some [1, 6, 7]) (
.seq (xr [xb 8 .lss (.tmp 7) (xk 3)])
(.seq (.cond (.tmp 8) .skip
(.exit 0))
(.seq (.block 1 (.seq (xr [xi 9 (.index 3 1 false (.tmp 6) (.tmp 7)),
xm 4 9])
(.seq (xr [xm 10 4,
xc 11 64 [.tmp 10, (.const (.int .i64 (-400))), (xk 400)],
xi 12 (.un .not (.tmp 11))])
(.cond (.tmp 12) (.seq (xr [xi 2 (.move (xk 2))])
.ret)
.skip))))
(xr [xb 13 .add (.tmp 7) (xk 1),
xm 7 13])))))))
(.seq (.seq (xr [xf 14 3 1,
xl 15 14,
xc 16 64 [.tmp 15, (xk 1), (xk 12)],
xi 17 (.un .not (.tmp 16))])
(.cond (.tmp 17) (.seq (xr [xi 2 (.move (xk 2))])
.ret)
.skip))
(.seq (xr [xi 2 (.move xq)])
.ret))),
[.tmp 2], .pure, 18⟩
def ef64 : EFun := ⟨
.seq (xr [xi 6 (.move xF)])
(.seq (xr [xm 7 0,
xm 8 1,
xB 9 .geq 7 8,
xm 10 9,
ym 11 0 10 true,
ym 12 2 10 true,
yb 13 .leq (.tmp 11) (.tmp 12) 10 true,
xi 14 (.pick (.tmp 10) (.tmp 13) xF),
xm 6 14])
.ret),
[.tmp 6], .pure, 15⟩
def ef65 : EFun := ⟨
.seq (xr [xv 1 0,
xi 2 (.push [xz, xz, xz, xz])])
(.seq (xR [xf 4 0 1,
xl 5 4,
xf 6 1 1,
xl 7 6,
xC 8 93 [.tmp 5, .tmp 7],
xf 9 2 1,
xl 10 9,
xf 11 3 1,
xl 12 11,
xc 13 93 [.tmp 10, .tmp 12],
xc 14 93 [.tmp 8, .tmp 13],
xm 3 14])
(.seq (xR [xf 15 0 1,
xl 16 15,
xm 17 3,
xB 18 .quo 16 17,
xf 19 1 1,
xl 20 19,
xm 21 3,
xB 22 .quo 20 21,
xf 23 2 1,
xl 24 23,
xm 25 3,
xB 26 .quo 24 25,
xf 27 3 1,
xl 28 27,
xm 29 3,
xB 30 .quo 28 29,
xi 31 (.build [xz, xz, xz, xz] [(0, 1, (.tmp 18)), (1, 1, (.tmp 22)), (2, 1, (.tmp 26)), (3, 1, (.tmp 30))]),
xt 4 2 31])
.ret)),
[.cell 2 true 4], .pure, 32⟩
end Go.Abs.R
