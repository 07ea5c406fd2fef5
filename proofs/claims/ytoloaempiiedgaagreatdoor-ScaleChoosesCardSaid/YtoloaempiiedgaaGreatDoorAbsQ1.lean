--
import Derived.Test.YtoloaempiiedgaaGreatDoorAbsQ0
set_option linter.unusedSimpArgs false
set_option linter.unusedVariables false
set_option maxRecDepth 100000
set_option maxHeartbeats 0
namespace Go.Abs.Q
open Go Go.Abs
def ef5:EFun:=⟨
.seq (xr [xv 3 0,
xv 4 1,
xi 6 (.move xF)])
(.seq (.seq (xr [xc 18 10 [],
xi 19 (.un .not (.tmp 18))])
(.cond (.tmp 19) (.seq (xr [xi 6 (.move xF)])
.ret)
.skip))
(.seq (.seq (xr [xL 20 3 3,
xc 21 11 [.tmp 20],
xi 22 (.un .not (.tmp 21)),
xm 23 22,
ym 24 2 23 false,
xg 25 (.call 12 [.tmp 24]) 23 false,
xg 26 (.un .not (.tmp 25)) 23 false,
xi 27 (.pick (.tmp 23) xT (.tmp 26))])
(.cond (.tmp 27) (.seq (xr [xi 6 (.move xT)])
.ret)
.skip))
(.seq (xR [xL 29 3 3,
xC 30 14 [.tmp 29],
xL 31 4 4,
xm 32 2,
xC 33 15 [.tmp 32],
xC 34 23 [.tmp 30,.tmp 31,.tmp 33],
xm 28 34,
xe 35 28 0,
xe 36 28 1,
xe 37 28 2,
xi 7 (.push [(.slice none 0 0),(.slice none 0 0)]),
xt 2 7 35,
xm 8 36,
xm 9 37])
(.seq (.seq (xr [xL 38 3 3,
xL 39 4 4,
xm 40 2,
xc 41 16 [.tmp 38,.tmp 39,.tmp 40],
xm 10 41])
(.seq (xr [xm 42 10,
xb 43 .neq (.tmp 42) xq])
(.cond (.tmp 43) (.seq (xr [xm 44 9,
xm 45 10,
xB 46 .eql 44 45,
xm 47 46,
ym 48 8 47 true,
yb 49 .eql (.tmp 48) xq 47 true,
xi 50 (.pick (.tmp 47) (.tmp 49) xF),
xm 51 50,
yf 52 0 7 51 true,
yl 53 52 51 true,
xg 54 (.len false (.tmp 53)) 51 true,
yf 55 1 7 51 true,
yl 56 55 51 true,
xg 57 (.len false (.tmp 56)) 51 true,
yb 58 .add (.tmp 54) (.tmp 57) 51 true,
yb 59 .eql (.tmp 58) xq 51 true,
xi 60 (.pick (.tmp 51) (.tmp 59) xF),
xm 6 60])
.ret)
.skip)))
(.seq (xr [xL 61 3 3,
xc 62 19 [.tmp 61],
xi 11 (.push [xz,(.slice none 0 0),(.slice none 0 0),(.slice none 0 0)]),
xt 4 11 62])
(.seq (xr [xL 64 4 11,
xL 65 4 4,
xm 66 2,
xc 67 24 [.tmp 64,.tmp 65,.tmp 66],
xm 63 67,
xe 68 63 0,
xe 69 63 1,
xm 12 68,
xm 13 69])
(.seq (.seq (xr [xm 70 13,
xb 71 .geq (.tmp 70) xq])
(.cond (.tmp 71) (.seq (xr [xm 72 9,
xb 73 .eql (.tmp 72) (xk 12),
xm 74 73,
ym 75 8 74 true,
ym 76 13 74 true,
yb 77 .eql (.tmp 75) (.tmp 76) 74 true,
xi 78 (.pick (.tmp 74) (.tmp 77) xF),
xm 79 78,
yf 80 0 7 79 true,
yl 81 80 79 true,
xg 82 (.len false (.tmp 81)) 79 true,
yf 83 1 7 79 true,
yl 84 83 79 true,
xg 85 (.len false (.tmp 84)) 79 true,
yb 86 .add (.tmp 82) (.tmp 85) 79 true,
yb 87 .eql (.tmp 86) xq 79 true,
xi 88 (.pick (.tmp 79) (.tmp 87) xF),
xm 6 88])
.ret)
.skip))
(.seq (.seq (xr [xm 89 9,
xb 90 .neq (.tmp 89) xq,
xm 91 90,
ym 92 8 91 false,
ym 93 12 91 false,
yb 94 .neq (.tmp 92) (.tmp 93) 91 false,
xi 95 (.pick (.tmp 91) xT (.tmp 94))])
(.cond (.tmp 95) (.seq (xr [xi 6 (.move xF)])
.ret)
.skip))
(.seq (xR [xL 97 3 3,
xC 98 14 [.tmp 97],
xL 99 4 4,
xm 100 2,
xC 101 15 [.tmp 100],
xL 102 2 7,
xC 103 21 [.tmp 102],
xc 104 20 [.tmp 98,.tmp 99,.tmp 101,.tmp 103],
xm 96 104,
xe 105 96 0,
xe 106 96 1,
xm 14 105,
xm 15 106])
(.seq (xr [xL 108 4 11,
xL 109 4 4,
xm 110 2,
xL 111 2 7,
xc 112 22 [.tmp 108,.tmp 109,.tmp 110,.tmp 111],
xm 107 112,
xe 113 107 0,
xe 114 107 1,
xm 16 113,
xm 17 114])
(.seq (xr [xm 115 15,
xb 116 .eql (.tmp 115) xq,
xm 117 116,
ym 118 14 117 true,
ym 119 12 117 true,
yb 120 .eql (.tmp 118) (.tmp 119) 117 true,
xi 121 (.pick (.tmp 117) (.tmp 120) xF),
xm 122 121,
ym 123 17 122 true,
yb 124 .eql (.tmp 123) xq 122 true,
xi 125 (.pick (.tmp 122) (.tmp 124) xF),
xm 126 125,
ym 127 16 126 true,
ym 128 12 126 true,
yb 129 .eql (.tmp 127) (.tmp 128) 126 true,
xi 130 (.pick (.tmp 126) (.tmp 129) xF),
xm 6 130])
.ret))))))))))),
[.tmp 6],.pure,131⟩
def ef10:EFun:=⟨
.seq (xr [xi 0 (.move xF)])
(.seq (xr [xi 9 (.build [xz,xz] [(0,1,(xk 440000)),(1,1,(xk 440000))]),
xi 1 (.push [xz,xz]),
xt 2 1 9])
(.seq (xR [xC 11 55 [],
xC 12 56 [],
xL 13 2 1,
xC 14 54 [.tmp 11,.tmp 12,.tmp 13],
xm 10 14,
xe 15 10 0,
xe 16 10 1,
xi 2 (.push [xz,xz]),
xt 2 2 15,
xm 3 16])
(.seq (xR [xC 18 55 [],
xC 19 56 [],
xL 20 2 1,
xC 21 57 [.tmp 18,.tmp 19,.tmp 20],
xm 17 21,
xe 22 17 0,
xe 23 17 1,
xi 4 (.push [xz,xz]),
xt 2 4 22,
xm 5 23])
(.seq (xr [xi 25 (.build [xz,xz] [(0,1,(xk 1000)),(1,1,(xk 2000))]),
xi 26 (.build [xz,xz] [(0,1,(xk 1500)),(1,1,(xk 1800))]),
xi 27 (.buildSlice 2 2 [xz,xz,xz,xz] [(0,2,(.tmp 25)),(2,2,(.tmp 26))]),
xi 28 (.build [xz,xz] [(1,1,(xk 100))]),
xc 29 58 [.tmp 27,.tmp 28],
xm 24 29,
xe 30 24 0,
xe 31 24 1,
xe 32 24 2,
xm 6 30,
xm 7 31,
xm 8 32])
(.seq (xr [xm 33 3,
xb 34 .eql (.tmp 33) xq,
xm 35 34,
xg 36 (.load true 2 (.tmp 2)) 35 true,
xg 37 (.build [xz,xz] [(0,1,(xk 76389)),(1,1,(xk 76390))]) 35 true,
xg 38 (.eqAgg false [(.int .i64),(.int .i64)] (.tmp 36) (.tmp 37)) 35 true,
xi 39 (.pick (.tmp 35) (.tmp 38) xF),
xm 40 39,
ym 41 5 40 true,
yb 42 .eql (.tmp 41) xq 40 true,
xi 43 (.pick (.tmp 40) (.tmp 42) xF),
xm 44 43,
xg 45 (.load true 2 (.tmp 4)) 44 true,
xg 46 (.build [xz,xz] [(0,1,(xk 793624)),(1,1,(xk 793636))]) 44 true,
xg 47 (.eqAgg false [(.int .i64),(.int .i64)] (.tmp 45) (.tmp 46)) 44 true,
xi 48 (.pick (.tmp 44) (.tmp 47) xF),
xm 49 48,
ym 50 8 49 true,
yb 51 .eql (.tmp 50) xq 49 true,
xi 52 (.pick (.tmp 49) (.tmp 51) xF),
xm 53 52,
ym 54 6 53 true,
xg 55 (.buildSlice 1 2 [xz,xz] [(0,1,(xk 1900)),(1,1,(xk 1800))]) 53 true,
xg 56 (.call 59 [.tmp 54,.tmp 55]) 53 true,
xi 57 (.pick (.tmp 53) (.tmp 56) xF),
xm 0 57])
.ret))))),
[.tmp 0],.pure,58⟩
def ef11:EFun:=⟨
.seq (xr [xv 1 0,
xi 2 (.move xF)])
(.seq (.seq (xr [xf 4 1 1,
xl 5 4,
xc 6 60 [.tmp 5],
xi 7 (.un .not (.tmp 6)),
xm 8 7,
yf 9 2 1 8 false,
yl 10 9 8 false,
xg 11 (.len false (.tmp 10)) 8 false,
yb 12 .gtr (.tmp 11) (xk 6) 8 false,
xi 13 (.pick (.tmp 8) xT (.tmp 12))])
(.cond (.tmp 13) (.seq (xr [xi 2 (.move xF)])
.ret)
.skip))
(.seq (.seq (xr [xi 3 (.move xq)])
(.block 0 (.loop (some [1,3]) (
.seq (.seq (xr [xm 14 3,
xf 15 2 1,
xl 16 15,
xn 17 16,
xB 18 .lss 14 17])
(.cond (.tmp 18) .skip
(.exit 0)))
(.seq (.block 1 (.seq (xr [xf 21 2 1,
xl 22 21,
xm 23 3,
xi 24 (.indexAddr none 10 (.tmp 22) (.tmp 23)),
xf 25 5 24,
xL 26 5 25,
xc 27 61 [.tmp 26],
xi 28 (.un .not (.tmp 27))])
(.cond (.tmp 28) (.seq (xr [xi 2 (.move xF)])
.ret)
.skip)))
(xr [xm 19 3,
xb 20 .add (.tmp 19) (xk 1),
xm 3 20]))))))
(.seq (xr [xi 2 (.move xT)])
.ret))),
[.tmp 2],.pure,29⟩
def ef12:EFun:=⟨
.seq (xr [xi 2 (.move xF)])
(.seq (xr [xm 3 0,
xn 4 3,
xb 5 .leq (.tmp 4) (xk 6),
xm 6 5,
ym 7 0 6 false,
xg 8 (.len false (.tmp 7)) 6 false,
yb 9 .gtr (.tmp 8) (xk 20) 6 false,
ym 10 9 6 false,
ym 11 0 10 true,
xg 12 (.len false (.tmp 11)) 10 true,
yb 13 .leq (.tmp 12) (xk 25) 10 true,
xg 14 (.pick (.tmp 10) (.tmp 13) xF) 6 false,
xi 15 (.pick (.tmp 6) xT (.tmp 14)),
xm 2 15])
.ret),
[.tmp 2],.pure,16⟩
def ef14:EFun:=⟨
.seq (xr [xv 1 0,
xi 2 (.push [xz,(.slice none 0 0),(.slice none 0 0)])])
(.seq (xr [xi 3 (.buildSlice 4 0 [] []),
xf 4 1 1,
xl 5 4,
xi 6 (.append 4 40 (.tmp 3) (.tmp 5)),
xf 7 1 1,
xt 1 7 6])
(.seq (xr [xi 8 (.buildSlice 10 0 [] []),
xf 9 2 1,
xl 10 9,
xi 11 (.append 10 96 (.tmp 8) (.tmp 10)),
xf 12 2 1,
xt 1 12 11])
(.seq (xr [xL 13 3 1,
xt 3 2 13])
.ret))),
[.cell 2 true 3],.pure,14⟩
def ef15:EFun:=⟨
.seq (xr [xi 2 (.move (.const (.slice none 0 0)))])
(.seq (xr [xi 3 (.buildSlice 1 0 [] []),
xm 4 0,
xi 5 (.append 1 8 (.tmp 3) (.tmp 4)),
xm 2 5])
.ret),
[.tmp 2],.pure,6⟩
def ef16:EFun:=⟨
.seq (xr [xv 3 0,
xv 4 1,
xi 6 (.move xq)])
(.seq (.seq (xr [xL 11 3 3,
xc 12 34 [.tmp 11],
xm 10 12,
xe 13 10 0,
xe 14 10 1,
xm 7 13,
xm 8 14])
(.seq (xr [xm 15 8,
xb 16 .neq (.tmp 15) xq])
(.cond (.tmp 16) (.seq (xr [xm 17 8,
xm 6 17])
.ret)
.skip)))
(.seq (.seq (xr [xL 18 4 4,
xc 19 63 [.tmp 18],
xm 9 19])
(.seq (xr [xm 20 9,
xb 21 .neq (.tmp 20) xq])
(.cond (.tmp 21) (.seq (xr [xm 22 9,
xm 6 22])
.ret)
.skip)))
(.seq (xr [xm 23 2,
xc 24 64 [.tmp 23],
xm 6 24])
.ret))),
[.tmp 6],.pure,25⟩
def ef18:EFun:=⟨
.seq (xr [xv 3 0,
xv 4 1,
xi 6 (.move (.const (.slice none 0 0)))])
(.seq (xr [xi 7 (.move (.const (.slice none 0 0)))])
(.seq (.seq (xr [xi 8 (.move xq)])
(.block 0 (.loop (some [2,3,4,7,8]) (
.seq (.seq (xr [xm 11 8,
xf 12 0 3,
xf 13 2 12,
xl 14 13,
xn 15 14,
xB 16 .lss 11 15])
(.cond (.tmp 16) .skip
(.exit 0)))
(.seq (.block 1 (.seq (xr [xi 9 (.move (.const (.slice none 0 0)))])
(.seq (.seq (xr [xi 10 (.move xq)])
(.block 2 (.loop (some [2,3,4,7,8,9,10]) (
.seq (.seq (xr [xm 19 10,
xm 20 2,
xn 21 20,
xB 22 .lss 19 21])
(.cond (.tmp 22) .skip
(.exit 2)))
(.seq (.block 3 (.seq (xR [xL 25 4 3,
xL 26 4 4,
xm 27 8,
xm 28 2,
xm 29 10,
xa 30 28 29,
xl 31 30,
xc 32 65 [.tmp 25,.tmp 26,.tmp 27,.tmp 31]])
(.cond (.tmp 32) (xr [xm 33 9,
xm 34 10,
xi 35 (.buildSlice 1 1 [xz] [(0,1,(.tmp 34))]),
xi 36 (.appendT 1 8 (.tmp 33) (.tmp 35)),
xm 9 36])
.skip)))
(xr [xm 23 10,
xb 24 .add (.tmp 23) (xk 1),
xm 10 24]))))))
(xr [xm 37 7,
xm 38 9,
xi 39 (.buildSlice 1 1 [(.slice none 0 0)] [(0,1,(.tmp 38))]),
xi 40 (.appendT 1 24 (.tmp 37) (.tmp 39)),
xm 7 40]))))
(xr [xm 17 8,
xb 18 .add (.tmp 17) (xk 1),
xm 8 18]))))))
(.seq (xr [xm 41 7,
xm 6 41])
.ret))),
[.tmp 6],.full,42⟩
def ef19:EFun:=⟨
.seq (xr [xv 1 0,
xi 2 (.push [xz,(.slice none 0 0),(.slice none 0 0),(.slice none 0 0)])])
(.seq (xr [xL 7 3 1,
xi 8 (.build [xz,(.slice none 0 0),(.slice none 0 0),(.slice none 0 0)] [(0,3,(.tmp 7))]),
xi 3 (.push [xz,(.slice none 0 0),(.slice none 0 0),(.slice none 0 0)]),
xt 4 3 8])
(.seq (.seq (xr [xi 4 (.move xq)])
(.block 0 (.loop (some [1,2,3,4]) (
.seq (.seq (xr [xm 9 4,
xf 10 2 1,
xl 11 10,
xn 12 11,
xB 13 .lss 9 12])
(.cond (.tmp 13) .skip
(.exit 0)))
(.seq (.block 1 (.seq (xR [xf 17 2 1,
xl 18 17,
xm 19 4,
xi 20 (.indexAddr none 10 (.tmp 18) (.tmp 19)),
xf 21 0 20,
xL 22 4 21,
xf 23 0 1,
xl 24 23,
xC 25 66 [.tmp 22,.tmp 24],
xm 16 25,
xe 26 16 0,
xe 27 16 1,
xi 5 (.push [xz,xz]),
xt 2 5 26,
xm 6 27])
(xr [xf 28 3 3,
xl 29 28,
xL 30 2 5,
xi 31 (.buildSlice 2 1 [xz,xz] [(0,2,(.tmp 30))]),
xi 32 (.append 2 16 (.tmp 29) (.tmp 31)),
xf 33 3 3,
xt 1 33 32])))
(xr [xm 14 4,
xb 15 .add (.tmp 14) (xk 1),
xm 4 15]))))))
(.seq (xr [xL 34 4 3,
xt 4 2 34])
.ret))),
[.cell 2 true 4],.pure,35⟩
def ef20:EFun:=⟨
.seq (xr [xv 4 0,
xv 5 1,
xv 6 2,
xv 7 3,
xi 8 (.move xq),
xi 9 (.move xq)])
(.seq (xr [xL 17 3 4,
xL 18 4 5,
xl 19 6,
xc 20 62 [.tmp 17,.tmp 18,.tmp 19],
xm 16 20,
xe 21 16 0,
xe 22 16 1,
xm 10 21,
xm 11 22])
(.seq (.seq (xr [xm 23 11,
xb 24 .neq (.tmp 23) xq])
(.cond (.tmp 24) (.seq (xr [xm 25 11,
xi 8 (.move xq),
xm 9 25])
.ret)
.skip))
(.seq (xr [xf 26 2 4,
xl 27 26,
xn 28 27,
xm 12 28])
(.seq (.seq (xr [xf 29 0 7,
xl 30 29,
xn 31 30,
xm 32 12,
xB 33 .neq 31 32,
xm 34 33,
yf 35 1 7 34 false,
yl 36 35 34 false,
xg 37 (.len false (.tmp 36)) 34 false,
ym 38 12 34 false,
yb 39 .neq (.tmp 37) (.tmp 38) 34 false,
xi 40 (.pick (.tmp 34) xT (.tmp 39)),
xm 41 40,
yf 42 1 7 41 false,
yl 43 42 41 false,
xg 44 (.makeFunc (.func 68) [.tmp 6]) 41 false,
xg 45 (.call 67 [.tmp 43,.tmp 44]) 41 false,
xi 46 (.pick (.tmp 41) xT (.tmp 45))])
(.cond (.tmp 46) (.seq (xr [xi 8 (.move xq),
xi 9 (.move (xk 10))])
.ret)
.skip))
(.seq (xr [xm 48 10,
xf 49 0 7,
xl 50 49,
xc 51 69 [.tmp 48,.tmp 50],
xm 47 51,
xe 52 47 0,
xe 53 47 1,
xm 13 52,
xm 11 53])
(.seq (.seq (xr [xm 54 11,
xb 55 .neq (.tmp 54) xq])
(.cond (.tmp 55) (.seq (xr [xm 56 11,
xi 8 (.move xq),
xm 9 56])
.ret)
.skip))
(.seq (.seq (xr [xf 57 1 7,
xl 58 57,
xc 59 70 [.tmp 58],
xn 60 59,
xi 61 (.move xq)])
(.block 0 (.loop (some [7,10,13,59,60,61]) (
.seq (xr [xB 62 .lss 61 60])
(.seq (.cond (.tmp 62) .skip
(.exit 0))
(.seq (.block 1 (.seq (xr [xa 63 59 61,
xl 64 63,
xm 15 64])
(.seq (xr [xm 65 15,
xc 66 71 [.tmp 65,(.const (.int .i64 (-1000000))),(xk 1000000)],
xi 67 (.un .not (.tmp 66))])
(.cond (.tmp 67) (.seq (xr [xi 8 (.move xq),
xi 9 (.move (xk 2))])
.ret)
.skip))))
(xr [xb 68 .add (.tmp 61) (xk 1),
xm 61 68])))))))
(.seq (.seq (xr [xm 69 10,
xf 70 1 7,
xl 71 70,
xm 72 13,
xc 73 72 [.tmp 69,.tmp 71,.tmp 72],
xi 74 (.un .not (.tmp 73))])
(.cond (.tmp 74) (.seq (xr [xi 8 (.move xq),
xi 9 (.move (xk 22))])
.ret)
.skip))
(.seq (xr [xm 75 13,
xm 8 75,
xi 9 (.move xq)])
.ret))))))))),
[.tmp 8,.tmp 9],.full,76⟩
def ef21:EFun:=⟨
.seq (xr [xv 1 0,
xi 2 (.push [(.slice none 0 0),(.slice none 0 0)])])
(.seq (xr [xf 5 0 1,
xl 6 5,
xc 7 15 [.tmp 6],
xi 8 (.build [(.slice none 0 0),(.slice none 0 0)] [(0,1,(.tmp 7))]),
xi 3 (.push [(.slice none 0 0),(.slice none 0 0)]),
xt 2 3 8])
(.seq (.seq (xr [xi 4 (.move xq)])
(.block 0 (.loop (some [1,2,3,4]) (
.seq (.seq (xr [xm 9 4,
xf 10 1 1,
xl 11 10,
xn 12 11,
xB 13 .lss 9 12])
(.cond (.tmp 13) .skip
(.exit 0)))
(.seq (.block 1 (xR [xf 16 1 3,
xl 17 16,
xf 18 1 1,
xl 19 18,
xm 20 4,
xa 21 19 20,
xl 22 21,
xC 23 15 [.tmp 22],
xi 24 (.buildSlice 1 1 [(.slice none 0 0)] [(0,1,(.tmp 23))]),
xi 25 (.appendT 1 24 (.tmp 17) (.tmp 24)),
xf 26 1 3,
xt 1 26 25]))
(xr [xm 14 4,
xb 15 .add (.tmp 14) (xk 1),
xm 4 15]))))))
(.seq (xr [xL 27 2 3,
xt 2 2 27])
.ret))),
[.cell 2 true 2],.full,28⟩
def ef22:EFun:=⟨
.seq (xr [xv 4 0,
xv 5 1,
xv 7 3,
xi 8 (.move xq),
xi 9 (.move xq)])
(.seq (xr [xf 18 0 4,
xf 19 2 18,
xl 20 19,
xn 21 20,
xm 10 21])
(.seq (.seq (xr [xf 22 0 7,
xl 23 22,
xn 24 23,
xm 25 10,
xB 26 .neq 24 25,
xm 27 26,
yf 28 1 7 27 false,
yl 29 28 27 false,
xg 30 (.len false (.tmp 29)) 27 false,
ym 31 10 27 false,
yb 32 .neq (.tmp 30) (.tmp 31) 27 false,
xi 33 (.pick (.tmp 27) xT (.tmp 32))])
(.cond (.tmp 33) (.seq (xr [xi 8 (.move xq),
xi 9 (.move (xk 10))])
.ret)
.skip))
(.seq (.seq (xr [xi 11 (.move xq)])
(.block 0 (.loop (some [2,4,5,7,10,11]) (
.seq (.seq (xr [xm 34 11,
xm 35 10,
xB 36 .lss 34 35])
(.cond (.tmp 36) .skip
(.exit 0)))
(.seq (.block 1 (.seq (xr [xf 39 1 7,
xl 40 39,
xm 41 11,
xa 42 40 41,
xl 43 42,
xn 44 43,
xm 45 2,
xn 46 45,
xB 47 .neq 44 46])
(.cond (.tmp 47) (.seq (xr [xi 8 (.move xq),
xi 9 (.move (xk 10))])
.ret)
.skip)))
(xr [xm 37 11,
xb 38 .add (.tmp 37) (xk 1),
xm 11 38]))))))
(.seq (xr [xL 49 4 4,
xL 50 4 5,
xm 51 2,
xf 52 0 7,
xl 53 52,
xc 54 73 [.tmp 49,.tmp 50,.tmp 51,.tmp 53],
xm 48 54,
xe 55 48 0,
xe 56 48 1,
xm 12 55,
xm 13 56])
(.seq (.seq (xr [xm 57 13,
xb 58 .neq (.tmp 57) xq])
(.cond (.tmp 58) (.seq (xr [xm 59 13,
xi 8 (.move xq),
xm 9 59])
.ret)
.skip))
(.seq (.seq (xr [xi 14 (.move xq)])
(.block 2 (.loop (some [2,4,5,7,10,12,14]) (
.seq (.seq (xr [xm 60 14,
xm 61 10,
xB 62 .lss 60 61])
(.cond (.tmp 62) .skip
(.exit 2)))
(.seq (.block 3 (.seq (xr [xi 15 (.move xq)])
(.block 4 (.loop (some [2,4,5,7,10,12,14,15]) (
.seq (.seq (xr [xm 65 15,
xm 66 2,
xn 67 66,
xB 68 .lss 65 67])
(.cond (.tmp 68) .skip
(.exit 4)))
(.seq (.block 5 (.seq (xr [xf 71 1 7,
xl 72 71,
xm 73 14,
xa 74 72 73,
xl 75 74,
xm 76 15,
xa 77 75 76,
xl 78 77,
xc 79 74 [.tmp 78,(.const (.int .i64 (-1000000))),(xk 1000000)],
xi 80 (.un .not (.tmp 79))])
(.cond (.tmp 80) (.seq (xr [xi 8 (.move xq),
xi 9 (.move (xk 2))])
.ret)
.skip)))
(xr [xm 69 15,
xb 70 .add (.tmp 69) (xk 1),
xm 15 70])))))))
(xr [xm 63 14,
xb 64 .add (.tmp 63) (xk 1),
xm 14 64]))))))
(.seq (.seq (xr [xL 82 4 4,
xL 83 4 5,
xm 84 2,
xf 85 1 7,
xl 86 85,
xc 87 75 [.tmp 82,.tmp 83,.tmp 84,.tmp 86],
xm 81 87,
xe 88 81 0,
xe 89 81 1,
xm 16 88,
xm 17 89])
(.seq (xr [xm 90 17,
xi 91 (.un .not (.tmp 90)),
xm 92 91,
ym 93 16 92 false,
ym 94 12 92 false,
yb 95 .neq (.tmp 93) (.tmp 94) 92 false,
xi 96 (.pick (.tmp 92) xT (.tmp 95))])
(.cond (.tmp 96) (.seq (xr [xi 8 (.move xq),
xi 9 (.move (xk 22))])
.ret)
.skip)))
(.seq (xr [xm 97 12,
xm 8 97,
xi 9 (.move xq)])
.ret)))))))),
[.tmp 8,.tmp 9],.pure,98⟩
def ef23:EFun:=⟨
.seq (xr [xv 3 0,
xv 4 1,
xi 6 (.push [(.slice none 0 0),(.slice none 0 0)]),
xi 7 (.move xq),
xi 8 (.move xq)])
(.seq (xr [xL 21 3 3,
xL 22 4 4,
xm 23 2,
xc 24 62 [.tmp 21,.tmp 22,.tmp 23],
xm 20 24,
xe 25 20 0,
xe 26 20 1,
xm 9 25,
xm 10 26])
(.seq (.seq (xr [xm 27 10,
xb 28 .neq (.tmp 27) xq,
xm 29 28,
yf 30 2 3 29 false,
yl 31 30 29 false,
xg 32 (.len false (.tmp 31)) 29 false,
yb 33 .eql (.tmp 32) xq 29 false,
xi 34 (.pick (.tmp 29) xT (.tmp 33))])
(.cond (.tmp 34) (.seq (xr [xi 35 (.build [(.slice none 0 0),(.slice none 0 0)] []),
xm 36 10,
xt 2 6 35,
xi 7 (.move xq),
xm 8 36])
.ret)
.skip))
(.seq (xr [xm 37 9,
xc 38 76 [.tmp 37],
xm 11 38])
(.seq (.seq (xr [xm 39 11,
xn 40 39,
xi 41 (.move xq)])
(.block 0 (.loop (some [6,9,11,39,40,41]) (
.seq (xr [xB 42 .lss 41 40])
(.seq (.cond (.tmp 42) .skip
(.exit 0))
(.seq (.block 1 (.seq (xr [xm 43 41,
xa 44 39 41,
xl 45 44,
xm 12 43,
xm 13 45])
(.seq (xr [xm 46 9,
xm 47 12,
xm 48 13,
xc 49 77 [.tmp 46,.tmp 47,.tmp 48],
xb 50 .lss (.tmp 49) xq])
(.cond (.tmp 50) (.seq (xr [xi 51 (.build [(.slice none 0 0),(.slice none 0 0)] []),
xm 52 12,
xt 2 6 51,
xm 7 52,
xi 8 (.move (xk 12))])
.ret)
.skip))))
(xr [xb 53 .add (.tmp 41) (xk 1),
xm 41 53])))))))
(.seq (xr [xm 54 11,
xn 55 54,
xb 56 .sub (.tmp 55) (xk 1),
xm 14 56])
(.seq (xr [xm 57 11,
xn 58 57,
xi 59 (.makeSlice 1 8 [xz] (.tmp 58) (.tmp 58)),
xm 60 11,
xi 61 (.build [(.slice none 0 0),(.slice none 0 0)] [(0,1,(.tmp 59)),(1,1,(.tmp 60))]),
xi 15 (.push [(.slice none 0 0),(.slice none 0 0)]),
xt 2 15 61])
(.seq (xR [xf 62 0 15,
xl 63 62,
xm 64 14,
xm 65 9,
xm 66 14,
xm 67 11,
xm 68 14,
xa 69 67 68,
xl 70 69,
xC 71 77 [.tmp 65,.tmp 66,.tmp 70],
xa 72 63 64,
xt 1 72 71])
(.seq (.seq (xr [xm 73 14,
xb 74 .sub (.tmp 73) (xk 1),
xm 16 74])
(.block 2 (.loop (some [6,9,11,14,15,16]) (
.seq (.seq (xr [xm 75 16,
xb 76 .geq (.tmp 75) xq])
(.cond (.tmp 76) .skip
(.exit 2)))
(.seq (.block 3 (.seq (xr [xf 79 0 15,
xl 80 79,
xm 81 16,
xb 82 .add (.tmp 81) (xk 1),
xa 83 80 82,
xl 84 83,
xm 17 84])
(.seq (xr [xm 85 11,
xm 86 16,
xa 87 85 86,
xl 88 87,
xn 89 88,
xi 90 (.move xq)])
(.block 4 (.loop (some [6,9,11,14,15,16,17,88,89,90]) (
.seq (xr [xB 91 .lss 90 89])
(.seq (.cond (.tmp 91) .skip
(.exit 4))
(.seq (.block 5 (.seq (xr [xm 92 90,
xa 93 88 90,
xl 94 93,
xm 18 92,
xm 19 94])
(.seq (xR [xm 95 9,
xm 96 16,
xm 97 18,
xm 98 17,
xc 99 78 [.tmp 95,.tmp 96,.tmp 97,.tmp 98],
xm 100 99,
ym 101 19 100 true,
ym 102 18 100 true,
ym 103 17 100 true,
⟨(some 104),.call 79 [.tmp 102,.tmp 103],(some (100,true)),[],false,true⟩,
yb 105 .add (.tmp 101) (.tmp 104) 100 true,
ym 106 11 100 true,
ym 107 16 100 true,
yb 108 .add (.tmp 107) (xk 1) 100 true,
ya 109 106 108 100 true,
yl 110 109 100 true,
ym 111 17 100 true,
ya 112 110 111 100 true,
yl 113 112 100 true,
yb 114 .eql (.tmp 105) (.tmp 113) 100 true,
xi 115 (.pick (.tmp 100) (.tmp 114) xF)])
(.cond (.tmp 115) (.seq (xr [xf 116 0 15,
xl 117 116,
xm 118 16,
xm 119 18,
xa 120 117 118,
xt 1 120 119])
(.exit 4))
.skip))))
(xr [xb 121 .add (.tmp 90) (xk 1),
xm 90 121])))))))))
(xr [xm 77 16,
xb 78 .sub (.tmp 77) (xk 1),
xm 16 78]))))))
(.seq (xR [xL 122 2 15,
xm 123 11,
xm 124 14,
xa 125 123 124,
⟨(some 126),.load false 1 (.tmp 125),none,[],true,false⟩,
xf 127 0 15,
⟨(some 128),.load false 1 (.tmp 127),none,[],true,false⟩,
xm 129 14,
xa 130 128 129,
⟨(some 131),.load false 1 (.tmp 130),none,[],true,false⟩,
xa 132 126 131,
⟨(some 133),.load false 1 (.tmp 132),none,[],true,false⟩,
⟨none,.store 2 (.tmp 6) (.tmp 122),none,[4,6,9,11],false,false⟩,
xm 7 133,
xi 8 (.move xq)])
.ret))))))))),
[.cell 6 true 2,.tmp 7,.tmp 8],.full,134⟩
def ef24:EFun:=⟨
.seq (xr [xv 3 0,
xv 4 1,
xi 6 (.move xq),
xi 7 (.move xq)])
(.seq (xr [xL 18 4 3,
xL 19 4 4,
xm 20 2,
xc 21 18 [.tmp 18,.tmp 19,.tmp 20],
xm 8 21])
(.seq (xr [xi 9 (.move (.const (.slice none 0 0)))])
(.seq (.seq (xr [xi 10 (.move xq)])
(.block 0 (.loop (some [2,3,4,8,9,10]) (
.seq (.seq (xr [xm 22 10,
xm 23 8,
xn 24 23,
xB 25 .lss 22 24])
(.cond (.tmp 25) .skip
(.exit 0)))
(.seq (.block 1 (.seq (xr [xm 28 2,
xn 29 28,
xi 30 (.makeSlice 1 8 [xz] (.tmp 29) (.tmp 29)),
xm 11 30])
(.seq (xr [xi 12 (.move xF)])
(.seq (.seq (xr [xi 13 (.move xq)])
(.block 2 (.loop (some [2,3,4,8,9,10,11,12,13]) (
.seq (.seq (xr [xm 31 13,
xm 32 2,
xn 33 32,
xB 34 .lss 31 33])
(.cond (.tmp 34) .skip
(.exit 2)))
(.seq (.block 3 (.seq (xr [xm 37 11,
xm 38 13,
xa 39 37 38,
⟨none,.store 1 (.tmp 39) (.const (.int .i64 (-1))),none,[],false,false⟩])
(.seq (.seq (xr [xm 40 8,
xm 41 10,
xa 42 40 41,
xl 43 42,
xm 44 13,
xc 45 80 [.tmp 43,.tmp 44],
xi 46 (.un .not (.tmp 45))])
(.cond (.tmp 46) (.exit 3)
.skip))
(.seq (.seq (xr [xm 47 10,
xb 48 .eql (.tmp 47) xq])
(.cond (.tmp 48) (xr [xm 49 11,
xm 50 13,
xa 51 49 50,
⟨none,.store 1 (.tmp 51) xq,none,[],false,false⟩])
.skip))
(.seq (.seq (xr [xi 14 (.move xq)])
(.block 4 (.loop (some [2,3,4,8,9,10,11,12,13,14]) (
.seq (.seq (xr [xm 52 10,
xb 53 .gtr (.tmp 52) xq,
xm 54 53,
ym 55 14 54 true,
ym 56 2 54 true,
xg 57 (.len false (.tmp 56)) 54 true,
yb 58 .lss (.tmp 55) (.tmp 57) 54 true,
xi 59 (.pick (.tmp 54) (.tmp 58) xF)])
(.cond (.tmp 59) .skip
(.exit 4)))
(.seq (.block 5 (.seq (.seq (xR [xm 62 9,
xm 63 14,
xa 64 62 63,
xl 65 64,
xb 66 .lss (.tmp 65) xq,
xm 67 66,
xg 68 (.load true 4 (.tmp 3)) 67 false,
xg 69 (.load true 4 (.tmp 4)) 67 false,
ym 70 10 67 false,
yb 71 .sub (.tmp 70) (xk 1) 67 false,
ym 72 2 67 false,
ym 73 14 67 false,
ya 74 72 73 67 false,
yl 75 74 67 false,
ym 76 2 67 false,
ym 77 13 67 false,
ya 78 76 77 67 false,
yl 79 78 67 false,
xg 80 (.call 81 [.tmp 68,.tmp 69,.tmp 71,.tmp 75,.tmp 79]) 67 false,
xg 81 (.un .not (.tmp 80)) 67 false,
xi 82 (.pick (.tmp 67) xT (.tmp 81))])
(.cond (.tmp 82) (.exit 5)
.skip))
(.seq (xR [xm 83 9,
xm 84 14,
xa 85 83 84,
xl 86 85,
xm 87 13,
xm 88 14,
xB 89 .sub 87 88,
xC 90 82 [.tmp 89],
xB 91 .add 86 90,
xm 15 91])
(.seq (xr [xm 92 11,
xm 93 13,
xa 94 92 93,
xl 95 94,
xb 96 .lss (.tmp 95) xq,
xm 97 96,
ym 98 15 97 false,
ym 99 11 97 false,
ym 100 13 97 false,
ya 101 99 100 97 false,
yl 102 101 97 false,
yb 103 .lss (.tmp 98) (.tmp 102) 97 false,
xi 104 (.pick (.tmp 97) xT (.tmp 103))])
(.cond (.tmp 104) (xr [xm 105 11,
xm 106 13,
xm 107 15,
xa 108 105 106,
xt 1 108 107])
.skip)))))
(xr [xm 60 14,
xb 61 .add (.tmp 60) (xk 1),
xm 14 61]))))))
(xr [xm 109 12,
xm 110 109,
ym 111 11 110 false,
ym 112 13 110 false,
ya 113 111 112 110 false,
yl 114 113 110 false,
yb 115 .geq (.tmp 114) xq 110 false,
xi 116 (.pick (.tmp 110) xT (.tmp 115)),
xm 12 116]))))))
(xr [xm 35 13,
xb 36 .add (.tmp 35) (xk 1),
xm 13 36]))))))
(.seq (.seq (xr [xm 117 12,
xi 118 (.un .not (.tmp 117))])
(.cond (.tmp 118) (.seq (xr [xm 119 10,
xi 6 (.move xq),
xm 7 119])
.ret)
.skip))
(xr [xm 120 11,
xm 9 120]))))))
(xr [xm 26 10,
xb 27 .add (.tmp 26) (xk 1),
xm 10 27]))))))
(.seq (xr [xi 16 (.move (.const (.int .i64 (-1))))])
(.seq (.seq (xr [xi 17 (.move xq)])
(.block 6 (.loop (some [9,16,17]) (
.seq (.seq (xr [xm 121 17,
xm 122 9,
xn 123 122,
xB 124 .lss 121 123])
(.cond (.tmp 124) .skip
(.exit 6)))
(.seq (.block 7 (.seq (xr [xm 127 9,
xm 128 17,
xa 129 127 128,
xl 130 129,
xb 131 .geq (.tmp 130) xq,
xm 132 131,
ym 133 16 132 true,
yb 134 .lss (.tmp 133) xq 132 true,
ym 135 134 132 true,
ym 136 9 135 false,
ym 137 17 135 false,
ya 138 136 137 135 false,
yl 139 138 135 false,
ym 140 16 135 false,
yb 141 .lss (.tmp 139) (.tmp 140) 135 false,
xg 142 (.pick (.tmp 135) xT (.tmp 141)) 132 true,
xi 143 (.pick (.tmp 132) (.tmp 142) xF)])
(.cond (.tmp 143) (xr [xm 144 9,
xm 145 17,
xa 146 144 145,
xl 147 146,
xm 16 147])
.skip)))
(xr [xm 125 17,
xb 126 .add (.tmp 125) (xk 1),
xm 17 126]))))))
(.seq (xr [xm 148 16,
xi 149 (.max [.tmp 148,xq]),
xm 6 149,
xi 7 (.move (.const (.int .i64 (-1))))])
.ret)))))),
[.tmp 6,.tmp 7],.full,150⟩
def ef34:EFun:=⟨
.seq (xr [xv 1 0,
xi 2 (.move xq),
xi 3 (.move xq)])
(.seq (.seq (xr [xf 7 0 1,
xl 8 7,
xc 9 74 [.tmp 8,(xk 1000),(xk 10000000)],
xi 10 (.un .not (.tmp 9))])
(.cond (.tmp 10) (.seq (xr [xi 2 (.move xq),
xi 3 (.move (xk 2))])
.ret)
.skip))
(.seq (.seq (xr [xf 11 1 1,
xl 12 11,
xc 13 106 [.tmp 12],
xm 4 13])
(.seq (xr [xm 14 4,
xb 15 .neq (.tmp 14) xq])
(.cond (.tmp 15) (.seq (xr [xm 16 4,
xi 2 (.move xq),
xm 3 16])
.ret)
.skip)))
(.seq (.seq (xr [xf 17 2 1,
xl 18 17,
xn 19 18,
xb 20 .gtr (.tmp 19) (xk 90)])
(.cond (.tmp 20) (.seq (xr [xi 2 (.move xq),
xi 3 (.move (xk 8))])
.ret)
.skip))
(.seq (.seq (xr [xi 5 (.move xq)])
(.block 0 (.loop (some [1,5]) (
.seq (.seq (xr [xm 21 5,
xf 22 2 1,
xl 23 22,
xn 24 23,
xB 25 .lss 21 24])
(.cond (.tmp 25) .skip
(.exit 0)))
(.seq (.block 1 (.seq (xr [xL 28 3 1,
xm 29 5,
xc 30 107 [.tmp 28,.tmp 29],
xm 6 30])
(.seq (xr [xm 31 6,
xb 32 .neq (.tmp 31) xq])
(.cond (.tmp 32) (.seq (xr [xm 33 5,
xm 34 6,
xm 2 33,
xm 3 34])
.ret)
.skip))))
(xr [xm 26 5,
xb 27 .add (.tmp 26) (xk 1),
xm 5 27]))))))
(.seq (xr [xi 2 (.move xq),
xi 3 (.move xq)])
.ret))))),
[.tmp 2,.tmp 3],.pure,35⟩
def ef54:EFun:=⟨
.seq (xr [xv 4 1,
xv 5 2,
xi 6 (.push [xz,xz]),
xi 7 (.move xq)])
(.seq (xr [xm 11 0,
xL 12 5 4,
xL 13 2 5,
xc 14 124 [.tmp 11,.tmp 12,.tmp 13],
xm 10 14,
xe 15 10 0,
xe 16 10 1,
xi 8 (.push [(.string ⟨#[]⟩),xz,xz,xz,xz,xz,xz,(.string ⟨#[]⟩),(.string ⟨#[]⟩),xz,xz,xz,xz]),
xt 13 8 15,
xm 9 16])
(.seq (xr [xf 17 11 8,
xL 18 2 17,
xm 19 9,
xt 2 6 18,
xm 7 19])
.ret)),
[.cell 6 true 2,.tmp 7],.pure,20⟩
def ef55:EFun:=⟨
.seq (xr [xi 0 (.move (.const (.slice none 0 0)))])
(.seq (xr [xi 1 (.build [(.string ⟨#[]⟩),xz,xz,xz] [(0,1,(.const (.string ⟨#[115,116,101,101,108]⟩))),(1,1,(xk 24661)),(2,1,(xk 180000)),(3,1,(xk 97000000))]),
xi 2 (.buildSlice 4 1 [(.string ⟨#[]⟩),xz,xz,xz] [(0,4,(.tmp 1))]),
xm 0 2])
.ret),
[.tmp 0],.pure,3⟩
def ef56:EFun:=⟨
.seq (xr [xi 0 (.push [xz,xz,xz,(.string ⟨#[]⟩),(.string ⟨#[]⟩)])])
(.seq (xr [xi 1 (.build [xz,xz,xz,(.string ⟨#[]⟩),(.string ⟨#[]⟩)] [(0,1,(xk 40000)),(1,1,(xk 1000)),(3,1,(.const (.string ⟨#[115,116,101,101,108]⟩)))]),
xt 5 0 1])
.ret),
[.cell 0 true 5],.pure,2⟩
def ef57:EFun:=⟨
.seq (xr [xv 4 1,
xv 5 2,
xi 6 (.push [xz,xz]),
xi 7 (.move xq)])
(.seq (xr [xm 11 0,
xL 12 5 4,
xL 13 2 5,
xc 14 124 [.tmp 11,.tmp 12,.tmp 13],
xm 10 14,
xe 15 10 0,
xe 16 10 1,
xi 8 (.push [(.string ⟨#[]⟩),xz,xz,xz,xz,xz,xz,(.string ⟨#[]⟩),(.string ⟨#[]⟩),xz,xz,xz,xz]),
xt 13 8 15,
xm 9 16])
(.seq (.seq (xr [xm 17 9,
xb 18 .neq (.tmp 17) xq])
(.cond (.tmp 18) (.seq (xr [xi 19 (.build [xz,xz] []),
xm 20 9,
xt 2 6 19,
xm 7 20])
.ret)
.skip))
(.seq (xr [xL 21 13 8,
xc 22 125 [.tmp 21],
xe 23 22 0,
xe 24 22 1,
xt 2 6 23,
xm 7 24])
.ret))),
[.cell 6 true 2,.tmp 7],.pure,25⟩
def ef58:EFun:=⟨
.seq (xr [xv 3 1,
xi 4 (.move (.const (.slice none 0 0))),
xi 5 (.move (.const (.slice none 0 0))),
xi 6 (.move xq)])
(.seq (xr [xm 17 0,
xL 18 2 3,
xc 19 126 [.tmp 17,.tmp 18],
xm 16 19,
xe 20 16 0,
xe 21 16 1,
xm 7 20,
xm 8 21])
(.seq (.seq (xr [xm 22 8,
xb 23 .neq (.tmp 22) xq])
(.cond (.tmp 23) (.seq (xr [xm 24 8,
xi 4 (.move (.const (.slice none 0 0))),
xi 5 (.move (.const (.slice none 0 0))),
xm 6 24])
.ret)
.skip))
(.seq (.seq (xr [xm 26 0,
xn 27 26,
xb 28 .add (.tmp 27) (xk 1),
xm 29 7,
xc 30 127 [.tmp 28,.tmp 29],
xm 25 30,
xe 31 25 0,
xe 32 25 1,
xe 33 25 2,
xm 9 31,
xm 10 32,
xm 11 33])
(.seq (xr [xm 34 11,
xb 35 .neq (.tmp 34) xq])
(.cond (.tmp 35) (.seq (xr [xm 36 10,
xm 37 11,
xi 4 (.move (.const (.slice none 0 0))),
xm 5 36,
xm 6 37])
.ret)
.skip)))
(.seq (xr [xi 12 (.move (.const (.slice none 0 0)))])
(.seq (.seq (xr [xm 38 0,
xn 39 38,
xi 40 (.move xq)])
(.block 0 (.loop (some [3,12,38,39,40]) (
.seq (xr [xB 41 .lss 40 39])
(.seq (.cond (.tmp 41) .skip
(.exit 0))
(.seq (.block 1 (.seq (xr [xi 42 (.indexAddr none 2 (.tmp 38) (.tmp 40)),
xL 43 2 42,
xi 14 (.push [xz,xz]),
xt 2 14 43])
(xr [xm 44 12,
xf 45 1 14,
xl 46 45,
xi 47 (.buildSlice 1 1 [xz] [(0,1,(.tmp 46))]),
xi 48 (.append 1 8 (.tmp 44) (.tmp 47)),
xm 12 48])))
(xr [xb 49 .add (.tmp 40) (xk 1),
xm 40 49])))))))
(.seq (.seq (xr [xm 50 12,
xn 51 50,
xi 52 (.move xq)])
(.block 2 (.loop (some [3,12,51,52]) (
.seq (xr [xB 53 .lss 52 51])
(.seq (.cond (.tmp 53) .skip
(.exit 2))
(.seq (.block 3 (.seq (xr [xi 15 (.move (xk 1))])
(.block 4 (.loop (some [3,12,15,51,52]) (
.seq (.seq (xr [xm 54 15,
xm 55 12,
xn 56 55,
xB 57 .lss 54 56])
(.cond (.tmp 57) .skip
(.exit 4)))
(.seq (.block 5 (.seq (xR [xm 60 12,
xm 61 15,
xm 62 12,
xm 63 15,
xa 64 62 63,
xl 65 64,
xm 66 12,
xm 67 15,
xb 68 .sub (.tmp 67) (xk 1),
xa 69 66 68,
xl 70 69,
xf 71 0 3,
xl 72 71,
xB 73 .sub 70 72,
xi 74 (.min [.tmp 65,.tmp 73]),
xa 75 60 61,
xt 1 75 74])
(xR [xm 76 12,
xm 77 15,
xb 78 .sub (.tmp 77) (xk 1),
xm 79 12,
xm 80 15,
xb 81 .sub (.tmp 80) (xk 1),
xa 82 79 81,
xl 83 82,
xm 84 12,
xm 85 15,
xa 86 84 85,
xl 87 86,
xf 88 1 3,
xl 89 88,
xB 90 .add 87 89,
xi 91 (.min [.tmp 83,.tmp 90]),
xa 92 76 78,
xt 1 92 91])))
(xr [xm 58 15,
xb 59 .add (.tmp 58) (xk 1),
xm 15 59])))))))
(xr [xb 93 .add (.tmp 52) (xk 1),
xm 52 93])))))))
(.seq (xr [xm 94 12,
xm 4 94,
xi 5 (.move (.const (.slice none 0 0))),
xi 6 (.move xq)])
.ret))))))),
[.tmp 4,.tmp 5,.tmp 6],.pure,95⟩
def ef59:EFun:=⟨
.seq (xr [xi 4 (.move xF)])
(.seq (.seq (xr [xm 6 0,
xn 7 6,
xm 8 1,
xn 9 8,
xB 10 .neq 7 9])
(.cond (.tmp 10) (.seq (xr [xi 4 (.move xF)])
.ret)
.skip))
(.seq (.seq (xr [xi 5 (.move xq)])
(.block 0 (.loop (some [0,1,5]) (
.seq (.seq (xr [xm 11 5,
xm 12 0,
xn 13 12,
xB 14 .lss 11 13])
(.cond (.tmp 14) .skip
(.exit 0)))
(.seq (.block 1 (.seq (xR [xm 17 0,
xm 18 5,
xa 19 17 18,
xl 20 19,
xm 21 1,
xm 22 5,
xa 23 21 22,
xl 24 23,
xB 25 .neq 20 24])
(.cond (.tmp 25) (.seq (xr [xi 4 (.move xF)])
.ret)
.skip)))
(xr [xm 15 5,
xb 16 .add (.tmp 15) (xk 1),
xm 5 16]))))))
(.seq (xr [xi 4 (.move xT)])
.ret))),
[.tmp 4],.pure,26⟩
def ef60:EFun:=⟨
.seq (xr [xi 2 (.move xF)])
(.seq (.seq (xr [xm 4 0,
xn 5 4,
xb 6 .gtr (.tmp 5) (xk 6),
xm 7 6,
ym 8 0 7 true,
xg 9 (.len false (.tmp 8)) 7 true,
yb 10 .leq (.tmp 9) (xk 20) 7 true,
xi 11 (.pick (.tmp 7) (.tmp 10) xF),
xm 12 11,
ym 13 0 12 false,
xg 14 (.len false (.tmp 13)) 12 false,
yb 15 .gtr (.tmp 14) (xk 23) 12 false,
xi 16 (.pick (.tmp 12) xT (.tmp 15))])
(.cond (.tmp 16) (.seq (xr [xi 2 (.move xF)])
.ret)
.skip))
(.seq (.seq (xr [xi 3 (.move xq)])
(.block 0 (.loop (some [0,3]) (
.seq (.seq (xr [xm 17 3,
xm 18 0,
xn 19 18,
xB 20 .lss 17 19])
(.cond (.tmp 20) .skip
(.exit 0)))
(.seq (.block 1 (.seq (xr [xm 23 0,
xm 24 3,
xi 25 (.indexAddr none 4 (.tmp 23) (.tmp 24)),
xf 26 0 25,
xl 27 26,
xi 28 (.len true (.tmp 27)),
xb 29 .gtr (.tmp 28) (xk 20)])
(.cond (.tmp 29) (.seq (xr [xi 2 (.move xF)])
.ret)
.skip)))
(xr [xm 21 3,
xb 22 .add (.tmp 21) (xk 1),
xm 3 22]))))))
(.seq (xr [xi 2 (.move xT)])
.ret))),
[.tmp 2],.pure,30⟩
def ef61:EFun:=⟨
.seq (xr [xv 1 0,
xi 2 (.move xF)])
(.seq (xr [xf 3 3 1,
xl 4 3,
xi 5 (.len true (.tmp 4)),
xb 6 .leq (.tmp 5) (xk 20),
xm 7 6,
yf 8 4 1 7 true,
yl 9 8 7 true,
xg 10 (.len true (.tmp 9)) 7 true,
yb 11 .leq (.tmp 10) (xk 20) 7 true,
xi 12 (.pick (.tmp 7) (.tmp 11) xF),
xm 2 12])
.ret),
[.tmp 2],.pure,13⟩
def ef62:EFun:=⟨
.seq (xr [xv 3 0,
xv 4 1,
xi 6 (.move (.const (.pointer none))),
xi 7 (.move xq)])
(.seq (.seq (xr [xL 23 3 3,
xc 24 102 [.tmp 23],
xm 22 24,
xe 25 22 0,
xe 26 22 1,
xm 8 25,
xm 9 26])
(.seq (xr [xm 27 9,
xb 28 .neq (.tmp 27) xq])
(.cond (.tmp 28) (.seq (xr [xm 29 9,
xi 6 (.move (.const (.pointer none))),
xm 7 29])
.ret)
.skip)))
(.seq (.seq (xr [xL 30 4 4,
xc 31 128 [.tmp 30],
xm 10 31])
(.seq (xr [xm 32 10,
xb 33 .neq (.tmp 32) xq])
(.cond (.tmp 33) (.seq (xr [xm 34 10,
xi 6 (.move (.const (.pointer none))),
xm 7 34])
.ret)
.skip)))
(.seq (.seq (xr [xm 35 2,
xc 36 129 [.tmp 35],
xm 11 36])
(.seq (xr [xm 37 11,
xb 38 .neq (.tmp 37) xq])
(.cond (.tmp 38) (.seq (xr [xm 39 11,
xi 6 (.move (.const (.pointer none))),
xm 7 39])
.ret)
.skip)))
(.seq (xr [xf 40 3 4,
xl 41 40,
xi 42 (.build [(.slice none 0 0),(.slice none 0 0),xz] [(2,1,(.tmp 41))]),
xv 43 42,
xm 12 43])
(.seq (.seq (xr [xf 44 2 3,
xl 45 44,
xn 46 45,
xi 47 (.move xq)])
(.block 0 (.loop (some [2,3,4,12,45,46,47]) (
.seq (xr [xB 48 .lss 47 46])
(.seq (.cond (.tmp 48) .skip
(.exit 0))
(.seq (.block 1 (.seq (xr [xm 49 47,
xi 50 (.indexAddr none 10 (.tmp 45) (.tmp 47)),
xL 51 10 50,
xi 14 (.push [xz,xz,xz,xz,xz,xz,xz,xz,(.string ⟨#[]⟩),(.string ⟨#[]⟩)]),
xm 13 49,
xt 10 14 51])
(.seq (xr [xL 52 3 3,
xm 53 13,
xc 54 130 [.tmp 52,.tmp 53],
xi 15 (.push [xz,xz]),
xt 2 15 54])
(.seq (xR [xm 55 2,
xn 56 55,
xi 57 (.makeSlice 1 1 [(.bool false)] (.tmp 56) (.tmp 56)),
xm 58 2,
xn 59 58,
xi 60 (.makeSlice 2 16 [xz,xz] (.tmp 59) (.tmp 59)),
xm 16 57,
xm 17 60])
(.seq (.seq (xr [xm 61 2,
xn 62 61,
xi 63 (.move xq)])
(.block 2 (.loop (some [2,3,4,12,14,15,16,17,45,46,47,61,62,63]) (
.seq (xr [xB 64 .lss 63 62])
(.seq (.cond (.tmp 64) .skip
(.exit 2))
(.seq (.block 3 (.seq (xr [xm 65 63,
xa 66 61 63,
xl 67 66,
xm 18 65,
xm 19 67])
(.seq (xr [xf 68 5 14,
xL 69 5 68,
xi 20 (.push [xz,xz,xz,(.string ⟨#[]⟩),(.string ⟨#[]⟩)]),
xt 5 20 69])
(.seq (xr [xm 70 19,
xf 71 1 20,
xt 1 71 70])
(.seq (.seq (xr [xf 72 1 3,
xl 73 72,
xL 74 5 20,
xc 75 131 [.tmp 73,.tmp 74],
xb 76 .neq (.tmp 75) xq])
(.cond (.tmp 76) (.exit 3)
.skip))
(.seq (xr [xf 77 1 3,
xl 78 77,
xL 79 5 20,
xL 80 2 15,
xc 81 132 [.tmp 78,.tmp 79,.tmp 80],
xi 21 (.push [(.string ⟨#[]⟩),xz,xz,xz,xz,xz,xz,(.string ⟨#[]⟩),(.string ⟨#[]⟩),xz,xz,xz,xz]),
xt 13 21 81])
(xR [xm 82 16,
xm 83 18,
xm 84 17,
xm 85 18,
xL 86 13 21,
xL 87 4 4,
xC 88 133 [.tmp 86,.tmp 87],
xf 89 11 21,
⟨(some 90),.load true 2 (.tmp 89),none,[],true,false⟩,
xa 91 82 83,
⟨none,.store 1 (.tmp 91) (.tmp 88),none,[8],false,false⟩,
xi 92 (.indexAddr none 2 (.tmp 84) (.tmp 85)),
xt 2 92 90])))))))
(xr [xb 93 .add (.tmp 63) (xk 1),
xm 63 93])))))))
(xR [xm 94 12,
xm 95 12,
xm 96 12,
xi 97 (.nilCheck (.tmp 96)),
xf 98 0 97,
xl 99 98,
xm 100 16,
xi 101 (.buildSlice 1 1 [(.slice none 0 0)] [(0,1,(.tmp 100))]),
⟨(some 102),.appendT 1 24 (.tmp 99) (.tmp 101),none,[],true,false⟩,
xm 103 12,
xi 104 (.nilCheck (.tmp 103)),
xf 105 1 104,
⟨(some 106),.load false 1 (.tmp 105),none,[8],false,false⟩,
xm 107 17,
xi 108 (.buildSlice 1 1 [(.slice none 0 0)] [(0,1,(.tmp 107))]),
xi 109 (.appendT 1 24 (.tmp 106) (.tmp 108)),
xi 110 (.nilCheck (.tmp 94)),
xf 111 0 110,
xt 1 111 102,
xi 112 (.nilCheck (.tmp 95)),
xf 113 1 112,
xt 1 113 109]))))))
(xr [xb 114 .add (.tmp 47) (xk 1),
xm 47 114])))))))
(.seq (xr [xm 115 12,
xm 6 115,
xi 7 (.move xq)])
.ret)))))),
[.tmp 6,.tmp 7],.full,116⟩
def ef63:EFun:=⟨
.seq (xr [xv 1 0,
xi 2 (.move xq)])
(.seq (.seq (xr [xf 3 0 1,
xl 4 3,
xc 5 74 [.tmp 4,xq,(xk 1000000000000000)],
xi 6 (.un .not (.tmp 5)),
xm 7 6,
yf 8 1 1 7 false,
yl 9 8 7 false,
xg 10 (.call 74 [.tmp 9,xq,(xk 1000000000000000)]) 7 false,
xg 11 (.un .not (.tmp 10)) 7 false,
xi 12 (.pick (.tmp 7) xT (.tmp 11)),
xm 13 12,
yf 14 3 1 13 false,
yl 15 14 13 false,
xg 16 (.call 74 [.tmp 15,xq,(xk 1000000000000000)]) 13 false,
xg 17 (.un .not (.tmp 16)) 13 false,
xi 18 (.pick (.tmp 13) xT (.tmp 17)),
xm 19 18,
yf 20 2 1 19 false,
yl 21 20 19 false,
xg 22 (.call 74 [.tmp 21,xq,(xk 1000000)]) 19 false,
xg 23 (.un .not (.tmp 22)) 19 false,
xi 24 (.pick (.tmp 19) xT (.tmp 23))])
(.cond (.tmp 24) (.seq (xr [xi 2 (.move (xk 2))])
.ret)
.skip))
(.seq (.seq (xr [xf 25 0 1,
xl 26 25,
xf 27 1 1,
xl 28 27,
xB 29 .gtr 26 28])
(.cond (.tmp 29) (.seq (xr [xi 2 (.move (xk 9))])
.ret)
.skip))
(.seq (xr [xi 2 (.move xq)])
.ret))),
[.tmp 2],.pure,30⟩
def ef64:EFun:=⟨
.seq (xr [xi 2 (.move xq)])
(.seq (.seq (xr [xm 4 0,
xn 5 4,
xb 6 .eql (.tmp 5) xq,
xm 7 6,
ym 8 0 7 false,
xg 9 (.len false (.tmp 8)) 7 false,
yb 10 .gtr (.tmp 9) (xk 20) 7 false,
xi 11 (.pick (.tmp 7) xT (.tmp 10))])
(.cond (.tmp 11) (.seq (xr [xi 2 (.move (xk 8))])
.ret)
.skip))
(.seq (.seq (xr [xi 3 (.move xq)])
(.block 0 (.loop (some [0,3]) (
.seq (.seq (xr [xm 12 3,
xm 13 0,
xn 14 13,
xB 15 .lss 12 14])
(.cond (.tmp 15) .skip
(.exit 0)))
(.seq (.block 1 (.seq (.seq (xr [xm 18 0,
xm 19 3,
xa 20 18 19,
xl 21 20,
xc 22 74 [.tmp 21,(xk 100),(xk 3000)],
xi 23 (.un .not (.tmp 22))])
(.cond (.tmp 23) (.seq (xr [xi 2 (.move (xk 2))])
.ret)
.skip))
(.seq (xR [xm 24 3,
xb 25 .gtr (.tmp 24) xq,
xm 26 25,
ym 27 0 26 true,
ym 28 3 26 true,
yb 29 .sub (.tmp 28) (xk 1) 26 true,
ya 30 27 29 26 true,
yl 31 30 26 true,
ym 32 0 26 true,
ym 33 3 26 true,
ya 34 32 33 26 true,
yl 35 34 26 true,
yb 36 .geq (.tmp 31) (.tmp 35) 26 true,
xi 37 (.pick (.tmp 26) (.tmp 36) xF)])
(.cond (.tmp 37) (.seq (xr [xi 2 (.move (xk 9))])
.ret)
.skip))))
(xr [xm 16 3,
xb 17 .add (.tmp 16) (xk 1),
xm 3 17]))))))
(.seq (xr [xi 2 (.move xq)])
.ret))),
[.tmp 2],.pure,38⟩
def ef65:EFun:=⟨
.seq (xr [xv 4 0,
xv 5 1,
xi 8 (.move xF)])
(.seq (xr [xL 10 4 4,
xm 11 2,
xm 12 3,
xc 13 134 [.tmp 10,.tmp 11,.tmp 12],
xi 9 (.push [xz,xz,xz,(.string ⟨#[]⟩),(.string ⟨#[]⟩)]),
xt 5 9 13])
(.seq (xr [xf 14 0 4,
xf 15 1 14,
xl 16 15,
xL 17 5 9,
xc 18 135 [.tmp 16,.tmp 17],
xb 19 .eql (.tmp 18) xq,
xm 20 19,
xg 21 (.load true 4 (.tmp 4)) 20 true,
ym 22 2 20 true,
xg 23 (.load true 5 (.tmp 9)) 20 true,
xg 24 (.load true 4 (.tmp 5)) 20 true,
xg 25 (.call 136 [.tmp 21,.tmp 22,.tmp 23,.tmp 24]) 20 true,
xi 26 (.pick (.tmp 20) (.tmp 25) xF),
xm 8 26])
.ret)),
[.tmp 8],.pure,27⟩
def ef66:EFun:=⟨
.seq (xr [xv 2 0,
xi 4 (.push [xz,xz]),
xi 5 (.move xq)])
(.seq (xr [xf 13 0 2,
xl 14 13,
xf 15 1 2,
xl 16 15,
xf 17 2 2,
xl 18 17,
xc 19 137 [.tmp 14,.tmp 16,.tmp 18],
xm 12 19,
xe 20 12 0,
xe 21 12 1,
xm 6 20,
xm 7 21])
(.seq (xR [xm 22 6,
xm 23 1,
xC 24 140 [.tmp 23],
xf 25 3 2,
xl 26 25,
xc 27 139 [.tmp 24,.tmp 26],
xc 28 138 [.tmp 22,.tmp 27],
xm 6 28])
(.seq (xr [xi 8 (.move xq),
xi 9 (.move (xk 1000000000000001))])
(.seq (.block 0 (.loop (some [2,4,6,7,8,9]) (
.seq (.seq (xr [xm 29 8,
xm 30 9,
xB 31 .lss 29 30])
(.cond (.tmp 31) .skip
(.exit 0)))
(.block 1 (.seq (xr [xm 32 9,
xm 33 9,
xm 34 8,
xB 35 .sub 33 34,
xb 36 .quo (.tmp 35) (xk 2),
xB 37 .sub 32 36,
xm 10 37])
(.seq (xR [xm 38 10,
xC 39 140 [.tmp 38],
xf 40 3 2,
xl 41 40,
xc 42 139 [.tmp 39,.tmp 41],
xm 43 7,
xc 44 138 [.tmp 42,.tmp 43],
xm 45 6,
xc 46 141 [.tmp 44,.tmp 45],
xb 47 .leq (.tmp 46) xq])
(.cond (.tmp 47) (xr [xm 48 10,
xm 8 48])
(xr [xm 49 10,
xb 50 .sub (.tmp 49) (xk 1),
xm 9 50]))))))))
(.seq (xr [xm 51 8,
xm 11 51])
(.seq (.seq (xR [xm 52 8,
xC 53 140 [.tmp 52],
xf 54 3 2,
xl 55 54,
xc 56 139 [.tmp 53,.tmp 55],
xm 57 7,
xc 58 138 [.tmp 56,.tmp 57],
xm 59 6,
xc 60 141 [.tmp 58,.tmp 59],
xb 61 .neq (.tmp 60) xq])
(.cond (.tmp 61) (xr [xm 62 8,
xb 63 .add (.tmp 62) (xk 1),
xm 11 63])
.skip))
(.seq (.seq (xr [xm 64 11,
xb 65 .gtr (.tmp 64) (xk 1000000000000000)])
(.cond (.tmp 65) (.seq (xr [xi 66 (.build [xz,xz] []),
xt 2 4 66,
xi 5 (.move (xk 8))])
.ret)
.skip))
(.seq (xr [xm 67 8,
xm 68 11,
xi 69 (.build [xz,xz] [(0,1,(.tmp 67)),(1,1,(.tmp 68))]),
xt 2 4 69,
xi 5 (.move xq)])
.ret)))))))),
[.cell 4 true 2,.tmp 5],.pure,70⟩
def ef67:EFun:=⟨
.seq (xr [xi 4 (.move xF)])
(.seq (xr [xm 5 0,
xm 6 1,
xc 7 142 [.tmp 5,.tmp 6],
xb 8 .geq (.tmp 7) xq,
xm 4 8])
.ret),
[.tmp 4],.pure,9⟩
def ef68:EFun:=⟨
.seq (xr [xi 3 (.move xF)])
(.seq (xr [xm 4 0,
xn 5 4,
xl 6 1,
xn 7 6,
xB 8 .neq 5 7,
xm 3 8])
.ret),
[.tmp 3],.pure,9⟩
def ef69:EFun:=⟨
.seq (xr [xi 4 (.move xq),
xi 5 (.move xq)])
(.seq (xr [xi 6 (.move xq)])
(.seq (.seq (xr [xm 9 1,
xn 10 9,
xi 11 (.move xq)])
(.block 0 (.loop (some [0,1,6,9,10,11]) (
.seq (xr [xB 12 .lss 11 10])
(.seq (.cond (.tmp 12) .skip
(.exit 0))
(.seq (.block 1 (.seq (xr [xm 13 11,
xa 14 9 11,
xl 15 14,
xm 7 13,
xm 8 15])
(.block 2 (.seq (xr [xm 17 8,
xm 18 0,
xi 19 (.nilCheck (.tmp 18)),
xf 20 0 19,
xl 21 20,
xm 22 7,
xa 23 21 22,
xl 24 23,
xn 25 24,
xb 26 .sub (.tmp 25) (xk 1),
xc 27 71 [.tmp 17,xq,.tmp 26],
xi 28 (.un .not (.tmp 27)),
xm 16 28])
(.cond (.tmp 16) (.seq (xr [xi 4 (.move xq),
xi 5 (.move (xk 6))])
.ret)
(.seq (xr [xm 30 0,
xi 31 (.nilCheck (.tmp 30)),
xf 32 0 31,
xl 33 32,
xm 34 7,
xa 35 33 34,
xl 36 35,
xm 37 8,
xa 38 36 37,
xl 39 38,
xi 40 (.un .not (.tmp 39)),
xm 29 40])
(.cond (.tmp 29) (.seq (xr [xi 4 (.move xq),
xi 5 (.move (xk 26))])
.ret)
(.seq (xr [xm 42 7,
xb 43 .gtr (.tmp 42) xq,
xm 44 43,
ym 45 0 44 true,
ym 46 7 44 true,
yb 47 .sub (.tmp 46) (xk 1) 44 true,
ym 48 1 44 true,
ym 49 7 44 true,
yb 50 .sub (.tmp 49) (xk 1) 44 true,
ya 51 48 50 44 true,
yl 52 51 44 true,
ym 53 8 44 true,
xg 54 (.call 78 [.tmp 45,.tmp 47,.tmp 52,.tmp 53]) 44 true,
xg 55 (.un .not (.tmp 54)) 44 true,
xi 56 (.pick (.tmp 44) (.tmp 55) xF),
xm 41 56])
(.cond (.tmp 41) (.seq (xr [xi 4 (.move xq),
xi 5 (.move (xk 13))])
.ret)
(.seq (xr [xm 58 7,
xb 59 .gtr (.tmp 58) xq,
xm 57 59])
(.cond (.tmp 57) (xr [xm 60 6,
xm 61 1,
xm 62 7,
xb 63 .sub (.tmp 62) (xk 1),
xa 64 61 63,
xl 65 64,
xm 66 8,
xc 67 79 [.tmp 65,.tmp 66],
xB 68 .add 60 67,
xm 6 68])
.skip)))))))))))
(xr [xb 69 .add (.tmp 11) (xk 1),
xm 11 69])))))))
(.seq (xr [xm 70 6,
xm 4 70,
xi 5 (.move xq)])
.ret))),
[.tmp 4,.tmp 5],.pure,71⟩
def ef70:EFun:=⟨
.seq (xr [xi 2 (.move (.const (.slice none 0 0)))])
(.seq (xr [xi 3 (.move xq)])
(.seq (.seq (xr [xm 9 0,
xn 10 9,
xi 11 (.move xq)])
(.block 0 (.loop (some [0,3,9,10,11]) (
.seq (xr [xB 12 .lss 11 10])
(.seq (.cond (.tmp 12) .skip
(.exit 0))
(.seq (.block 1 (.seq (xr [xa 13 9 11,
xl 14 13,
xm 5 14])
(.seq (xr [xm 15 3,
xm 16 5,
xn 17 16,
xB 18 .add 15 17,
xm 3 18])
(.seq (xr [xm 19 3,
xb 20 .lss (.tmp 19) xq])
(.cond (.tmp 20) (xr [xi 21 (.makeIface 9 (.const (.string ⟨#[108,101,110,32,111,117,116,32,111,102,32,114,97,110,103,101]⟩))),
⟨none,.trap,none,[],false,false⟩])
.skip)))))
(xr [xb 22 .add (.tmp 11) (xk 1),
xm 11 22])))))))
(.seq (xr [xm 23 3,
xc 24 143 [(.const (.slice none 0 0)),.tmp 23],
xm 6 24])
(.seq (.seq (xr [xm 25 0,
xn 26 25,
xi 27 (.move xq)])
(.block 2 (.loop (some [6,25,26,27]) (
.seq (xr [xB 28 .lss 27 26])
(.seq (.cond (.tmp 28) .skip
(.exit 2))
(.seq (.block 3 (.seq (xr [xa 29 25 27,
xl 30 29,
xm 8 30])
(xr [xm 31 6,
xm 32 8,
xi 33 (.appendT 1 8 (.tmp 31) (.tmp 32)),
xm 6 33])))
(xr [xb 34 .add (.tmp 27) (xk 1),
xm 27 34])))))))
(.seq (xr [xm 35 6,
xm 2 35])
.ret))))),
[.tmp 2],.full,36⟩
def ef71:EFun:=⟨
.seq (xr [xi 6 (.move xF)])
(.seq (xr [xm 7 1,
xm 8 0,
xB 9 .leq 7 8,
xm 10 9,
ym 11 0 10 true,
ym 12 2 10 true,
yb 13 .leq (.tmp 11) (.tmp 12) 10 true,
xi 14 (.pick (.tmp 10) (.tmp 13) xF),
xm 6 14])
.ret),
[.tmp 6],.pure,15⟩
def ef72:EFun:=⟨
.seq (xr [xv 4 1,
xi 6 (.push [(.bool false)])])
(.seq (.seq (xr [xm 13 0,
xi 14 (.nilCheck (.tmp 13)),
xf 15 0 14,
xl 16 15,
xn 17 16,
xi 18 (.move xq)])
(.block 0 (.loop (some [0,2,4,6,16,17,18]) (
.seq (xr [xB 19 .lss 18 17])
(.seq (.cond (.tmp 19) .skip
(.exit 0))
(.seq (.block 1 (.seq (xr [xm 20 18,
xa 21 16 18,
xl 22 21,
xi 7 (.push [xz]),
xt 1 7 20,
xm 8 22])
(.seq (.seq (xr [xm 23 8,
xn 24 23,
xi 25 (.move xq)])
(.block 2 (.loop (some [0,2,4,6,7,16,17,18,23,24,25]) (
.seq (xr [xB 26 .lss 25 24])
(.seq (.cond (.tmp 26) .skip
(.exit 2))
(.seq (.block 3 (.seq (xr [xm 27 25,
xa 28 23 25,
xl 29 28,
xm 9 27,
xm 10 29])
(.seq (xr [xm 30 10,
xm 31 30,
yl 32 7 31 true,
yb 33 .eql (.tmp 32) xq 31 true,
ym 34 33 31 true,
yl 35 4 34 true,
yl 36 7 34 true,
ya 37 35 36 34 true,
yl 38 37 34 true,
ym 39 9 34 true,
ya 40 38 39 34 true,
yl 41 40 34 true,
yb 42 .gtr (.tmp 41) xq 34 true,
xg 43 (.pick (.tmp 34) (.tmp 42) xF) 31 true,
ym 44 43 31 true,
yl 45 7 44 false,
yl 46 4 44 false,
xg 47 (.len false (.tmp 46)) 44 false,
yb 48 .sub (.tmp 47) (xk 1) 44 false,
yb 49 .eql (.tmp 45) (.tmp 48) 44 false,
ym 50 49 44 false,
yl 51 4 50 true,
yl 52 7 50 true,
ya 53 51 52 50 true,
yl 54 53 50 true,
ym 55 9 50 true,
ya 56 54 55 50 true,
yl 57 56 50 true,
ym 58 2 50 true,
yb 59 .lss (.tmp 57) (.tmp 58) 50 true,
xg 60 (.pick (.tmp 50) (.tmp 59) xF) 44 false,
xg 61 (.pick (.tmp 44) xT (.tmp 60)) 31 true,
xi 62 (.pick (.tmp 31) (.tmp 61) xF)])
(.cond (.tmp 62) (.seq (xr [⟨none,.store 1 (.tmp 6) xF,none,[],false,false⟩])
.ret)
.skip))))
(xr [xb 63 .add (.tmp 25) (xk 1),
xm 25 63])))))))
(.seq (.seq (xr [xl 64 7,
xb 65 .eql (.tmp 64) xq])
(.cond (.tmp 65) (.exit 1)
.skip))
(.seq (xr [xm 66 0,
xl 67 7,
xb 68 .sub (.tmp 67) (xk 1),
xc 69 144 [.tmp 66,.tmp 68]])
(.block 4 (.rangeF (.tmp 69) 72 0 false [4,6,7] [70,71]
(.seq (xr [xm 11 70])
(xr [xm 12 71]))
(.block 5 (.seq (xR [xl 72 4,
xl 73 7,
xa 74 72 73,
xl 75 74,
xm 76 12,
xa 77 75 76,
xl 78 77,
xl 79 4,
xl 80 7,
xb 81 .sub (.tmp 80) (xk 1),
xa 82 79 81,
xl 83 82,
xm 84 11,
xa 85 83 84,
xl 86 85,
xm 87 11,
xm 88 12,
xC 89 79 [.tmp 87,.tmp 88],
xB 90 .add 86 89,
xB 91 .gtr 78 90])
(.cond (.tmp 91) (.seq (xr [⟨none,.store 1 (.tmp 6) xF,none,[],false,false⟩])
.ret)
.skip))))))))))
(xr [xb 92 .add (.tmp 18) (xk 1),
xm 18 92])))))))
(.seq (xr [⟨none,.store 1 (.tmp 6) xT,none,[],false,false⟩])
.ret)),
[.cell 6 false 1],.full,93⟩
def ef73:EFun:=⟨
.seq (xr [xv 4 0,
xv 5 1,
xi 8 (.move xq),
xi 9 (.move xq)])
(.seq (xr [xi 10 (.move xq)])
(.seq (.seq (xr [xi 11 (.move xq)])
(.block 0 (.loop (some [2,3,4,5,10,11]) (
.seq (.seq (xr [xm 12 11,
xm 13 3,
xn 14 13,
xB 15 .lss 12 14])
(.cond (.tmp 15) .skip
(.exit 0)))
(.seq (.block 1 (.seq (.seq (xr [xm 18 3,
xm 19 11,
xa 20 18 19,
xl 21 20,
xm 22 2,
xn 23 22,
xb 24 .sub (.tmp 23) (xk 1),
xc 25 74 [.tmp 21,xq,.tmp 24],
xi 26 (.un .not (.tmp 25))])
(.cond (.tmp 26) (.seq (xr [xi 8 (.move xq),
xi 9 (.move (xk 6))])
.ret)
.skip))
(.seq (.seq (xR [xL 27 4 4,
xL 28 4 5,
xm 29 11,
xm 30 2,
xm 31 3,
xm 32 11,
xa 33 31 32,
xl 34 33,
xa 35 30 34,
xl 36 35,
xc 37 65 [.tmp 27,.tmp 28,.tmp 29,.tmp 36],
xi 38 (.un .not (.tmp 37))])
(.cond (.tmp 38) (.seq (xr [xi 8 (.move xq),
xi 9 (.move (xk 26))])
.ret)
.skip))
(.seq (.seq (xR [xm 39 11,
xb 40 .gtr (.tmp 39) xq,
xm 41 40,
xg 42 (.load true 4 (.tmp 4)) 41 true,
xg 43 (.load true 4 (.tmp 5)) 41 true,
ym 44 11 41 true,
yb 45 .sub (.tmp 44) (xk 1) 41 true,
ym 46 2 41 true,
ym 47 3 41 true,
ym 48 11 41 true,
yb 49 .sub (.tmp 48) (xk 1) 41 true,
ya 50 47 49 41 true,
yl 51 50 41 true,
ya 52 46 51 41 true,
yl 53 52 41 true,
ym 54 2 41 true,
ym 55 3 41 true,
ym 56 11 41 true,
ya 57 55 56 41 true,
yl 58 57 41 true,
ya 59 54 58 41 true,
yl 60 59 41 true,
xg 61 (.call 81 [.tmp 42,.tmp 43,.tmp 45,.tmp 53,.tmp 60]) 41 true,
xg 62 (.un .not (.tmp 61)) 41 true,
xi 63 (.pick (.tmp 41) (.tmp 62) xF)])
(.cond (.tmp 63) (.seq (xr [xi 8 (.move xq),
xi 9 (.move (xk 13))])
.ret)
.skip))
(.seq (xr [xm 64 11,
xb 65 .gtr (.tmp 64) xq])
(.cond (.tmp 65) (xR [xm 66 10,
xm 67 3,
xm 68 11,
xa 69 67 68,
xl 70 69,
xm 71 3,
xm 72 11,
xb 73 .sub (.tmp 72) (xk 1),
xa 74 71 73,
xl 75 74,
xB 76 .sub 70 75,
xc 77 82 [.tmp 76],
xB 78 .add 66 77,
xm 10 78])
.skip))))))
(xr [xm 16 11,
xb 17 .add (.tmp 16) (xk 1),
xm 11 17]))))))
(.seq (xr [xm 79 10,
xm 8 79,
xi 9 (.move xq)])
.ret))),
[.tmp 8,.tmp 9],.pure,80⟩
def ef74:EFun:=⟨
.seq (xr [xi 6 (.move xF)])
(.seq (xr [xm 7 0,
xm 8 1,
xB 9 .geq 7 8,
xm 10 9,
ym 11 0 10 true,
ym 12 2 10 true,
yb 13 .leq (.tmp 11) (.tmp 12) 10 true,
xi 14 (.pick (.tmp 10) (.tmp 13) xF),
xm 6 14])
.ret),
[.tmp 6],.pure,15⟩
def ef75:EFun:=⟨
.seq (xr [xv 4 0,
xv 5 1,
xi 8 (.move xq),
xi 9 (.move xF)])
(.seq (xr [xL 18 4 4,
xL 19 4 5,
xm 20 2,
xc 21 18 [.tmp 18,.tmp 19,.tmp 20],
xm 10 21])
(.seq (xr [xi 11 (.move xq)])
(.seq (.seq (xr [xi 12 (.move xq)])
(.block 0 (.loop (some [2,3,4,5,10,11,12]) (
.seq (.seq (xr [xm 22 12,
xm 23 3,
xn 24 23,
xB 25 .lss 22 24])
(.cond (.tmp 25) .skip
(.exit 0)))
(.seq (.block 1 (.seq (xr [xi 13 (.move xT)])
(.seq (xr [xi 14 (.move xq)])
(.block 2 (.loop (some [2,3,4,5,10,11,12,13,14]) (
.seq (.seq (xr [xm 28 14,
xm 29 10,
xm 30 12,
xa 31 29 30,
xl 32 31,
xn 33 32,
xB 34 .lss 28 33])
(.cond (.tmp 34) .skip
(.exit 2)))
(.seq (.block 3 (.seq (xr [xm 37 10,
xm 38 12,
xa 39 37 38,
xl 40 39,
xm 41 14,
xa 42 40 41,
xl 43 42,
xm 15 43])
(.seq (.seq (xr [xm 44 12,
xb 45 .eql (.tmp 44) xq,
xm 46 45,
ym 47 3 46 true,
ym 48 12 46 true,
ya 49 47 48 46 true,
yl 50 49 46 true,
ym 51 15 46 true,
ya 52 50 51 46 true,
yl 53 52 46 true,
yb 54 .gtr (.tmp 53) xq 46 true,
xi 55 (.pick (.tmp 46) (.tmp 54) xF)])
(.cond (.tmp 55) (.seq (xr [xi 8 (.move xq),
xi 9 (.move xF)])
.ret)
.skip))
(.seq (.seq (xr [xi 16 (.move xq)])
(.block 4 (.loop (some [2,3,4,5,10,11,12,13,14,15,16]) (
.seq (.seq (xr [xm 56 12,
xb 57 .gtr (.tmp 56) xq,
xm 58 57,
ym 59 16 58 true,
ym 60 10 58 true,
ym 61 12 58 true,
yb 62 .sub (.tmp 61) (xk 1) 58 true,
ya 63 60 62 58 true,
yl 64 63 58 true,
xg 65 (.len false (.tmp 64)) 58 true,
yb 66 .lss (.tmp 59) (.tmp 65) 58 true,
xi 67 (.pick (.tmp 58) (.tmp 66) xF)])
(.cond (.tmp 67) .skip
(.exit 4)))
(.seq (.block 5 (.seq (xr [xm 70 10,
xm 71 12,
xb 72 .sub (.tmp 71) (xk 1),
xa 73 70 72,
xl 74 73,
xm 75 16,
xa 76 74 75,
xl 77 76,
xm 17 77])
(.seq (xR [xL 78 4 4,
xL 79 4 5,
xm 80 12,
xb 81 .sub (.tmp 80) (xk 1),
xm 82 2,
xm 83 17,
xa 84 82 83,
xl 85 84,
xm 86 2,
xm 87 15,
xa 88 86 87,
xl 89 88,
xc 90 81 [.tmp 78,.tmp 79,.tmp 81,.tmp 85,.tmp 89],
xm 91 90,
ym 92 3 91 true,
ym 93 12 91 true,
ya 94 92 93 91 true,
yl 95 94 91 true,
ym 96 15 91 true,
ya 97 95 96 91 true,
yl 98 97 91 true,
ym 99 3 91 true,
ym 100 12 91 true,
yb 101 .sub (.tmp 100) (xk 1) 91 true,
ya 102 99 101 91 true,
yl 103 102 91 true,
ym 104 17 91 true,
ya 105 103 104 91 true,
yl 106 105 91 true,
ym 107 15 91 true,
ym 108 17 91 true,
yb 109 .sub (.tmp 107) (.tmp 108) 91 true,
⟨(some 110),.call 82 [.tmp 109],(some (91,true)),[],false,true⟩,
yb 111 .add (.tmp 106) (.tmp 110) 91 true,
yb 112 .gtr (.tmp 98) (.tmp 111) 91 true,
xi 113 (.pick (.tmp 91) (.tmp 112) xF)])
(.cond (.tmp 113) (.seq (xr [xi 8 (.move xq),
xi 9 (.move xF)])
.ret)
.skip))))
(xr [xm 68 16,
xb 69 .add (.tmp 68) (xk 1),
xm 16 69]))))))
(.seq (.seq (xr [xm 114 13,
xm 115 114,
ym 116 3 115 false,
ym 117 12 115 false,
ya 118 116 117 115 false,
yl 119 118 115 false,
ym 120 15 115 false,
ya 121 119 120 115 false,
yl 122 121 115 false,
ym 123 11 115 false,
yb 124 .lss (.tmp 122) (.tmp 123) 115 false,
xi 125 (.pick (.tmp 115) xT (.tmp 124))])
(.cond (.tmp 125) (xr [xm 126 3,
xm 127 12,
xa 128 126 127,
xl 129 128,
xm 130 15,
xa 131 129 130,
xl 132 131,
xm 11 132])
.skip))
(xr [xi 13 (.move xF)]))))))
(xr [xm 35 14,
xb 36 .add (.tmp 35) (xk 1),
xm 14 36]))))))))
(xr [xm 26 12,
xb 27 .add (.tmp 26) (xk 1),
xm 12 27]))))))
(.seq (xr [xm 133 11,
xm 8 133,
xi 9 (.move xT)])
.ret)))),
[.tmp 8,.tmp 9],.full,134⟩
def ef76:EFun:=⟨
.seq (xr [xi 2 (.move (.const (.slice none 0 0)))])
(.seq (xr [xi 3 (.push [(.slice none 0 0)])])
(.seq (.seq (xr [xm 11 0,
xi 12 (.nilCheck (.tmp 11)),
xf 13 0 12,
xl 14 13,
xn 15 14,
xi 16 (.move xq)])
(.block 0 (.loop (some [0,3,14,15,16]) (
.seq (xr [xB 17 .lss 16 15])
(.seq (.cond (.tmp 17) .skip
(.exit 0))
(.seq (.block 1 (.seq (xr [xm 18 16,
xa 19 14 16,
xl 20 19,
xi 4 (.push [xz]),
xt 1 4 18,
xm 5 20])
(.seq (xr [xm 21 5,
xn 22 21,
xi 23 (.makeSlice 1 8 [xz] (.tmp 22) (.tmp 22)),
xi 6 (.push [(.slice none 0 0)]),
xt 1 6 23])
(.seq (.seq (xr [xm 24 5,
xn 25 24,
xi 26 (.move xq)])
(.block 2 (.loop (some [0,3,4,6,14,15,16,24,25,26]) (
.seq (xr [xB 27 .lss 26 25])
(.seq (.cond (.tmp 27) .skip
(.exit 2))
(.seq (.block 3 (.seq (xr [xm 28 26,
xa 29 24 26,
xl 30 29,
xm 7 28,
xm 8 30])
(.seq (xr [xm 31 8,
xm 32 31,
yl 33 4 32 true,
yb 34 .gtr (.tmp 33) xq 32 true,
xi 35 (.pick (.tmp 32) (.tmp 34) xF)])
(.cond (.tmp 35) (xr [xl 36 6,
xm 37 7,
xa 38 36 37,
⟨none,.store 1 (.tmp 38) (xk 1000000),none,[],false,false⟩])
.skip))))
(xr [xb 39 .add (.tmp 26) (xk 1),
xm 26 39])))))))
(.seq (xr [xl 40 3,
xl 41 6,
xi 42 (.buildSlice 1 1 [(.slice none 0 0)] [(0,1,(.tmp 41))]),
xi 43 (.appendT 1 24 (.tmp 40) (.tmp 42)),
xt 1 3 43])
(.seq (xr [xl 44 4,
xb 45 .gtr (.tmp 44) xq])
(.cond (.tmp 45) (.seq (xr [xm 46 0,
xl 47 4,
xb 48 .sub (.tmp 47) (xk 1),
xc 49 144 [.tmp 46,.tmp 48]])
(.block 4 (.rangeF (.tmp 49) 76 0 false [3,4,6] [50,51]
(.seq (xr [xm 9 50])
(xr [xm 10 51]))
(.block 5 (xR [xl 52 6,
xm 53 10,
xl 54 6,
xm 55 10,
xa 56 54 55,
xl 57 56,
xl 58 3,
xl 59 4,
xb 60 .sub (.tmp 59) (xk 1),
xa 61 58 60,
xl 62 61,
xm 63 9,
xa 64 62 63,
xl 65 64,
xm 66 9,
xm 67 10,
xC 68 79 [.tmp 66,.tmp 67],
xB 69 .add 65 68,
xi 70 (.min [.tmp 57,.tmp 69]),
xa 71 52 53,
xt 1 71 70])))))
.skip)))))))
(xr [xb 72 .add (.tmp 16) (xk 1),
xm 16 72])))))))
(.seq (xr [xl 73 3,
xm 2 73])
.ret))),
[.tmp 2],.full,74⟩
def ef77:EFun:=⟨
.seq (xr [xi 6 (.move xq)])
(.seq (xr [xi 7 (.move (.const (.int .i64 (-1))))])
(.seq (.seq (xr [xm 10 2,
xn 11 10,
xi 12 (.move xq)])
(.block 0 (.loop (some [0,1,2,7,10,11,12]) (
.seq (xr [xB 13 .lss 12 11])
(.seq (.cond (.tmp 13) .skip
(.exit 0))
(.seq (.block 1 (.seq (xr [xm 14 12,
xa 15 10 12,
xl 16 15,
xm 8 14,
xm 9 16])
(.seq (xr [xm 17 0,
xi 18 (.nilCheck (.tmp 17)),
xf 19 0 18,
xl 20 19,
xm 21 1,
xa 22 20 21,
xl 23 22,
xm 24 8,
xa 25 23 24,
xl 26 25,
xm 27 26,
ym 28 9 27 true,
yb 29 .lss (.tmp 28) (xk 1000000) 27 true,
xi 30 (.pick (.tmp 27) (.tmp 29) xF),
xm 31 30,
ym 32 7 31 true,
yb 33 .lss (.tmp 32) xq 31 true,
ym 34 33 31 true,
ym 35 9 34 false,
ym 36 2 34 false,
ym 37 7 34 false,
ya 38 36 37 34 false,
yl 39 38 34 false,
yb 40 .lss (.tmp 35) (.tmp 39) 34 false,
xg 41 (.pick (.tmp 34) xT (.tmp 40)) 31 true,
xi 42 (.pick (.tmp 31) (.tmp 41) xF)])
(.cond (.tmp 42) (xr [xm 43 8,
xm 7 43])
.skip))))
(xr [xb 44 .add (.tmp 12) (xk 1),
xm 12 44])))))))
(.seq (xr [xm 45 7,
xm 6 45])
.ret))),
[.tmp 6],.pure,46⟩
def ef78:EFun:=⟨
.seq (xr [xi 8 (.move xF)])
(.seq (xR [xm 9 0,
xi 10 (.nilCheck (.tmp 9)),
xf 11 0 10,
xl 12 11,
xm 13 1,
xa 14 12 13,
xl 15 14,
xm 16 2,
xa 17 15 16,
xl 18 17,
xm 19 18,
ym 20 0 19 true,
xg 21 (.nilCheck (.tmp 20)) 19 true,
yf 22 0 21 19 true,
yl 23 22 19 true,
ym 24 1 19 true,
yb 25 .add (.tmp 24) (xk 1) 19 true,
ya 26 23 25 19 true,
yl 27 26 19 true,
ym 28 3 19 true,
ya 29 27 28 19 true,
yl 30 29 19 true,
xi 31 (.pick (.tmp 19) (.tmp 30) xF),
xm 32 31,
ym 33 0 32 true,
xg 34 (.nilCheck (.tmp 33)) 32 true,
yf 35 1 34 32 true,
yl 36 35 32 true,
ym 37 1 32 true,
ya 38 36 37 32 true,
yl 39 38 32 true,
ym 40 2 32 true,
xg 41 (.indexAddr none 2 (.tmp 39) (.tmp 40)) 32 true,
xg 42 (.load true 2 (.tmp 41)) 32 true,
ym 43 0 32 true,
xg 44 (.nilCheck (.tmp 43)) 32 true,
yf 45 1 44 32 true,
yl 46 45 32 true,
ym 47 1 32 true,
yb 48 .add (.tmp 47) (xk 1) 32 true,
ya 49 46 48 32 true,
yl 50 49 32 true,
ym 51 3 32 true,
xg 52 (.indexAddr none 2 (.tmp 50) (.tmp 51)) 32 true,
xg 53 (.load true 2 (.tmp 52)) 32 true,
⟨(some 54),.call 145 [.tmp 42,.tmp 53],(some (32,true)),[],false,true⟩,
ym 55 0 32 true,
xg 56 (.nilCheck (.tmp 55)) 32 true,
yf 57 2 56 32 true,
yl 58 57 32 true,
yb 59 .leq (.tmp 54) (.tmp 58) 32 true,
xi 60 (.pick (.tmp 32) (.tmp 59) xF),
xm 8 60])
.ret),
[.tmp 8],.pure,61⟩
def ef79:EFun:=⟨
.seq (xr [xi 4 (.move xq)])
(.seq (xr [xm 5 0,
xm 6 1,
xB 7 .sub 5 6,
xm 8 1,
xm 9 0,
xB 10 .sub 8 9,
xi 11 (.max [.tmp 7,.tmp 10]),
xm 4 11])
.ret),
[.tmp 4],.pure,12⟩
def ef80:EFun:=⟨
.seq (xr [xi 4 (.move xF)])
(.seq (.seq (xr [xi 5 (.move xq)])
(.block 0 (.loop (some [0,1,5]) (
.seq (.seq (xr [xm 6 5,
xm 7 0,
xn 8 7,
xB 9 .lss 6 8])
(.cond (.tmp 9) .skip
(.exit 0)))
(.seq (.block 1 (.seq (xr [xm 12 0,
xm 13 5,
xa 14 12 13,
xl 15 14,
xm 16 1,
xB 17 .eql 15 16])
(.cond (.tmp 17) (.seq (xr [xi 4 (.move xT)])
.ret)
.skip)))
(xr [xm 10 5,
xb 11 .add (.tmp 10) (xk 1),
xm 5 11]))))))
(.seq (xr [xi 4 (.move xF)])
.ret)),
[.tmp 4],.pure,18⟩
def ef81:EFun:=⟨
.seq (xr [xv 5 0,
xv 6 1,
xi 10 (.move xF)])
(.seq (xR [xL 11 4 5,
xm 12 2,
xL 13 4 5,
xm 14 2,
xm 15 3,
xC 16 134 [.tmp 13,.tmp 14,.tmp 15],
xC 17 147 [.tmp 11,.tmp 12,.tmp 16],
xL 18 4 5,
xm 19 2,
xb 20 .add (.tmp 19) (xk 1),
xL 21 4 5,
xm 22 2,
xb 23 .add (.tmp 22) (xk 1),
xm 24 4,
xC 25 134 [.tmp 21,.tmp 23,.tmp 24],
xC 26 147 [.tmp 18,.tmp 20,.tmp 25],
xC 27 146 [.tmp 17,.tmp 26],
xf 28 3 6,
xl 29 28,
xB 30 .leq 27 29,
xm 10 30])
.ret),
[.tmp 10],.pure,31⟩
def ef82:EFun:=⟨
.seq (xr [xi 2 (.move xq)])
(.seq (.seq (xr [xm 3 0,
xb 4 .lss (.tmp 3) xq])
(.cond (.tmp 4) (.seq (xr [xm 5 0,
xi 6 (.un .neg (.tmp 5)),
xm 2 6])
.ret)
.skip))
(.seq (xr [xm 7 0,
xm 2 7])
.ret)),
[.tmp 2],.pure,8⟩
def ef93:EFun:=⟨
.seq (xr [xi 2 (.move xF)])
(.seq (.seq (xr [xm 4 0,
xi 5 (.len true (.tmp 4)),
xb 6 .eql (.tmp 5) xq,
xm 7 6,
ym 8 0 7 false,
xg 9 (.len true (.tmp 8)) 7 false,
yb 10 .gtr (.tmp 9) (xk 12) 7 false,
xi 11 (.pick (.tmp 7) xT (.tmp 10)),
xm 12 11,
ym 13 0 12 false,
xg 14 (.strIndex (.tmp 13) xq) 12 false,
xg 15 (.call 159 [.tmp 14]) 12 false,
xg 16 (.un .not (.tmp 15)) 12 false,
xi 17 (.pick (.tmp 12) xT (.tmp 16))])
(.cond (.tmp 17) (.seq (xr [xi 2 (.move xF)])
.ret)
.skip))
(.seq (.seq (xr [xi 3 (.move xq)])
(.block 0 (.loop (some [0,3]) (
.seq (.seq (xr [xm 18 3,
xm 19 0,
xi 20 (.len true (.tmp 19)),
xB 21 .lss 18 20])
(.cond (.tmp 21) .skip
(.exit 0)))
(.seq (.block 1 (.seq (xr [xm 24 0,
xm 25 3,
xi 26 (.strIndex (.tmp 24) (.tmp 25)),
xc 27 159 [.tmp 26],
xi 28 (.un .not (.tmp 27)),
xm 29 28,
ym 30 0 29 true,
ym 31 3 29 true,
xg 32 (.strIndex (.tmp 30) (.tmp 31)) 29 true,
xg 33 (.call 156 [.tmp 32]) 29 true,
xg 34 (.un .not (.tmp 33)) 29 true,
xi 35 (.pick (.tmp 29) (.tmp 34) xF),
xm 36 35,
ym 37 0 36 true,
ym 38 3 36 true,
xg 39 (.strIndex (.tmp 37) (.tmp 38)) 36 true,
yb 40 .neq (.tmp 39) (.const (.int .u8 45)) 36 true,
xi 41 (.pick (.tmp 36) (.tmp 40) xF)])
(.cond (.tmp 41) (.seq (xr [xi 2 (.move xF)])
.ret)
.skip)))
(xr [xm 22 3,
xb 23 .add (.tmp 22) (xk 1),
xm 3 23]))))))
(.seq (xr [xi 2 (.move xT)])
.ret))),
[.tmp 2],.pure,42⟩
def ef102:EFun:=⟨
.seq (xr [xv 1 0,
xi 2 (.move xq),
xi 3 (.move xq)])
(.seq (.seq (xr [xf 7 0 1,
xl 8 7,
xc 9 71 [.tmp 8,(xk 1000),(xk 10000000)],
xi 10 (.un .not (.tmp 9))])
(.cond (.tmp 10) (.seq (xr [xi 2 (.move xq),
xi 3 (.move (xk 2))])
.ret)
.skip))
(.seq (.seq (xr [xf 11 1 1,
xl 12 11,
xc 13 164 [.tmp 12],
xm 4 13])
(.seq (xr [xm 14 4,
xb 15 .neq (.tmp 14) xq])
(.cond (.tmp 15) (.seq (xr [xm 16 4,
xi 2 (.move xq),
xm 3 16])
.ret)
.skip)))
(.seq (.seq (xr [xf 17 2 1,
xl 18 17,
xn 19 18,
xb 20 .gtr (.tmp 19) (xk 90)])
(.cond (.tmp 20) (.seq (xr [xi 2 (.move xq),
xi 3 (.move (xk 8))])
.ret)
.skip))
(.seq (.seq (xr [xf 21 2 1,
xl 22 21,
xn 23 22,
xi 24 (.move xq)])
(.block 0 (.loop (some [1,23,24]) (
.seq (xr [xB 25 .lss 24 23])
(.seq (.cond (.tmp 25) .skip
(.exit 0))
(.seq (.block 1 (.seq (xr [xm 26 24,
xm 5 26])
(.seq (xr [xL 27 3 1,
xm 28 5,
xc 29 165 [.tmp 27,.tmp 28],
xm 6 29])
(.seq (xr [xm 30 6,
xb 31 .neq (.tmp 30) xq])
(.cond (.tmp 31) (.seq (xr [xm 32 5,
xm 33 6,
xm 2 32,
xm 3 33])
.ret)
.skip)))))
(xr [xb 34 .add (.tmp 24) (xk 1),
xm 24 34])))))))
(.seq (xr [xi 2 (.move xq),
xi 3 (.move xq)])
.ret))))),
[.tmp 2,.tmp 3],.pure,35⟩
def ef106:EFun:=⟨
.seq (xr [xi 2 (.move xq)])
(.seq (.seq (xr [xm 4 0,
xn 5 4,
xb 6 .gtr (.tmp 5) (xk 20)])
(.cond (.tmp 6) (.seq (xr [xi 2 (.move (xk 8))])
.ret)
.skip))
(.seq (.seq (xr [xi 3 (.move xq)])
(.block 0 (.loop (some [0,3]) (
.seq (.seq (xr [xm 7 3,
xm 8 0,
xn 9 8,
xB 10 .lss 7 9])
(.cond (.tmp 10) .skip
(.exit 0)))
(.seq (.block 1 (.seq (.seq (xr [xm 13 0,
xm 14 3,
xi 15 (.indexAddr none 4 (.tmp 13) (.tmp 14)),
xf 16 0 15,
xl 17 16,
xc 18 93 [.tmp 17],
xi 19 (.un .not (.tmp 18))])
(.cond (.tmp 19) (.seq (xr [xi 2 (.move (xk 4))])
.ret)
.skip))
(.seq (.seq (xR [xm 20 0,
xm 21 3,
xi 22 (.slice 4 (.tmp 20) none (some (.tmp 21))),
xm 23 0,
xm 24 3,
xi 25 (.indexAddr none 4 (.tmp 23) (.tmp 24)),
xf 26 0 25,
xl 27 26,
xc 28 167 [.tmp 22,.tmp 27],
xb 29 .geq (.tmp 28) xq])
(.cond (.tmp 29) (.seq (xr [xi 2 (.move (xk 5))])
.ret)
.skip))
(.seq (xr [xm 30 0,
xm 31 3,
xi 32 (.indexAddr none 4 (.tmp 30) (.tmp 31)),
xf 33 1 32,
xl 34 33,
xc 35 74 [.tmp 34,(xk 1),(xk 200000)],
xi 36 (.un .not (.tmp 35)),
xm 37 36,
ym 38 0 37 false,
ym 39 3 37 false,
xg 40 (.indexAddr none 4 (.tmp 38) (.tmp 39)) 37 false,
yf 41 2 40 37 false,
yl 42 41 37 false,
xg 43 (.call 74 [.tmp 42,(xk 1),(xk 1000000)]) 37 false,
xg 44 (.un .not (.tmp 43)) 37 false,
xi 45 (.pick (.tmp 37) xT (.tmp 44)),
xm 46 45,
ym 47 0 46 false,
ym 48 3 46 false,
xg 49 (.indexAddr none 4 (.tmp 47) (.tmp 48)) 46 false,
yf 50 3 49 46 false,
yl 51 50 46 false,
xg 52 (.call 74 [.tmp 51,xq,(xk 100000000)]) 46 false,
xg 53 (.un .not (.tmp 52)) 46 false,
xi 54 (.pick (.tmp 46) xT (.tmp 53))])
(.cond (.tmp 54) (.seq (xr [xi 2 (.move (xk 2))])
.ret)
.skip)))))
(xr [xm 11 3,
xb 12 .add (.tmp 11) (xk 1),
xm 3 12]))))))
(.seq (xr [xi 2 (.move xq)])
.ret))),
[.tmp 2],.pure,55⟩
def ef107:EFun:=⟨
.seq (xr [xv 2 0,
xi 4 (.move xq)])
(.seq (xr [xf 9 2 2,
xl 10 9,
xm 11 1,
xi 12 (.indexAddr none 10 (.tmp 10) (.tmp 11)),
xL 13 10 12,
xi 5 (.push [xz,xz,xz,xz,xz,xz,xz,xz,(.string ⟨#[]⟩),(.string ⟨#[]⟩)]),
xt 10 5 13])
(.seq (.seq (xr [xf 14 0 5,
xL 15 4 14,
xc 16 168 [.tmp 15],
xi 17 (.un .not (.tmp 16))])
(.cond (.tmp 17) (.seq (xr [xi 4 (.move (xk 2))])
.ret)
.skip))
(.seq (.seq (xr [xf 18 4 5,
xl 19 18,
xc 20 74 [.tmp 19,(xk 1),(xk 4)],
xi 21 (.un .not (.tmp 20))])
(.cond (.tmp 21) (.seq (xr [xi 4 (.move (xk 2))])
.ret)
.skip))
(.seq (.seq (xr [xf 22 1 2,
xl 23 22,
xf 24 5 5,
xL 25 5 24,
xc 26 135 [.tmp 23,.tmp 25],
xm 6 26])
(.seq (xr [xm 27 6,
xb 28 .neq (.tmp 27) xq])
(.cond (.tmp 28) (.seq (xr [xm 29 6,
xm 4 29])
.ret)
.skip)))
(.seq (xr [xf 31 0 5,
xL 32 4 31,
xf 33 0 2,
xl 34 33,
xc 35 66 [.tmp 32,.tmp 34],
xm 30 35,
xe 36 30 0,
xe 37 30 1,
xi 7 (.push [xz,xz]),
xt 2 7 36,
xm 8 37])
(.seq (.seq (xr [xm 38 8,
xb 39 .neq (.tmp 38) xq])
(.cond (.tmp 39) (.seq (xr [xm 40 8,
xm 4 40])
.ret)
.skip))
(.seq (.seq (xr [xL 41 2 7,
xc 42 169 [.tmp 41],
xi 43 (.un .not (.tmp 42))])
(.cond (.tmp 43) (.seq (xr [xi 4 (.move (xk 2))])
.ret)
.skip))
(.seq (.seq (xR [xm 44 1,
xb 45 .gtr (.tmp 44) xq,
xm 46 45,
yf 47 0 5 46 true,
xg 48 (.load true 4 (.tmp 47)) 46 true,
yf 49 2 2 46 true,
yl 50 49 46 true,
ym 51 1 46 true,
yb 52 .sub (.tmp 51) (xk 1) 46 true,
xg 53 (.indexAddr none 10 (.tmp 50) (.tmp 52)) 46 true,
yf 54 0 53 46 true,
xg 55 (.load true 4 (.tmp 54)) 46 true,
xg 56 (.call 170 [.tmp 48,.tmp 55]) 46 true,
yb 57 .leq (.tmp 56) xq 46 true,
xi 58 (.pick (.tmp 46) (.tmp 57) xF)])
(.cond (.tmp 58) (.seq (xr [xi 4 (.move (xk 9))])
.ret)
.skip))
(.seq (xr [xi 4 (.move xq)])
.ret))))))))),
[.tmp 4],.pure,59⟩
def ef124:EFun:=⟨
.seq (xr [xv 4 1,
xv 5 2,
xi 6 (.push [(.string ⟨#[]⟩),xz,xz,xz,xz,xz,xz,(.string ⟨#[]⟩),(.string ⟨#[]⟩),xz,xz,xz,xz]),
xi 7 (.move xq)])
(.seq (.seq (xr [xm 10 0,
xL 11 5 4,
xc 12 131 [.tmp 10,.tmp 11],
xm 8 12])
(.seq (xr [xm 13 8,
xb 14 .neq (.tmp 13) xq])
(.cond (.tmp 14) (.seq (xr [xi 15 (.build [(.string ⟨#[]⟩),xz,xz,xz,xz,xz,xz,(.string ⟨#[]⟩),(.string ⟨#[]⟩),xz,xz,xz,xz] []),
xm 16 8,
xt 13 6 15,
xm 7 16])
.ret)
.skip)))
(.seq (.seq (xr [xL 17 2 5,
xc 18 186 [.tmp 17],
xm 9 18])
(.seq (xr [xm 19 9,
xb 20 .neq (.tmp 19) xq])
(.cond (.tmp 20) (.seq (xr [xi 21 (.build [(.string ⟨#[]⟩),xz,xz,xz,xz,xz,xz,(.string ⟨#[]⟩),(.string ⟨#[]⟩),xz,xz,xz,xz] []),
xm 22 9,
xt 13 6 21,
xm 7 22])
.ret)
.skip)))
(.seq (xr [xm 23 0,
xL 24 5 4,
xL 25 2 5,
xc 26 132 [.tmp 23,.tmp 24,.tmp 25],
xt 13 6 26,
xi 7 (.move xq)])
.ret))),
[.cell 6 true 13,.tmp 7],.pure,27⟩
end Go.Abs.Q
