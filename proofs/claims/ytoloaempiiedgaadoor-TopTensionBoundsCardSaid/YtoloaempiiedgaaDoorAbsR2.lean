--
import Derived.Test.YtoloaempiiedgaaDoorAbsR0
set_option linter.unusedSimpArgs false
set_option linter.unusedVariables false
set_option maxRecDepth 100000
set_option maxHeartbeats 0
namespace Go.Abs.R
open Go Go.Abs
def ef66 : EFun := ⟨
.seq (xr [xv 1 0,
xi 2 (.push [(.slice none 0 0), (.slice none 0 0)])])
(.seq (xr [xi 6 (.buildSlice 1 1 [(.int .u64 0)] [(0, 1, (.const (.int .u64 1)))]),
xi 7 (.buildSlice 1 1 [(.int .u64 0)] [(0, 1, (.const (.int .u64 1)))]),
xi 8 (.build [(.slice none 0 0), (.slice none 0 0)] [(0, 1, (.tmp 6)), (1, 1, (.tmp 7))]),
xi 3 (.push [(.slice none 0 0), (.slice none 0 0)]),
xt 2 3 8])
(.seq (.seq (xr [xL 9 3 1,
xi 10 (.move xq)])
(.block 0 (.loop (some [2, 3, 9, 10]) (
.seq (xr [xb 11 .lss (.tmp 10) (xk 3)])
(.seq (.cond (.tmp 11) .skip
(.exit 0))
(.seq (.block 1 (.seq (xr [xm 12 10,
xi 13 (.index 3 1 false (.tmp 9) (.tmp 10)),
xm 4 12,
xm 5 13])
(.seq (xR [xm 14 4,
xi 15 (.indexAddr (some 3) 1 (.global 0) (.tmp 14)),
xl 16 15,
xm 17 5,
xi 18 (.max [.tmp 17, xq]),
xf 19 0 3,
xl 20 19,
xc 21 68 [.tmp 16, .tmp 18, .tmp 20],
xf 22 0 3,
xt 1 22 21])
(xR [xm 23 4,
xi 24 (.indexAddr (some 3) 1 (.global 0) (.tmp 23)),
xl 25 24,
xm 26 5,
xi 27 (.un .neg (.tmp 26)),
xi 28 (.max [.tmp 27, xq]),
xf 29 1 3,
xl 30 29,
xc 31 68 [.tmp 25, .tmp 28, .tmp 30],
xf 32 1 3,
xt 1 32 31]))))
(xr [xb 33 .add (.tmp 10) (xk 1),
xm 10 33])))))))
(.seq (xr [xL 34 2 3,
xt 2 2 34])
.ret))),
[.cell 2 true 2], .pure, 35⟩
def ef67 : EFun := ⟨
.seq (xr [xv 1 0,
xi 2 (.push [xz, xz, xz])])
(.seq (xr [xf 3 0 1,
xl 4 3,
xf 5 1 1,
xl 6 5,
xf 7 2 1,
xl 8 7,
xi 9 (.build [xz, xz, xz] [(0, 1, (.tmp 4)), (1, 1, (.tmp 6)), (2, 1, (.tmp 8))]),
xt 3 2 9])
.ret),
[.cell 2 true 3], .pure, 10⟩
def ef68 : EFun := ⟨
.seq (xr [xi 6 (.move (.const (.slice none 0 0)))])
(.seq (.block 0 (.loop (some [0, 1, 2]) (
.seq (.seq (xr [xm 10 1,
xb 11 .gtr (.tmp 10) xq])
(.cond (.tmp 11) .skip
(.exit 0)))
(.block 1 (.seq (xr [xi 7 (.move (.const (.int .u64 1)))])
(.seq (.block 2 (.loop (some [0, 1, 2, 7]) (
.seq (.seq (xr [xm 12 1,
xb 13 .gtr (.tmp 12) xq])
(.cond (.tmp 13) .skip
(.exit 2)))
(.block 3 (.seq (xr [xm 15 7,
xm 16 0,
xc 17 105 [.tmp 15, .tmp 16],
xm 14 17,
xe 18 14 0,
xe 19 14 1,
xm 8 18,
xm 9 19])
(.seq (.seq (xr [xm 20 8,
xb 21 .neq (.tmp 20) (.const (.int .u64 0))])
(.cond (.tmp 21) (.exit 2)
.skip))
(xr [xm 22 9,
xm 23 1,
xb 24 .sub (.tmp 23) (xk 1),
xm 7 22,
xm 1 24])))))))
(xr [xm 25 2,
xm 26 7,
xc 27 106 [.tmp 25, .tmp 26],
xm 2 27])))))))
(.seq (xr [xm 28 2,
xm 6 28])
.ret)),
[.tmp 6], .pure, 29⟩
def ef69 : EFun := ⟨
.seq (xr [xi 4 (.move xq)])
(.seq (xR [xm 5 0,
xi 6 (.conv .u64 (.tmp 5)),
xf 7 3 1,
xl 8 7,
xf 9 1 2,
xl 10 9,
xC 11 68 [.tmp 6, .tmp 8, .tmp 10],
xf 12 0 2,
xl 13 12,
xc 14 70 [.tmp 11, .tmp 13],
xm 4 14])
.ret),
[.tmp 4], .pure, 15⟩
def ef70 : EFun := ⟨
.seq (xr [xi 4 (.move xq)])
(.seq (.seq (xr [xm 6 0,
xn 7 6,
xm 8 1,
xn 9 8,
xB 10 .neq 7 9])
(.cond (.tmp 10) (.seq (.seq (xr [xm 11 0,
xn 12 11,
xm 13 1,
xn 14 13,
xB 15 .lss 12 14])
(.cond (.tmp 15) (.seq (xr [xi 4 (.move (.const (.int .i64 (-1))))])
.ret)
.skip))
(.seq (xr [xi 4 (.move (xk 1))])
.ret))
.skip))
(.seq (.seq (xr [xm 16 0,
xn 17 16,
xb 18 .sub (.tmp 17) (xk 1),
xm 5 18])
(.block 0 (.loop (some [0, 1, 5]) (
.seq (.seq (xr [xm 19 5,
xb 20 .geq (.tmp 19) xq])
(.cond (.tmp 20) .skip
(.exit 0)))
(.seq (.block 1 (.block 2 (.seq (xR [xm 24 0,
xm 25 5,
xa 26 24 25,
xl 27 26,
xm 28 1,
xm 29 5,
xa 30 28 29,
xl 31 30,
xB 32 .lss 27 31,
xm 23 32])
(.cond (.tmp 23) (.seq (xr [xi 4 (.move (.const (.int .i64 (-1))))])
.ret)
(.seq (xR [xm 34 0,
xm 35 5,
xa 36 34 35,
xl 37 36,
xm 38 1,
xm 39 5,
xa 40 38 39,
xl 41 40,
xB 42 .gtr 37 41,
xm 33 42])
(.cond (.tmp 33) (.seq (xr [xi 4 (.move (xk 1))])
.ret)
.skip))))))
(xr [xm 21 5,
xb 22 .sub (.tmp 21) (xk 1),
xm 5 22]))))))
(.seq (xr [xi 4 (.move xq)])
.ret))),
[.tmp 4], .pure, 43⟩
def ef71 : EFun := ⟨
.seq (xr [xv 1 0,
xi 2 (.push [xz, xz]),
xi 3 (.move xq)])
(.seq (.seq (xr [xL 4 2 1,
xc 5 107 [.tmp 4],
xb 6 .neq (.tmp 5) xq])
(.cond (.tmp 6) (.seq (xr [xi 7 (.build [xz, xz] []),
xt 2 2 7,
xi 3 (.move (xk 8))])
.ret)
.skip))
(.seq (xr [xL 8 2 1,
xt 2 2 8,
xi 3 (.move xq)])
.ret)),
[.cell 2 true 2, .tmp 3], .pure, 9⟩
def ef72 : EFun := ⟨
.seq (xr [xv 4 1,
xv 5 2,
xi 6 (.push [(.string ⟨#[]⟩), xz, xz, xz, xz, xz, xz, (.string ⟨#[]⟩), (.string ⟨#[]⟩), xz, xz, xz, xz]),
xi 7 (.move xq)])
(.seq (.seq (xr [xm 10 0,
xL 11 5 4,
xc 12 76 [.tmp 10, .tmp 11],
xm 8 12])
(.seq (xr [xm 13 8,
xb 14 .neq (.tmp 13) xq])
(.cond (.tmp 14) (.seq (xr [xi 15 (.build [(.string ⟨#[]⟩), xz, xz, xz, xz, xz, xz, (.string ⟨#[]⟩), (.string ⟨#[]⟩), xz, xz, xz, xz] []),
xm 16 8,
xt 13 6 15,
xm 7 16])
.ret)
.skip)))
(.seq (.seq (xr [xL 17 2 5,
xc 18 108 [.tmp 17],
xm 9 18])
(.seq (xr [xm 19 9,
xb 20 .neq (.tmp 19) xq])
(.cond (.tmp 20) (.seq (xr [xi 21 (.build [(.string ⟨#[]⟩), xz, xz, xz, xz, xz, xz, (.string ⟨#[]⟩), (.string ⟨#[]⟩), xz, xz, xz, xz] []),
xm 22 9,
xt 13 6 21,
xm 7 22])
.ret)
.skip)))
(.seq (xr [xm 23 0,
xL 24 5 4,
xL 25 2 5,
xc 26 77 [.tmp 23, .tmp 24, .tmp 25],
xt 13 6 26,
xi 7 (.move xq)])
.ret))),
[.cell 6 true 13, .tmp 7], .pure, 27⟩
def ef75 : EFun := ⟨
.seq (xr [xv 2 0,
xi 4 (.push [xz, xz])])
(.seq (xR [xf 8 2 2,
xl 9 8,
xm 10 1,
xi 11 (.indexAddr none 10 (.tmp 9) (.tmp 10)),
xf 12 0 11,
xL 13 4 12,
xf 14 0 2,
xl 15 14,
xC 16 25 [.tmp 13, .tmp 15],
xm 7 16,
xe 17 7 0,
xe 18 7 1,
xi 5 (.push [xz, xz]),
xt 2 5 17,
xm 6 18])
(.seq (xr [xL 19 2 5,
xt 2 4 19])
.ret)),
[.cell 4 true 2], .pure, 20⟩
def ef76 : EFun := ⟨
.seq (xr [xv 3 1,
xi 4 (.move xq)])
(.seq (.seq (xr [xm 10 0,
xc 11 79 [.tmp 10],
xm 5 11])
(.seq (xr [xm 12 5,
xb 13 .neq (.tmp 12) xq])
(.cond (.tmp 13) (.seq (xr [xm 14 5,
xm 4 14])
.ret)
.skip)))
(.seq (xr [xm 16 0,
xf 17 3 3,
xl 18 17,
xc 19 111 [.tmp 16, .tmp 18],
xm 15 19,
xe 20 15 0,
xe 21 15 1,
xi 6 (.push [(.string ⟨#[]⟩), xz, xz, xz]),
xt 4 6 20,
xm 7 21])
(.seq (xr [xm 23 0,
xf 24 4 3,
xl 25 24,
xc 26 111 [.tmp 23, .tmp 25],
xm 22 26,
xe 27 22 0,
xe 28 22 1,
xi 8 (.push [(.string ⟨#[]⟩), xz, xz, xz]),
xt 4 8 27,
xm 9 28])
(.seq (.block 0 (.seq (xr [xf 30 0 3,
xl 31 30,
xc 32 44 [.tmp 31, (xk 1000), (xk 300000)],
xi 33 (.un .not (.tmp 32)),
xm 34 33,
yf 35 1 3 34 false,
yl 36 35 34 false,
xg 37 (.call 44 [.tmp 36, (xk 100), (xk 3000)]) 34 false,
xg 38 (.un .not (.tmp 37)) 34 false,
xi 39 (.pick (.tmp 34) xT (.tmp 38)),
xm 40 39,
yf 41 2 3 40 false,
yl 42 41 40 false,
xg 43 (.call 44 [.tmp 42, xq, (xk 10000)]) 40 false,
xg 44 (.un .not (.tmp 43)) 40 false,
xi 45 (.pick (.tmp 40) xT (.tmp 44)),
xm 29 45])
(.cond (.tmp 29) (.seq (xr [xi 4 (.move (xk 2))])
.ret)
(.seq (xr [xf 47 2 3,
xl 48 47,
xb 49 .neq (.tmp 48) xq,
xm 50 49,
yf 51 2 3 50 true,
yl 52 51 50 true,
yf 53 1 3 50 true,
yl 54 53 50 true,
yb 55 .leq (.tmp 52) (.tmp 54) 50 true,
xi 56 (.pick (.tmp 50) (.tmp 55) xF),
xm 57 56,
yf 58 2 3 57 false,
yl 59 58 57 false,
yb 60 .eql (.tmp 59) xq 57 false,
yf 61 4 3 57 false,
yl 62 61 57 false,
yb 63 .eql (.tmp 62) (.const (.string ⟨#[]⟩)) 57 false,
xg 64 (.eqBool true (.tmp 60) (.tmp 63)) 57 false,
xi 65 (.pick (.tmp 57) xT (.tmp 64)),
xm 46 65])
(.cond (.tmp 46) (.seq (xr [xi 4 (.move (xk 3))])
.ret)
(.seq (xr [xm 67 7,
xi 68 (.un .not (.tmp 67)),
xm 69 68,
yf 70 2 3 69 false,
yl 71 70 69 false,
yb 72 .neq (.tmp 71) xq 69 false,
ym 73 72 69 false,
ym 74 9 73 true,
xg 75 (.un .not (.tmp 74)) 73 true,
xg 76 (.pick (.tmp 73) (.tmp 75) xF) 69 false,
xi 77 (.pick (.tmp 69) xT (.tmp 76)),
xm 66 77])
(.cond (.tmp 66) (.seq (xr [xi 4 (.move (xk 6))])
.ret)
(.seq (xr [xf 79 2 6,
xl 80 79,
xf 81 1 3,
xl 82 81,
xB 83 .mul 80 82,
xf 84 1 3,
xl 85 84,
xB 86 .mul 83 85,
xb 87 .lss (.tmp 86) (xk 1000000),
xm 78 87])
(.cond (.tmp 78) (.seq (xr [xi 4 (.move (xk 11))])
.ret)
.skip)))))))))
(.seq (xr [xi 4 (.move xq)])
.ret))))),
[.tmp 4], .pure, 88⟩
def ef77 : EFun := ⟨
.seq (xr [xv 4 1,
xv 5 2,
xi 6 (.push [(.string ⟨#[]⟩), xz, xz, xz, xz, xz, xz, (.string ⟨#[]⟩), (.string ⟨#[]⟩), xz, xz, xz, xz])])
(.seq (xr [xm 14 0,
xf 15 3 4,
xl 16 15,
xc 17 111 [.tmp 14, .tmp 16],
xm 13 17,
xe 18 13 0,
xe 19 13 1,
xi 7 (.push [(.string ⟨#[]⟩), xz, xz, xz]),
xt 4 7 18,
xm 8 19])
(.seq (xr [xf 20 0 5,
xl 21 20,
xf 22 0 4,
xl 23 22,
xB 24 .mul 21 23,
xf 25 1 5,
xl 26 25,
xf 27 0 4,
xl 28 27,
xB 29 .mul 26 28,
xc 30 109 [.tmp 24, .tmp 29, (xk 1000000)],
xi 9 (.push [xz, xz]),
xt 2 9 30])
(.seq (xr [xf 31 0 9,
xl 32 31,
xf 33 0 9,
xl 34 33,
xB 35 .mul 32 34,
xf 36 1 9,
xl 37 36,
xf 38 1 9,
xl 39 38,
xB 40 .mul 37 39,
xc 41 109 [.tmp 35, .tmp 40, (xk 10000)],
xi 10 (.push [xz, xz]),
xt 2 10 41])
(.seq (xr [xm 42 0,
xL 43 5 4,
xc 44 112 [.tmp 42, .tmp 43],
xm 11 44])
(.seq (xr [xm 45 11,
xm 46 11,
xc 47 109 [.tmp 45, .tmp 46, (xk 10000)],
xi 12 (.push [xz, xz]),
xt 2 12 47])
(.seq (xR [xL 48 4 7,
xL 49 5 4,
xL 50 2 9,
xf 51 0 12,
xl 52 51,
xf 53 0 10,
xl 54 53,
xB 55 .mul 52 54,
xf 56 1 12,
xl 57 56,
xf 58 1 10,
xl 59 58,
xB 60 .mul 57 59,
xC 61 109 [.tmp 55, .tmp 60, (xk 1000000)],
xi 62 (.build [(.string ⟨#[]⟩), xz, xz, xz, xz, xz, xz, (.string ⟨#[]⟩), (.string ⟨#[]⟩), xz, xz, xz, xz] [(0, 4, (.tmp 48)), (4, 5, (.tmp 49)), (9, 2, (.tmp 50)), (11, 2, (.tmp 61))]),
xt 13 6 62])
.ret)))))),
[.cell 6 true 13], .pure, 63⟩
def ef78 : EFun := ⟨
.seq (xr [xv 2 0,
xv 3 1,
xi 4 (.move (.const .nilFunc))])
(.seq (xr [xi 5 (.makeFunc (.func 113) [.tmp 2, .tmp 3]),
xm 4 5])
.ret),
[.tmp 4], .pure, 6⟩
def ef79 : EFun := ⟨
.seq (xr [xi 2 (.move xq)])
(.seq (.seq (xr [xm 6 0,
xn 7 6,
xb 8 .gtr (.tmp 7) (xk 20)])
(.cond (.tmp 8) (.seq (xr [xi 2 (.move (xk 8))])
.ret)
.skip))
(.seq (xr [xi 9 (.makeMap),
xm 3 9])
(.seq (.seq (xr [xm 10 0,
xn 11 10,
xi 12 (.move xq)])
(.block 0 (.loop (some [3, 10, 11, 12]) (
.seq (xr [xB 13 .lss 12 11])
(.seq (.cond (.tmp 13) .skip
(.exit 0))
(.seq (.block 1 (.seq (xr [xi 14 (.indexAddr none 4 (.tmp 10) (.tmp 12)),
xL 15 4 14,
xi 5 (.push [(.string ⟨#[]⟩), xz, xz, xz]),
xt 4 5 15])
(.seq (.block 2 (.seq (xr [xf 17 0 5,
xl 18 17,
xc 19 114 [.tmp 18],
xi 20 (.un .not (.tmp 19)),
xm 16 20])
(.cond (.tmp 16) (.seq (xr [xi 2 (.move (xk 4))])
.ret)
(.seq (xr [xm 22 3,
xf 23 0 5,
xl 24 23,
xi 25 (.mapGet .str (.bool false) false (.tmp 22) (.tmp 24)),
xm 21 25])
(.cond (.tmp 21) (.seq (xr [xi 2 (.move (xk 5))])
.ret)
(.seq (xr [xf 27 1 5,
xl 28 27,
xc 29 44 [.tmp 28, (xk 1), (xk 200000)],
xi 30 (.un .not (.tmp 29)),
xm 31 30,
yf 32 2 5 31 false,
yl 33 32 31 false,
xg 34 (.call 44 [.tmp 33, (xk 1), (xk 1000000)]) 31 false,
xg 35 (.un .not (.tmp 34)) 31 false,
xi 36 (.pick (.tmp 31) xT (.tmp 35)),
xm 37 36,
yf 38 3 5 37 false,
yl 39 38 37 false,
xg 40 (.call 44 [.tmp 39, xq, (xk 100000000)]) 37 false,
xg 41 (.un .not (.tmp 40)) 37 false,
xi 42 (.pick (.tmp 37) xT (.tmp 41)),
xm 26 42])
(.cond (.tmp 26) (.seq (xr [xi 2 (.move (xk 2))])
.ret)
.skip)))))))
(xr [xm 43 3,
xf 44 0 5,
xl 45 44,
⟨none, .mapSet .str (.tmp 43) (.tmp 45) xT, none, [], false, false⟩]))))
(xr [xb 46 .add (.tmp 12) (xk 1),
xm 12 46])))))))
(.seq (xr [xi 2 (.move xq)])
.ret)))),
[.tmp 2], .pure, 47⟩
def ef80 : EFun := ⟨
.seq (xr [xv 2 0,
xi 4 (.move xq)])
(.seq (xr [xf 13 2 2,
xl 14 13,
xm 15 1,
xi 16 (.indexAddr none 10 (.tmp 14) (.tmp 15)),
xL 17 10 16,
xi 5 (.push [xz, xz, xz, xz, xz, xz, xz, xz, (.string ⟨#[]⟩), (.string ⟨#[]⟩)]),
xt 10 5 17])
(.seq (.seq (xr [xf 18 0 5,
xL 19 4 18,
xc 20 63 [.tmp 19],
xm 6 20])
(.seq (xr [xm 21 6,
xb 22 .neq (.tmp 21) xq])
(.cond (.tmp 22) (.seq (xr [xm 23 6,
xm 4 23])
.ret)
.skip)))
(.seq (.seq (xr [xf 24 4 5,
xl 25 24,
xc 26 44 [.tmp 25, (xk 1), (xk 4)],
xi 27 (.un .not (.tmp 26))])
(.cond (.tmp 27) (.seq (xr [xi 4 (.move (xk 2))])
.ret)
.skip))
(.seq (.seq (xr [xf 28 1 2,
xl 29 28,
xf 30 5 5,
xL 31 5 30,
xc 32 76 [.tmp 29, .tmp 31],
xm 7 32])
(.seq (xr [xm 33 7,
xb 34 .neq (.tmp 33) xq])
(.cond (.tmp 34) (.seq (xr [xm 35 7,
xm 4 35])
.ret)
.skip)))
(.seq (xr [xf 37 0 5,
xL 38 4 37,
xf 39 0 2,
xl 40 39,
xc 41 25 [.tmp 38, .tmp 40],
xm 36 41,
xe 42 36 0,
xe 43 36 1,
xi 8 (.push [xz, xz]),
xt 2 8 42,
xm 9 43])
(.seq (.seq (xr [xm 44 9,
xb 45 .neq (.tmp 44) xq])
(.cond (.tmp 45) (.seq (xr [xm 46 9,
xm 4 46])
.ret)
.skip))
(.seq (.seq (xr [xL 47 2 8,
xc 48 108 [.tmp 47],
xm 10 48])
(.seq (xr [xm 49 10,
xb 50 .neq (.tmp 49) xq,
xm 51 50,
ym 52 1 51 false,
yb 53 .eql (.tmp 52) xq 51 false,
xi 54 (.pick (.tmp 51) xT (.tmp 53))])
(.cond (.tmp 54) (.seq (xr [xm 55 10,
xm 4 55])
.ret)
.skip)))
(.seq (.seq (xR [xf 57 0 5,
xL 58 4 57,
xf 59 2 2,
xl 60 59,
xm 61 1,
xb 62 .sub (.tmp 61) (xk 1),
xi 63 (.indexAddr none 10 (.tmp 60) (.tmp 62)),
xf 64 0 63,
xL 65 4 64,
xc 66 115 [.tmp 58, .tmp 65],
xm 56 66,
xe 67 56 0,
xe 68 56 1,
xm 11 67,
xm 12 68])
(.block 0 (.seq (xr [xm 70 12,
xb 71 .neq (.tmp 70) xq,
xm 69 71])
(.cond (.tmp 69) (.seq (xr [xm 72 12,
xm 4 72])
.ret)
(.seq (xr [xm 74 11,
xb 75 .leq (.tmp 74) xq,
xm 73 75])
(.cond (.tmp 73) (.seq (xr [xi 4 (.move (xk 9))])
.ret)
.skip))))))
(.seq (xr [xi 4 (.move xq)])
.ret))))))))),
[.tmp 4], .pure, 76⟩
def ef81 : EFun := ⟨
.seq (xr [xv 1 0,
xi 2 (.push [xz, xz])])
(.seq (xr [xf 5 0 1,
xf 6 2 5,
xl 7 6,
xf 8 4 1,
xf 9 1 8,
xl 10 9,
xB 11 .mul 7 10,
xf 12 4 1,
xf 13 1 12,
xl 14 13,
xB 15 .mul 11 14,
xm 3 15])
(.seq (xr [xm 16 3,
xm 17 3,
xc 18 109 [.tmp 16, .tmp 17, (xk 1000000)],
xi 4 (.push [xz, xz]),
xt 2 4 18])
(.seq (xr [xf 19 11 1,
xf 20 0 19,
xl 21 20,
xb 22 .mul (xk 1000) (.tmp 21),
xf 23 1 4,
xl 24 23,
xf 25 11 1,
xf 26 1 25,
xl 27 26,
xb 28 .mul (xk 1000) (.tmp 27),
xf 29 0 4,
xl 30 29,
xc 31 110 [.tmp 22, .tmp 24, .tmp 28, .tmp 30],
xt 2 2 31])
.ret))),
[.cell 2 true 2], .pure, 32⟩
def ef93 : EFun := ⟨
.seq (xr [xi 4 (.move xq)])
(.seq (.block 0 (.loop (some [0, 1]) (
.seq (.seq (xr [xm 5 1,
xb 6 .neq (.tmp 5) xq])
(.cond (.tmp 6) .skip
(.exit 0)))
(.block 1 (xR [xm 7 1,
xm 8 0,
xm 9 1,
xB 10 .rem 8 9,
xm 0 7,
xm 1 10])))))
(.seq (.seq (xr [xm 11 0,
xb 12 .lss (.tmp 11) xq])
(.cond (.tmp 12) (.seq (xr [xm 13 0,
xi 14 (.un .neg (.tmp 13)),
xm 4 14])
.ret)
.skip))
(.seq (xr [xm 15 0,
xm 4 15])
.ret))),
[.tmp 4], .pure, 16⟩
def ef94 : EFun := ⟨
.seq (xr [xi 2 (.move xF)])
(.seq (xr [xm 3 0,
xb 4 .geq (.tmp 3) (.const (.int .u8 48)),
xm 5 4,
ym 6 0 5 true,
yb 7 .leq (.tmp 6) (.const (.int .u8 57)) 5 true,
xi 8 (.pick (.tmp 5) (.tmp 7) xF),
xm 2 8])
.ret),
[.tmp 2], .pure, 9⟩
def ef96 : EFun := ⟨
.seq (xr [xi 2 (.move xq)])
(.seq (.seq (xr [xm 3 0,
xb 4 .lss (.tmp 3) xq])
(.cond (.tmp 4) (.seq (xr [xm 5 0,
xi 6 (.un .neg (.tmp 5)),
xm 2 6])
.ret)
.skip))
(.seq (xr [xm 7 0,
xm 2 7])
.ret)),
[.tmp 2], .pure, 8⟩
def ef97 : EFun := ⟨
.seq (xr [xi 4 (.move xq)])
(.seq (.block 0 (.loop (some [0, 1]) (
.seq (.seq (xr [xm 5 1,
xb 6 .neq (.tmp 5) xq])
(.cond (.tmp 6) .skip
(.exit 0)))
(.block 1 (xR [xm 7 1,
xm 8 0,
xm 9 1,
xB 10 .rem 8 9,
xm 0 7,
xm 1 10])))))
(.seq (xr [xm 11 0,
xc 12 96 [.tmp 11],
xm 4 12])
.ret)),
[.tmp 4], .pure, 13⟩
def ef98 : EFun := ⟨
.seq (xr [xi 2 (.move xF)])
(.seq (.seq (xr [xm 4 0,
xi 5 (.len true (.tmp 4)),
xb 6 .eql (.tmp 5) xq,
xm 7 6,
ym 8 0 7 false,
xg 9 (.len true (.tmp 8)) 7 false,
yb 10 .gtr (.tmp 9) (xk 12) 7 false,
xi 11 (.pick (.tmp 7) xT (.tmp 10)),
xm 12 11,
ym 13 0 12 false,
xg 14 (.strIndex (.tmp 13) xq) 12 false,
xg 15 (.call 121 [.tmp 14]) 12 false,
xg 16 (.un .not (.tmp 15)) 12 false,
xi 17 (.pick (.tmp 12) xT (.tmp 16))])
(.cond (.tmp 17) (.seq (xr [xi 2 (.move xF)])
.ret)
.skip))
(.seq (.seq (xr [xi 3 (.move xq)])
(.block 0 (.loop (some [0, 3]) (
.seq (.seq (xr [xm 18 3,
xm 19 0,
xi 20 (.len true (.tmp 19)),
xB 21 .lss 18 20])
(.cond (.tmp 21) .skip
(.exit 0)))
(.seq (.block 1 (.seq (xr [xm 24 0,
xm 25 3,
xi 26 (.strIndex (.tmp 24) (.tmp 25)),
xc 27 121 [.tmp 26],
xi 28 (.un .not (.tmp 27)),
xm 29 28,
ym 30 0 29 true,
ym 31 3 29 true,
xg 32 (.strIndex (.tmp 30) (.tmp 31)) 29 true,
xg 33 (.call 94 [.tmp 32]) 29 true,
xg 34 (.un .not (.tmp 33)) 29 true,
xi 35 (.pick (.tmp 29) (.tmp 34) xF),
xm 36 35,
ym 37 0 36 true,
ym 38 3 36 true,
xg 39 (.strIndex (.tmp 37) (.tmp 38)) 36 true,
yb 40 .neq (.tmp 39) (.const (.int .u8 45)) 36 true,
xi 41 (.pick (.tmp 36) (.tmp 40) xF)])
(.cond (.tmp 41) (.seq (xr [xi 2 (.move xF)])
.ret)
.skip)))
(xr [xm 22 3,
xb 23 .add (.tmp 22) (xk 1),
xm 3 23]))))))
(.seq (xr [xi 2 (.move xT)])
.ret))),
[.tmp 2], .pure, 42⟩
def ef99 : EFun := ⟨
.seq (xr [xi 4 (.move xq)])
(.seq (.seq (xr [xi 5 (.move xq)])
(.block 0 (.loop (some [0, 1, 5]) (
.seq (.seq (xr [xm 6 5,
xm 7 0,
xn 8 7,
xB 9 .lss 6 8])
(.cond (.tmp 9) .skip
(.exit 0)))
(.seq (.block 1 (.seq (xr [xm 12 0,
xm 13 5,
xi 14 (.indexAddr none 4 (.tmp 12) (.tmp 13)),
xf 15 0 14,
xl 16 15,
xm 17 1,
xB 18 .eql 16 17])
(.cond (.tmp 18) (.seq (xr [xm 19 5,
xm 4 19])
.ret)
.skip)))
(xr [xm 10 5,
xb 11 .add (.tmp 10) (xk 1),
xm 5 11]))))))
(.seq (xr [xi 4 (.move (.const (.int .i64 (-1))))])
.ret)),
[.tmp 4], .pure, 20⟩
def ef100 : EFun := ⟨
.seq (xr [xv 1 0,
xi 2 (.move xF)])
(.seq (.seq (xr [xf 5 0 1,
xl 6 5,
xf 7 1 1,
xl 8 7,
xf 9 2 1,
xl 10 9,
xi 11 (.build [xz, xz, xz] [(0, 1, (.tmp 6)), (1, 1, (.tmp 8)), (2, 1, (.tmp 10))]),
xi 12 (.move xq)])
(.block 0 (.loop (some [1, 11, 12]) (
.seq (xr [xb 13 .lss (.tmp 12) (xk 3)])
(.seq (.cond (.tmp 13) .skip
(.exit 0))
(.seq (.block 1 (.seq (xr [xi 14 (.index 3 1 false (.tmp 11) (.tmp 12)),
xm 4 14])
(.seq (xr [xm 15 4,
xc 16 21 [.tmp 15, (.const (.int .i64 (-400))), (xk 400)],
xi 17 (.un .not (.tmp 16))])
(.cond (.tmp 17) (.seq (xr [xi 2 (.move xF)])
.ret)
.skip))))
(xr [xb 18 .add (.tmp 12) (xk 1),
xm 12 18])))))))
(.seq (xr [xf 19 3 1,
xl 20 19,
xc 21 21 [.tmp 20, (xk 1), (xk 12)],
xm 2 21])
.ret)),
[.tmp 2], .pure, 22⟩
def ef101 : EFun := ⟨
.seq (xr [xv 3 1,
xi 4 (.move xq)])
(.seq (.seq (xr [xf 6 0 3,
xl 7 6,
xc 8 21 [.tmp 7, (xk 1000), (xk 300000)],
xi 9 (.un .not (.tmp 8)),
xm 10 9,
yf 11 1 3 10 false,
yl 12 11 10 false,
xg 13 (.call 21 [.tmp 12, (xk 100), (xk 3000)]) 10 false,
xg 14 (.un .not (.tmp 13)) 10 false,
xi 15 (.pick (.tmp 10) xT (.tmp 14)),
xm 16 15,
yf 17 2 3 16 false,
yl 18 17 16 false,
xg 19 (.call 21 [.tmp 18, xq, (xk 10000)]) 16 false,
xg 20 (.un .not (.tmp 19)) 16 false,
xi 21 (.pick (.tmp 16) xT (.tmp 20))])
(.cond (.tmp 21) (.seq (xr [xi 4 (.move (xk 2))])
.ret)
.skip))
(.seq (.seq (xr [xf 22 2 3,
xl 23 22,
xb 24 .neq (.tmp 23) xq,
xm 25 24,
yf 26 2 3 25 true,
yl 27 26 25 true,
yf 28 1 3 25 true,
yl 29 28 25 true,
yb 30 .leq (.tmp 27) (.tmp 29) 25 true,
xi 31 (.pick (.tmp 25) (.tmp 30) xF),
xm 32 31,
yf 33 2 3 32 false,
yl 34 33 32 false,
yb 35 .neq (.tmp 34) xq 32 false,
yf 36 4 3 32 false,
yl 37 36 32 false,
yb 38 .neq (.tmp 37) (.const (.string ⟨#[]⟩)) 32 false,
xg 39 (.eqBool true (.tmp 35) (.tmp 38)) 32 false,
xi 40 (.pick (.tmp 32) xT (.tmp 39))])
(.cond (.tmp 40) (.seq (xr [xi 4 (.move (xk 3))])
.ret)
.skip))
(.seq (xr [xm 41 0,
xf 42 3 3,
xl 43 42,
xc 44 99 [.tmp 41, .tmp 43],
xm 5 44])
(.seq (.seq (xr [xm 45 5,
xb 46 .lss (.tmp 45) xq,
xm 47 46,
yf 48 2 3 47 false,
yl 49 48 47 false,
yb 50 .neq (.tmp 49) xq 47 false,
ym 51 50 47 false,
ym 52 0 51 true,
yf 53 4 3 51 true,
yl 54 53 51 true,
xg 55 (.call 99 [.tmp 52, .tmp 54]) 51 true,
yb 56 .lss (.tmp 55) xq 51 true,
xg 57 (.pick (.tmp 51) (.tmp 56) xF) 47 false,
xi 58 (.pick (.tmp 47) xT (.tmp 57))])
(.cond (.tmp 58) (.seq (xr [xi 4 (.move (xk 6))])
.ret)
.skip))
(.seq (.seq (xR [xm 59 0,
xm 60 5,
xi 61 (.indexAddr none 4 (.tmp 59) (.tmp 60)),
xf 62 2 61,
xl 63 62,
xf 64 1 3,
xl 65 64,
xB 66 .mul 63 65,
xf 67 1 3,
xl 68 67,
xB 69 .mul 66 68,
xb 70 .lss (.tmp 69) (xk 1000000)])
(.cond (.tmp 70) (.seq (xr [xi 4 (.move (xk 11))])
.ret)
.skip))
(.seq (xr [xi 4 (.move xq)])
.ret)))))),
[.tmp 4], .pure, 71⟩
def ef102 : EFun := ⟨
.seq (xr [xv 2 0,
xi 4 (.push [xz, xz]),
xi 5 (.move xq)])
(.seq (xr [xf 13 0 2,
xl 14 13,
xf 15 1 2,
xl 16 15,
xf 17 2 2,
xl 18 17,
xc 19 122 [.tmp 14, .tmp 16, .tmp 18],
xm 12 19,
xe 20 12 0,
xe 21 12 1,
xm 6 20,
xm 7 21])
(.seq (xR [xm 22 6,
xm 23 1,
xC 24 125 [.tmp 23],
xf 25 3 2,
xl 26 25,
xc 27 124 [.tmp 24, .tmp 26],
xc 28 123 [.tmp 22, .tmp 27],
xm 6 28])
(.seq (xr [xi 8 (.move xq),
xi 9 (.move (xk 1000000000000001))])
(.seq (.block 0 (.loop (some [2, 4, 6, 7, 8, 9]) (
.seq (.seq (xr [xm 29 8,
xm 30 9,
xB 31 .lss 29 30])
(.cond (.tmp 31) .skip
(.exit 0)))
(.block 1 (.seq (xr [xm 32 9,
xm 33 9,
xm 34 8,
xB 35 .sub 33 34,
xb 36 .quo (.tmp 35) (xk 2),
xB 37 .sub 32 36,
xm 10 37])
(.seq (xR [xm 38 10,
xC 39 125 [.tmp 38],
xf 40 3 2,
xl 41 40,
xc 42 124 [.tmp 39, .tmp 41],
xm 43 7,
xc 44 123 [.tmp 42, .tmp 43],
xm 45 6,
xc 46 126 [.tmp 44, .tmp 45],
xb 47 .leq (.tmp 46) xq])
(.cond (.tmp 47) (xr [xm 48 10,
xm 8 48])
(xr [xm 49 10,
xb 50 .sub (.tmp 49) (xk 1),
xm 9 50]))))))))
(.seq (xr [xm 51 8,
xm 11 51])
(.seq (.seq (xR [xm 52 8,
xC 53 125 [.tmp 52],
xf 54 3 2,
xl 55 54,
xc 56 124 [.tmp 53, .tmp 55],
xm 57 7,
xc 58 123 [.tmp 56, .tmp 57],
xm 59 6,
xc 60 126 [.tmp 58, .tmp 59],
xb 61 .neq (.tmp 60) xq])
(.cond (.tmp 61) (xr [xm 62 8,
xb 63 .add (.tmp 62) (xk 1),
xm 11 63])
.skip))
(.seq (.seq (xr [xm 64 11,
xb 65 .gtr (.tmp 64) (xk 1000000000000000)])
(.cond (.tmp 65) (.seq (xr [xi 66 (.build [xz, xz] []),
xt 2 4 66,
xi 5 (.move (xk 8))])
.ret)
.skip))
(.seq (xr [xm 67 8,
xm 68 11,
xi 69 (.build [xz, xz] [(0, 1, (.tmp 67)), (1, 1, (.tmp 68))]),
xt 2 4 69,
xi 5 (.move xq)])
.ret)))))))),
[.cell 4 true 2, .tmp 5], .pure, 70⟩
def ef103 : EFun := ⟨
.seq (xr [xv 1 0,
xi 2 (.move xF)])
(.seq (xr [xf 3 0 1,
xl 4 3,
xf 5 1 1,
xl 6 5,
xc 7 21 [.tmp 4, (xk 1), .tmp 6],
xm 8 7,
yf 9 1 1 8 true,
yl 10 9 8 true,
yb 11 .leq (.tmp 10) (xk 10000000) 8 true,
xi 12 (.pick (.tmp 8) (.tmp 11) xF),
xm 2 12])
.ret),
[.tmp 2], .pure, 13⟩
def ef104 : EFun := ⟨
.seq (xr [xv 2 0,
xv 3 1,
xi 4 (.move xq)])
(.seq (xr [xL 8 4 2,
xL 9 4 3,
xc 10 128 [.tmp 8, .tmp 9, (.const (.int .i64 (-1)))],
xc 11 127 [.tmp 10],
xi 5 (.push [xz, xz, xz, xz]),
xt 4 5 11])
(.seq (xr [xf 13 0 5,
xl 14 13,
xf 15 1 5,
xl 16 15,
xf 17 2 5,
xl 18 17,
xc 19 122 [.tmp 14, .tmp 16, .tmp 18],
xm 12 19,
xe 20 12 0,
xe 21 12 1,
xm 6 20,
xm 7 21])
(.seq (xr [xm 22 6,
xm 23 7,
xc 24 126 [.tmp 22, .tmp 23],
xm 4 24])
.ret))),
[.tmp 4], .pure, 25⟩
def ef105 : EFun := ⟨
.seq (xr [xi 4 (.move (.const (.int .u64 0))),
xi 5 (.move (.const (.int .u64 0)))])
(.seq (xr [xm 14 0,
xb 15 .and (.tmp 14) (.const (.int .u64 4294967295)),
xm 6 15])
(.seq (xr [xm 16 0,
xb 17 .shr (.tmp 16) (.const (.int .u64 32)),
xm 7 17])
(.seq (xr [xm 18 1,
xb 19 .and (.tmp 18) (.const (.int .u64 4294967295)),
xm 8 19])
(.seq (xr [xm 20 1,
xb 21 .shr (.tmp 20) (.const (.int .u64 32)),
xm 9 21])
(.seq (xr [xm 22 6,
xm 23 8,
xB 24 .mul 22 23,
xm 10 24])
(.seq (xr [xm 25 7,
xm 26 8,
xB 27 .mul 25 26,
xm 28 10,
xb 29 .shr (.tmp 28) (.const (.int .u64 32)),
xB 30 .add 27 29,
xm 11 30])
(.seq (xr [xm 31 11,
xb 32 .and (.tmp 31) (.const (.int .u64 4294967295)),
xm 12 32])
(.seq (xr [xm 33 11,
xb 34 .shr (.tmp 33) (.const (.int .u64 32)),
xm 13 34])
(.seq (xr [xm 35 12,
xm 36 6,
xm 37 9,
xB 38 .mul 36 37,
xB 39 .add 35 38,
xm 12 39])
(.seq (xr [xm 40 7,
xm 41 9,
xB 42 .mul 40 41,
xm 43 13,
xB 44 .add 42 43,
xm 45 12,
xb 46 .shr (.tmp 45) (.const (.int .u64 32)),
xB 47 .add 44 46,
xm 4 47])
(.seq (xr [xm 48 0,
xm 49 1,
xB 50 .mul 48 49,
xm 5 50])
.ret))))))))))),
[.tmp 4, .tmp 5], .pure, 51⟩
def ef106 : EFun := ⟨
.seq (xr [xi 4 (.move (.const (.slice none 0 0)))])
(.seq (xr [xm 13 0,
xn 14 13,
xb 15 .add (.tmp 14) (xk 1),
xi 16 (.makeSlice 1 8 [(.int .u64 0)] xq (.tmp 15)),
xm 5 16])
(.seq (xr [xi 6 (.move (.const (.int .u64 0)))])
(.seq (.seq (xr [xm 17 0,
xn 18 17,
xi 19 (.move xq)])
(.block 0 (.loop (some [1, 5, 6, 17, 18, 19]) (
.seq (xr [xB 20 .lss 19 18])
(.seq (.cond (.tmp 20) .skip
(.exit 0))
(.seq (.block 1 (.seq (xr [xa 21 17 19,
xl 22 21,
xm 8 22])
(.seq (xr [xm 24 8,
xm 25 1,
xc 26 105 [.tmp 24, .tmp 25],
xm 23 26,
xe 27 23 0,
xe 28 23 1,
xm 9 27,
xm 10 28])
(.seq (xr [xm 30 10,
xm 31 6,
xi 32 (.add64 (.tmp 30) (.tmp 31) (.const (.int .u64 0))),
xm 29 32,
xe 33 29 0,
xe 34 29 1,
xm 11 33,
xm 12 34])
(.seq (xr [xm 35 5,
xm 36 11,
xi 37 (.buildSlice 1 1 [(.int .u64 0)] [(0, 1, (.tmp 36))]),
xi 38 (.append 1 8 (.tmp 35) (.tmp 37)),
xm 5 38])
(xr [xm 39 9,
xm 40 12,
xB 41 .add 39 40,
xm 6 41]))))))
(xr [xb 42 .add (.tmp 19) (xk 1),
xm 19 42])))))))
(.seq (.seq (xr [xm 43 6,
xb 44 .gtr (.tmp 43) (.const (.int .u64 0))])
(.cond (.tmp 44) (xr [xm 45 5,
xm 46 6,
xi 47 (.buildSlice 1 1 [(.int .u64 0)] [(0, 1, (.tmp 46))]),
xi 48 (.append 1 8 (.tmp 45) (.tmp 47)),
xm 5 48])
.skip))
(.seq (xr [xm 49 5,
xm 4 49])
.ret))))),
[.tmp 4], .pure, 50⟩
def ef107 : EFun := ⟨
.seq (xr [xv 1 0,
xi 2 (.move xq)])
(.seq (.block 0 (.seq (xr [xf 4 0 1,
xl 5 4,
xc 6 64 [.tmp 5, (.const (.int .i64 (-1000000000000000))), (xk 1000000000000000)],
xi 7 (.un .not (.tmp 6)),
xm 8 7,
yf 9 1 1 8 false,
yl 10 9 8 false,
xg 11 (.call 64 [.tmp 10, (.const (.int .i64 (-1000000000000000))), (xk 1000000000000000)]) 8 false,
xg 12 (.un .not (.tmp 11)) 8 false,
xi 13 (.pick (.tmp 8) xT (.tmp 12)),
xm 3 13])
(.cond (.tmp 3) (.seq (xr [xi 2 (.move (xk 2))])
.ret)
(.seq (xr [xf 15 0 1,
xl 16 15,
xf 17 1 1,
xl 18 17,
xB 19 .gtr 16 18,
xm 14 19])
(.cond (.tmp 14) (.seq (xr [xi 2 (.move (xk 9))])
.ret)
.skip)))))
(.seq (xr [xi 2 (.move xq)])
.ret)),
[.tmp 2], .pure, 20⟩
def ef108 : EFun := ⟨
.seq (xr [xv 1 0,
xi 2 (.move xq)])
(.seq (.seq (xr [xf 3 0 1,
xl 4 3,
xb 5 .lss (.tmp 4) (xk 1),
xm 6 5,
yf 7 0 1 6 false,
yl 8 7 6 false,
yf 9 1 1 6 false,
yl 10 9 6 false,
yb 11 .gtr (.tmp 8) (.tmp 10) 6 false,
xi 12 (.pick (.tmp 6) xT (.tmp 11)),
xm 13 12,
yf 14 1 1 13 false,
yl 15 14 13 false,
yb 16 .gtr (.tmp 15) (xk 10000000) 13 false,
xi 17 (.pick (.tmp 13) xT (.tmp 16))])
(.cond (.tmp 17) (.seq (xr [xi 2 (.move (xk 2))])
.ret)
.skip))
(.seq (xr [xi 2 (.move xq)])
.ret)),
[.tmp 2], .pure, 18⟩
def ef109 : EFun := ⟨
.seq (xr [xi 6 (.push [xz, xz])])
(.seq (xr [xm 7 0,
xm 8 2,
xm 9 1,
xm 10 2,
xc 11 110 [.tmp 7, .tmp 8, .tmp 9, .tmp 10],
xt 2 6 11])
.ret),
[.cell 6 true 2], .pure, 12⟩
def ef110 : EFun := ⟨
.seq (xr [xi 8 (.push [xz, xz])])
(.seq (xR [xm 9 0,
xm 10 1,
xB 11 .quo 9 10,
xm 12 2,
xm 13 3,
xB 14 .add 12 13,
xb 15 .sub (.tmp 14) (xk 1),
xm 16 3,
xB 17 .quo 15 16,
xi 18 (.build [xz, xz] [(0, 1, (.tmp 11)), (1, 1, (.tmp 17))]),
xt 2 8 18])
.ret),
[.cell 8 true 2], .pure, 19⟩
def ef111 : EFun := ⟨
.seq (xr [xv 3 1,
xi 4 (.push [(.string ⟨#[]⟩), xz, xz, xz]),
xi 5 (.move xF)])
(.seq (xr [xm 7 0,
xi 8 (.makeFunc (.func 131) [.tmp 3]),
xc 9 130 [.tmp 7, .tmp 8],
xm 6 9])
(.seq (.seq (xr [xm 10 6,
xb 11 .lss (.tmp 10) xq])
(.cond (.tmp 11) (.seq (xr [xi 12 (.build [(.string ⟨#[]⟩), xz, xz, xz] []),
xt 4 4 12,
xi 5 (.move xF)])
.ret)
.skip))
(.seq (xr [xm 13 0,
xm 14 6,
xi 15 (.indexAddr none 4 (.tmp 13) (.tmp 14)),
xL 16 4 15,
xt 4 4 16,
xi 5 (.move xT)])
.ret))),
[.cell 4 true 4, .tmp 5], .pure, 17⟩
def ef112 : EFun := ⟨
.seq (xr [xv 3 1,
xi 4 (.move xq)])
(.seq (xr [xm 11 0,
xf 12 3 3,
xl 13 12,
xc 14 111 [.tmp 11, .tmp 13],
xm 10 14,
xe 15 10 0,
xe 16 10 1,
xi 5 (.push [(.string ⟨#[]⟩), xz, xz, xz]),
xt 4 5 15,
xm 6 16])
(.seq (xr [xf 17 1 5,
xl 18 17,
xf 19 1 3,
xl 20 19,
xB 21 .mul 18 20,
xf 22 1 3,
xl 23 22,
xB 24 .mul 21 23,
xm 7 24])
(.seq (.seq (xr [xf 25 2 3,
xl 26 25,
xb 27 .neq (.tmp 26) xq])
(.cond (.tmp 27) (.seq (xr [xm 29 0,
xf 30 4 3,
xl 31 30,
xc 32 111 [.tmp 29, .tmp 31],
xm 28 32,
xe 33 28 0,
xe 34 28 1,
xi 8 (.push [(.string ⟨#[]⟩), xz, xz, xz]),
xt 4 8 33,
xm 9 34])
(xr [xm 35 7,
xf 36 1 8,
xl 37 36,
xf 38 2 3,
xl 39 38,
xf 40 2 3,
xl 41 40,
xB 42 .mul 39 41,
xf 43 1 3,
xl 44 43,
xf 45 1 3,
xl 46 45,
xB 47 .mul 44 46,
xB 48 .sub 42 47,
xB 49 .mul 37 48,
xB 50 .add 35 49,
xm 7 50]))
.skip))
(.seq (xr [xm 51 7,
xm 4 51])
.ret)))),
[.tmp 4], .pure, 52⟩
def ef113 : EFun := ⟨
.seq (xR [xl 6 1,
xi 7 (.nilCheck (.tmp 6)),
xf 8 0 7,
xl 9 8,
xl 10 2,
xa 11 9 10,
xl 12 11,
xn 13 12,
xi 14 (.move xq)])
(.block 0 (.loop (some [0, 1, 2, 13, 14]) (
.seq (xr [xB 15 .lss 14 13])
(.seq (.cond (.tmp 15) .skip
(.exit 0))
(.seq (.block 1 (.seq (xr [xm 16 14,
xm 4 16])
(.seq (xR [xl 17 1,
xi 18 (.nilCheck (.tmp 17)),
xf 19 0 18,
xl 20 19,
xl 21 2,
xb 22 .add (.tmp 21) (xk 1),
xa 23 20 22,
xl 24 23,
xn 25 24,
xi 26 (.move xq)])
(.block 2 (.loop (some [0, 1, 2, 4, 13, 14, 25, 26]) (
.seq (xr [xB 27 .lss 26 25])
(.seq (.cond (.tmp 27) .skip
(.exit 2))
(.seq (.block 3 (.seq (xr [xm 28 26,
xm 5 28])
(.seq (xr [xl 29 1,
xl 30 2,
xm 31 4,
xm 32 5,
xc 33 38 [.tmp 29, .tmp 30, .tmp 31, .tmp 32],
xm 34 33,
ym 35 0 34 true,
ym 36 4 34 true,
ym 37 5 34 true,
xg 38 (.callVal (.tmp 35) [.tmp 36, .tmp 37]) 34 true,
xg 39 (.un .not (.tmp 38)) 34 true,
xi 40 (.pick (.tmp 34) (.tmp 39) xF)])
(.cond (.tmp 40) .ret
.skip))))
(xr [xb 41 .add (.tmp 26) (xk 1),
xm 26 41])))))))))
(xr [xb 42 .add (.tmp 14) (xk 1),
xm 14 42])))))),
[], .trunc, 43⟩
def ef114 : EFun := ⟨
.seq (xr [xi 2 (.move xF)])
(.seq (.seq (xr [xm 6 0,
xi 7 (.bytesOf (.tmp 6)),
xn 8 7,
xi 9 (.move xq)])
(.block 0 (.loop (some [0, 7, 8, 9]) (
.seq (xr [xB 10 .lss 9 8])
(.seq (.cond (.tmp 10) .skip
(.exit 0))
(.seq (.block 1 (.seq (xr [xm 11 9,
xa 12 7 9,
xl 13 12,
xm 3 11,
xm 4 13])
(.seq (xr [xm 14 4,
xb 15 .geq (.tmp 14) (.const (.int .u8 97)),
xm 16 15,
ym 17 4 16 true,
yb 18 .leq (.tmp 17) (.const (.int .u8 122)) 16 true,
xi 19 (.pick (.tmp 16) (.tmp 18) xF),
xm 20 19,
ym 21 4 20 false,
yb 22 .geq (.tmp 21) (.const (.int .u8 65)) 20 false,
ym 23 22 20 false,
ym 24 4 23 true,
yb 25 .leq (.tmp 24) (.const (.int .u8 90)) 23 true,
xg 26 (.pick (.tmp 23) (.tmp 25) xF) 20 false,
xi 27 (.pick (.tmp 20) xT (.tmp 26)),
xm 5 27])
(.seq (xr [xm 28 5,
xi 29 (.un .not (.tmp 28)),
xm 30 29,
ym 31 3 30 true,
yb 32 .eql (.tmp 31) xq 30 true,
ym 33 32 30 true,
ym 34 4 33 false,
yb 35 .neq (.tmp 34) (.const (.int .u8 45)) 33 false,
ym 36 35 33 false,
ym 37 4 36 true,
yb 38 .lss (.tmp 37) (.const (.int .u8 48)) 36 true,
ym 39 38 36 true,
ym 40 4 39 false,
yb 41 .gtr (.tmp 40) (.const (.int .u8 57)) 39 false,
xg 42 (.pick (.tmp 39) xT (.tmp 41)) 36 true,
xg 43 (.pick (.tmp 36) (.tmp 42) xF) 33 false,
xg 44 (.pick (.tmp 33) xT (.tmp 43)) 30 true,
xi 45 (.pick (.tmp 30) (.tmp 44) xF)])
(.cond (.tmp 45) (.seq (xr [xi 2 (.move xF)])
.ret)
.skip)))))
(xr [xb 46 .add (.tmp 9) (xk 1),
xm 9 46])))))))
(.seq (xr [xm 47 0,
xb 48 .neq (.tmp 47) (.const (.string ⟨#[]⟩)),
xm 49 48,
ym 50 0 49 true,
xg 51 (.len true (.tmp 50)) 49 true,
yb 52 .leq (.tmp 51) (xk 12) 49 true,
xi 53 (.pick (.tmp 49) (.tmp 52) xF),
xm 2 53])
.ret)),
[.tmp 2], .pure, 54⟩
def ef115 : EFun := ⟨
.seq (xr [xv 2 0,
xv 3 1,
xi 4 (.move xq),
xi 5 (.move xq)])
(.seq (.seq (xr [xL 7 4 2,
xL 8 4 3,
xc 9 132 [.tmp 7, .tmp 8],
xm 6 9])
(.seq (xr [xm 10 6,
xb 11 .neq (.tmp 10) xq])
(.cond (.tmp 11) (.seq (xr [xm 12 6,
xi 4 (.move xq),
xm 5 12])
.ret)
.skip)))
(.seq (xr [xL 13 4 2,
xL 14 4 3,
xc 15 133 [.tmp 13, .tmp 14],
xm 4 15,
xi 5 (.move xq)])
.ret)),
[.tmp 4, .tmp 5], .pure, 16⟩
def ef121 : EFun := ⟨
.seq (xr [xi 2 (.move xF)])
(.seq (xr [xm 3 0,
xb 4 .geq (.tmp 3) (.const (.int .u8 97)),
xm 5 4,
ym 6 0 5 true,
yb 7 .leq (.tmp 6) (.const (.int .u8 122)) 5 true,
xi 8 (.pick (.tmp 5) (.tmp 7) xF),
xm 9 8,
ym 10 0 9 false,
yb 11 .geq (.tmp 10) (.const (.int .u8 65)) 9 false,
ym 12 11 9 false,
ym 13 0 12 true,
yb 14 .leq (.tmp 13) (.const (.int .u8 90)) 12 true,
xg 15 (.pick (.tmp 12) (.tmp 14) xF) 9 false,
xi 16 (.pick (.tmp 9) xT (.tmp 15)),
xm 2 16])
.ret),
[.tmp 2], .pure, 17⟩
def ef122 : EFun := ⟨
.seq (xr [xi 6 (.move (.const (.slice none 0 0))),
xi 7 (.move (.const (.slice none 0 0)))])
(.seq (xr [xi 13 (.buildSlice 1 1 [xz] [(0, 1, (xk 1))]),
xi 14 (.buildSlice 1 1 [xz] [(0, 1, (xk 1))]),
xm 8 13,
xm 9 14])
(.seq (.seq (xr [xm 15 0,
xm 16 1,
xm 17 2,
xi 18 (.build [xz, xz, xz] [(0, 1, (.tmp 15)), (1, 1, (.tmp 16)), (2, 1, (.tmp 17))]),
xi 19 (.move xq)])
(.block 0 (.loop (some [8, 9, 18, 19]) (
.seq (xr [xb 20 .lss (.tmp 19) (xk 3)])
(.seq (.cond (.tmp 20) .skip
(.exit 0))
(.seq (.block 1 (.seq (xr [xm 21 19,
xi 22 (.index 3 1 false (.tmp 18) (.tmp 19)),
xm 10 21,
xm 11 22])
(.seq (xr [xi 23 (.build [xz, xz, xz] [(0, 1, (xk 2)), (1, 1, (xk 3)), (2, 1, (xk 5))]),
xm 24 10,
xi 25 (.index 3 1 false (.tmp 23) (.tmp 24)),
xc 26 125 [.tmp 25],
xm 12 26])
(.seq (xr [xm 27 11,
xb 28 .gtr (.tmp 27) xq])
(.cond (.tmp 28) (xr [xm 29 8,
xm 30 12,
xm 31 11,
xc 32 124 [.tmp 30, .tmp 31],
xc 33 123 [.tmp 29, .tmp 32],
xm 8 33])
(xr [xm 34 9,
xm 35 12,
xm 36 11,
xi 37 (.un .neg (.tmp 36)),
xc 38 124 [.tmp 35, .tmp 37],
xc 39 123 [.tmp 34, .tmp 38],
xm 9 39]))))))
(xr [xb 40 .add (.tmp 19) (xk 1),
xm 19 40])))))))
(.seq (xr [xm 41 8,
xm 42 9,
xm 6 41,
xm 7 42])
.ret))),
[.tmp 6, .tmp 7], .pure, 43⟩
def ef123 : EFun := ⟨
.seq (xr [xi 4 (.move (.const (.slice none 0 0)))])
(.seq (xr [xm 10 0,
xn 11 10,
xm 12 1,
xn 13 12,
xB 14 .add 11 13,
xb 15 .add (.tmp 14) (xk 1),
xi 16 (.makeSlice 1 8 [xz] (.tmp 15) (.tmp 15)),
xm 5 16])
(.seq (.seq (xr [xi 6 (.move xq)])
(.block 0 (.loop (some [0, 1, 5, 6]) (
.seq (.seq (xr [xm 17 6,
xm 18 0,
xn 19 18,
xB 20 .lss 17 19])
(.cond (.tmp 20) .skip
(.exit 0)))
(.seq (.block 1 (.seq (xr [xi 7 (.move xq)])
(.seq (xr [xi 8 (.move xq)])
(.block 2 (.loop (some [0, 1, 5, 6, 7, 8]) (
.seq (.seq (xr [xm 23 8,
xm 24 1,
xn 25 24,
xB 26 .lss 23 25,
xm 27 26,
ym 28 7 27 false,
yb 29 .gtr (.tmp 28) xq 27 false,
xi 30 (.pick (.tmp 27) xT (.tmp 29))])
(.cond (.tmp 30) .skip
(.exit 2)))
(.seq (.block 3 (.seq (xr [xm 33 5,
xm 34 6,
xm 35 8,
xB 36 .add 34 35,
xa 37 33 36,
xl 38 37,
xm 39 7,
xB 40 .add 38 39,
xm 9 40])
(.seq (.seq (xr [xm 41 8,
xm 42 1,
xn 43 42,
xB 44 .lss 41 43])
(.cond (.tmp 44) (xR [xm 45 9,
xm 46 0,
xm 47 6,
xa 48 46 47,
xl 49 48,
xm 50 1,
xm 51 8,
xa 52 50 51,
xl 53 52,
xB 54 .mul 49 53,
xB 55 .add 45 54,
xm 9 55])
.skip))
(xr [xm 56 5,
xm 57 6,
xm 58 8,
xB 59 .add 57 58,
xm 60 9,
xb 61 .rem (.tmp 60) (xk 10000),
xm 62 9,
xb 63 .quo (.tmp 62) (xk 10000),
xa 64 56 59,
xt 1 64 61,
xm 7 63]))))
(xr [xm 31 8,
xb 32 .add (.tmp 31) (xk 1),
xm 8 32]))))))))
(xr [xm 21 6,
xb 22 .add (.tmp 21) (xk 1),
xm 6 22]))))))
(.seq (.block 4 (.loop (some [5]) (
.seq (.seq (xr [xm 65 5,
xn 66 65,
xb 67 .gtr (.tmp 66) xq,
xm 68 67,
ym 69 5 68 true,
ym 70 5 68 true,
xg 71 (.len false (.tmp 70)) 68 true,
yb 72 .sub (.tmp 71) (xk 1) 68 true,
ya 73 69 72 68 true,
yl 74 73 68 true,
yb 75 .eql (.tmp 74) xq 68 true,
xi 76 (.pick (.tmp 68) (.tmp 75) xF)])
(.cond (.tmp 76) .skip
(.exit 4)))
(.block 5 (xr [xm 77 5,
xm 78 5,
xn 79 78,
xb 80 .sub (.tmp 79) (xk 1),
xi 81 (.slice 1 (.tmp 77) none (some (.tmp 80))),
xm 5 81])))))
(.seq (xr [xm 82 5,
xm 4 82])
.ret)))),
[.tmp 4], .pure, 83⟩
def ef124 : EFun := ⟨
.seq (xr [xi 4 (.move (.const (.slice none 0 0)))])
(.seq (xr [xi 6 (.buildSlice 1 1 [xz] [(0, 1, (xk 1))]),
xm 5 6])
(.seq (.block 0 (.loop (some [0, 1, 5]) (
.seq (.seq (xr [xm 7 1,
xb 8 .gtr (.tmp 7) xq])
(.cond (.tmp 8) .skip
(.exit 0)))
(.block 1 (.seq (.seq (xr [xm 9 1,
xb 10 .rem (.tmp 9) (xk 2),
xb 11 .eql (.tmp 10) (xk 1)])
(.cond (.tmp 11) (xr [xm 12 5,
xm 13 0,
xc 14 123 [.tmp 12, .tmp 13],
xm 5 14])
.skip))
(xr [xm 15 0,
xm 16 0,
xc 17 123 [.tmp 15, .tmp 16],
xm 18 1,
xb 19 .quo (.tmp 18) (xk 2),
xm 0 17,
xm 1 19]))))))
(.seq (xr [xm 20 5,
xm 4 20])
.ret))),
[.tmp 4], .pure, 21⟩
def ef125 : EFun := ⟨
.seq (xr [xi 2 (.move (.const (.slice none 0 0)))])
(.seq (xr [xi 3 (.move (.const (.slice none 0 0)))])
(.seq (.block 0 (.loop (some [0, 3]) (
.seq (.seq (xr [xm 4 0,
xb 5 .gtr (.tmp 4) xq])
(.cond (.tmp 5) .skip
(.exit 0)))
(.block 1 (.seq (xr [xm 6 3,
xm 7 0,
xb 8 .rem (.tmp 7) (xk 10000),
xi 9 (.buildSlice 1 1 [xz] [(0, 1, (.tmp 8))]),
xi 10 (.append 1 8 (.tmp 6) (.tmp 9)),
xm 3 10])
(xr [xm 11 0,
xb 12 .quo (.tmp 11) (xk 10000),
xm 0 12]))))))
(.seq (xr [xm 13 3,
xm 2 13])
.ret))),
[.tmp 2], .pure, 14⟩
def ef126 : EFun := ⟨
.seq (xr [xi 4 (.move xq)])
(.seq (.seq (xr [xm 6 0,
xn 7 6,
xm 8 1,
xn 9 8,
xB 10 .neq 7 9])
(.cond (.tmp 10) (.seq (.seq (xr [xm 11 0,
xn 12 11,
xm 13 1,
xn 14 13,
xB 15 .lss 12 14])
(.cond (.tmp 15) (.seq (xr [xi 4 (.move (.const (.int .i64 (-1))))])
.ret)
.skip))
(.seq (xr [xi 4 (.move (xk 1))])
.ret))
.skip))
(.seq (.seq (xr [xm 16 0,
xn 17 16,
xb 18 .sub (.tmp 17) (xk 1),
xm 5 18])
(.block 0 (.loop (some [0, 1, 5]) (
.seq (.seq (xr [xm 19 5,
xb 20 .geq (.tmp 19) xq])
(.cond (.tmp 20) .skip
(.exit 0)))
(.seq (.block 1 (.seq (.seq (xR [xm 23 0,
xm 24 5,
xa 25 23 24,
xl 26 25,
xm 27 1,
xm 28 5,
xa 29 27 28,
xl 30 29,
xB 31 .lss 26 30])
(.cond (.tmp 31) (.seq (xr [xi 4 (.move (.const (.int .i64 (-1))))])
.ret)
.skip))
(.seq (xR [xm 32 0,
xm 33 5,
xa 34 32 33,
xl 35 34,
xm 36 1,
xm 37 5,
xa 38 36 37,
xl 39 38,
xB 40 .gtr 35 39])
(.cond (.tmp 40) (.seq (xr [xi 4 (.move (xk 1))])
.ret)
.skip))))
(xr [xm 21 5,
xb 22 .sub (.tmp 21) (xk 1),
xm 5 22]))))))
(.seq (xr [xi 4 (.move xq)])
.ret))),
[.tmp 4], .pure, 41⟩
def ef127 : EFun := ⟨
.seq (xr [xv 1 0,
xi 2 (.push [xz, xz, xz, xz])])
(.seq (xR [xf 4 0 1,
xl 5 4,
xf 6 1 1,
xl 7 6,
xC 8 97 [.tmp 5, .tmp 7],
xf 9 2 1,
xl 10 9,
xf 11 3 1,
xl 12 11,
xc 13 97 [.tmp 10, .tmp 12],
xc 14 97 [.tmp 8, .tmp 13],
xm 3 14])
(.seq (xR [xf 15 0 1,
xl 16 15,
xm 17 3,
xB 18 .quo 16 17,
xf 19 1 1,
xl 20 19,
xm 21 3,
xB 22 .quo 20 21,
xf 23 2 1,
xl 24 23,
xm 25 3,
xB 26 .quo 24 25,
xf 27 3 1,
xl 28 27,
xm 29 3,
xB 30 .quo 28 29,
xi 31 (.build [xz, xz, xz, xz] [(0, 1, (.tmp 18)), (1, 1, (.tmp 22)), (2, 1, (.tmp 26)), (3, 1, (.tmp 30))]),
xt 4 2 31])
.ret)),
[.cell 2 true 4], .pure, 32⟩
def ef128 : EFun := ⟨
.seq (xr [xv 3 0,
xv 4 1,
xi 6 (.push [xz, xz, xz, xz])])
(.seq (xr [xf 7 0 3,
xl 8 7,
xf 9 3 4,
xl 10 9,
xB 11 .mul 8 10,
xm 12 2,
xf 13 0 4,
xl 14 13,
xB 15 .mul 12 14,
xf 16 3 3,
xl 17 16,
xB 18 .mul 15 17,
xB 19 .add 11 18,
xf 20 1 3,
xl 21 20,
xf 22 3 4,
xl 23 22,
xB 24 .mul 21 23,
xm 25 2,
xf 26 1 4,
xl 27 26,
xB 28 .mul 25 27,
xf 29 3 3,
xl 30 29,
xB 31 .mul 28 30,
xB 32 .add 24 31,
xf 33 2 3,
xl 34 33,
xf 35 3 4,
xl 36 35,
xB 37 .mul 34 36,
xm 38 2,
xf 39 2 4,
xl 40 39,
xB 41 .mul 38 40,
xf 42 3 3,
xl 43 42,
xB 44 .mul 41 43,
xB 45 .add 37 44,
xf 46 3 3,
xl 47 46,
xf 48 3 4,
xl 49 48,
xB 50 .mul 47 49,
xi 51 (.build [xz, xz, xz, xz] [(0, 1, (.tmp 19)), (1, 1, (.tmp 32)), (2, 1, (.tmp 45)), (3, 1, (.tmp 50))]),
xt 4 6 51])
.ret),
[.cell 6 true 4], .pure, 52⟩
def ef130 : EFun := ⟨
.seq (xr [xi 4 (.move xq)])
(.seq (.seq (xr [xm 6 0,
xn 7 6,
xi 8 (.move xq)])
(.block 0 (.loop (some [0, 1, 7, 8]) (
.seq (xr [xB 9 .lss 8 7])
(.seq (.cond (.tmp 9) .skip
(.exit 0))
(.seq (.block 1 (.seq (xr [xm 10 8,
xm 5 10])
(.seq (xr [xm 11 1,
xm 12 0,
xm 13 5,
xi 14 (.indexAddr none 4 (.tmp 12) (.tmp 13)),
xL 15 4 14,
xi 16 (.callVal (.tmp 11) [.tmp 15])])
(.cond (.tmp 16) (.seq (xr [xm 17 5,
xm 4 17])
.ret)
.skip))))
(xr [xb 18 .add (.tmp 8) (xk 1),
xm 8 18])))))))
(.seq (xr [xi 4 (.move (.const (.int .i64 (-1))))])
.ret)),
[.tmp 4], .pure, 19⟩
def ef131 : EFun := ⟨
.seq (xr [xv 2 0,
xi 3 (.move xF)])
(.seq (xr [xf 4 0 2,
xl 5 4,
xl 6 1,
xB 7 .eql 5 6,
xm 3 7])
.ret),
[.tmp 3], .pure, 8⟩
def ef132 : EFun := ⟨
.seq (xr [xv 2 0,
xv 3 1,
xi 4 (.move xq)])
(.seq (.seq (xr [xL 6 4 2,
xc 7 63 [.tmp 6],
xm 5 7])
(.seq (xr [xm 8 5,
xb 9 .neq (.tmp 8) xq])
(.cond (.tmp 9) (.seq (xr [xm 10 5,
xm 4 10])
.ret)
.skip)))
(.seq (xr [xL 11 4 3,
xc 12 63 [.tmp 11],
xm 4 12])
.ret)),
[.tmp 4], .pure, 13⟩
def ef133 : EFun := ⟨
.seq (xr [xv 2 0,
xv 3 1,
xi 4 (.move xq)])
(.seq (xr [xL 6 4 2,
xL 7 4 3,
xc 8 148 [.tmp 6, .tmp 7, (.const (.int .i64 (-1)))],
xc 9 65 [.tmp 8],
xc 10 67 [.tmp 9],
xc 11 66 [.tmp 10],
xi 5 (.push [(.slice none 0 0), (.slice none 0 0)]),
xt 2 5 11])
(.seq (xr [xf 12 0 5,
xl 13 12,
xf 14 1 5,
xl 15 14,
xc 16 70 [.tmp 13, .tmp 15],
xm 4 16])
.ret)),
[.tmp 4], .pure, 17⟩
def ef148 : EFun := ⟨
.seq (xr [xv 3 0,
xv 4 1,
xi 6 (.push [xz, xz, xz, xz])])
(.seq (xr [xf 7 0 3,
xl 8 7,
xf 9 3 4,
xl 10 9,
xB 11 .mul 8 10,
xm 12 2,
xf 13 0 4,
xl 14 13,
xB 15 .mul 12 14,
xf 16 3 3,
xl 17 16,
xB 18 .mul 15 17,
xB 19 .add 11 18,
xf 20 1 3,
xl 21 20,
xf 22 3 4,
xl 23 22,
xB 24 .mul 21 23,
xm 25 2,
xf 26 1 4,
xl 27 26,
xB 28 .mul 25 27,
xf 29 3 3,
xl 30 29,
xB 31 .mul 28 30,
xB 32 .add 24 31,
xf 33 2 3,
xl 34 33,
xf 35 3 4,
xl 36 35,
xB 37 .mul 34 36,
xm 38 2,
xf 39 2 4,
xl 40 39,
xB 41 .mul 38 40,
xf 42 3 3,
xl 43 42,
xB 44 .mul 41 43,
xB 45 .add 37 44,
xf 46 3 3,
xl 47 46,
xf 48 3 4,
xl 49 48,
xB 50 .mul 47 49,
xi 51 (.build [xz, xz, xz, xz] [(0, 1, (.tmp 19)), (1, 1, (.tmp 32)), (2, 1, (.tmp 45)), (3, 1, (.tmp 50))]),
xt 4 6 51])
.ret),
[.cell 6 true 4], .pure, 52⟩
end Go.Abs.R
