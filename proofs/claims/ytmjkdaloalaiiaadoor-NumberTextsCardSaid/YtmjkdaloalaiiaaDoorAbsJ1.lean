--
import Derived.Test.YtmjkdaloalaiiaaDoorAbsJ0
set_option linter.unusedSimpArgs false
set_option linter.unusedVariables false
set_option maxRecDepth 100000
set_option maxHeartbeats 0
namespace Go.Abs.J
open Go Go.Abs
def ef3 : EFun := ⟨
.seq (xr [xv 2 0,
xi 4 (.move xF)])
(.seq (.seq (xr [xc 12 4 [],
xi 13 (.un .not (.tmp 12))])
(.cond (.tmp 13) (.seq (xr [xi 4 (.move xF)])
.ret)
.skip))
(.seq (.seq (xr [xm 14 1,
xi 15 (.len true (.tmp 14)),
xb 16 .gtr (.tmp 15) (xk 60)])
(.cond (.tmp 16) (.seq (xr [xi 4 (.move xT)])
.ret)
.skip))
(.seq (xr [xm 18 1,
xc 19 5 [.tmp 18],
xm 17 19,
xe 20 17 0,
xe 21 17 1,
xi 5 (.push [xz, xz]),
xt 2 5 20,
xm 6 21])
(.seq (xr [xm 23 1,
xc 24 6 [.tmp 23],
xm 22 24,
xe 25 22 0,
xe 26 22 1,
xi 7 (.push [xz, xz]),
xt 2 7 25,
xm 8 26])
(.seq (.seq (xr [xL 27 2 5,
xL 28 2 7,
xi 29 (.eqAgg true [(.int .i64), (.int .i64)] (.tmp 27) (.tmp 28)),
xm 30 29,
ym 31 6 30 false,
ym 32 8 30 false,
yb 33 .neq (.tmp 31) (.tmp 32) 30 false,
xi 34 (.pick (.tmp 30) xT (.tmp 33))])
(.cond (.tmp 34) (.seq (xr [xi 4 (.move xF)])
.ret)
.skip))
(.seq (xr [xL 35 2 2,
xc 36 7 [.tmp 35],
xm 9 36])
(.seq (.seq (xr [xm 37 9,
xL 38 2 2,
xc 39 8 [.tmp 38],
xB 40 .neq 37 39])
(.cond (.tmp 40) (.seq (xr [xi 4 (.move xF)])
.ret)
.skip))
(.seq (xr [xm 42 9,
xc 43 5 [.tmp 42],
xm 41 43,
xe 44 41 0,
xe 45 41 1,
xi 10 (.push [xz, xz]),
xt 2 10 44,
xm 11 45])
(.seq (xr [xL 46 2 2,
xc 47 9 [.tmp 46],
xb 48 .neq (.tmp 47) xq,
xm 49 48,
ym 50 11 49 false,
yb 51 .eql (.tmp 50) xq 49 false,
ym 52 51 49 false,
xg 53 (.load true 2 (.tmp 10)) 52 true,
xg 54 (.load true 2 (.tmp 2)) 52 true,
xg 55 (.eqAgg false [(.int .i64), (.int .i64)] (.tmp 53) (.tmp 54)) 52 true,
xg 56 (.pick (.tmp 52) (.tmp 55) xF) 49 false,
xi 57 (.pick (.tmp 49) xT (.tmp 56)),
xm 4 57])
.ret))))))))),
[.tmp 4], .pure, 58⟩
def ef4 : EFun := ⟨
.seq (xr [xi 0 (.move xF)])
(.seq (xr [xc 9 11 [],
xc 10 10 [.tmp 9, (xk 1000)],
xm 8 10,
xe 11 8 0,
xe 12 8 1,
xi 1 (.push [xz, xz]),
xt 2 1 11,
xm 2 12])
(.seq (xr [xi 14 (.build [xz, xz, xz] [(0, 1, xq), (1, 1, (xk 1)), (2, 1, (xk 2))]),
xi 15 (.build [xz, xz, xz] [(0, 1, (xk 1)), (1, 1, (xk 2)), (2, 1, (.const (.int .i64 (-3))))]),
xi 16 (.build [xz, xz, xz] [(0, 1, (xk 2)), (1, 1, xq), (2, 1, (xk 4))]),
xi 17 (.buildSlice 3 3 (List.replicate 9 xz) [(0, 3, (.tmp 14)), (3, 3, (.tmp 15)), (6, 3, (.tmp 16))]),
xc 18 12 [(xk 3), .tmp 17],
xm 13 18,
xe 19 13 0,
xe 20 13 1,
xe 21 13 2,
xm 3 19,
xm 4 20,
xm 5 21])
(.seq (xr [xi 23 (.build [xz, xz] []),
xi 24 (.build [xz, xz] [(0, 1, (xk 1)), (1, 1, (xk 1))]),
xi 25 (.build [xz, xz] [(0, 1, (xk 2))]),
xi 26 (.buildSlice 2 3 [xz, xz, xz, xz, xz, xz] [(0, 2, (.tmp 23)), (2, 2, (.tmp 24)), (4, 2, (.tmp 25))]),
xc 27 13 [.tmp 26],
xm 22 27,
xe 28 22 0,
xe 29 22 1,
xi 6 (.push (List.replicate 9 xz)),
xt 9 6 28,
xm 7 29])
(.seq (xr [xm 30 2,
xb 31 .eql (.tmp 30) xq,
xm 32 31,
xg 33 (.load true 2 (.tmp 1)) 32 true,
xg 34 (.build [xz, xz] [(0, 1, (xk 1013)), (1, 1, (xk 1014))]) 32 true,
xg 35 (.eqAgg false [(.int .i64), (.int .i64)] (.tmp 33) (.tmp 34)) 32 true,
xi 36 (.pick (.tmp 32) (.tmp 35) xF),
xm 37 36,
ym 38 5 37 true,
yb 39 .eql (.tmp 38) xq 37 true,
xi 40 (.pick (.tmp 37) (.tmp 39) xF),
xm 41 40,
ym 42 3 41 true,
xg 43 (.buildSlice 1 3 [xz, xz, xz] [(0, 1, xq), (1, 1, xq), (2, 1, (.const (.int .i64 (-3))))]) 41 true,
xg 44 (.call 14 [.tmp 42, .tmp 43]) 41 true,
xi 45 (.pick (.tmp 41) (.tmp 44) xF),
xm 46 45,
ym 47 7 46 true,
yb 48 .eql (.tmp 47) xq 46 true,
xi 49 (.pick (.tmp 46) (.tmp 48) xF),
xm 50 49,
yf 51 4 6 50 true,
xg 52 (.load true 2 (.tmp 51)) 50 true,
xg 53 (.build [xz, xz] [(0, 1, (xk 1)), (1, 1, (xk 2))]) 50 true,
xg 54 (.eqAgg false [(.int .i64), (.int .i64)] (.tmp 52) (.tmp 53)) 50 true,
xi 55 (.pick (.tmp 50) (.tmp 54) xF),
xm 0 55])
.ret)))),
[.tmp 0], .pure, 56⟩
def ef5 : EFun := ⟨
.seq (xr [xi 2 (.push [xz, xz]),
xi 3 (.move xq)])
(.seq (xr [xm 12 0,
xi 13 (.call 15 [.tmp 12, (.const (.string ⟨#[47]⟩))]),
xm 11 13,
xe 14 11 0,
xe 15 11 1,
xe 16 11 2,
xm 4 14,
xm 5 15,
xm 6 16])
(.seq (xr [xi 17 (.build [xz, xz] [(1, 1, (xk 1))]),
xi 7 (.push [xz, xz]),
xt 2 7 17])
(.seq (xr [xi 8 (.move xF),
xi 9 (.move xT)])
(.seq (xr [xm 19 4,
xc 20 16 [.tmp 19],
xm 18 20,
xe 21 18 0,
xe 22 18 1,
xf 23 0 7,
xt 1 23 21,
xm 8 22])
(.seq (.seq (xr [xm 24 6])
(.cond (.tmp 24) (xr [xm 26 5,
xc 27 16 [.tmp 26],
xm 25 27,
xe 28 25 0,
xe 29 25 1,
xf 30 1 7,
xt 1 30 28,
xm 9 29])
.skip))
(.seq (.seq (xr [xm 31 8,
xi 32 (.un .not (.tmp 31)),
xm 33 32,
ym 34 9 33 false,
xg 35 (.un .not (.tmp 34)) 33 false,
xi 36 (.pick (.tmp 33) xT (.tmp 35)),
xm 37 36,
ym 38 6 37 false,
ym 39 38 37 false,
yf 40 1 7 39 true,
yl 41 40 39 true,
yb 42 .lss (.tmp 41) (xk 2) 39 true,
xg 43 (.pick (.tmp 39) (.tmp 42) xF) 37 false,
xi 44 (.pick (.tmp 37) xT (.tmp 43))])
(.cond (.tmp 44) (.seq (xr [xi 45 (.build [xz, xz] []),
xt 2 2 45,
xi 3 (.move (xk 7))])
.ret)
.skip))
(.seq (.seq (xr [xL 46 2 7,
xc 47 17 [.tmp 46],
xm 10 47])
(.seq (xr [xm 48 10,
xb 49 .neq (.tmp 48) xq])
(.cond (.tmp 49) (.seq (xr [xi 50 (.build [xz, xz] []),
xm 51 10,
xt 2 2 50,
xm 3 51])
.ret)
.skip)))
(.seq (xr [xL 52 2 7,
xt 2 2 52,
xi 3 (.move xq)])
.ret)))))))),
[.cell 2 true 2, .tmp 3], .pure, 53⟩
def ef6 : EFun := ⟨
.seq (xr [xi 2 (.push [xz, xz]),
xi 3 (.move xq)])
(.seq (xr [xm 11 0,
xc 12 18 [.tmp 11, (.const (.int .u8 47))],
xm 4 12])
(.seq (xr [xi 13 (.build [xz, xz] [(1, 1, (xk 1))]),
xi 5 (.push [xz, xz]),
xt 2 5 13])
(.seq (xr [xm 15 4,
xi 16 (.indexAddr none 1 (.tmp 15) xq),
xl 17 16,
xc 18 19 [.tmp 17, (xk 10)],
xm 14 18,
xe 19 14 0,
xe 20 14 1,
xm 6 19,
xm 7 20])
(.seq (xr [xm 21 6,
xf 22 0 5,
xt 1 22 21])
(.seq (.seq (xr [xm 23 4,
xn 24 23,
xb 25 .gtr (.tmp 24) (xk 1)])
(.cond (.tmp 25) (.seq (xr [xm 27 4,
xi 28 (.indexAddr none 1 (.tmp 27) (xk 1)),
xl 29 28,
xc 30 19 [.tmp 29, (xk 10)],
xm 26 30,
xe 31 26 0,
xe 32 26 1,
xm 8 31,
xm 9 32])
(xr [xm 33 7,
xm 34 33,
ym 35 9 34 true,
xi 36 (.pick (.tmp 34) (.tmp 35) xF),
xm 37 36,
ym 38 8 37 true,
yb 39 .gtr (.tmp 38) (xk 1) 37 true,
xi 40 (.pick (.tmp 37) (.tmp 39) xF),
xm 41 8,
xm 7 40,
xf 42 1 5,
xt 1 42 41]))
.skip))
(.seq (.seq (xr [xm 43 7,
xi 44 (.un .not (.tmp 43)),
xm 45 44,
ym 46 4 45 false,
xg 47 (.len false (.tmp 46)) 45 false,
yb 48 .gtr (.tmp 47) (xk 2) 45 false,
xi 49 (.pick (.tmp 45) xT (.tmp 48))])
(.cond (.tmp 49) (.seq (xr [xi 50 (.build [xz, xz] []),
xt 2 2 50,
xi 3 (.move (xk 7))])
.ret)
.skip))
(.seq (.seq (xr [xL 51 2 5,
xc 52 9 [.tmp 51],
xm 10 52])
(.seq (xr [xm 53 10,
xb 54 .neq (.tmp 53) xq])
(.cond (.tmp 54) (.seq (xr [xi 55 (.build [xz, xz] []),
xm 56 10,
xt 2 2 55,
xm 3 56])
.ret)
.skip)))
(.seq (xr [xL 57 2 5,
xt 2 2 57,
xi 3 (.move xq)])
.ret)))))))),
[.cell 2 true 2, .tmp 3], .pure, 58⟩
def ef7 : EFun := ⟨
.seq (xr [xv 1 0,
xi 2 (.move (.const (.string ⟨#[]⟩)))])
(.seq (xr [xf 4 0 1,
xl 5 4,
xc 6 20 [.tmp 5],
xm 3 6])
(.seq (.seq (xr [xf 7 1 1,
xl 8 7,
xb 9 .neq (.tmp 8) (xk 1)])
(.cond (.tmp 9) (xr [xm 10 3,
xf 11 1 1,
xl 12 11,
xc 13 20 [.tmp 12],
xb 14 .add (.const (.string ⟨#[47]⟩)) (.tmp 13),
xB 15 .add 10 14,
xm 3 15])
.skip))
(.seq (xr [xm 16 3,
xm 2 16])
.ret))),
[.tmp 2], .pure, 17⟩
def ef8 : EFun := ⟨
.seq (xr [xv 1 0,
xi 2 (.move (.const (.string ⟨#[]⟩)))])
(.seq (.seq (xr [xf 3 1 1,
xl 4 3,
xb 5 .eql (.tmp 4) (xk 1)])
(.cond (.tmp 5) (.seq (xr [xf 6 0 1,
xl 7 6,
xc 8 21 [.tmp 7],
xm 2 8])
.ret)
.skip))
(.seq (xR [xf 9 0 1,
xl 10 9,
xC 11 21 [.tmp 10],
xb 12 .add (.tmp 11) (.const (.string ⟨#[47]⟩)),
xf 13 1 1,
xl 14 13,
xc 15 21 [.tmp 14],
xB 16 .add 12 15,
xm 2 16])
.ret)),
[.tmp 2], .pure, 17⟩
def ef9 : EFun := ⟨
.seq (xr [xv 1 0,
xi 2 (.move xq)])
(.seq (.seq (xr [xL 3 2 1,
xc 4 22 [.tmp 3],
xi 5 (.un .not (.tmp 4))])
(.cond (.tmp 5) (.seq (xr [xi 2 (.move (xk 3))])
.ret)
.skip))
(.seq (.seq (xr [xf 6 0 1,
xl 7 6,
xc 8 23 [.tmp 7, (.const (.int .i64 (-1000000000))), (xk 1000000000)],
xi 9 (.un .not (.tmp 8)),
xm 10 9,
yf 11 1 1 10 false,
yl 12 11 10 false,
yb 13 .gtr (.tmp 12) (xk 1000000000) 10 false,
xi 14 (.pick (.tmp 10) xT (.tmp 13))])
(.cond (.tmp 14) (.seq (xr [xi 2 (.move (xk 2))])
.ret)
.skip))
(.seq (xr [xi 2 (.move xq)])
.ret))),
[.tmp 2], .pure, 15⟩
def ef10 : EFun := ⟨
.seq (xr [xv 2 0,
xi 4 (.push [xz, xz]),
xi 5 (.move xq)])
(.seq (.seq (xr [xL 13 4 2,
xc 14 24 [.tmp 13],
xm 6 14])
(.seq (xr [xm 15 6,
xb 16 .neq (.tmp 15) xq])
(.cond (.tmp 16) (.seq (xr [xi 17 (.build [xz, xz] []),
xm 18 6,
xt 2 4 17,
xm 5 18])
.ret)
.skip)))
(.seq (.seq (xr [xm 19 1,
xc 20 25 [.tmp 19, (xk 1), (xk 1000000000)],
xi 21 (.un .not (.tmp 20))])
(.cond (.tmp 21) (.seq (xr [xi 22 (.build [xz, xz] []),
xt 2 4 22,
xi 5 (.move (xk 2))])
.ret)
.skip))
(.seq (xr [xL 23 4 2,
xc 24 26 [.tmp 23],
xt 4 2 24])
(.seq (xr [xL 25 4 2,
xc 26 28 [.tmp 25],
xc 27 27 [.tmp 26],
xi 7 (.push [(.slice none 0 0), (.slice none 0 0)]),
xt 2 7 27])
(.seq (xr [xm 28 1,
xi 29 (.conv .u64 (.tmp 28)),
xf 30 3 2,
xl 31 30,
xf 32 0 7,
xl 33 32,
xc 34 29 [.tmp 29, .tmp 31, .tmp 33],
xf 35 0 7,
xt 1 35 34])
(.seq (xr [xi 36 (.makeFunc (.func 30) [.tmp 2, .tmp 7]),
xm 8 36])
(.seq (xr [xi 9 (.move xq),
xi 10 (.move (xk 1000000000000001))])
(.seq (.block 0 (.loop (some [4, 8, 9, 10]) (
.seq (.seq (xr [xm 37 9,
xm 38 10,
xB 39 .lss 37 38])
(.cond (.tmp 39) .skip
(.exit 0)))
(.block 1 (.seq (xr [xm 40 10,
xm 41 10,
xm 42 9,
xB 43 .sub 41 42,
xb 44 .quo (.tmp 43) (xk 2),
xB 45 .sub 40 44,
xm 11 45])
(.seq (xr [xm 46 8,
xm 47 11,
xi 48 (.callVal (.tmp 46) [.tmp 47]),
xb 49 .leq (.tmp 48) xq])
(.cond (.tmp 49) (xr [xm 50 11,
xm 9 50])
(xr [xm 51 11,
xb 52 .sub (.tmp 51) (xk 1),
xm 10 52]))))))))
(.seq (xr [xm 53 9,
xm 54 9,
xi 55 (.build [xz, xz] [(0, 1, (.tmp 53)), (1, 1, (.tmp 54))]),
xi 12 (.push [xz, xz]),
xt 2 12 55])
(.seq (.seq (xr [xm 56 9,
xb 57 .eql (.tmp 56) xq,
xm 58 57,
ym 59 8 58 false,
ym 60 9 58 false,
xg 61 (.callVal (.tmp 59) [.tmp 60]) 58 false,
yb 62 .neq (.tmp 61) xq 58 false,
xi 63 (.pick (.tmp 58) xT (.tmp 62))])
(.cond (.tmp 63) (xr [xf 64 1 12,
xl 65 64,
xb 66 .add (.tmp 65) (xk 1),
xf 67 1 12,
xt 1 67 66])
.skip))
(.seq (xr [xL 68 2 12,
xc 69 32 [.tmp 68],
xe 70 69 0,
xe 71 69 1,
xt 2 4 70,
xm 5 71])
.ret))))))))))),
[.cell 4 true 2, .tmp 5], .pure, 72⟩
def ef11 : EFun := ⟨
.seq (xr [xi 0 (.push [xz, xz, xz, xz])])
(.seq (xr [xi 1 (.build [xz, xz, xz, xz] [(0, 1, (.const (.int .i64 (-19)))), (1, 1, (xk 12)), (3, 1, (xk 1))]),
xt 4 0 1])
.ret),
[.cell 0 true 4], .pure, 2⟩
def ef12 : EFun := ⟨
.seq (xr [xi 4 (.move (.const (.slice none 0 0))),
xi 5 (.move (.const (.slice none 0 0))),
xi 6 (.move xq)])
(.seq (.seq (xr [xm 13 0,
xm 14 1,
xc 15 33 [.tmp 13, .tmp 14],
xm 7 15])
(.seq (xr [xm 16 7,
xb 17 .neq (.tmp 16) xq])
(.cond (.tmp 17) (.seq (xr [xm 18 7,
xi 4 (.move (.const (.slice none 0 0))),
xi 5 (.move (.const (.slice none 0 0))),
xm 6 18])
.ret)
.skip)))
(.seq (xR [xm 19 0,
xi 20 (.makeSlice 1 8 [xz] (.tmp 19) (.tmp 19)),
xm 21 0,
xi 22 (.makeSlice 1 8 [xz] (.tmp 21) (.tmp 21)),
xm 8 20,
xm 9 22])
(.seq (xr [xi 10 (.move xq)])
(.seq (.seq (xr [xm 23 0,
xi 24 (.move xq)])
(.block 0 (.loop (some [0, 1, 8, 9, 10, 23, 24]) (
.seq (xr [xB 25 .lss 24 23])
(.seq (.cond (.tmp 25) .skip
(.exit 0))
(.seq (.block 1 (.seq (xr [xm 26 1,
xm 27 8,
xm 28 9,
xc 29 34 [.tmp 26, .tmp 27, .tmp 28],
xm 10 29])
(.seq (xr [xm 30 10,
xb 31 .lss (.tmp 30) xq])
(.cond (.tmp 31) (.seq (xr [xm 32 8,
xm 4 32,
xi 5 (.move (.const (.slice none 0 0))),
xi 6 (.move xq)])
.ret)
.skip))))
(xr [xb 33 .add (.tmp 24) (xk 1),
xm 24 33])))))))
(.seq (.seq (xr [xm 34 0,
xi 35 (.move xq)])
(.block 2 (.loop (some [1, 9, 10, 34, 35]) (
.seq (xr [xB 36 .lss 35 34])
(.seq (.cond (.tmp 36) .skip
(.exit 2))
(.seq (.block 3 (xr [xm 37 1,
xm 38 9,
xm 39 10,
xa 40 38 39,
xl 41 40,
xi 42 (.indexAddr none 3 (.tmp 37) (.tmp 41)),
xf 43 0 42,
xl 44 43,
xm 10 44]))
(xr [xb 45 .add (.tmp 35) (xk 1),
xm 35 45])))))))
(.seq (xr [xi 11 (.move (.const (.slice none 0 0)))])
(.seq (.seq (xr [xm 46 10,
xm 12 46])
(.block 4 (.loop (some [1, 9, 10, 11, 12]) (
.seq (.seq (xr [xm 47 11,
xn 48 47,
xb 49 .eql (.tmp 48) xq,
xm 50 49,
ym 51 12 50 false,
ym 52 10 50 false,
yb 53 .neq (.tmp 51) (.tmp 52) 50 false,
xi 54 (.pick (.tmp 50) xT (.tmp 53))])
(.cond (.tmp 54) .skip
(.exit 4)))
(.seq (.block 5 (xr [xm 63 11,
xm 64 9,
xm 65 12,
xa 66 64 65,
xl 67 66,
xi 68 (.buildSlice 1 1 [xz] [(0, 1, (.tmp 67))]),
xi 69 (.append 1 8 (.tmp 63) (.tmp 68)),
xm 11 69]))
(xr [xm 55 1,
xm 56 9,
xm 57 12,
xa 58 56 57,
xl 59 58,
xi 60 (.indexAddr none 3 (.tmp 55) (.tmp 59)),
xf 61 0 60,
xl 62 61,
xm 12 62]))))))
(.seq (xr [xm 70 11,
xc 71 35 [.tmp 70]])
(.seq (xr [xm 72 11,
xi 4 (.move (.const (.slice none 0 0))),
xm 5 72,
xi 6 (.move (xk 21))])
.ret))))))))),
[.tmp 4, .tmp 5, .tmp 6], .pure, 73⟩
def ef13 : EFun := ⟨
.seq (xr [xi 2 (.push (List.replicate 9 xz)),
xi 3 (.move xq)])
(.seq (.seq (xr [xm 12 0,
xc 13 36 [.tmp 12],
xm 4 13])
(.seq (xr [xm 14 4,
xb 15 .neq (.tmp 14) xq])
(.cond (.tmp 15) (.seq (xr [xi 16 (.build (List.replicate 9 xz) []),
xm 17 4,
xt 9 2 16,
xm 3 17])
.ret)
.skip)))
(.seq (xr [xm 18 0,
xc 19 37 [.tmp 18, xq, (xk 1), (xk 2)],
xi 5 (.push [xz, xz, xz, xz, xz]),
xt 5 5 19])
(.seq (.seq (xr [xm 20 0,
xn 21 20,
xi 22 (.move xq)])
(.block 0 (.loop (some [0, 2, 5, 21, 22]) (
.seq (xr [xB 23 .lss 22 21])
(.seq (.cond (.tmp 23) .skip
(.exit 0))
(.seq (.block 1 (.seq (xr [xm 24 22,
xm 6 24])
(.seq (xr [xm 25 6,
xb 26 .add (.tmp 25) (xk 1),
xm 7 26])
(.block 2 (.loop (some [0, 2, 5, 6, 7, 21, 22]) (
.seq (.seq (xr [xm 27 7,
xm 28 0,
xn 29 28,
xB 30 .lss 27 29])
(.cond (.tmp 30) .skip
(.exit 2)))
(.seq (.block 3 (.seq (xr [xm 33 7,
xb 34 .add (.tmp 33) (xk 1),
xm 8 34])
(.block 4 (.loop (some [0, 2, 5, 6, 7, 8, 21, 22]) (
.seq (.seq (xr [xm 35 8,
xm 36 0,
xn 37 36,
xB 38 .lss 35 37])
(.cond (.tmp 38) .skip
(.exit 4)))
(.seq (.block 5 (.seq (xr [xm 41 0,
xm 42 6,
xm 43 7,
xm 44 8,
xc 45 37 [.tmp 41, .tmp 42, .tmp 43, .tmp 44],
xi 9 (.push [xz, xz, xz, xz, xz]),
xt 5 9 45])
(.seq (xr [xL 46 5 5,
xL 47 5 9,
xc 48 38 [.tmp 46, .tmp 47]])
(.cond (.tmp 48) (xr [xL 49 5 9,
xt 5 5 49])
.skip))))
(xr [xm 39 8,
xb 40 .add (.tmp 39) (xk 1),
xm 8 40])))))))
(xr [xm 31 7,
xb 32 .add (.tmp 31) (xk 1),
xm 7 32]))))))))
(xr [xb 50 .add (.tmp 22) (xk 1),
xm 22 50])))))))
(.seq (xR [xm 51 0,
xf 52 0 5,
xi 53 (.indexAddr (some 3) 1 (.tmp 52) xq),
xl 54 53,
xi 55 (.indexAddr none 2 (.tmp 51) (.tmp 54)),
xL 56 2 55,
xm 57 0,
xf 58 0 5,
xi 59 (.indexAddr (some 3) 1 (.tmp 58) (xk 2)),
⟨(some 60), .load false 1 (.tmp 59), none, [], true, false⟩,
xi 61 (.indexAddr none 2 (.tmp 57) (.tmp 60)),
⟨(some 62), .load true 2 (.tmp 61), none, [], true, false⟩,
xi 10 (.push [xz, xz]),
xi 11 (.push [xz, xz]),
⟨none, .store 2 (.tmp 10) (.tmp 56), none, [9, 11], false, false⟩,
xt 2 11 62])
(.seq (xR [xf 63 4 5,
xl 64 63,
xb 65 .mul (xk 2) (.tmp 64),
xf 66 1 10,
xl 67 66,
xB 68 .mul 65 67,
xf 69 1 11,
xl 70 69,
xf 71 1 10,
xl 72 71,
xB 73 .sub 70 72,
xb 74 .mul (xk 2) (.tmp 73),
xf 75 0 10,
xl 76 75,
xB 77 .mul 74 76,
xB 78 .sub 68 77,
xf 79 3 5,
xl 80 79,
xB 81 .sub 78 80,
xf 82 4 5,
xl 83 82,
xb 84 .mul (xk 2) (.tmp 83),
xC 85 39 [.tmp 81, .tmp 84],
xf 86 1 11,
xl 87 86,
xf 88 1 10,
xl 89 88,
xB 90 .sub 87 89,
xf 91 4 5,
xl 92 91,
xC 93 39 [.tmp 90, .tmp 92],
xL 94 5 5,
xC 95 40 [.tmp 94],
xf 96 4 5,
xl 97 96,
xb 98 .mul (xk 2) (.tmp 97),
xC 99 39 [.tmp 95, .tmp 98],
xf 100 0 5,
xL 101 3 100,
xi 102 (.build (List.replicate 9 xz) [(0, 2, (.tmp 85)), (2, 2, (.tmp 93)), (4, 2, (.tmp 99)), (6, 3, (.tmp 101))]),
xt 9 2 102,
xi 3 (.move xq)])
.ret))))),
[.cell 2 true 9, .tmp 3], .pure, 103⟩
def ef14 : EFun := ⟨
.seq (xr [xi 4 (.move xF)])
(.seq (.seq (xr [xm 6 0,
xn 7 6,
xm 8 1,
xn 9 8,
xB 10 .neq 7 9])
(.cond (.tmp 10) (.seq (xr [xi 4 (.move xF)])
.ret)
.skip))
(.seq (.seq (xr [xi 5 (.move xq)])
(.block 0 (.loop (some [0, 1, 5]) (
.seq (.seq (xr [xm 11 5,
xm 12 0,
xn 13 12,
xB 14 .lss 11 13])
(.cond (.tmp 14) .skip
(.exit 0)))
(.seq (.block 1 (.seq (xR [xm 17 0,
xm 18 5,
xa 19 17 18,
xl 20 19,
xm 21 1,
xm 22 5,
xa 23 21 22,
xl 24 23,
xB 25 .neq 20 24])
(.cond (.tmp 25) (.seq (xr [xi 4 (.move xF)])
.ret)
.skip)))
(xr [xm 15 5,
xb 16 .add (.tmp 15) (xk 1),
xm 5 16]))))))
(.seq (xr [xi 4 (.move xT)])
.ret))),
[.tmp 4], .pure, 26⟩
def ef15 : EFun := ⟨
.seq (xr [xi 4 (.move (.const (.string ⟨#[]⟩))),
xi 5 (.move (.const (.string ⟨#[]⟩))),
xi 6 (.move xF)])
(.seq (xr [xm 7 0,
xm 8 1,
xc 9 41 [.tmp 7, .tmp 8],
xe 10 9 0,
xe 11 9 1,
xe 12 9 2,
xm 4 10,
xm 5 11,
xm 6 12])
.ret),
[.tmp 4, .tmp 5, .tmp 6], .pure, 13⟩
def ef16 : EFun := ⟨
.seq (xr [xi 2 (.move xq),
xi 3 (.move xF)])
(.seq (xr [xm 7 0,
xc 8 42 [.tmp 7],
xm 6 8,
xe 9 6 0,
xe 10 6 1,
xm 4 9,
xm 5 10])
(.seq (xr [xm 11 4,
xm 12 5,
xi 13 (.eqNil false (.tmp 12)),
xm 14 13,
ym 15 4 14 true,
xg 16 (.call 20 [.tmp 15]) 14 true,
ym 17 0 14 true,
yb 18 .eql (.tmp 16) (.tmp 17) 14 true,
xi 19 (.pick (.tmp 14) (.tmp 18) xF),
xm 20 19,
ym 21 0 20 true,
xg 22 (.call 43 [.tmp 21, (.const (.string ⟨#[45]⟩))]) 20 true,
xg 23 (.len true (.tmp 22)) 20 true,
yb 24 .leq (.tmp 23) (xk 10) 20 true,
xi 25 (.pick (.tmp 20) (.tmp 24) xF),
xm 2 11,
xm 3 25])
.ret)),
[.tmp 2, .tmp 3], .pure, 26⟩
def ef17 : EFun := ⟨
.seq (xr [xv 1 0,
xi 2 (.move xq)])
(.seq (.block 0 (.seq (xr [xf 4 1 1,
xl 5 4,
xb 6 .lss (.tmp 5) (xk 1),
xm 7 6,
yf 8 0 1 7 false,
yl 9 8 7 false,
yf 10 1 1 7 false,
yl 11 10 7 false,
xg 12 (.call 44 [.tmp 9, .tmp 11]) 7 false,
yb 13 .neq (.tmp 12) (xk 1) 7 false,
xi 14 (.pick (.tmp 7) xT (.tmp 13)),
xm 3 14])
(.cond (.tmp 3) (.seq (xr [xi 2 (.move (xk 3))])
.ret)
(.seq (xr [xf 16 0 1,
xl 17 16,
xc 18 25 [.tmp 17, (.const (.int .i64 (-1000000000))), (xk 1000000000)],
xi 19 (.un .not (.tmp 18)),
xm 20 19,
yf 21 1 1 20 false,
yl 22 21 20 false,
yb 23 .gtr (.tmp 22) (xk 1000000000) 20 false,
xi 24 (.pick (.tmp 20) xT (.tmp 23)),
xm 15 24])
(.cond (.tmp 15) (.seq (xr [xi 2 (.move (xk 2))])
.ret)
.skip)))))
(.seq (xr [xi 2 (.move xq)])
.ret)),
[.tmp 2], .pure, 25⟩
def ef18 : EFun := ⟨
.seq (xr [xi 4 (.move (.const (.slice none 0 0)))])
(.seq (xr [xi 5 (.move (.const (.slice none 0 0)))])
(.seq (xr [xi 6 (.move xq)])
(.seq (.seq (xr [xi 7 (.move xq)])
(.block 0 (.loop (some [0, 1, 5, 6, 7]) (
.seq (.seq (xr [xm 8 7,
xm 9 0,
xi 10 (.len true (.tmp 9)),
xB 11 .leq 8 10])
(.cond (.tmp 11) .skip
(.exit 0)))
(.seq (.block 1 (.seq (xr [xm 14 7,
xm 15 0,
xi 16 (.len true (.tmp 15)),
xB 17 .eql 14 16,
xm 18 17,
ym 19 0 18 false,
ym 20 7 18 false,
xg 21 (.strIndex (.tmp 19) (.tmp 20)) 18 false,
ym 22 1 18 false,
yb 23 .eql (.tmp 21) (.tmp 22) 18 false,
xi 24 (.pick (.tmp 18) xT (.tmp 23))])
(.cond (.tmp 24) (.seq (xr [xm 25 5,
xm 26 0,
xm 27 6,
xm 28 7,
xi 29 (.strSlice (.tmp 26) (some (.tmp 27)) (some (.tmp 28))),
xi 30 (.buildSlice 1 1 [(.string ⟨#[]⟩)] [(0, 1, (.tmp 29))]),
xi 31 (.append 1 16 (.tmp 25) (.tmp 30)),
xm 5 31])
(xr [xm 32 7,
xb 33 .add (.tmp 32) (xk 1),
xm 6 33]))
.skip)))
(xr [xm 12 7,
xb 13 .add (.tmp 12) (xk 1),
xm 7 13]))))))
(.seq (xr [xm 34 5,
xm 4 34])
.ret)))),
[.tmp 4], .pure, 35⟩
def ef19 : EFun := ⟨
.seq (xr [xi 4 (.move xq),
xi 5 (.move xF)])
(.seq (xr [xi 6 (.move xq),
xi 7 (.move xq)])
(.seq (.seq (xr [xm 9 0,
xi 10 (.len true (.tmp 9)),
xb 11 .gtr (.tmp 10) xq,
xm 12 11,
ym 13 0 12 true,
xg 14 (.strIndex (.tmp 13) xq) 12 true,
yb 15 .eql (.tmp 14) (.const (.int .u8 45)) 12 true,
xi 16 (.pick (.tmp 12) (.tmp 15) xF)])
(.cond (.tmp 16) (xr [xi 7 (.move (xk 1))])
.skip))
(.seq (.seq (xr [xm 17 0,
xi 18 (.len true (.tmp 17)),
xm 19 7,
xB 20 .eql 18 19,
xm 21 20,
ym 22 0 21 false,
xg 23 (.len true (.tmp 22)) 21 false,
ym 24 7 21 false,
ym 25 1 21 false,
yb 26 .add (.tmp 24) (.tmp 25) 21 false,
yb 27 .gtr (.tmp 23) (.tmp 26) 21 false,
xi 28 (.pick (.tmp 21) xT (.tmp 27)),
xm 29 28,
ym 30 1 29 false,
yb 31 .gtr (.tmp 30) (xk 18) 29 false,
xi 32 (.pick (.tmp 29) xT (.tmp 31))])
(.cond (.tmp 32) (.seq (xr [xi 4 (.move xq),
xi 5 (.move xF)])
.ret)
.skip))
(.seq (.seq (xr [xm 33 7,
xm 8 33])
(.block 0 (.loop (some [0, 6, 7, 8]) (
.seq (.seq (xr [xm 34 8,
xm 35 0,
xi 36 (.len true (.tmp 35)),
xB 37 .lss 34 36])
(.cond (.tmp 37) .skip
(.exit 0)))
(.seq (.block 1 (.seq (.seq (xr [xm 40 0,
xm 41 8,
xi 42 (.strIndex (.tmp 40) (.tmp 41)),
xc 43 45 [.tmp 42],
xi 44 (.un .not (.tmp 43))])
(.cond (.tmp 44) (.seq (xr [xi 4 (.move xq),
xi 5 (.move xF)])
.ret)
.skip))
(xr [xm 45 6,
xb 46 .mul (xk 10) (.tmp 45),
xm 47 0,
xm 48 8,
xi 49 (.strIndex (.tmp 47) (.tmp 48)),
xb 50 .sub (.tmp 49) (.const (.int .u8 48)),
xi 51 (.conv .i64 (.tmp 50)),
xB 52 .add 46 51,
xm 6 52])))
(xr [xm 38 8,
xb 39 .add (.tmp 38) (xk 1),
xm 8 39]))))))
(.seq (.seq (xr [xm 53 7,
xb 54 .eql (.tmp 53) (xk 1)])
(.cond (.tmp 54) (xr [xm 55 6,
xi 56 (.un .neg (.tmp 55)),
xm 6 56])
.skip))
(.seq (xr [xm 57 6,
xm 58 6,
xc 59 21 [.tmp 58],
xm 60 0,
xB 61 .eql 59 60,
xm 4 57,
xm 5 61])
.ret)))))),
[.tmp 4, .tmp 5], .pure, 62⟩
def ef20 : EFun := ⟨
.skip,
[], .nat natItoa, 0⟩
def ef21 : EFun := ⟨
.seq (xr [xi 2 (.move (.const (.string ⟨#[]⟩)))])
(.seq (.seq (xr [xm 5 0,
xb 6 .eql (.tmp 5) xq])
(.cond (.tmp 6) (.seq (xr [xi 2 (.move (.const (.string ⟨#[48]⟩)))])
.ret)
.skip))
(.seq (xr [xi 3 (.move (.const (.string ⟨#[]⟩)))])
(.seq (.seq (xr [xm 7 0,
xm 4 7])
(.block 0 (.loop (some [0, 3, 4]) (
.seq (.seq (xr [xm 8 4,
xb 9 .neq (.tmp 8) xq])
(.cond (.tmp 9) .skip
(.exit 0)))
(.seq (.block 1 (xr [xm 12 4,
xb 13 .rem (.tmp 12) (xk 10),
xc 14 47 [.tmp 13],
xb 15 .add (xk 48) (.tmp 14),
xi 16 (.conv .u8 (.tmp 15)),
xi 17 (.buildSlice 1 1 [(.int .u8 0)] [(0, 1, (.tmp 16))]),
xi 18 (.strOf (.tmp 17)),
xm 19 3,
xB 20 .add 18 19,
xm 3 20]))
(xr [xm 10 4,
xb 11 .quo (.tmp 10) (xk 10),
xm 4 11]))))))
(.seq (.seq (xr [xm 21 0,
xb 22 .lss (.tmp 21) xq])
(.cond (.tmp 22) (.seq (xr [xm 23 3,
xb 24 .add (.const (.string ⟨#[45]⟩)) (.tmp 23),
xm 2 24])
.ret)
.skip))
(.seq (xr [xm 25 3,
xm 2 25])
.ret))))),
[.tmp 2], .pure, 26⟩
def ef22 : EFun := ⟨
.seq (xr [xv 1 0,
xi 2 (.move xF)])
(.seq (xr [xf 3 1 1,
xl 4 3,
xb 5 .gtr (.tmp 4) xq,
xm 6 5,
yf 7 0 1 6 true,
yl 8 7 6 true,
yf 9 1 1 6 true,
yl 10 9 6 true,
xg 11 (.call 48 [.tmp 8, .tmp 10]) 6 true,
yb 12 .eql (.tmp 11) (xk 1) 6 true,
xi 13 (.pick (.tmp 6) (.tmp 12) xF),
xm 2 13])
.ret),
[.tmp 2], .pure, 14⟩
def ef23 : EFun := ⟨
.seq (xr [xi 6 (.move xF)])
(.seq (xr [xm 7 0,
xm 8 1,
xB 9 .geq 7 8,
xm 10 9,
ym 11 0 10 true,
ym 12 2 10 true,
yb 13 .leq (.tmp 11) (.tmp 12) 10 true,
xi 14 (.pick (.tmp 10) (.tmp 13) xF),
xm 6 14])
.ret),
[.tmp 6], .pure, 15⟩
def ef24 : EFun := ⟨
.seq (xr [xv 1 0,
xi 2 (.move xq)])
(.seq (.seq (xr [xL 5 4 1,
xc 6 28 [.tmp 5],
xi 7 (.move xq)])
(.block 0 (.loop (some [1, 6, 7]) (
.seq (xr [xb 8 .lss (.tmp 7) (xk 3)])
(.seq (.cond (.tmp 8) .skip
(.exit 0))
(.seq (.block 1 (.seq (xr [xi 9 (.index 3 1 false (.tmp 6) (.tmp 7)),
xm 4 9])
(.seq (xr [xm 10 4,
xc 11 25 [.tmp 10, (.const (.int .i64 (-400))), (xk 400)],
xi 12 (.un .not (.tmp 11))])
(.cond (.tmp 12) (.seq (xr [xi 2 (.move (xk 2))])
.ret)
.skip))))
(xr [xb 13 .add (.tmp 7) (xk 1),
xm 7 13])))))))
(.seq (.seq (xr [xf 14 3 1,
xl 15 14,
xc 16 25 [.tmp 15, (xk 1), (xk 12)],
xi 17 (.un .not (.tmp 16))])
(.cond (.tmp 17) (.seq (xr [xi 2 (.move (xk 2))])
.ret)
.skip))
(.seq (xr [xi 2 (.move xq)])
.ret))),
[.tmp 2], .pure, 18⟩
def ef25 : EFun := ⟨
.seq (xr [xi 6 (.move xF)])
(.seq (xr [xm 7 0,
xm 8 1,
xB 9 .geq 7 8,
xm 10 9,
ym 11 0 10 true,
ym 12 2 10 true,
yb 13 .leq (.tmp 11) (.tmp 12) 10 true,
xi 14 (.pick (.tmp 10) (.tmp 13) xF),
xm 6 14])
.ret),
[.tmp 6], .pure, 15⟩
def ef26 : EFun := ⟨
.seq (xr [xv 1 0,
xi 2 (.push [xz, xz, xz, xz])])
(.seq (xR [xf 4 0 1,
xl 5 4,
xf 6 1 1,
xl 7 6,
xC 8 44 [.tmp 5, .tmp 7],
xf 9 2 1,
xl 10 9,
xf 11 3 1,
xl 12 11,
xc 13 44 [.tmp 10, .tmp 12],
xc 14 44 [.tmp 8, .tmp 13],
xm 3 14])
(.seq (xR [xf 15 0 1,
xl 16 15,
xm 17 3,
xB 18 .quo 16 17,
xf 19 1 1,
xl 20 19,
xm 21 3,
xB 22 .quo 20 21,
xf 23 2 1,
xl 24 23,
xm 25 3,
xB 26 .quo 24 25,
xf 27 3 1,
xl 28 27,
xm 29 3,
xB 30 .quo 28 29,
xi 31 (.build [xz, xz, xz, xz] [(0, 1, (.tmp 18)), (1, 1, (.tmp 22)), (2, 1, (.tmp 26)), (3, 1, (.tmp 30))]),
xt 4 2 31])
.ret)),
[.cell 2 true 4], .pure, 32⟩
def ef27 : EFun := ⟨
.seq (xr [xv 1 0,
xi 2 (.push [(.slice none 0 0), (.slice none 0 0)])])
(.seq (xr [xi 6 (.buildSlice 1 1 [(.int .u64 0)] [(0, 1, (.const (.int .u64 1)))]),
xi 7 (.buildSlice 1 1 [(.int .u64 0)] [(0, 1, (.const (.int .u64 1)))]),
xi 8 (.build [(.slice none 0 0), (.slice none 0 0)] [(0, 1, (.tmp 6)), (1, 1, (.tmp 7))]),
xi 3 (.push [(.slice none 0 0), (.slice none 0 0)]),
xt 2 3 8])
(.seq (.seq (xr [xL 9 3 1,
xi 10 (.move xq)])
(.block 0 (.loop (some [2, 3, 9, 10]) (
.seq (xr [xb 11 .lss (.tmp 10) (xk 3)])
(.seq (.cond (.tmp 11) .skip
(.exit 0))
(.seq (.block 1 (.seq (xr [xm 12 10,
xi 13 (.index 3 1 false (.tmp 9) (.tmp 10)),
xm 4 12,
xm 5 13])
(.seq (xR [xm 14 4,
xi 15 (.indexAddr (some 3) 1 (.global 0) (.tmp 14)),
xl 16 15,
xm 17 5,
xi 18 (.max [.tmp 17, xq]),
xf 19 0 3,
xl 20 19,
xc 21 29 [.tmp 16, .tmp 18, .tmp 20],
xf 22 0 3,
xt 1 22 21])
(xR [xm 23 4,
xi 24 (.indexAddr (some 3) 1 (.global 0) (.tmp 23)),
xl 25 24,
xm 26 5,
xi 27 (.un .neg (.tmp 26)),
xi 28 (.max [.tmp 27, xq]),
xf 29 1 3,
xl 30 29,
xc 31 29 [.tmp 25, .tmp 28, .tmp 30],
xf 32 1 3,
xt 1 32 31]))))
(xr [xb 33 .add (.tmp 10) (xk 1),
xm 10 33])))))))
(.seq (xr [xL 34 2 3,
xt 2 2 34])
.ret))),
[.cell 2 true 2], .pure, 35⟩
def ef28 : EFun := ⟨
.seq (xr [xv 1 0,
xi 2 (.push [xz, xz, xz])])
(.seq (xr [xf 3 0 1,
xl 4 3,
xf 5 1 1,
xl 6 5,
xf 7 2 1,
xl 8 7,
xi 9 (.build [xz, xz, xz] [(0, 1, (.tmp 4)), (1, 1, (.tmp 6)), (2, 1, (.tmp 8))]),
xt 3 2 9])
.ret),
[.cell 2 true 3], .pure, 10⟩
def ef29 : EFun := ⟨
.seq (xr [xi 6 (.move (.const (.slice none 0 0)))])
(.seq (.block 0 (.loop (some [0, 1, 2]) (
.seq (.seq (xr [xm 10 1,
xb 11 .gtr (.tmp 10) xq])
(.cond (.tmp 11) .skip
(.exit 0)))
(.block 1 (.seq (xr [xi 7 (.move (.const (.int .u64 1)))])
(.seq (.block 2 (.loop (some [0, 1, 2, 7]) (
.seq (.seq (xr [xm 12 1,
xb 13 .gtr (.tmp 12) xq])
(.cond (.tmp 13) .skip
(.exit 2)))
(.block 3 (.seq (xr [xm 15 7,
xm 16 0,
xc 17 49 [.tmp 15, .tmp 16],
xm 14 17,
xe 18 14 0,
xe 19 14 1,
xm 8 18,
xm 9 19])
(.seq (.seq (xr [xm 20 8,
xb 21 .neq (.tmp 20) (.const (.int .u64 0))])
(.cond (.tmp 21) (.exit 2)
.skip))
(xr [xm 22 9,
xm 23 1,
xb 24 .sub (.tmp 23) (xk 1),
xm 7 22,
xm 1 24])))))))
(xr [xm 25 2,
xm 26 7,
xc 27 50 [.tmp 25, .tmp 26],
xm 2 27])))))))
(.seq (xr [xm 28 2,
xm 6 28])
.ret)),
[.tmp 6], .pure, 29⟩
def ef30 : EFun := ⟨
.seq (xr [xi 4 (.move xq)])
(.seq (xR [xm 5 0,
xi 6 (.conv .u64 (.tmp 5)),
xf 7 3 1,
xl 8 7,
xf 9 1 2,
xl 10 9,
xC 11 29 [.tmp 6, .tmp 8, .tmp 10],
xf 12 0 2,
xl 13 12,
xc 14 31 [.tmp 11, .tmp 13],
xm 4 14])
.ret),
[.tmp 4], .pure, 15⟩
def ef31 : EFun := ⟨
.seq (xr [xi 4 (.move xq)])
(.seq (.seq (xr [xm 6 0,
xn 7 6,
xm 8 1,
xn 9 8,
xB 10 .neq 7 9])
(.cond (.tmp 10) (.seq (.seq (xr [xm 11 0,
xn 12 11,
xm 13 1,
xn 14 13,
xB 15 .lss 12 14])
(.cond (.tmp 15) (.seq (xr [xi 4 (.move (.const (.int .i64 (-1))))])
.ret)
.skip))
(.seq (xr [xi 4 (.move (xk 1))])
.ret))
.skip))
(.seq (.seq (xr [xm 16 0,
xn 17 16,
xb 18 .sub (.tmp 17) (xk 1),
xm 5 18])
(.block 0 (.loop (some [0, 1, 5]) (
.seq (.seq (xr [xm 19 5,
xb 20 .geq (.tmp 19) xq])
(.cond (.tmp 20) .skip
(.exit 0)))
(.seq (.block 1 (.block 2 (.seq (xR [xm 24 0,
xm 25 5,
xa 26 24 25,
xl 27 26,
xm 28 1,
xm 29 5,
xa 30 28 29,
xl 31 30,
xB 32 .lss 27 31,
xm 23 32])
(.cond (.tmp 23) (.seq (xr [xi 4 (.move (.const (.int .i64 (-1))))])
.ret)
(.seq (xR [xm 34 0,
xm 35 5,
xa 36 34 35,
xl 37 36,
xm 38 1,
xm 39 5,
xa 40 38 39,
xl 41 40,
xB 42 .gtr 37 41,
xm 33 42])
(.cond (.tmp 33) (.seq (xr [xi 4 (.move (xk 1))])
.ret)
.skip))))))
(xr [xm 21 5,
xb 22 .sub (.tmp 21) (xk 1),
xm 5 22]))))))
(.seq (xr [xi 4 (.move xq)])
.ret))),
[.tmp 4], .pure, 43⟩
def ef32 : EFun := ⟨
.seq (xr [xv 1 0,
xi 2 (.push [xz, xz]),
xi 3 (.move xq)])
(.seq (.seq (xr [xL 4 2 1,
xc 5 51 [.tmp 4],
xb 6 .neq (.tmp 5) xq])
(.cond (.tmp 6) (.seq (xr [xi 7 (.build [xz, xz] []),
xt 2 2 7,
xi 3 (.move (xk 8))])
.ret)
.skip))
(.seq (xr [xL 8 2 1,
xt 2 2 8,
xi 3 (.move xq)])
.ret)),
[.cell 2 true 2, .tmp 3], .pure, 9⟩
def ef33 : EFun := ⟨
.seq (xr [xi 4 (.move xq)])
(.seq (.block 0 (.seq (xr [xm 8 0,
xc 9 25 [.tmp 8, (xk 1), (xk 60)],
xi 10 (.un .not (.tmp 9)),
xm 7 10])
(.cond (.tmp 7) (.seq (xr [xi 4 (.move (xk 2))])
.ret)
(.seq (xr [xm 12 1,
xn 13 12,
xb 14 .gtr (.tmp 13) (xk 200),
xm 11 14])
(.cond (.tmp 11) (.seq (xr [xi 4 (.move (xk 8))])
.ret)
.skip)))))
(.seq (.seq (xr [xm 15 1,
xn 16 15,
xi 17 (.move xq)])
(.block 1 (.loop (some [0, 15, 16, 17]) (
.seq (xr [xB 18 .lss 17 16])
(.seq (.cond (.tmp 18) .skip
(.exit 1))
(.seq (.block 2 (.seq (xr [xi 19 (.indexAddr none 3 (.tmp 15) (.tmp 17)),
xL 20 3 19,
xi 6 (.push [xz, xz, xz]),
xt 3 6 20])
(.block 3 (.seq (xr [xf 22 0 6,
xl 23 22,
xm 24 0,
xb 25 .sub (.tmp 24) (xk 1),
xc 26 25 [.tmp 23, xq, .tmp 25],
xi 27 (.un .not (.tmp 26)),
xm 28 27,
yf 29 1 6 28 false,
yl 30 29 28 false,
ym 31 0 28 false,
yb 32 .sub (.tmp 31) (xk 1) 28 false,
xg 33 (.call 25 [.tmp 30, xq, .tmp 32]) 28 false,
xg 34 (.un .not (.tmp 33)) 28 false,
xi 35 (.pick (.tmp 28) xT (.tmp 34)),
xm 21 35])
(.cond (.tmp 21) (.seq (xr [xi 4 (.move (xk 6))])
.ret)
(.seq (xr [xf 37 2 6,
xl 38 37,
xc 39 25 [.tmp 38, (.const (.int .i64 (-1000000000))), (xk 1000000000)],
xi 40 (.un .not (.tmp 39)),
xm 36 40])
(.cond (.tmp 36) (.seq (xr [xi 4 (.move (xk 2))])
.ret)
.skip)))))))
(xr [xb 41 .add (.tmp 17) (xk 1),
xm 17 41])))))))
(.seq (xr [xi 4 (.move xq)])
.ret))),
[.tmp 4], .pure, 42⟩
def ef34 : EFun := ⟨
.seq (xr [xi 6 (.move xq)])
(.seq (xr [xi 7 (.move (.const (.int .i64 (-1))))])
(.seq (.seq (xr [xm 11 0,
xn 12 11,
xi 13 (.move xq)])
(.block 0 (.loop (some [1, 2, 7, 11, 12, 13]) (
.seq (xr [xB 14 .lss 13 12])
(.seq (.cond (.tmp 14) .skip
(.exit 0))
(.seq (.block 1 (.seq (xr [xm 15 13,
xi 16 (.indexAddr none 3 (.tmp 11) (.tmp 13)),
xL 17 3 16,
xi 9 (.push [xz, xz, xz]),
xm 8 15,
xt 3 9 17])
(.seq (xR [xm 18 1,
xf 19 0 9,
xl 20 19,
xa 21 18 20,
xl 22 21,
xf 23 2 9,
xl 24 23,
xB 25 .add 22 24,
xm 10 25])
(.seq (xr [xm 26 10,
xm 27 1,
xf 28 1 9,
xl 29 28,
xa 30 27 29,
xl 31 30,
xB 32 .lss 26 31])
(.cond (.tmp 32) (.seq (xR [xm 33 1,
xf 34 1 9,
xl 35 34,
xm 36 2,
xf 37 1 9,
⟨(some 38), .load false 1 (.tmp 37), none, [], true, false⟩,
xm 39 10,
xm 40 8,
xa 41 33 35,
⟨none, .store 1 (.tmp 41) (.tmp 39), none, [5], false, false⟩,
xa 42 36 38,
xt 1 42 40])
(xr [xf 43 1 9,
xl 44 43,
xm 7 44]))
.skip)))))
(xr [xb 45 .add (.tmp 13) (xk 1),
xm 13 45])))))))
(.seq (xr [xm 46 7,
xm 6 46])
.ret))),
[.tmp 6], .trunc, 47⟩
def ef35 : EFun := ⟨
.seq (xr [xm 4 0,
xn 5 4,
xb 6 .sub (.tmp 5) (xk 1),
xi 2 (.move xq),
xm 3 6])
(.block 0 (.loop (some [0, 2, 3]) (
.seq (.seq (xr [xm 7 2,
xm 8 3,
xB 9 .lss 7 8])
(.cond (.tmp 9) .skip
(.exit 0)))
(.seq (.block 1 (xR [xm 14 0,
xm 15 2,
xm 16 0,
xm 17 3,
xm 18 0,
xm 19 3,
xa 20 18 19,
xl 21 20,
xm 22 0,
xm 23 2,
xa 24 22 23,
xl 25 24,
xa 26 14 15,
xt 1 26 21,
xa 27 16 17,
xt 1 27 25]))
(xr [xm 10 2,
xb 11 .add (.tmp 10) (xk 1),
xm 12 3,
xb 13 .sub (.tmp 12) (xk 1),
xm 2 11,
xm 3 13]))))),
[], .trunc, 28⟩
def ef36 : EFun := ⟨
.seq (xr [xi 2 (.move xq)])
(.seq (.seq (xr [xm 5 0,
xn 6 5,
xc 7 25 [.tmp 6, (xk 3), (xk 60)],
xi 8 (.un .not (.tmp 7))])
(.cond (.tmp 8) (.seq (xr [xi 2 (.move (xk 10))])
.ret)
.skip))
(.seq (.seq (xr [xm 9 0,
xn 10 9,
xi 11 (.move xq)])
(.block 0 (.loop (some [0, 9, 10, 11]) (
.seq (xr [xB 12 .lss 11 10])
(.seq (.cond (.tmp 12) .skip
(.exit 0))
(.seq (.block 1 (.seq (xr [xm 13 11,
xi 14 (.indexAddr none 2 (.tmp 9) (.tmp 11)),
xL 15 2 14,
xi 4 (.push [xz, xz]),
xm 3 13,
xt 2 4 15])
(.block 2 (.seq (xr [xf 17 0 4,
xl 18 17,
xc 19 25 [.tmp 18, (.const (.int .i64 (-10000))), (xk 10000)],
xi 20 (.un .not (.tmp 19)),
xm 21 20,
yf 22 1 4 21 false,
yl 23 22 21 false,
xg 24 (.call 25 [.tmp 23, (.const (.int .i64 (-10000))), (xk 10000)]) 21 false,
xg 25 (.un .not (.tmp 24)) 21 false,
xi 26 (.pick (.tmp 21) xT (.tmp 25)),
xm 16 26])
(.cond (.tmp 16) (.seq (xr [xi 2 (.move (xk 2))])
.ret)
(.seq (xR [xm 28 3,
xb 29 .gtr (.tmp 28) xq,
xm 30 29,
yf 31 0 4 30 true,
yl 32 31 30 true,
ym 33 0 30 true,
ym 34 3 30 true,
yb 35 .sub (.tmp 34) (xk 1) 30 true,
xg 36 (.indexAddr none 2 (.tmp 33) (.tmp 35)) 30 true,
yf 37 0 36 30 true,
yl 38 37 30 true,
yb 39 .leq (.tmp 32) (.tmp 38) 30 true,
xi 40 (.pick (.tmp 30) (.tmp 39) xF),
xm 27 40])
(.cond (.tmp 27) (.seq (xr [xi 2 (.move (xk 9))])
.ret)
.skip)))))))
(xr [xb 41 .add (.tmp 11) (xk 1),
xm 11 41])))))))
(.seq (xr [xi 2 (.move xq)])
.ret))),
[.tmp 2], .pure, 42⟩
def ef37 : EFun := ⟨
.seq (xr [xi 8 (.push [xz, xz, xz, xz, xz])])
(.seq (xR [xm 13 0,
xm 14 1,
xi 15 (.indexAddr none 2 (.tmp 13) (.tmp 14)),
xL 16 2 15,
xm 17 0,
xm 18 2,
xi 19 (.indexAddr none 2 (.tmp 17) (.tmp 18)),
⟨(some 20), .load true 2 (.tmp 19), none, [], true, false⟩,
xm 21 0,
xm 22 3,
xi 23 (.indexAddr none 2 (.tmp 21) (.tmp 22)),
⟨(some 24), .load true 2 (.tmp 23), none, [], true, false⟩,
xi 9 (.push [xz, xz]),
xi 10 (.push [xz, xz]),
xi 11 (.push [xz, xz]),
⟨none, .store 2 (.tmp 9) (.tmp 16), none, [7, 11], false, false⟩,
⟨none, .store 2 (.tmp 10) (.tmp 20), none, [11], false, false⟩,
xt 2 11 24])
(.seq (xr [xf 25 0 11,
xl 26 25,
xf 27 0 9,
xl 28 27,
xB 29 .sub 26 28,
xm 12 29])
(.seq (xr [xm 30 1,
xm 31 2,
xm 32 3,
xi 33 (.build [xz, xz, xz] [(0, 1, (.tmp 30)), (1, 1, (.tmp 31)), (2, 1, (.tmp 32))]),
xf 34 1 9,
xl 35 34,
xf 36 1 10,
xl 37 36,
xB 38 .sub 35 37,
xm 39 12,
xB 40 .mul 38 39,
xf 41 1 11,
xl 42 41,
xf 43 1 9,
xl 44 43,
xB 45 .sub 42 44,
xf 46 0 10,
xl 47 46,
xf 48 0 9,
xl 49 48,
xB 50 .sub 47 49,
xB 51 .mul 45 50,
xB 52 .add 40 51,
xm 53 12,
xi 54 (.build [xz, xz, xz, xz, xz] [(0, 3, (.tmp 33)), (3, 1, (.tmp 52)), (4, 1, (.tmp 53))]),
xt 5 8 54])
.ret))),
[.cell 8 true 5], .pure, 55⟩
def ef38 : EFun := ⟨
.seq (xr [xv 2 0,
xv 3 1,
xi 4 (.move xF)])
(.seq (xR [xL 5 5 2,
xC 6 40 [.tmp 5],
xf 7 4 3,
xl 8 7,
xB 9 .mul 6 8,
xL 10 5 3,
xC 11 40 [.tmp 10],
xf 12 4 2,
xl 13 12,
xB 14 .mul 11 13,
xB 15 .lss 9 14,
xm 4 15])
.ret),
[.tmp 4], .pure, 16⟩
def ef39 : EFun := ⟨
.seq (xr [xi 4 (.push [xz, xz])])
(.seq (xr [xm 6 0,
xm 7 1,
xc 8 44 [.tmp 6, .tmp 7],
xm 5 8])
(.seq (xR [xm 9 0,
xm 10 5,
xB 11 .quo 9 10,
xm 12 1,
xm 13 5,
xB 14 .quo 12 13,
xi 15 (.build [xz, xz] [(0, 1, (.tmp 11)), (1, 1, (.tmp 14))]),
xt 2 4 15])
.ret)),
[.cell 4 true 2], .pure, 16⟩
def ef40 : EFun := ⟨
.seq (xr [xv 1 0,
xi 2 (.move xq)])
(.seq (xr [xf 3 3 1,
xl 4 3,
xf 5 3 1,
xl 6 5,
xi 7 (.un .neg (.tmp 6)),
xi 8 (.max [.tmp 4, .tmp 7]),
xm 2 8])
.ret),
[.tmp 2], .pure, 9⟩
def ef41 : EFun := ⟨
.seq (xr [xi 4 (.move (.const (.string ⟨#[]⟩))),
xi 5 (.move (.const (.string ⟨#[]⟩))),
xi 6 (.move xF)])
(.seq (.seq (xr [xm 8 0,
xm 9 1,
xc 10 52 [.tmp 8, .tmp 9],
xm 7 10])
(.seq (xr [xm 11 7,
xb 12 .geq (.tmp 11) xq])
(.cond (.tmp 12) (.seq (xR [xm 13 0,
xm 14 7,
xi 15 (.strSlice (.tmp 13) none (some (.tmp 14))),
xm 16 0,
xm 17 7,
xm 18 1,
xi 19 (.len true (.tmp 18)),
xB 20 .add 17 19,
xi 21 (.strSlice (.tmp 16) (some (.tmp 20)) none),
xm 4 15,
xm 5 21,
xi 6 (.move xT)])
.ret)
.skip)))
(.seq (xr [xm 22 0,
xm 4 22,
xi 5 (.move (.const (.string ⟨#[]⟩))),
xi 6 (.move xF)])
.ret)),
[.tmp 4, .tmp 5, .tmp 6], .pure, 23⟩
def ef42 : EFun := ⟨
.skip,
[], .nat (natAtoi 111 1 2), 0⟩
def ef43 : EFun := ⟨
.seq (xr [xi 4 (.move (.const (.string ⟨#[]⟩)))])
(.seq (xr [xm 5 0,
xm 6 1,
xc 7 55 [.tmp 5, .tmp 6],
xm 4 7])
.ret),
[.tmp 4], .pure, 8⟩
def ef44 : EFun := ⟨
.seq (xr [xi 4 (.move xq)])
(.seq (.block 0 (.loop (some [0, 1]) (
.seq (.seq (xr [xm 5 1,
xb 6 .neq (.tmp 5) xq])
(.cond (.tmp 6) .skip
(.exit 0)))
(.block 1 (xR [xm 7 1,
xm 8 0,
xm 9 1,
xB 10 .rem 8 9,
xm 0 7,
xm 1 10])))))
(.seq (.seq (xr [xm 11 0,
xb 12 .lss (.tmp 11) xq])
(.cond (.tmp 12) (.seq (xr [xm 13 0,
xi 14 (.un .neg (.tmp 13)),
xm 4 14])
.ret)
.skip))
(.seq (xr [xm 15 0,
xm 4 15])
.ret))),
[.tmp 4], .pure, 16⟩
def ef45 : EFun := ⟨
.seq (xr [xi 2 (.move xF)])
(.seq (xr [xm 3 0,
xb 4 .geq (.tmp 3) (.const (.int .u8 48)),
xm 5 4,
ym 6 0 5 true,
yb 7 .leq (.tmp 6) (.const (.int .u8 57)) 5 true,
xi 8 (.pick (.tmp 5) (.tmp 7) xF),
xm 2 8])
.ret),
[.tmp 2], .pure, 9⟩
def ef47 : EFun := ⟨
.seq (xr [xi 2 (.move xq)])
(.seq (.seq (xr [xm 3 0,
xb 4 .lss (.tmp 3) xq])
(.cond (.tmp 4) (.seq (xr [xm 5 0,
xi 6 (.un .neg (.tmp 5)),
xm 2 6])
.ret)
.skip))
(.seq (xr [xm 7 0,
xm 2 7])
.ret)),
[.tmp 2], .pure, 8⟩
def ef48 : EFun := ⟨
.seq (xr [xi 4 (.move xq)])
(.seq (.block 0 (.loop (some [0, 1]) (
.seq (.seq (xr [xm 5 1,
xb 6 .neq (.tmp 5) xq])
(.cond (.tmp 6) .skip
(.exit 0)))
(.block 1 (xR [xm 7 1,
xm 8 0,
xm 9 1,
xB 10 .rem 8 9,
xm 0 7,
xm 1 10])))))
(.seq (xr [xm 11 0,
xc 12 47 [.tmp 11],
xm 4 12])
.ret)),
[.tmp 4], .pure, 13⟩
def ef49 : EFun := ⟨
.seq (xr [xi 4 (.move (.const (.int .u64 0))),
xi 5 (.move (.const (.int .u64 0)))])
(.seq (xr [xm 14 0,
xb 15 .and (.tmp 14) (.const (.int .u64 4294967295)),
xm 6 15])
(.seq (xr [xm 16 0,
xb 17 .shr (.tmp 16) (.const (.int .u64 32)),
xm 7 17])
(.seq (xr [xm 18 1,
xb 19 .and (.tmp 18) (.const (.int .u64 4294967295)),
xm 8 19])
(.seq (xr [xm 20 1,
xb 21 .shr (.tmp 20) (.const (.int .u64 32)),
xm 9 21])
(.seq (xr [xm 22 6,
xm 23 8,
xB 24 .mul 22 23,
xm 10 24])
(.seq (xr [xm 25 7,
xm 26 8,
xB 27 .mul 25 26,
xm 28 10,
xb 29 .shr (.tmp 28) (.const (.int .u64 32)),
xB 30 .add 27 29,
xm 11 30])
(.seq (xr [xm 31 11,
xb 32 .and (.tmp 31) (.const (.int .u64 4294967295)),
xm 12 32])
(.seq (xr [xm 33 11,
xb 34 .shr (.tmp 33) (.const (.int .u64 32)),
xm 13 34])
(.seq (xr [xm 35 12,
xm 36 6,
xm 37 9,
xB 38 .mul 36 37,
xB 39 .add 35 38,
xm 12 39])
(.seq (xr [xm 40 7,
xm 41 9,
xB 42 .mul 40 41,
xm 43 13,
xB 44 .add 42 43,
xm 45 12,
xb 46 .shr (.tmp 45) (.const (.int .u64 32)),
xB 47 .add 44 46,
xm 4 47])
(.seq (xr [xm 48 0,
xm 49 1,
xB 50 .mul 48 49,
xm 5 50])
.ret))))))))))),
[.tmp 4, .tmp 5], .pure, 51⟩
def ef50 : EFun := ⟨
.seq (xr [xi 4 (.move (.const (.slice none 0 0)))])
(.seq (xr [xm 13 0,
xn 14 13,
xb 15 .add (.tmp 14) (xk 1),
xi 16 (.makeSlice 1 8 [(.int .u64 0)] xq (.tmp 15)),
xm 5 16])
(.seq (xr [xi 6 (.move (.const (.int .u64 0)))])
(.seq (.seq (xr [xm 17 0,
xn 18 17,
xi 19 (.move xq)])
(.block 0 (.loop (some [1, 5, 6, 17, 18, 19]) (
.seq (xr [xB 20 .lss 19 18])
(.seq (.cond (.tmp 20) .skip
(.exit 0))
(.seq (.block 1 (.seq (xr [xa 21 17 19,
xl 22 21,
xm 8 22])
(.seq (xr [xm 24 8,
xm 25 1,
xc 26 49 [.tmp 24, .tmp 25],
xm 23 26,
xe 27 23 0,
xe 28 23 1,
xm 9 27,
xm 10 28])
(.seq (xr [xm 30 10,
xm 31 6,
xi 32 (.add64 (.tmp 30) (.tmp 31) (.const (.int .u64 0))),
xm 29 32,
xe 33 29 0,
xe 34 29 1,
xm 11 33,
xm 12 34])
(.seq (xr [xm 35 5,
xm 36 11,
xi 37 (.buildSlice 1 1 [(.int .u64 0)] [(0, 1, (.tmp 36))]),
xi 38 (.append 1 8 (.tmp 35) (.tmp 37)),
xm 5 38])
(xr [xm 39 9,
xm 40 12,
xB 41 .add 39 40,
xm 6 41]))))))
(xr [xb 42 .add (.tmp 19) (xk 1),
xm 19 42])))))))
(.seq (.seq (xr [xm 43 6,
xb 44 .gtr (.tmp 43) (.const (.int .u64 0))])
(.cond (.tmp 44) (xr [xm 45 5,
xm 46 6,
xi 47 (.buildSlice 1 1 [(.int .u64 0)] [(0, 1, (.tmp 46))]),
xi 48 (.append 1 8 (.tmp 45) (.tmp 47)),
xm 5 48])
.skip))
(.seq (xr [xm 49 5,
xm 4 49])
.ret))))),
[.tmp 4], .pure, 50⟩
def ef51 : EFun := ⟨
.seq (xr [xv 1 0,
xi 2 (.move xq)])
(.seq (.block 0 (.seq (xr [xf 4 0 1,
xl 5 4,
xc 6 25 [.tmp 5, (.const (.int .i64 (-1000000000000000))), (xk 1000000000000000)],
xi 7 (.un .not (.tmp 6)),
xm 8 7,
yf 9 1 1 8 false,
yl 10 9 8 false,
xg 11 (.call 25 [.tmp 10, (.const (.int .i64 (-1000000000000000))), (xk 1000000000000000)]) 8 false,
xg 12 (.un .not (.tmp 11)) 8 false,
xi 13 (.pick (.tmp 8) xT (.tmp 12)),
xm 3 13])
(.cond (.tmp 3) (.seq (xr [xi 2 (.move (xk 2))])
.ret)
(.seq (xr [xf 15 0 1,
xl 16 15,
xf 17 1 1,
xl 18 17,
xB 19 .gtr 16 18,
xm 14 19])
(.cond (.tmp 14) (.seq (xr [xi 2 (.move (xk 9))])
.ret)
.skip)))))
(.seq (xr [xi 2 (.move xq)])
.ret)),
[.tmp 2], .pure, 20⟩
def ef52 : EFun := ⟨
.skip,
[], .nat natIndex1, 0⟩
def ef55 : EFun := ⟨
.seq (xr [xi 4 (.move (.const (.string ⟨#[]⟩)))])
(.seq (.seq (xr [xm 5 0,
xm 6 1,
xc 7 67 [.tmp 5, .tmp 6]])
(.cond (.tmp 7) (.seq (xr [xm 8 0,
xm 9 1,
xi 10 (.len true (.tmp 9)),
xi 11 (.strSlice (.tmp 8) (some (.tmp 10)) none),
xm 4 11])
.ret)
.skip))
(.seq (xr [xm 12 0,
xm 4 12])
.ret)),
[.tmp 4], .pure, 13⟩
def ef67 : EFun := ⟨
.seq (xr [xi 4 (.move xF)])
(.seq (xr [xm 5 0,
xi 6 (.len true (.tmp 5)),
xm 7 1,
xi 8 (.len true (.tmp 7)),
xB 9 .geq 6 8,
xm 10 9,
ym 11 0 10 true,
ym 12 1 10 true,
xg 13 (.len true (.tmp 12)) 10 true,
xg 14 (.strSlice (.tmp 11) none (some (.tmp 13))) 10 true,
ym 15 1 10 true,
yb 16 .eql (.tmp 14) (.tmp 15) 10 true,
xi 17 (.pick (.tmp 10) (.tmp 16) xF),
xm 4 17])
.ret),
[.tmp 4], .pure, 18⟩
end Go.Abs.J
