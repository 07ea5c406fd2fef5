--
import Derived.Test.YtmjkdaloalaiiaaGreatDoorAbsM0
set_option linter.unusedSimpArgs false
set_option linter.unusedVariables false
set_option maxRecDepth 100000
set_option maxHeartbeats 0
namespace Go.Abs.M
open Go Go.Abs
def ef4 : EFun := ⟨
.seq (xr [xv 1 0,
xi 2 (.move xF)])
(.seq (.seq (xr [xc 8 5 [],
xi 9 (.un .not (.tmp 8))])
(.cond (.tmp 9) (.seq (xr [xi 2 (.move xF)])
.ret)
.skip))
(.seq (.seq (xr [xL 10 25 1,
xc 11 8 [.tmp 10],
xi 12 (.un .not (.tmp 11))])
(.cond (.tmp 12) (.seq (xr [xi 2 (.move xT)])
.ret)
.skip))
(.seq (xr [xL 14 25 1,
xc 15 9 [.tmp 14],
xm 13 15,
xe 16 13 0,
xe 17 13 1,
xm 3 16,
xm 4 17])
(.seq (xr [xL 18 25 1,
xc 19 10 [.tmp 18],
xm 5 19])
(.seq (.seq (xr [xL 20 25 1,
xc 21 11 [.tmp 20],
xm 22 5,
xB 23 .neq 21 22,
xm 24 23,
ym 25 4 24 false,
ym 26 5 24 false,
yb 27 .neq (.tmp 25) (.tmp 26) 24 false,
xi 28 (.pick (.tmp 24) xT (.tmp 27))])
(.cond (.tmp 28) (.seq (xr [xi 2 (.move xF)])
.ret)
.skip))
(.seq (.seq (xr [xm 29 5,
xb 30 .neq (.tmp 29) xq])
(.cond (.tmp 30) (.seq (xr [xm 31 3,
xb 32 .eql (.tmp 31) (.const (.string ⟨#[]⟩)),
xm 2 32])
.ret)
.skip))
(.seq (xr [xm 34 3,
xc 35 6 [.tmp 34],
xm 33 35,
xe 36 33 0,
xe 37 33 1,
xi 6 (.push [(.string ⟨#[]⟩), xz, xz, xz, xz, xz, xz, xz, xz, xz, xz, xz, xz, xz, xz, xz, xz, xz, xz, xz, xz, xz, xz, xz, xz]),
xt 25 6 36,
xm 7 37])
(.seq (xr [xm 38 3,
xL 39 25 1,
xc 40 12 [.tmp 39],
xB 41 .eql 38 40,
xm 42 41,
ym 43 7 42 true,
yb 44 .eql (.tmp 43) xq 42 true,
xi 45 (.pick (.tmp 42) (.tmp 44) xF),
xm 46 45,
xg 47 (.load true 25 (.tmp 6)) 46 true,
xg 48 (.load true 25 (.tmp 1)) 46 true,
xg 49 (.eqAgg false [.str, (.int .i64), (.int .i64), (.int .i64), (.int .i64), (.int .i64), (.int .i64), (.int .i64), (.int .i64), (.int .i64), (.int .i64), (.int .i64), (.int .i64), (.int .i64), (.int .i64), (.int .i64), (.int .i64), (.int .i64), (.int .i64), (.int .i64), (.int .i64), (.int .i64), (.int .i64), (.int .i64), (.int .i64)] (.tmp 47) (.tmp 48)) 46 true,
xi 50 (.pick (.tmp 46) (.tmp 49) xF),
xm 2 50])
.ret)))))))),
[.tmp 2], .pure, 51⟩
def ef5 : EFun := ⟨
.seq (xr [xi 0 (.move xF)])
(.seq (xr [xc 7 14 [],
xc 8 13 [.tmp 7, (xk 51)],
xm 6 8,
xe 9 6 0,
xe 10 6 1,
xi 1 (.push [xz, xz, xz, xz]),
xt 4 1 9,
xm 2 10])
(.seq (xr [xc 12 14 [],
xi 13 (.build [xz, xz, xz, xz] [(0, 1, (xk 39)), (1, 1, (xk 43)), (2, 1, (xk 5)), (3, 1, (xk 4))]),
xc 14 15 [.tmp 12, (xk 440000), .tmp 13],
xm 11 14,
xe 15 11 0,
xe 16 11 1,
xi 3 (.push [xz, xz]),
xt 2 3 15,
xm 4 16])
(.seq (xr [xc 17 16 [],
xm 5 17])
(.seq (xr [xm 18 2,
xb 19 .eql (.tmp 18) xq,
xm 20 19,
xg 21 (.load true 4 (.tmp 1)) 20 true,
xg 22 (.build [xz, xz, xz, xz] [(0, 1, (xk 1)), (3, 1, (xk 4))]) 20 true,
xg 23 (.eqAgg false [(.int .i64), (.int .i64), (.int .i64), (.int .i64)] (.tmp 21) (.tmp 22)) 20 true,
xi 24 (.pick (.tmp 20) (.tmp 23) xF),
xm 25 24,
ym 26 4 25 true,
yb 27 .eql (.tmp 26) xq 25 true,
xi 28 (.pick (.tmp 25) (.tmp 27) xF),
xm 29 28,
xg 30 (.load true 2 (.tmp 3)) 29 true,
xg 31 (.build [xz, xz] [(0, 1, (xk 10382)), (1, 1, (xk 10384))]) 29 true,
xg 32 (.eqAgg false [(.int .i64), (.int .i64)] (.tmp 30) (.tmp 31)) 29 true,
xi 33 (.pick (.tmp 29) (.tmp 32) xF),
xm 34 33,
ym 35 5 34 true,
xg 36 (.len false (.tmp 35)) 34 true,
yb 37 .eql (.tmp 36) (xk 13) 34 true,
xi 38 (.pick (.tmp 34) (.tmp 37) xF),
xm 39 38,
ym 40 5 39 true,
xg 41 (.indexAddr none 2 (.tmp 40) (xk 12)) 39 true,
xg 42 (.load true 2 (.tmp 41)) 39 true,
xg 43 (.build [xz, xz] [(0, 1, (xk 44)), (1, 1, (xk 32))]) 39 true,
xg 44 (.eqAgg false [(.int .i64), (.int .i64)] (.tmp 42) (.tmp 43)) 39 true,
xi 45 (.pick (.tmp 39) (.tmp 44) xF),
xm 0 45])
.ret)))),
[.tmp 0], .pure, 46⟩
def ef6 : EFun := ⟨
.seq (xr [xi 2 (.push [(.string ⟨#[]⟩), xz, xz, xz, xz, xz, xz, xz, xz, xz, xz, xz, xz, xz, xz, xz, xz, xz, xz, xz, xz, xz, xz, xz, xz]),
xi 3 (.move xq)])
(.seq (.seq (xr [xm 10 0,
xi 11 (.len true (.tmp 10)),
xb 12 .gtr (.tmp 11) (xk 300)])
(.cond (.tmp 12) (.seq (xr [xi 13 (.build [(.string ⟨#[]⟩), xz, xz, xz, xz, xz, xz, xz, xz, xz, xz, xz, xz, xz, xz, xz, xz, xz, xz, xz, xz, xz, xz, xz, xz] []),
xt 25 2 13,
xi 3 (.move (xk 8))])
.ret)
.skip))
(.seq (xr [xm 14 0,
xi 15 (.call 17 [.tmp 14, (.const (.string ⟨#[32]⟩))]),
xm 4 15])
(.seq (.seq (xr [xm 16 4,
xn 17 16,
xb 18 .neq (.tmp 17) (xk 25)])
(.cond (.tmp 18) (.seq (xr [xi 19 (.build [(.string ⟨#[]⟩), xz, xz, xz, xz, xz, xz, xz, xz, xz, xz, xz, xz, xz, xz, xz, xz, xz, xz, xz, xz, xz, xz, xz, xz] []),
xt 25 2 19,
xi 3 (.move (xk 7))])
.ret)
.skip))
(.seq (xr [xm 20 4,
xi 21 (.indexAddr none 1 (.tmp 20) xq),
xl 22 21,
xi 23 (.build [(.string ⟨#[]⟩), xz, xz, xz, xz, xz, xz, xz, xz, xz, xz, xz, xz, xz, xz, xz, xz, xz, xz, xz, xz, xz, xz, xz, xz] [(0, 1, (.tmp 22))]),
xi 5 (.push [(.string ⟨#[]⟩), xz, xz, xz, xz, xz, xz, xz, xz, xz, xz, xz, xz, xz, xz, xz, xz, xz, xz, xz, xz, xz, xz, xz, xz]),
xt 25 5 23])
(.seq (.seq (xr [xi 24 (.move xq)])
(.block 0 (.loop (some [2, 4, 5, 24]) (
.seq (xr [xb 25 .lss (.tmp 24) (xk 12)])
(.seq (.cond (.tmp 25) .skip
(.exit 0))
(.seq (.block 1 (.seq (xr [xm 26 24,
xm 6 26])
(.seq (xr [xi 7 (.move xF),
xi 8 (.move xF)])
(.seq (xr [xm 28 6,
xm 29 4,
xm 30 6,
xb 31 .mul (xk 2) (.tmp 30),
xb 32 .add (xk 1) (.tmp 31),
xa 33 29 32,
xl 34 33,
xc 35 18 [.tmp 34],
xm 27 35,
xe 36 27 0,
xe 37 27 1,
xf 38 1 5,
xi 39 (.indexAddr (some 12) 1 (.tmp 38) (.tmp 28)),
xt 1 39 36,
xm 7 37])
(.seq (xr [xm 41 6,
xm 42 4,
xm 43 6,
xb 44 .mul (xk 2) (.tmp 43),
xb 45 .add (xk 2) (.tmp 44),
xa 46 42 45,
xl 47 46,
xc 48 18 [.tmp 47],
xm 40 48,
xe 49 40 0,
xe 50 40 1,
xf 51 13 5,
xi 52 (.indexAddr (some 12) 1 (.tmp 51) (.tmp 41)),
xt 1 52 49,
xm 8 50])
(.seq (xr [xm 53 7,
xi 54 (.un .not (.tmp 53)),
xm 55 54,
ym 56 8 55 false,
xg 57 (.un .not (.tmp 56)) 55 false,
xi 58 (.pick (.tmp 55) xT (.tmp 57))])
(.cond (.tmp 58) (.seq (xr [xi 59 (.build [(.string ⟨#[]⟩), xz, xz, xz, xz, xz, xz, xz, xz, xz, xz, xz, xz, xz, xz, xz, xz, xz, xz, xz, xz, xz, xz, xz, xz] []),
xt 25 2 59,
xi 3 (.move (xk 7))])
.ret)
.skip)))))))
(xr [xb 60 .add (.tmp 24) (xk 1),
xm 24 60])))))))
(.seq (.seq (xr [xL 61 25 5,
xc 62 11 [.tmp 61],
xm 9 62])
(.seq (xr [xm 63 9,
xb 64 .neq (.tmp 63) xq])
(.cond (.tmp 64) (.seq (xr [xi 65 (.build [(.string ⟨#[]⟩), xz, xz, xz, xz, xz, xz, xz, xz, xz, xz, xz, xz, xz, xz, xz, xz, xz, xz, xz, xz, xz, xz, xz, xz] []),
xm 66 9,
xt 25 2 65,
xm 3 66])
.ret)
.skip)))
(.seq (xr [xL 67 25 5,
xt 25 2 67,
xi 3 (.move xq)])
.ret))))))),
[.cell 2 true 25, .tmp 3], .pure, 68⟩
def ef8 : EFun := ⟨
.seq (xr [xv 1 0,
xi 2 (.move xF)])
(.seq (xr [xf 3 0 1,
xl 4 3,
xi 5 (.len true (.tmp 4)),
xb 6 .leq (.tmp 5) (xk 30),
xm 2 6])
.ret),
[.tmp 2], .pure, 7⟩
def ef9 : EFun := ⟨
.seq (xr [xv 1 0,
xi 2 (.move (.const (.string ⟨#[]⟩))),
xi 3 (.move xq)])
(.seq (.seq (xr [xL 7 25 1,
xc 8 11 [.tmp 7],
xm 4 8])
(.seq (xr [xm 9 4,
xb 10 .neq (.tmp 9) xq])
(.cond (.tmp 10) (.seq (xr [xm 11 4,
xi 2 (.move (.const (.string ⟨#[]⟩))),
xm 3 11])
.ret)
.skip)))
(.seq (xr [xf 12 0 1,
xl 13 12,
xi 14 (.buildSlice 1 1 [(.string ⟨#[]⟩)] [(0, 1, (.tmp 13))]),
xm 5 14])
(.seq (.seq (xr [xi 15 (.move xq)])
(.block 0 (.loop (some [1, 5, 15]) (
.seq (xr [xb 16 .lss (.tmp 15) (xk 12)])
(.seq (.cond (.tmp 16) .skip
(.exit 0))
(.seq (.block 1 (.seq (xr [xm 17 15,
xm 6 17])
(xR [xm 18 5,
xm 19 6,
xf 20 1 1,
xi 21 (.indexAddr (some 12) 1 (.tmp 20) (.tmp 19)),
xl 22 21,
xC 23 21 [.tmp 22],
xm 24 6,
xf 25 13 1,
xi 26 (.indexAddr (some 12) 1 (.tmp 25) (.tmp 24)),
xl 27 26,
xc 28 21 [.tmp 27],
xi 29 (.buildSlice 1 2 [(.string ⟨#[]⟩), (.string ⟨#[]⟩)] [(0, 1, (.tmp 23)), (1, 1, (.tmp 28))]),
xi 30 (.append 1 16 (.tmp 18) (.tmp 29)),
xm 5 30])))
(xr [xb 31 .add (.tmp 15) (xk 1),
xm 15 31])))))))
(.seq (xr [xm 32 5,
xi 33 (.call 22 [.tmp 32, (.const (.string ⟨#[32]⟩))]),
xm 2 33,
xi 3 (.move xq)])
.ret)))),
[.tmp 2, .tmp 3], .pure, 34⟩
def ef10 : EFun := ⟨
.seq (xr [xv 1 0,
xi 2 (.move xq)])
(.seq (.seq (xr [xf 7 0 1,
xl 8 7,
xc 9 23 [.tmp 8],
xi 10 (.un .not (.tmp 9))])
(.cond (.tmp 10) (.seq (xr [xi 2 (.move (xk 4))])
.ret)
.skip))
(.seq (xr [xi 3 (.move xq),
xi 4 (.move xq)])
(.seq (.seq (xr [xi 5 (.move xq)])
(.block 0 (.loop (some [1, 3, 4, 5]) (
.seq (.seq (xr [xm 11 5,
xb 12 .lss (.tmp 11) (xk 12)])
(.cond (.tmp 12) .skip
(.exit 0)))
(.seq (.block 1 (.seq (.seq (xr [xm 15 5,
xf 16 1 1,
xi 17 (.indexAddr (some 12) 1 (.tmp 16) (.tmp 15)),
xl 18 17,
xc 19 24 [.tmp 18, (.const (.int .i64 (-48))), (xk 48)],
xi 20 (.un .not (.tmp 19)),
xm 21 20,
ym 22 5 21 false,
yf 23 13 1 21 false,
xg 24 (.indexAddr (some 12) 1 (.tmp 23) (.tmp 22)) 21 false,
yl 25 24 21 false,
xg 26 (.call 24 [.tmp 25, (.const (.int .i64 (-48))), (xk 48)]) 21 false,
xg 27 (.un .not (.tmp 26)) 21 false,
xi 28 (.pick (.tmp 21) xT (.tmp 27))])
(.cond (.tmp 28) (.seq (xr [xi 2 (.move (xk 2))])
.ret)
.skip))
(xR [xm 29 3,
xm 30 5,
xf 31 1 1,
xi 32 (.indexAddr (some 12) 1 (.tmp 31) (.tmp 30)),
xl 33 32,
xB 34 .add 29 33,
xm 35 4,
xm 36 5,
xf 37 13 1,
xi 38 (.indexAddr (some 12) 1 (.tmp 37) (.tmp 36)),
xl 39 38,
xB 40 .add 35 39,
xm 3 34,
xm 4 40])))
(xr [xm 13 5,
xb 14 .add (.tmp 13) (xk 1),
xm 5 14]))))))
(.seq (.seq (xr [xm 41 3,
xb 42 .neq (.tmp 41) (xk 12),
xm 43 42,
ym 44 4 43 false,
yb 45 .neq (.tmp 44) xq 43 false,
xi 46 (.pick (.tmp 43) xT (.tmp 45))])
(.cond (.tmp 46) (.seq (xr [xi 2 (.move (xk 25))])
.ret)
.skip))
(.seq (xr [xL 47 25 1,
xc 48 25 [.tmp 47],
xi 6 (.push [xz, xz, xz]),
xt 3 6 48])
(.seq (.seq (xr [xi 49 (.indexAddr (some 3) 1 (.tmp 6) xq),
xl 50 49,
xi 51 (.indexAddr (some 3) 1 (.tmp 6) (xk 1)),
xl 52 51,
xi 53 (.indexAddr (some 3) 1 (.tmp 6) (xk 2)),
xl 54 53,
xi 55 (.max [.tmp 50, .tmp 52, .tmp 54]),
xb 56 .gtr (.tmp 55) (xk 300)])
(.cond (.tmp 56) (.seq (xr [xi 2 (.move (xk 8))])
.ret)
.skip))
(.seq (xr [xi 2 (.move xq)])
.ret))))))),
[.tmp 2], .pure, 57⟩
def ef11 : EFun := ⟨
.seq (xr [xv 1 0,
xi 2 (.move xq)])
(.seq (xr [xi 3 (.move (.func 26))])
(.seq (.block 0 (.seq (xr [xf 5 0 1,
xl 6 5,
xc 7 27 [.tmp 6],
xi 8 (.un .not (.tmp 7)),
xm 4 8])
(.cond (.tmp 4) (.seq (xr [xi 2 (.move (xk 4))])
.ret)
(.seq (xr [xf 10 1 1,
xi 11 (.arrSlice 12 1 (.tmp 10) none none),
xm 12 3,
xc 13 28 [.tmp 11, .tmp 12],
xm 14 13,
yf 15 13 1 14 false,
xg 16 (.arrSlice 12 1 (.tmp 15) none none) 14 false,
ym 17 3 14 false,
xg 18 (.call 28 [.tmp 16, .tmp 17]) 14 false,
xi 19 (.pick (.tmp 14) xT (.tmp 18)),
xm 9 19])
(.cond (.tmp 9) (.seq (xr [xi 2 (.move (xk 2))])
.ret)
(.seq (xr [xf 21 1 1,
xi 22 (.arrSlice 12 1 (.tmp 21) none none),
xc 23 29 [.tmp 22],
xb 24 .neq (.tmp 23) (xk 12),
xm 25 24,
yf 26 13 1 25 false,
xg 27 (.arrSlice 12 1 (.tmp 26) none none) 25 false,
xg 28 (.call 29 [.tmp 27]) 25 false,
yb 29 .neq (.tmp 28) xq 25 false,
xi 30 (.pick (.tmp 25) xT (.tmp 29)),
xm 20 30])
(.cond (.tmp 20) (.seq (xr [xi 2 (.move (xk 25))])
.ret)
(.seq (xr [xL 32 25 1,
xc 33 30 [.tmp 32],
xc 34 31 [.tmp 33],
xb 35 .gtr (.tmp 34) (xk 300),
xm 31 35])
(.cond (.tmp 31) (.seq (xr [xi 2 (.move (xk 8))])
.ret)
.skip)))))))))
(.seq (xr [xi 2 (.move xq)])
.ret))),
[.tmp 2], .pure, 36⟩
def ef12 : EFun := ⟨
.seq (xr [xv 1 0,
xi 2 (.move (.const (.string ⟨#[]⟩)))])
(.seq (xr [xf 5 0 1,
xl 6 5,
xm 3 6])
(.seq (.seq (xr [xi 4 (.move xq)])
(.block 0 (.loop (some [1, 3, 4]) (
.seq (.seq (xr [xm 7 4,
xb 8 .lss (.tmp 7) (xk 12)])
(.cond (.tmp 8) .skip
(.exit 0)))
(.seq (.block 1 (xR [xm 11 3,
xb 12 .add (.tmp 11) (.const (.string ⟨#[32]⟩)),
xm 13 4,
xf 14 1 1,
xi 15 (.indexAddr (some 12) 1 (.tmp 14) (.tmp 13)),
xl 16 15,
xC 17 32 [.tmp 16],
xB 18 .add 12 17,
xb 19 .add (.tmp 18) (.const (.string ⟨#[32]⟩)),
xm 20 4,
xf 21 13 1,
xi 22 (.indexAddr (some 12) 1 (.tmp 21) (.tmp 20)),
xl 23 22,
xc 24 32 [.tmp 23],
xB 25 .add 19 24,
xm 3 25]))
(xr [xm 9 4,
xb 10 .add (.tmp 9) (xk 1),
xm 4 10]))))))
(.seq (xr [xm 26 3,
xm 2 26])
.ret))),
[.tmp 2], .pure, 27⟩
def ef13 : EFun := ⟨
.seq (xr [xv 2 0,
xi 4 (.push [xz, xz, xz, xz]),
xi 5 (.move xq)])
(.seq (xr [xL 6 25 2,
xm 7 1,
xc 8 33 [.tmp 6, (xk 48), .tmp 7],
xe 9 8 0,
xe 10 8 1,
xt 4 4 9,
xm 5 10])
.ret),
[.cell 4 true 4, .tmp 5], .pure, 11⟩
def ef14 : EFun := ⟨
.seq (xr [xi 0 (.push [(.string ⟨#[]⟩), xz, xz, xz, xz, xz, xz, xz, xz, xz, xz, xz, xz, xz, xz, xz, xz, xz, xz, xz, xz, xz, xz, xz, xz])])
(.seq (xr [xi 4 (.call 34 [(.const (.string ⟨#[101, 113, 117, 97, 108]⟩))]),
xm 3 4,
xe 5 3 0,
xe 6 3 1,
xi 1 (.push [(.string ⟨#[]⟩), xz, xz, xz, xz, xz, xz, xz, xz, xz, xz, xz, xz, xz, xz, xz, xz, xz, xz, xz, xz, xz, xz, xz, xz]),
xt 25 1 5,
xm 2 6])
(.seq (xr [xL 7 25 1,
xt 25 0 7])
.ret)),
[.cell 0 true 25], .pure, 8⟩
def ef15 : EFun := ⟨
.seq (xr [xv 3 0,
xv 5 2,
xi 6 (.push [xz, xz]),
xi 7 (.move xq)])
(.seq (xR [xL 12 25 3,
xm 13 1,
xC 14 36 [.tmp 13],
xi 15 (.buildSlice 1 1 [(.bool false)] [(0, 1, (.tmp 14))]),
xc 16 35 [.tmp 12, .tmp 15],
xm 11 16,
xe 17 11 0,
xe 18 11 1,
xm 8 17,
xm 9 18])
(.seq (.seq (xr [xm 19 9,
xb 20 .neq (.tmp 19) xq])
(.cond (.tmp 20) (.seq (xr [xi 21 (.build [xz, xz] []),
xm 22 9,
xt 2 6 21,
xm 7 22])
.ret)
.skip))
(.seq (.seq (xr [xL 23 4 5,
xc 24 37 [.tmp 23],
xm 10 24])
(.seq (xr [xm 25 10,
xb 26 .neq (.tmp 25) xq])
(.cond (.tmp 26) (.seq (xr [xi 27 (.build [xz, xz] []),
xm 28 10,
xt 2 6 27,
xm 7 28])
.ret)
.skip)))
(.seq (xr [xm 29 8,
xm 30 1,
xL 31 4 5,
xc 32 38 [.tmp 29, .tmp 30, .tmp 31],
xe 33 32 0,
xe 34 32 1,
xt 2 6 33,
xm 7 34])
.ret)))),
[.cell 6 true 2, .tmp 7], .pure, 35⟩
def ef16 : EFun := ⟨
.seq (xr [xi 0 (.move (.const (.slice none 0 0)))])
(.seq (xr [xi 4 (.build [xz, xz] [(0, 1, (xk 48)), (1, 1, (xk 36))]),
xi 5 (.buildSlice 2 1 [xz, xz] [(0, 2, (.tmp 4))]),
xm 1 5])
(.seq (.seq (xr [xi 2 (.move (xk 36))])
(.block 0 (.loop (some [1, 2]) (
.seq (.seq (xr [xm 6 1,
xn 7 6,
xb 8 .lss (.tmp 7) (xk 12)])
(.cond (.tmp 8) .skip
(.exit 0)))
(.block 1 (.seq (xr [xm 9 2,
xb 10 .add (.tmp 9) (xk 7),
xm 3 10])
(.seq (.seq (xr [xm 11 3,
xb 12 .gtr (.tmp 11) (xk 44)])
(.cond (.tmp 12) (xr [xm 13 2,
xb 14 .sub (.tmp 13) (xk 5),
xm 3 14])
.skip))
(.seq (xr [xm 15 1,
xm 16 2,
xm 17 3,
xi 18 (.build [xz, xz] [(0, 1, (.tmp 16)), (1, 1, (.tmp 17))]),
xi 19 (.buildSlice 2 1 [xz, xz] [(0, 2, (.tmp 18))]),
xi 20 (.append 2 16 (.tmp 15) (.tmp 19)),
xm 1 20])
(xr [xm 21 3,
xm 2 21])))))))))
(.seq (xr [xm 22 1,
xi 23 (.build [xz, xz] [(0, 1, (xk 44)), (1, 1, (xk 32))]),
xi 24 (.buildSlice 2 1 [xz, xz] [(0, 2, (.tmp 23))]),
xi 25 (.append 2 16 (.tmp 22) (.tmp 24)),
xm 0 25])
.ret))),
[.tmp 0], .pure, 26⟩
def ef17 : EFun := ⟨
.seq (xr [xi 4 (.move (.const (.slice none 0 0)))])
(.seq (xr [xm 5 0,
xm 6 1,
xc 7 39 [.tmp 5, .tmp 6, xq, (.const (.int .i64 (-1)))],
xm 4 7])
.ret),
[.tmp 4], .pure, 8⟩
def ef18 : EFun := ⟨
.seq (xr [xi 2 (.move xq),
xi 3 (.move xF)])
(.seq (xr [xm 7 0,
xc 8 40 [.tmp 7],
xm 6 8,
xe 9 6 0,
xe 10 6 1,
xm 4 9,
xm 5 10])
(.seq (xr [xm 11 4,
xm 12 5,
xi 13 (.eqNil false (.tmp 12)),
xm 14 13,
ym 15 4 14 true,
xg 16 (.call 21 [.tmp 15]) 14 true,
ym 17 0 14 true,
yb 18 .eql (.tmp 16) (.tmp 17) 14 true,
xi 19 (.pick (.tmp 14) (.tmp 18) xF),
xm 20 19,
ym 21 4 20 true,
yb 22 .gtr (.tmp 21) (.const (.int .i64 (-1000))) 20 true,
xi 23 (.pick (.tmp 20) (.tmp 22) xF),
xm 24 23,
ym 25 4 24 true,
yb 26 .lss (.tmp 25) (xk 1000) 24 true,
xi 27 (.pick (.tmp 24) (.tmp 26) xF),
xm 2 11,
xm 3 27])
.ret)),
[.tmp 2, .tmp 3], .pure, 28⟩
def ef21 : EFun := ⟨
.skip,
[], .nat natItoa, 0⟩
def ef22 : EFun := ⟨
.skip,
[], .nat natJoin, 0⟩
def ef23 : EFun := ⟨
.seq (xr [xi 2 (.move xF)])
(.seq (.seq (xr [xm 4 0,
xi 5 (.len true (.tmp 4)),
xb 6 .eql (.tmp 5) xq,
xm 7 6,
ym 8 0 7 false,
xg 9 (.len true (.tmp 8)) 7 false,
yb 10 .gtr (.tmp 9) (xk 12) 7 false,
xi 11 (.pick (.tmp 7) xT (.tmp 10)),
xm 12 11,
ym 13 0 12 false,
xg 14 (.strIndex (.tmp 13) xq) 12 false,
xg 15 (.call 46 [.tmp 14]) 12 false,
xg 16 (.un .not (.tmp 15)) 12 false,
xi 17 (.pick (.tmp 12) xT (.tmp 16))])
(.cond (.tmp 17) (.seq (xr [xi 2 (.move xF)])
.ret)
.skip))
(.seq (.seq (xr [xi 3 (.move xq)])
(.block 0 (.loop (some [0, 3]) (
.seq (.seq (xr [xm 18 3,
xm 19 0,
xi 20 (.len true (.tmp 19)),
xB 21 .lss 18 20])
(.cond (.tmp 21) .skip
(.exit 0)))
(.seq (.block 1 (.seq (xr [xm 24 0,
xm 25 3,
xi 26 (.strIndex (.tmp 24) (.tmp 25)),
xc 27 46 [.tmp 26],
xi 28 (.un .not (.tmp 27)),
xm 29 28,
ym 30 0 29 true,
ym 31 3 29 true,
xg 32 (.strIndex (.tmp 30) (.tmp 31)) 29 true,
xg 33 (.call 41 [.tmp 32]) 29 true,
xg 34 (.un .not (.tmp 33)) 29 true,
xi 35 (.pick (.tmp 29) (.tmp 34) xF),
xm 36 35,
ym 37 0 36 true,
ym 38 3 36 true,
xg 39 (.strIndex (.tmp 37) (.tmp 38)) 36 true,
yb 40 .neq (.tmp 39) (.const (.int .u8 45)) 36 true,
xi 41 (.pick (.tmp 36) (.tmp 40) xF)])
(.cond (.tmp 41) (.seq (xr [xi 2 (.move xF)])
.ret)
.skip)))
(xr [xm 22 3,
xb 23 .add (.tmp 22) (xk 1),
xm 3 23]))))))
(.seq (xr [xi 2 (.move xT)])
.ret))),
[.tmp 2], .pure, 42⟩
def ef24 : EFun := ⟨
.seq (xr [xi 6 (.move xF)])
(.seq (xr [xm 7 0,
xm 8 1,
xB 9 .geq 7 8,
xm 10 9,
ym 11 0 10 true,
ym 12 2 10 true,
yb 13 .leq (.tmp 11) (.tmp 12) 10 true,
xi 14 (.pick (.tmp 10) (.tmp 13) xF),
xm 6 14])
.ret),
[.tmp 6], .pure, 15⟩
def ef25 : EFun := ⟨
.seq (xr [xv 1 0,
xi 2 (.push [xz, xz, xz])])
(.seq (xR [xL 8 25 1,
xC 9 47 [.tmp 8, xq],
xL 10 25 1,
xC 11 47 [.tmp 10, xq],
xi 3 (.push [xz, xz, xz]),
xi 4 (.push [xz, xz, xz]),
xt 3 3 9,
xt 3 4 11])
(.seq (.seq (xr [xi 5 (.move (xk 1))])
(.block 0 (.loop (some [1, 2, 3, 4, 5]) (
.seq (.seq (xr [xm 12 5,
xb 13 .lss (.tmp 12) (xk 12)])
(.cond (.tmp 13) .skip
(.exit 0)))
(.seq (.block 1 (.seq (xr [xL 16 25 1,
xm 17 5,
xc 18 47 [.tmp 16, .tmp 17],
xi 6 (.push [xz, xz, xz]),
xt 3 6 18])
(.seq (xr [xi 7 (.move xq)])
(.block 2 (.loop (some [1, 2, 3, 4, 5, 6, 7]) (
.seq (.seq (xr [xm 19 7,
xb 20 .lss (.tmp 19) (xk 3)])
(.cond (.tmp 20) .skip
(.exit 2)))
(.seq (.block 3 (xR [xm 23 7,
xm 24 7,
xm 25 7,
xi 26 (.indexAddr (some 3) 1 (.tmp 3) (.tmp 25)),
xl 27 26,
xm 28 7,
xi 29 (.indexAddr (some 3) 1 (.tmp 6) (.tmp 28)),
xl 30 29,
xi 31 (.min [.tmp 27, .tmp 30]),
xm 32 7,
xi 33 (.indexAddr (some 3) 1 (.tmp 4) (.tmp 32)),
⟨(some 34), .load false 1 (.tmp 33), none, [], true, false⟩,
xm 35 7,
xi 36 (.indexAddr (some 3) 1 (.tmp 6) (.tmp 35)),
⟨(some 37), .load false 1 (.tmp 36), none, [], true, false⟩,
xi 38 (.max [.tmp 34, .tmp 37]),
xi 39 (.indexAddr (some 3) 1 (.tmp 3) (.tmp 23)),
⟨none, .store 1 (.tmp 39) (.tmp 31), none, [11, 14], false, false⟩,
xi 40 (.indexAddr (some 3) 1 (.tmp 4) (.tmp 24)),
xt 1 40 38]))
(xr [xm 21 7,
xb 22 .add (.tmp 21) (xk 1),
xm 7 22]))))))))
(xr [xm 14 5,
xb 15 .add (.tmp 14) (xk 1),
xm 5 15]))))))
(.seq (xr [xi 41 (.indexAddr (some 3) 1 (.tmp 4) xq),
xl 42 41,
xi 43 (.indexAddr (some 3) 1 (.tmp 3) xq),
xl 44 43,
xB 45 .sub 42 44,
xi 46 (.indexAddr (some 3) 1 (.tmp 4) (xk 1)),
xl 47 46,
xi 48 (.indexAddr (some 3) 1 (.tmp 3) (xk 1)),
xl 49 48,
xB 50 .sub 47 49,
xi 51 (.indexAddr (some 3) 1 (.tmp 4) (xk 2)),
xl 52 51,
xi 53 (.indexAddr (some 3) 1 (.tmp 3) (xk 2)),
xl 54 53,
xB 55 .sub 52 54,
xi 56 (.build [xz, xz, xz] [(0, 1, (.tmp 45)), (1, 1, (.tmp 50)), (2, 1, (.tmp 55))]),
xt 3 2 56])
.ret))),
[.cell 2 true 3], .pure, 57⟩
def ef26 : EFun := ⟨
.seq (xr [xi 2 (.move xF)])
(.seq (xr [xm 3 0,
xb 4 .lss (.tmp 3) (.const (.int .i64 (-48))),
xm 5 4,
ym 6 0 5 false,
yb 7 .gtr (.tmp 6) (xk 48) 5 false,
xi 8 (.pick (.tmp 5) xT (.tmp 7)),
xm 2 8])
.ret),
[.tmp 2], .pure, 9⟩
def ef27 : EFun := ⟨
.seq (xr [xi 2 (.move xF)])
(.seq (.seq (xr [xm 6 0,
xi 7 (.bytesOf (.tmp 6)),
xn 8 7,
xi 9 (.move xq)])
(.block 0 (.loop (some [0, 7, 8, 9]) (
.seq (xr [xB 10 .lss 9 8])
(.seq (.cond (.tmp 10) .skip
(.exit 0))
(.seq (.block 1 (.seq (xr [xm 11 9,
xa 12 7 9,
xl 13 12,
xm 3 11,
xm 4 13])
(.seq (xr [xm 14 4,
xb 15 .geq (.tmp 14) (.const (.int .u8 97)),
xm 16 15,
ym 17 4 16 true,
yb 18 .leq (.tmp 17) (.const (.int .u8 122)) 16 true,
xi 19 (.pick (.tmp 16) (.tmp 18) xF),
xm 20 19,
ym 21 4 20 false,
yb 22 .geq (.tmp 21) (.const (.int .u8 65)) 20 false,
ym 23 22 20 false,
ym 24 4 23 true,
yb 25 .leq (.tmp 24) (.const (.int .u8 90)) 23 true,
xg 26 (.pick (.tmp 23) (.tmp 25) xF) 20 false,
xi 27 (.pick (.tmp 20) xT (.tmp 26)),
xm 5 27])
(.seq (xr [xm 28 5,
xi 29 (.un .not (.tmp 28)),
xm 30 29,
ym 31 3 30 true,
yb 32 .eql (.tmp 31) xq 30 true,
ym 33 32 30 true,
ym 34 4 33 false,
yb 35 .neq (.tmp 34) (.const (.int .u8 45)) 33 false,
ym 36 35 33 false,
ym 37 4 36 true,
yb 38 .lss (.tmp 37) (.const (.int .u8 48)) 36 true,
ym 39 38 36 true,
ym 40 4 39 false,
yb 41 .gtr (.tmp 40) (.const (.int .u8 57)) 39 false,
xg 42 (.pick (.tmp 39) xT (.tmp 41)) 36 true,
xg 43 (.pick (.tmp 36) (.tmp 42) xF) 33 false,
xg 44 (.pick (.tmp 33) xT (.tmp 43)) 30 true,
xi 45 (.pick (.tmp 30) (.tmp 44) xF)])
(.cond (.tmp 45) (.seq (xr [xi 2 (.move xF)])
.ret)
.skip)))))
(xr [xb 46 .add (.tmp 9) (xk 1),
xm 9 46])))))))
(.seq (xr [xm 47 0,
xb 48 .neq (.tmp 47) (.const (.string ⟨#[]⟩)),
xm 49 48,
ym 50 0 49 true,
xg 51 (.len true (.tmp 50)) 49 true,
yb 52 .leq (.tmp 51) (xk 12) 49 true,
xi 53 (.pick (.tmp 49) (.tmp 52) xF),
xm 2 53])
.ret)),
[.tmp 2], .pure, 54⟩
def ef28 : EFun := ⟨
.seq (xr [xi 4 (.move xF)])
(.seq (xr [xm 5 0,
xm 6 1,
xc 7 48 [.tmp 5, .tmp 6],
xb 8 .geq (.tmp 7) xq,
xm 4 8])
.ret),
[.tmp 4], .pure, 9⟩
def ef29 : EFun := ⟨
.seq (xr [xi 2 (.move xq)])
(.seq (xr [xi 3 (.move xq)])
(.seq (.seq (xr [xm 6 0,
xn 7 6,
xi 8 (.move xq)])
(.block 0 (.loop (some [3, 6, 7, 8]) (
.seq (xr [xB 9 .lss 8 7])
(.seq (.cond (.tmp 9) .skip
(.exit 0))
(.seq (.block 1 (.seq (xr [xa 10 6 8,
xl 11 10,
xm 5 11])
(xr [xm 12 3,
xm 13 5,
xB 14 .add 12 13,
xm 3 14])))
(xr [xb 15 .add (.tmp 8) (xk 1),
xm 8 15])))))))
(.seq (xr [xm 16 3,
xm 2 16])
.ret))),
[.tmp 2], .pure, 17⟩
def ef30 : EFun := ⟨
.seq (xr [xv 1 0,
xi 2 (.move (.const (.pointer none)))])
(.seq (xr [xi 3 (.push (List.replicate 72 xz))])
(.seq (xr [xi 4 (.push [xz, xz, xz])])
(.seq (.seq (xr [xi 8 (.move xq)])
(.block 0 (.loop (some [1, 3, 4, 8]) (
.seq (xr [xb 9 .lss (.tmp 8) (xk 12)])
(.seq (.cond (.tmp 9) .skip
(.exit 0))
(.seq (.block 1 (.seq (xr [xm 10 8,
xm 5 10])
(.seq (xR [xm 11 5,
xf 12 1 1,
xi 13 (.indexAddr (some 12) 1 (.tmp 12) (.tmp 11)),
xl 14 13,
xm 15 5,
xf 16 13 1,
xi 17 (.indexAddr (some 12) 1 (.tmp 16) (.tmp 15)),
xl 18 17,
xm 6 14,
xm 7 18])
(.seq (xr [xm 19 5,
xm 20 6,
xb 21 .mul (xk 19) (.tmp 20),
xb 22 .add (.const (.int .i64 (-12))) (.tmp 21),
xm 23 7,
xb 24 .mul (xk 4) (.tmp 23),
xB 25 .add 22 24,
xm 26 6,
xb 27 .mul (xk 12) (.tmp 26),
xb 28 .sub (xk 12) (.tmp 27),
xm 29 7,
xb 30 .mul (xk 4) (.tmp 29),
xB 31 .sub 28 30,
xm 32 7,
xi 33 (.build [xz, xz, xz] [(0, 1, (.tmp 25)), (1, 1, (.tmp 31)), (2, 1, (.tmp 32))]),
xf 34 0 3,
xi 35 (.indexAddr (some 12) 3 (.tmp 34) (.tmp 19)),
xt 3 35 33])
(.seq (xR [xm 36 5,
xb 37 .mul (xk 7) (.tmp 36),
xb 38 .rem (.tmp 37) (xk 12),
xL 39 3 4,
xC 40 50 [],
xm 41 5,
xb 42 .mul (xk 7) (.tmp 41),
xb 43 .quo (.tmp 42) (xk 12),
xi 44 (.un .neg (.tmp 43)),
xc 45 49 [.tmp 39, .tmp 40, .tmp 44],
xf 46 36 3,
xi 47 (.indexAddr (some 12) 3 (.tmp 46) (.tmp 38)),
xt 3 47 45])
(xR [xL 48 3 4,
xm 49 5,
xf 50 0 3,
xi 51 (.indexAddr (some 12) 3 (.tmp 50) (.tmp 49)),
xL 52 3 51,
xc 53 49 [.tmp 48, .tmp 52, (xk 1)],
xt 3 4 53]))))))
(xr [xb 54 .add (.tmp 8) (xk 1),
xm 8 54])))))))
(.seq (xr [xm 2 3])
.ret)))),
[.tmp 2], .pure, 55⟩
def ef31 : EFun := ⟨
.seq (xr [xi 2 (.move xq)])
(.seq (xr [xi 3 (.move xq)])
(.seq (.seq (xr [xi 9 (.move xq)])
(.block 0 (.loop (some [0, 3, 9]) (
.seq (xr [xb 10 .lss (.tmp 9) (xk 3)])
(.seq (.cond (.tmp 10) .skip
(.exit 0))
(.seq (.block 1 (.seq (xr [xm 11 9,
xm 4 11])
(.seq (xR [xm 12 0,
xm 13 4,
xi 14 (.nilCheck (.tmp 12)),
xf 15 36 14,
xi 16 (.indexAddr (some 12) 3 (.tmp 15) xq),
xi 17 (.indexAddr (some 3) 1 (.tmp 16) (.tmp 13)),
xl 18 17,
xm 19 0,
xm 20 4,
xi 21 (.nilCheck (.tmp 19)),
xf 22 36 21,
xi 23 (.indexAddr (some 12) 3 (.tmp 22) xq),
xi 24 (.indexAddr (some 3) 1 (.tmp 23) (.tmp 20)),
xl 25 24,
xm 5 18,
xm 6 25])
(.seq (.seq (xr [xm 26 0,
xi 27 (.nilCheck (.tmp 26)),
xf 28 36 27,
xL 29 36 28,
xi 30 (.move xq)])
(.block 2 (.loop (some [0, 3, 4, 5, 6, 9, 29, 30]) (
.seq (xr [xb 31 .lss (.tmp 30) (xk 12)])
(.seq (.cond (.tmp 31) .skip
(.exit 2))
(.seq (.block 3 (.seq (xr [xi 32 (.index 12 3 true (.tmp 29) (.tmp 30)),
xi 8 (.push [xz, xz, xz]),
xt 3 8 32])
(xR [xm 33 5,
xm 34 4,
xi 35 (.indexAddr (some 3) 1 (.tmp 8) (.tmp 34)),
xl 36 35,
xi 37 (.min [.tmp 33, .tmp 36]),
xm 38 6,
xm 39 4,
xi 40 (.indexAddr (some 3) 1 (.tmp 8) (.tmp 39)),
xl 41 40,
xi 42 (.max [.tmp 38, .tmp 41]),
xm 5 37,
xm 6 42])))
(xr [xb 43 .add (.tmp 30) (xk 1),
xm 30 43])))))))
(xr [xm 44 3,
xm 45 6,
xm 46 5,
xB 47 .sub 45 46,
xi 48 (.max [.tmp 44, .tmp 47]),
xm 3 48])))))
(xr [xb 49 .add (.tmp 9) (xk 1),
xm 9 49])))))))
(.seq (xr [xm 50 3,
xm 2 50])
.ret))),
[.tmp 2], .pure, 51⟩
def ef32 : EFun := ⟨
.seq (xr [xi 2 (.move (.const (.string ⟨#[]⟩)))])
(.seq (.seq (xr [xm 5 0,
xb 6 .eql (.tmp 5) xq])
(.cond (.tmp 6) (.seq (xr [xi 2 (.move (.const (.string ⟨#[48]⟩)))])
.ret)
.skip))
(.seq (xr [xi 3 (.move (.const (.string ⟨#[]⟩)))])
(.seq (.seq (xr [xm 7 0,
xm 4 7])
(.block 0 (.loop (some [0, 3, 4]) (
.seq (.seq (xr [xm 8 4,
xb 9 .neq (.tmp 8) xq])
(.cond (.tmp 9) .skip
(.exit 0)))
(.seq (.block 1 (xr [xm 12 4,
xb 13 .rem (.tmp 12) (xk 10),
xc 14 51 [.tmp 13],
xb 15 .add (xk 48) (.tmp 14),
xi 16 (.conv .u8 (.tmp 15)),
xi 17 (.buildSlice 1 1 [(.int .u8 0)] [(0, 1, (.tmp 16))]),
xi 18 (.strOf (.tmp 17)),
xm 19 3,
xB 20 .add 18 19,
xm 3 20]))
(xr [xm 10 4,
xb 11 .quo (.tmp 10) (xk 10),
xm 4 11]))))))
(.seq (.seq (xr [xm 21 0,
xb 22 .lss (.tmp 21) xq])
(.cond (.tmp 22) (.seq (xr [xm 23 3,
xb 24 .add (.const (.string ⟨#[45]⟩)) (.tmp 23),
xm 2 24])
.ret)
.skip))
(.seq (xr [xm 25 3,
xm 2 25])
.ret))))),
[.tmp 2], .pure, 26⟩
def ef33 : EFun := ⟨
.seq (xr [xv 3 0,
xi 6 (.push [xz, xz, xz, xz]),
xi 7 (.move xq)])
(.seq (xR [xL 11 25 3,
xm 12 1,
xC 13 52 [.tmp 12],
xm 14 2,
xC 15 52 [.tmp 14],
xi 16 (.buildSlice 1 2 [(.bool false), (.bool false)] [(0, 1, (.tmp 13)), (1, 1, (.tmp 15))]),
xc 17 35 [.tmp 11, .tmp 16],
xm 10 17,
xe 18 10 0,
xe 19 10 1,
xm 8 18,
xm 9 19])
(.seq (.seq (xr [xm 20 9,
xb 21 .neq (.tmp 20) xq])
(.cond (.tmp 21) (.seq (xr [xi 22 (.build [xz, xz, xz, xz] []),
xm 23 9,
xt 4 6 22,
xm 7 23])
.ret)
.skip))
(.seq (xr [xm 24 8,
xm 25 1,
xm 26 2,
xc 27 53 [.tmp 24, .tmp 25, .tmp 26],
xc 28 54 [.tmp 27],
xt 4 6 28,
xi 7 (.move xq)])
.ret))),
[.cell 6 true 4, .tmp 7], .pure, 29⟩
def ef34 : EFun := ⟨
.seq (xr [xi 2 (.push [(.string ⟨#[]⟩), xz, xz, xz, xz, xz, xz, xz, xz, xz, xz, xz, xz, xz, xz, xz, xz, xz, xz, xz, xz, xz, xz, xz, xz]),
xi 3 (.move xF)])
(.seq (xr [xm 8 0,
xi 9 (.build [(.string ⟨#[]⟩), xz, xz, xz, xz, xz, xz, xz, xz, xz, xz, xz, xz, xz, xz, xz, xz, xz, xz, xz, xz, xz, xz, xz, xz] [(0, 1, (.tmp 8))]),
xi 4 (.push [(.string ⟨#[]⟩), xz, xz, xz, xz, xz, xz, xz, xz, xz, xz, xz, xz, xz, xz, xz, xz, xz, xz, xz, xz, xz, xz, xz, xz]),
xt 25 4 9])
(.seq (.seq (xr [xm 10 0])
(.block 0 (.seq (xr [xb 13 .eql (.tmp 10) (.const (.string ⟨#[101, 113, 117, 97, 108]⟩)),
xm 12 13])
(.cond (.tmp 12) (.seq (xr [xi 5 (.move xq)])
(.block 1 (.loop (some [2, 4, 5]) (
.seq (.seq (xr [xm 14 5,
xb 15 .lss (.tmp 14) (xk 12)])
(.cond (.tmp 15) .skip
(.exit 1)))
(.seq (.block 2 (xr [xm 18 5,
xf 19 1 4,
xi 20 (.indexAddr (some 12) 1 (.tmp 19) (.tmp 18)),
⟨none, .store 1 (.tmp 20) (xk 1), none, [], false, false⟩]))
(xr [xm 16 5,
xb 17 .add (.tmp 16) (xk 1),
xm 5 17]))))))
(.seq (xr [xb 22 .eql (.tmp 10) (.const (.string ⟨#[112, 121, 116, 104, 97, 103, 111, 114, 97, 115]⟩)),
xm 21 22])
(.cond (.tmp 21) (xr [xf 23 1 4,
xi 24 (.indexAddr (some 12) 1 (.tmp 23) (xk 8)),
⟨none, .store 1 (.tmp 24) (xk 12), none, [], false, false⟩])
(.seq (xr [xb 26 .eql (.tmp 10) (.const (.string ⟨#[109, 101, 97, 110, 116, 111, 110, 101]⟩)),
xm 25 26])
(.cond (.tmp 25) (.seq (.seq (xr [xi 6 (.move xq)])
(.block 3 (.loop (some [2, 4, 6]) (
.seq (.seq (xr [xm 27 6,
xb 28 .lss (.tmp 27) (xk 12)])
(.cond (.tmp 28) .skip
(.exit 3)))
(.seq (.block 4 (xr [xm 31 6,
xf 32 13 4,
xi 33 (.indexAddr (some 12) 1 (.tmp 32) (.tmp 31)),
⟨none, .store 1 (.tmp 33) (xk 3), none, [], false, false⟩]))
(xr [xm 29 6,
xb 30 .add (.tmp 29) (xk 1),
xm 6 30]))))))
(xr [xf 34 1 4,
xi 35 (.indexAddr (some 12) 1 (.tmp 34) (xk 8)),
⟨none, .store 1 (.tmp 35) (xk 12), none, [], false, false⟩,
xf 36 13 4,
xi 37 (.indexAddr (some 12) 1 (.tmp 36) (xk 8)),
⟨none, .store 1 (.tmp 37) (.const (.int .i64 (-33))), none, [], false, false⟩]))
(.seq (xr [xb 39 .eql (.tmp 10) (.const (.string ⟨#[119, 101, 114, 99, 107, 109, 101, 105, 115, 116, 101, 114]⟩)),
xm 38 39])
(.cond (.tmp 38) (xr [xf 40 1 4,
xi 41 (.indexAddr (some 12) 1 (.tmp 40) xq),
⟨none, .store 1 (.tmp 41) (xk 3), none, [], false, false⟩,
xf 42 1 4,
xi 43 (.indexAddr (some 12) 1 (.tmp 42) (xk 1)),
⟨none, .store 1 (.tmp 43) (xk 3), none, [], false, false⟩,
xf 44 1 4,
xi 45 (.indexAddr (some 12) 1 (.tmp 44) (xk 2)),
⟨none, .store 1 (.tmp 45) (xk 3), none, [], false, false⟩,
xf 46 1 4,
xi 47 (.indexAddr (some 12) 1 (.tmp 46) (xk 5)),
⟨none, .store 1 (.tmp 47) (xk 3), none, [], false, false⟩])
(.seq (xr [xb 49 .eql (.tmp 10) (.const (.string ⟨#[107, 105, 114, 110, 98, 101, 114, 103, 101, 114]⟩)),
xm 48 49])
(.cond (.tmp 48) (.seq (xr [xf 50 13 4,
xi 51 (.indexAddr (some 12) 1 (.tmp 50) xq),
⟨none, .store 1 (.tmp 51) (xk 3), none, [], false, false⟩,
xf 52 13 4,
xi 53 (.indexAddr (some 12) 1 (.tmp 52) (xk 1)),
⟨none, .store 1 (.tmp 53) (xk 3), none, [], false, false⟩,
xf 54 13 4,
xi 55 (.indexAddr (some 12) 1 (.tmp 54) (xk 2)),
⟨none, .store 1 (.tmp 55) (xk 3), none, [], false, false⟩,
xf 56 13 4,
xi 57 (.indexAddr (some 12) 1 (.tmp 56) (xk 3)),
⟨none, .store 1 (.tmp 57) (xk 3), none, [], false, false⟩])
(xr [xf 58 1 4,
xi 59 (.indexAddr (some 12) 1 (.tmp 58) (xk 6)),
⟨none, .store 1 (.tmp 59) (xk 12), none, [], false, false⟩,
xf 60 13 4,
xi 61 (.indexAddr (some 12) 1 (.tmp 60) (xk 6)),
⟨none, .store 1 (.tmp 61) (.const (.int .i64 (-12))), none, [], false, false⟩]))
(.seq (xr [xb 63 .eql (.tmp 10) (.const (.string ⟨#[118, 97, 108, 108, 111, 116, 116, 105]⟩)),
xm 62 63])
(.cond (.tmp 62) (xr [xf 64 1 4,
xi 65 (.indexAddr (some 12) 1 (.tmp 64) (xk 11)),
⟨none, .store 1 (.tmp 65) (xk 2), none, [], false, false⟩,
xf 66 1 4,
xi 67 (.indexAddr (some 12) 1 (.tmp 66) xq),
⟨none, .store 1 (.tmp 67) (xk 2), none, [], false, false⟩,
xf 68 1 4,
xi 69 (.indexAddr (some 12) 1 (.tmp 68) (xk 1)),
⟨none, .store 1 (.tmp 69) (xk 2), none, [], false, false⟩,
xf 70 1 4,
xi 71 (.indexAddr (some 12) 1 (.tmp 70) (xk 2)),
⟨none, .store 1 (.tmp 71) (xk 2), none, [], false, false⟩,
xf 72 1 4,
xi 73 (.indexAddr (some 12) 1 (.tmp 72) (xk 3)),
⟨none, .store 1 (.tmp 73) (xk 2), none, [], false, false⟩,
xf 74 1 4,
xi 75 (.indexAddr (some 12) 1 (.tmp 74) (xk 4)),
⟨none, .store 1 (.tmp 75) (xk 2), none, [], false, false⟩])
(.seq (xr [xb 77 .eql (.tmp 10) (.const (.string ⟨#[121, 111, 117, 110, 103]⟩)),
xm 76 77])
(.cond (.tmp 76) (.seq (xr [xi 7 (.move xq)])
(.block 5 (.loop (some [2, 4, 7]) (
.seq (.seq (xr [xm 78 7,
xb 79 .lss (.tmp 78) (xk 6)])
(.cond (.tmp 79) .skip
(.exit 5)))
(.seq (.block 6 (xr [xm 82 7,
xf 83 1 4,
xi 84 (.indexAddr (some 12) 1 (.tmp 83) (.tmp 82)),
⟨none, .store 1 (.tmp 84) (xk 2), none, [], false, false⟩]))
(xr [xm 80 7,
xb 81 .add (.tmp 80) (xk 1),
xm 7 81]))))))
(.seq (xr [xi 11 (.build [(.string ⟨#[]⟩), xz, xz, xz, xz, xz, xz, xz, xz, xz, xz, xz, xz, xz, xz, xz, xz, xz, xz, xz, xz, xz, xz, xz, xz] []),
xt 25 2 11,
xi 3 (.move xF)])
.ret)))))))))))))))))
(.seq (xr [xL 85 25 4,
xt 25 2 85,
xi 3 (.move xT)])
.ret))),
[.cell 2 true 25, .tmp 3], .pure, 86⟩
def ef35 : EFun := ⟨
.seq (xr [xv 2 0,
xi 4 (.move (.const (.pointer none))),
xi 5 (.move xq)])
(.seq (.seq (xr [xL 7 25 2,
xc 8 11 [.tmp 7],
xm 6 8])
(.seq (xr [xm 9 6,
xb 10 .neq (.tmp 9) xq])
(.cond (.tmp 10) (.seq (xr [xm 11 6,
xi 4 (.move (.const (.pointer none))),
xm 5 11])
.ret)
.skip)))
(.seq (.seq (xr [xm 12 1,
xc 13 55 [.tmp 12, xF]])
(.cond (.tmp 13) (.seq (xr [xi 4 (.move (.const (.pointer none))),
xi 5 (.move (xk 2))])
.ret)
.skip))
(.seq (xr [xL 14 25 2,
xc 15 30 [.tmp 14],
xm 4 15,
xi 5 (.move xq)])
.ret))),
[.tmp 4, .tmp 5], .pure, 16⟩
def ef36 : EFun := ⟨
.seq (xr [xi 2 (.move xF)])
(.seq (xr [xm 3 0,
xb 4 .geq (.tmp 3) (xk 1),
xm 5 4,
ym 6 0 5 true,
yb 7 .leq (.tmp 6) (xk 1000000) 5 true,
xi 8 (.pick (.tmp 5) (.tmp 7) xF),
xm 2 8])
.ret),
[.tmp 2], .pure, 9⟩
def ef37 : EFun := ⟨
.seq (xr [xv 1 0,
xi 2 (.move xq)])
(.seq (.seq (xr [xf 7 0 1,
xl 8 7,
xc 9 52 [.tmp 8],
xi 10 (.un .not (.tmp 9)),
xm 11 10,
yf 12 1 1 11 false,
yl 13 12 11 false,
xg 14 (.call 52 [.tmp 13]) 11 false,
xg 15 (.un .not (.tmp 14)) 11 false,
xi 16 (.pick (.tmp 11) xT (.tmp 15)),
xm 17 16,
yf 18 2 1 17 false,
yl 19 18 17 false,
xg 20 (.call 56 [.tmp 19]) 17 false,
xg 21 (.un .not (.tmp 20)) 17 false,
xi 22 (.pick (.tmp 17) xT (.tmp 21)),
xm 23 22,
yf 24 3 1 23 false,
yl 25 24 23 false,
xg 26 (.call 56 [.tmp 25]) 23 false,
xg 27 (.un .not (.tmp 26)) 23 false,
xi 28 (.pick (.tmp 23) xT (.tmp 27))])
(.cond (.tmp 28) (.seq (xr [xi 2 (.move (xk 2))])
.ret)
.skip))
(.seq (.seq (xr [xf 29 1 1,
xl 30 29,
xf 31 0 1,
xl 32 31,
xB 33 .leq 30 32])
(.cond (.tmp 33) (.seq (xr [xi 2 (.move (xk 9))])
.ret)
.skip))
(.seq (.seq (xr [xf 34 2 1,
xl 35 34,
xf 36 3 1,
xl 37 36,
xi 38 (.build [xz, xz] [(0, 1, (.tmp 35)), (1, 1, (.tmp 37))]),
xi 39 (.move xq)])
(.block 0 (.loop (some [38, 39]) (
.seq (xr [xb 40 .lss (.tmp 39) (xk 2)])
(.seq (.cond (.tmp 40) .skip
(.exit 0))
(.seq (.block 1 (.seq (xr [xi 41 (.index 2 1 false (.tmp 38) (.tmp 39)),
xm 4 41])
(.seq (xr [xm 43 4,
xc 44 57 [.tmp 43],
xm 42 44,
xe 45 42 0,
xe 46 42 1,
xi 5 (.push [xz, xz, xz]),
xt 3 5 45,
xm 6 46])
(.seq (xr [xm 47 6,
xi 48 (.un .not (.tmp 47))])
(.cond (.tmp 48) (.seq (xr [xi 2 (.move (xk 15))])
.ret)
.skip)))))
(xr [xb 49 .add (.tmp 39) (xk 1),
xm 39 49])))))))
(.seq (xr [xi 2 (.move xq)])
.ret)))),
[.tmp 2], .pure, 50⟩
def ef38 : EFun := ⟨
.seq (xr [xv 5 2,
xi 6 (.push [xz, xz]),
xi 7 (.move xq)])
(.seq (xr [xm 12 0,
xm 13 1,
xf 14 3 5,
xl 15 14,
xB 16 .mul 13 15,
xf 17 1 5,
xl 18 17,
xc 19 58 [.tmp 12, .tmp 16, .tmp 18],
xm 11 19,
xe 20 11 0,
xe 21 11 1,
xi 8 (.push [xz, xz]),
xt 2 8 20,
xm 9 21])
(.seq (.seq (xr [xm 22 9,
xb 23 .neq (.tmp 22) xq])
(.cond (.tmp 23) (.seq (xr [xi 24 (.build [xz, xz] []),
xm 25 9,
xt 2 6 24,
xm 7 25])
.ret)
.skip))
(.seq (xr [xm 27 0,
xm 28 1,
xf 29 2 5,
xl 30 29,
xB 31 .mul 28 30,
xf 32 0 5,
xl 33 32,
xc 34 58 [.tmp 27, .tmp 31, .tmp 33],
xm 26 34,
xe 35 26 0,
xe 36 26 1,
xi 10 (.push [xz, xz]),
xt 2 10 35,
xm 9 36])
(.seq (.seq (xr [xm 37 9,
xb 38 .neq (.tmp 37) xq])
(.cond (.tmp 38) (.seq (xr [xi 39 (.build [xz, xz] []),
xm 40 9,
xt 2 6 39,
xm 7 40])
.ret)
.skip))
(.seq (xr [xf 41 0 8,
xl 42 41,
xf 43 1 10,
xl 44 43,
xB 45 .sub 42 44,
xf 46 1 8,
xl 47 46,
xf 48 0 10,
xl 49 48,
xB 50 .sub 47 49,
xi 51 (.build [xz, xz] [(0, 1, (.tmp 45)), (1, 1, (.tmp 50))]),
xt 2 6 51,
xi 7 (.move xq)])
.ret))))),
[.cell 6 true 2, .tmp 7], .pure, 52⟩
def ef39 : EFun := ⟨
.seq (xr [xi 8 (.move (.const (.slice none 0 0)))])
(.seq (.seq (xr [xm 12 3,
xb 13 .eql (.tmp 12) xq])
(.cond (.tmp 13) (.seq (xr [xi 8 (.move (.const (.slice none 0 0)))])
.ret)
.skip))
(.seq (.seq (xr [xm 14 1,
xb 15 .eql (.tmp 14) (.const (.string ⟨#[]⟩))])
(.cond (.tmp 15) (.seq (xr [xm 16 0,
xm 17 3,
xc 18 59 [.tmp 16, .tmp 17],
xm 8 18])
.ret)
.skip))
(.seq (.seq (xr [xm 19 3,
xb 20 .lss (.tmp 19) xq])
(.cond (.tmp 20) (xr [xm 21 0,
xm 22 1,
xc 23 60 [.tmp 21, .tmp 22],
xb 24 .add (.tmp 23) (xk 1),
xm 3 24])
.skip))
(.seq (xr [xm 25 3,
xm 26 0,
xi 27 (.len true (.tmp 26)),
xb 28 .add (.tmp 27) (xk 1),
xi 29 (.min [.tmp 25, .tmp 28]),
xm 3 29])
(.seq (xr [xm 30 3,
xi 31 (.makeSlice 1 16 [(.string ⟨#[]⟩)] (.tmp 30) (.tmp 30)),
xm 9 31])
(.seq (xr [xm 32 3,
xb 33 .sub (.tmp 32) (xk 1),
xm 3 33])
(.seq (xr [xi 10 (.move xq)])
(.seq (.block 0 (.loop (some [0, 1, 2, 3, 9, 10]) (
.seq (.seq (xr [xm 34 10,
xm 35 3,
xB 36 .lss 34 35])
(.cond (.tmp 36) .skip
(.exit 0)))
(.block 1 (.seq (xr [xm 37 0,
xm 38 1,
xc 39 61 [.tmp 37, .tmp 38],
xm 11 39])
(.seq (.seq (xr [xm 40 11,
xb 41 .lss (.tmp 40) xq])
(.cond (.tmp 41) (.exit 0)
.skip))
(.seq (xr [xm 42 9,
xm 43 10,
xm 44 0,
xm 45 11,
xm 46 2,
xB 47 .add 45 46,
xi 48 (.strSlice (.tmp 44) none (some (.tmp 47))),
xa 49 42 43,
xt 1 49 48])
(.seq (xr [xm 50 0,
xm 51 11,
xm 52 1,
xi 53 (.len true (.tmp 52)),
xB 54 .add 51 53,
xi 55 (.strSlice (.tmp 50) (some (.tmp 54)) none),
xm 0 55])
(xr [xm 56 10,
xb 57 .add (.tmp 56) (xk 1),
xm 10 57])))))))))
(.seq (xr [xm 58 9,
xm 59 10,
xm 60 0,
xa 61 58 59,
xt 1 61 60])
(.seq (xr [xm 62 9,
xm 63 10,
xb 64 .add (.tmp 63) (xk 1),
xi 65 (.slice 1 (.tmp 62) none (some (.tmp 64))),
xm 8 65])
.ret)))))))))),
[.tmp 8], .pure, 66⟩
def ef40 : EFun := ⟨
.skip,
[], .nat (natAtoi 126 1 2), 0⟩
def ef41 : EFun := ⟨
.seq (xr [xi 2 (.move xF)])
(.seq (xr [xm 3 0,
xb 4 .geq (.tmp 3) (.const (.int .u8 48)),
xm 5 4,
ym 6 0 5 true,
yb 7 .leq (.tmp 6) (.const (.int .u8 57)) 5 true,
xi 8 (.pick (.tmp 5) (.tmp 7) xF),
xm 2 8])
.ret),
[.tmp 2], .pure, 9⟩
def ef46 : EFun := ⟨
.seq (xr [xi 2 (.move xF)])
(.seq (xr [xm 3 0,
xb 4 .geq (.tmp 3) (.const (.int .u8 97)),
xm 5 4,
ym 6 0 5 true,
yb 7 .leq (.tmp 6) (.const (.int .u8 122)) 5 true,
xi 8 (.pick (.tmp 5) (.tmp 7) xF),
xm 9 8,
ym 10 0 9 false,
yb 11 .geq (.tmp 10) (.const (.int .u8 65)) 9 false,
ym 12 11 9 false,
ym 13 0 12 true,
yb 14 .leq (.tmp 13) (.const (.int .u8 90)) 12 true,
xg 15 (.pick (.tmp 12) (.tmp 14) xF) 9 false,
xi 16 (.pick (.tmp 9) xT (.tmp 15)),
xm 2 16])
.ret),
[.tmp 2], .pure, 17⟩
def ef47 : EFun := ⟨
.seq (xr [xv 2 0,
xi 4 (.push [xz, xz, xz])])
(.seq (xr [xm 8 1,
xc 9 67 [.tmp 8],
xm 5 9])
(.seq (xr [xi 6 (.push [xz, xz, xz])])
(.seq (.seq (xr [xi 7 (.move xq)])
(.block 0 (.loop (some [2, 4, 5, 6, 7]) (
.seq (.seq (xr [xm 10 7,
xm 11 5,
xB 12 .lss 10 11])
(.cond (.tmp 12) .skip
(.exit 0)))
(.seq (.block 1 (xR [xL 15 3 6,
xL 16 25 2,
xm 17 7,
xC 18 69 [.tmp 16, .tmp 17],
xc 19 68 [.tmp 15, (xk 1), .tmp 18],
xt 3 6 19]))
(xr [xm 13 7,
xb 14 .add (.tmp 13) (xk 1),
xm 7 14]))))))
(.seq (xR [xL 20 3 6,
xm 21 5,
xb 22 .mul (xk 7) (.tmp 21),
xb 23 .quo (.tmp 22) (xk 12),
xi 24 (.un .neg (.tmp 23)),
xC 25 70 [],
xc 26 68 [.tmp 20, .tmp 24, .tmp 25],
xt 3 4 26])
.ret)))),
[.cell 4 true 3], .pure, 27⟩
def ef48 : EFun := ⟨
.seq (xr [xi 4 (.move xq)])
(.seq (.seq (xr [xm 6 0,
xn 7 6,
xi 8 (.move xq)])
(.block 0 (.loop (some [0, 1, 7, 8]) (
.seq (xr [xB 9 .lss 8 7])
(.seq (.cond (.tmp 9) .skip
(.exit 0))
(.seq (.block 1 (.seq (xr [xm 10 8,
xm 5 10])
(.seq (xr [xm 11 1,
xm 12 0,
xm 13 5,
xa 14 12 13,
xl 15 14,
xi 16 (.callVal (.tmp 11) [.tmp 15])])
(.cond (.tmp 16) (.seq (xr [xm 17 5,
xm 4 17])
.ret)
.skip))))
(xr [xb 18 .add (.tmp 8) (xk 1),
xm 8 18])))))))
(.seq (xr [xi 4 (.move (.const (.int .i64 (-1))))])
.ret)),
[.tmp 4], .pure, 19⟩
def ef49 : EFun := ⟨
.seq (xr [xv 3 0,
xv 4 1,
xi 6 (.push [xz, xz, xz])])
(.seq (.seq (xr [xi 8 (.move xq)])
(.block 0 (.loop (some [2, 3, 4, 6, 8]) (
.seq (xr [xb 9 .lss (.tmp 8) (xk 3)])
(.seq (.cond (.tmp 9) .skip
(.exit 0))
(.seq (.block 1 (.seq (xr [xm 10 8,
xm 7 10])
(xR [xm 11 7,
xi 12 (.indexAddr (some 3) 1 (.tmp 3) (.tmp 11)),
xl 13 12,
xm 14 2,
xm 15 7,
xi 16 (.indexAddr (some 3) 1 (.tmp 4) (.tmp 15)),
xl 17 16,
xB 18 .mul 14 17,
xB 19 .add 13 18,
xi 20 (.indexAddr (some 3) 1 (.tmp 3) (.tmp 11)),
xt 1 20 19])))
(xr [xb 21 .add (.tmp 8) (xk 1),
xm 8 21])))))))
(.seq (xr [xL 22 3 3,
xt 3 6 22])
.ret)),
[.cell 6 true 3], .pure, 23⟩
def ef50 : EFun := ⟨
.seq (xr [xi 0 (.push [xz, xz, xz])])
(.seq (xr [xi 1 (.build [xz, xz, xz] [(0, 1, (xk 12))]),
xt 3 0 1])
.ret),
[.cell 0 true 3], .pure, 2⟩
def ef51 : EFun := ⟨
.seq (xr [xi 2 (.move xq)])
(.seq (.seq (xr [xm 3 0,
xb 4 .lss (.tmp 3) xq])
(.cond (.tmp 4) (.seq (xr [xm 5 0,
xi 6 (.un .neg (.tmp 5)),
xm 2 6])
.ret)
.skip))
(.seq (xr [xm 7 0,
xm 2 7])
.ret)),
[.tmp 2], .pure, 8⟩
def ef52 : EFun := ⟨
.seq (xr [xi 2 (.move xF)])
(.seq (xr [xm 3 0,
xb 4 .geq (.tmp 3) xq,
xm 5 4,
ym 6 0 5 true,
yb 7 .leq (.tmp 6) (xk 87) 5 true,
xi 8 (.pick (.tmp 5) (.tmp 7) xF),
xm 2 8])
.ret),
[.tmp 2], .pure, 9⟩
def ef53 : EFun := ⟨
.seq (xr [xi 6 (.push [xz, xz, xz])])
(.seq (xr [xm 7 0,
xm 8 2,
xc 9 71 [.tmp 7, .tmp 8],
xm 10 0,
xm 11 1,
xc 12 71 [.tmp 10, .tmp 11],
xc 13 49 [.tmp 9, .tmp 12, (.const (.int .i64 (-1)))],
xt 3 6 13])
.ret),
[.cell 6 true 3], .pure, 14⟩
def ef54 : EFun := ⟨
.seq (xr [xv 1 0,
xi 2 (.push [xz, xz, xz, xz])])
(.seq (xr [xi 6 (.indexAddr (some 3) 1 (.tmp 1) xq),
xl 7 6,
xi 8 (.indexAddr (some 3) 1 (.tmp 1) (xk 1)),
xl 9 8,
xi 10 (.indexAddr (some 3) 1 (.tmp 1) (xk 2)),
xl 11 10,
xi 12 (.build [xz, xz, xz, xz] [(0, 1, (.tmp 7)), (1, 1, (.tmp 9)), (2, 1, (.tmp 11)), (3, 1, (xk 12))]),
xc 13 72 [.tmp 12],
xm 5 13,
xe 14 5 0,
xe 15 5 1,
xi 3 (.push [xz, xz, xz, xz]),
xt 4 3 14,
xm 4 15])
(.seq (xr [xL 16 4 3,
xt 4 2 16])
.ret)),
[.cell 2 true 4], .pure, 17⟩
def ef55 : EFun := ⟨
.seq (xr [xi 4 (.move xF)])
(.seq (xr [xm 5 0,
xm 6 1,
xc 7 73 [.tmp 5, .tmp 6],
xb 8 .geq (.tmp 7) xq,
xm 4 8])
.ret),
[.tmp 4], .pure, 9⟩
def ef56 : EFun := ⟨
.seq (xr [xi 2 (.move xF)])
(.seq (xr [xm 3 0,
xb 4 .geq (.tmp 3) (xk 1),
xm 5 4,
ym 6 0 5 true,
yb 7 .leq (.tmp 6) (xk 16) 5 true,
xi 8 (.pick (.tmp 5) (.tmp 7) xF),
xm 2 8])
.ret),
[.tmp 2], .pure, 9⟩
def ef57 : EFun := ⟨
.seq (xr [xi 2 (.push [xz, xz, xz]),
xi 3 (.move xF)])
(.seq (xr [xi 4 (.push [xz, xz, xz])])
(.seq (.seq (xr [xi 7 (.build [xz, xz, xz] [(0, 1, (xk 2)), (1, 1, (xk 3)), (2, 1, (xk 5))]),
xi 8 (.move xq)])
(.block 0 (.loop (some [0, 2, 4, 7, 8]) (
.seq (xr [xb 9 .lss (.tmp 8) (xk 3)])
(.seq (.cond (.tmp 9) .skip
(.exit 0))
(.seq (.block 1 (.seq (xr [xm 10 8,
xi 11 (.index 3 1 false (.tmp 7) (.tmp 8)),
xm 5 10,
xm 6 11])
(.block 2 (.loop (some [0, 2, 4, 5, 6, 7, 8]) (
.seq (.seq (xr [xm 12 0,
xm 13 6,
xB 14 .rem 12 13,
xb 15 .eql (.tmp 14) xq])
(.cond (.tmp 15) .skip
(.exit 2)))
(.seq (.block 3 (xr [xm 19 5,
xi 20 (.indexAddr (some 3) 1 (.tmp 4) (.tmp 19)),
xl 21 20,
xb 22 .add (.tmp 21) (xk 12),
xi 23 (.indexAddr (some 3) 1 (.tmp 4) (.tmp 19)),
xt 1 23 22]))
(xr [xm 16 0,
xm 17 6,
xB 18 .quo 16 17,
xm 0 18])))))))
(xr [xb 24 .add (.tmp 8) (xk 1),
xm 8 24])))))))
(.seq (xr [xL 25 3 4,
xm 26 0,
xb 27 .eql (.tmp 26) (xk 1),
xt 3 2 25,
xm 3 27])
.ret))),
[.cell 2 true 3, .tmp 3], .pure, 28⟩
def ef58 : EFun := ⟨
.seq (xr [xi 6 (.push [xz, xz]),
xi 7 (.move xq)])
(.seq (xr [xm 8 0,
xm 9 2,
xc 10 53 [.tmp 8, (xk 48), .tmp 9],
xc 11 54 [.tmp 10],
xm 12 1,
xc 13 74 [.tmp 11, .tmp 12],
xe 14 13 0,
xe 15 13 1,
xt 2 6 14,
xm 7 15])
.ret),
[.cell 6 true 2, .tmp 7], .pure, 16⟩
def ef59 : EFun := ⟨
.seq (xr [xi 4 (.move (.const (.slice none 0 0)))])
(.seq (xr [xm 10 0,
xc 11 75 [.tmp 10],
xm 5 11])
(.seq (.seq (xr [xm 12 1,
xb 13 .lss (.tmp 12) xq,
xm 14 13,
ym 15 1 14 false,
ym 16 5 14 false,
yb 17 .gtr (.tmp 15) (.tmp 16) 14 false,
xi 18 (.pick (.tmp 14) xT (.tmp 17))])
(.cond (.tmp 18) (xr [xm 19 5,
xm 1 19])
.skip))
(.seq (xr [xm 20 1,
xi 21 (.makeSlice 1 16 [(.string ⟨#[]⟩)] (.tmp 20) (.tmp 20)),
xm 6 21])
(.seq (.seq (xr [xi 7 (.move xq)])
(.block 0 (.loop (some [0, 1, 6, 7]) (
.seq (.seq (xr [xm 22 7,
xm 23 1,
xb 24 .sub (.tmp 23) (xk 1),
xB 25 .lss 22 24])
(.cond (.tmp 25) .skip
(.exit 0)))
(.seq (.block 1 (.seq (xr [xm 29 0,
xc 30 76 [.tmp 29],
xm 28 30,
xe 31 28 0,
xe 32 28 1,
xm 8 31,
xm 9 32])
(.seq (xr [xm 33 6,
xm 34 7,
xm 35 0,
xm 36 9,
xi 37 (.strSlice (.tmp 35) none (some (.tmp 36))),
xa 38 33 34,
xt 1 38 37])
(xr [xm 39 0,
xm 40 9,
xi 41 (.strSlice (.tmp 39) (some (.tmp 40)) none),
xm 0 41]))))
(xr [xm 26 7,
xb 27 .add (.tmp 26) (xk 1),
xm 7 27]))))))
(.seq (.seq (xr [xm 42 1,
xb 43 .gtr (.tmp 42) xq])
(.cond (.tmp 43) (xr [xm 44 6,
xm 45 1,
xb 46 .sub (.tmp 45) (xk 1),
xm 47 0,
xa 48 44 46,
xt 1 48 47])
.skip))
(.seq (xr [xm 49 6,
xm 4 49])
.ret)))))),
[.tmp 4], .pure, 50⟩
def ef60 : EFun := ⟨
.skip,
[], .nat natCount1, 0⟩
def ef61 : EFun := ⟨
.seq (xr [xi 4 (.move xq)])
(.seq (xr [xm 5 0,
xm 6 1,
xc 7 78 [.tmp 5, .tmp 6],
xm 4 7])
.ret),
[.tmp 4], .pure, 8⟩
def ef67 : EFun := ⟨
.seq (xr [xi 2 (.move xq)])
(.seq (xr [xm 3 0,
xb 4 .mul (xk 7) (.tmp 3),
xc 5 90 [.tmp 4, (xk 12)],
xm 2 5])
.ret),
[.tmp 2], .pure, 6⟩
def ef68 : EFun := ⟨
.seq (xr [xv 3 0,
xv 5 2,
xi 6 (.push [xz, xz, xz])])
(.seq (.seq (xr [xi 7 (.move xq)])
(.block 0 (.loop (some [1, 3, 5, 6, 7]) (
.seq (.seq (xr [xm 8 7,
xb 9 .lss (.tmp 8) (xk 3)])
(.cond (.tmp 9) .skip
(.exit 0)))
(.seq (.block 1 (xR [xm 12 7,
xm 13 7,
xi 14 (.indexAddr (some 3) 1 (.tmp 3) (.tmp 13)),
xl 15 14,
xm 16 1,
xm 17 7,
xi 18 (.indexAddr (some 3) 1 (.tmp 5) (.tmp 17)),
xl 19 18,
xB 20 .mul 16 19,
xB 21 .add 15 20,
xi 22 (.indexAddr (some 3) 1 (.tmp 3) (.tmp 12)),
xt 1 22 21]))
(xr [xm 10 7,
xb 11 .add (.tmp 10) (xk 1),
xm 7 11]))))))
(.seq (xr [xL 23 3 3,
xt 3 6 23])
.ret)),
[.cell 6 true 3], .pure, 24⟩
def ef69 : EFun := ⟨
.seq (xr [xv 2 0,
xi 4 (.push [xz, xz, xz])])
(.seq (xr [xm 7 1,
xc 8 90 [.tmp 7, (xk 12)],
xm 1 8])
(.seq (xR [xm 9 1,
xf 10 1 2,
xi 11 (.indexAddr (some 12) 1 (.tmp 10) (.tmp 9)),
xl 12 11,
xm 13 1,
xf 14 13 2,
xi 15 (.indexAddr (some 12) 1 (.tmp 14) (.tmp 13)),
xl 16 15,
xm 5 12,
xm 6 16])
(.seq (xr [xm 17 5,
xb 18 .mul (xk 19) (.tmp 17),
xb 19 .add (.const (.int .i64 (-12))) (.tmp 18),
xm 20 6,
xb 21 .mul (xk 4) (.tmp 20),
xB 22 .add 19 21,
xm 23 5,
xb 24 .mul (xk 12) (.tmp 23),
xb 25 .sub (xk 12) (.tmp 24),
xm 26 6,
xb 27 .mul (xk 4) (.tmp 26),
xB 28 .sub 25 27,
xm 29 6,
xi 30 (.build [xz, xz, xz] [(0, 1, (.tmp 22)), (1, 1, (.tmp 28)), (2, 1, (.tmp 29))]),
xt 3 4 30])
.ret))),
[.cell 4 true 3], .pure, 31⟩
def ef70 : EFun := ⟨
.seq (xr [xi 0 (.push [xz, xz, xz])])
(.seq (xr [xi 1 (.build [xz, xz, xz] [(0, 1, (xk 12)), (1, 1, xq), (2, 1, xq)]),
xt 3 0 1])
.ret),
[.cell 0 true 3], .pure, 2⟩
def ef71 : EFun := ⟨
.seq (xr [xi 4 (.push [xz, xz, xz])])
(.seq (xr [xm 8 1,
xc 9 91 [.tmp 8],
xm 7 9,
xe 10 7 0,
xe 11 7 1,
xm 5 10,
xm 6 11])
(.seq (xR [xm 12 0,
xm 13 5,
xi 14 (.nilCheck (.tmp 12)),
xf 15 36 14,
xi 16 (.indexAddr (some 12) 3 (.tmp 15) (.tmp 13)),
xL 17 3 16,
xC 18 50 [],
xm 19 6,
xc 20 49 [.tmp 17, .tmp 18, .tmp 19],
xt 3 4 20])
.ret)),
[.cell 4 true 3], .pure, 21⟩
def ef72 : EFun := ⟨
.seq (xr [xv 1 0,
xi 2 (.push [xz, xz, xz, xz]),
xi 3 (.move xq)])
(.seq (.seq (xr [xL 5 4 1,
xc 6 92 [.tmp 5],
xm 4 6])
(.seq (xr [xm 7 4,
xb 8 .neq (.tmp 7) xq])
(.cond (.tmp 8) (.seq (xr [xi 9 (.build [xz, xz, xz, xz] []),
xm 10 4,
xt 4 2 9,
xm 3 10])
.ret)
.skip)))
(.seq (xr [xL 11 4 1,
xc 12 93 [.tmp 11],
xt 4 2 12,
xi 3 (.move xq)])
.ret)),
[.cell 2 true 4, .tmp 3], .pure, 13⟩
def ef73 : EFun := ⟨
.seq (xr [xi 4 (.move xq)])
(.seq (.seq (xr [xm 6 0,
xn 7 6,
xi 8 (.move xq)])
(.block 0 (.loop (some [0, 1, 7, 8]) (
.seq (xr [xB 9 .lss 8 7])
(.seq (.cond (.tmp 9) .skip
(.exit 0))
(.seq (.block 1 (.seq (xr [xm 10 8,
xm 5 10])
(.seq (xr [xm 11 1,
xm 12 0,
xm 13 5,
xa 14 12 13,
xl 15 14,
xi 16 (.eqBool false (.tmp 11) (.tmp 15))])
(.cond (.tmp 16) (.seq (xr [xm 17 5,
xm 4 17])
.ret)
.skip))))
(xr [xb 18 .add (.tmp 8) (xk 1),
xm 8 18])))))))
(.seq (xr [xi 4 (.move (.const (.int .i64 (-1))))])
.ret)),
[.tmp 4], .pure, 19⟩
def ef74 : EFun := ⟨
.seq (xr [xv 2 0,
xi 4 (.push [xz, xz]),
xi 5 (.move xq)])
(.seq (.seq (xr [xL 13 4 2,
xc 14 92 [.tmp 13],
xm 6 14])
(.seq (xr [xm 15 6,
xb 16 .neq (.tmp 15) xq])
(.cond (.tmp 16) (.seq (xr [xi 17 (.build [xz, xz] []),
xm 18 6,
xt 2 4 17,
xm 5 18])
.ret)
.skip)))
(.seq (.seq (xr [xm 19 1,
xc 20 94 [.tmp 19, (xk 1), (xk 1000000000)],
xi 21 (.un .not (.tmp 20))])
(.cond (.tmp 21) (.seq (xr [xi 22 (.build [xz, xz] []),
xt 2 4 22,
xi 5 (.move (xk 2))])
.ret)
.skip))
(.seq (xr [xL 23 4 2,
xc 24 93 [.tmp 23],
xt 4 2 24])
(.seq (xr [xL 25 4 2,
xc 26 96 [.tmp 25],
xc 27 95 [.tmp 26],
xi 7 (.push [(.slice none 0 0), (.slice none 0 0)]),
xt 2 7 27])
(.seq (xr [xm 28 1,
xi 29 (.conv .u64 (.tmp 28)),
xf 30 3 2,
xl 31 30,
xf 32 0 7,
xl 33 32,
xc 34 97 [.tmp 29, .tmp 31, .tmp 33],
xf 35 0 7,
xt 1 35 34])
(.seq (xr [xi 36 (.makeFunc (.func 98) [.tmp 2, .tmp 7]),
xm 8 36])
(.seq (xr [xi 9 (.move xq),
xi 10 (.move (xk 1000000000000001))])
(.seq (.block 0 (.loop (some [4, 8, 9, 10]) (
.seq (.seq (xr [xm 37 9,
xm 38 10,
xB 39 .lss 37 38])
(.cond (.tmp 39) .skip
(.exit 0)))
(.block 1 (.seq (xr [xm 40 10,
xm 41 10,
xm 42 9,
xB 43 .sub 41 42,
xb 44 .quo (.tmp 43) (xk 2),
xB 45 .sub 40 44,
xm 11 45])
(.seq (xr [xm 46 8,
xm 47 11,
xi 48 (.callVal (.tmp 46) [.tmp 47]),
xb 49 .leq (.tmp 48) xq])
(.cond (.tmp 49) (xr [xm 50 11,
xm 9 50])
(xr [xm 51 11,
xb 52 .sub (.tmp 51) (xk 1),
xm 10 52]))))))))
(.seq (xr [xm 53 9,
xm 54 9,
xi 55 (.build [xz, xz] [(0, 1, (.tmp 53)), (1, 1, (.tmp 54))]),
xi 12 (.push [xz, xz]),
xt 2 12 55])
(.seq (.seq (xr [xm 56 9,
xb 57 .eql (.tmp 56) xq,
xm 58 57,
ym 59 8 58 false,
ym 60 9 58 false,
xg 61 (.callVal (.tmp 59) [.tmp 60]) 58 false,
yb 62 .neq (.tmp 61) xq 58 false,
xi 63 (.pick (.tmp 58) xT (.tmp 62))])
(.cond (.tmp 63) (xr [xf 64 1 12,
xl 65 64,
xb 66 .add (.tmp 65) (xk 1),
xf 67 1 12,
xt 1 67 66])
.skip))
(.seq (xr [xL 68 2 12,
xc 69 100 [.tmp 68],
xe 70 69 0,
xe 71 69 1,
xt 2 4 70,
xm 5 71])
.ret))))))))))),
[.cell 4 true 2, .tmp 5], .pure, 72⟩
def ef76 : EFun := ⟨
.seq (xr [xi 2 (.move (.const (.int .i32 0))),
xi 3 (.move xq)])
(.seq (.seq (xr [xm 4 0,
xb 5 .neq (.tmp 4) (.const (.string ⟨#[]⟩)),
xm 6 5,
ym 7 0 6 true,
xg 8 (.strIndex (.tmp 7) xq) 6 true,
yb 9 .lss (.tmp 8) (.const (.int .u8 128)) 6 true,
xi 10 (.pick (.tmp 6) (.tmp 9) xF)])
(.cond (.tmp 10) (.seq (xr [xm 11 0,
xi 12 (.strIndex (.tmp 11) xq),
xi 13 (.conv .i32 (.tmp 12)),
xm 2 13,
xi 3 (.move (xk 1))])
.ret)
(xr [xm 15 0,
xc 16 101 [.tmp 15],
xm 14 16,
xe 17 14 0,
xe 18 14 1,
xm 2 17,
xm 3 18])))
.ret),
[.tmp 2, .tmp 3], .pure, 19⟩
def ef78 : EFun := ⟨
.skip,
[], .nat natIndex1, 0⟩
def ef90 : EFun := ⟨
.seq (xr [xi 4 (.move xq)])
(.seq (xr [xm 6 0,
xm 7 1,
xB 8 .rem 6 7,
xm 5 8])
(.seq (.seq (xr [xm 9 5,
xb 10 .lss (.tmp 9) xq])
(.cond (.tmp 10) (xr [xm 11 5,
xm 12 1,
xB 13 .add 11 12,
xm 5 13])
.skip))
(.seq (xr [xm 14 5,
xm 4 14])
.ret))),
[.tmp 4], .pure, 15⟩
def ef91 : EFun := ⟨
.seq (xr [xi 2 (.move xq),
xi 3 (.move xq)])
(.seq (xr [xm 4 0,
xb 5 .add (.tmp 4) (xk 9),
xb 6 .rem (.tmp 5) (xk 12),
xm 7 0,
xb 8 .add (.tmp 7) (xk 9),
xb 9 .quo (.tmp 8) (xk 12),
xm 2 6,
xm 3 9])
.ret),
[.tmp 2, .tmp 3], .pure, 10⟩
def ef92 : EFun := ⟨
.seq (xr [xv 1 0,
xi 2 (.move xq)])
(.seq (.seq (xr [xL 5 4 1,
xc 6 96 [.tmp 5],
xi 7 (.move xq)])
(.block 0 (.loop (some [1, 6, 7]) (
.seq (xr [xb 8 .lss (.tmp 7) (xk 3)])
(.seq (.cond (.tmp 8) .skip
(.exit 0))
(.seq (.block 1 (.seq (xr [xi 9 (.index 3 1 false (.tmp 6) (.tmp 7)),
xm 4 9])
(.seq (xr [xm 10 4,
xc 11 94 [.tmp 10, (.const (.int .i64 (-400))), (xk 400)],
xi 12 (.un .not (.tmp 11))])
(.cond (.tmp 12) (.seq (xr [xi 2 (.move (xk 2))])
.ret)
.skip))))
(xr [xb 13 .add (.tmp 7) (xk 1),
xm 7 13])))))))
(.seq (.seq (xr [xf 14 3 1,
xl 15 14,
xc 16 94 [.tmp 15, (xk 1), (xk 12)],
xi 17 (.un .not (.tmp 16))])
(.cond (.tmp 17) (.seq (xr [xi 2 (.move (xk 2))])
.ret)
.skip))
(.seq (xr [xi 2 (.move xq)])
.ret))),
[.tmp 2], .pure, 18⟩
def ef93 : EFun := ⟨
.seq (xr [xv 1 0,
xi 2 (.push [xz, xz, xz, xz])])
(.seq (xR [xf 4 0 1,
xl 5 4,
xf 6 1 1,
xl 7 6,
xC 8 114 [.tmp 5, .tmp 7],
xf 9 2 1,
xl 10 9,
xf 11 3 1,
xl 12 11,
xc 13 114 [.tmp 10, .tmp 12],
xc 14 114 [.tmp 8, .tmp 13],
xm 3 14])
(.seq (xR [xf 15 0 1,
xl 16 15,
xm 17 3,
xB 18 .quo 16 17,
xf 19 1 1,
xl 20 19,
xm 21 3,
xB 22 .quo 20 21,
xf 23 2 1,
xl 24 23,
xm 25 3,
xB 26 .quo 24 25,
xf 27 3 1,
xl 28 27,
xm 29 3,
xB 30 .quo 28 29,
xi 31 (.build [xz, xz, xz, xz] [(0, 1, (.tmp 18)), (1, 1, (.tmp 22)), (2, 1, (.tmp 26)), (3, 1, (.tmp 30))]),
xt 4 2 31])
.ret)),
[.cell 2 true 4], .pure, 32⟩
def ef94 : EFun := ⟨
.seq (xr [xi 6 (.move xF)])
(.seq (xr [xm 7 0,
xm 8 1,
xB 9 .geq 7 8,
xm 10 9,
ym 11 0 10 true,
ym 12 2 10 true,
yb 13 .leq (.tmp 11) (.tmp 12) 10 true,
xi 14 (.pick (.tmp 10) (.tmp 13) xF),
xm 6 14])
.ret),
[.tmp 6], .pure, 15⟩
def ef95 : EFun := ⟨
.seq (xr [xv 1 0,
xi 2 (.push [(.slice none 0 0), (.slice none 0 0)])])
(.seq (xr [xi 6 (.buildSlice 1 1 [(.int .u64 0)] [(0, 1, (.const (.int .u64 1)))]),
xi 7 (.buildSlice 1 1 [(.int .u64 0)] [(0, 1, (.const (.int .u64 1)))]),
xi 8 (.build [(.slice none 0 0), (.slice none 0 0)] [(0, 1, (.tmp 6)), (1, 1, (.tmp 7))]),
xi 3 (.push [(.slice none 0 0), (.slice none 0 0)]),
xt 2 3 8])
(.seq (.seq (xr [xL 9 3 1,
xi 10 (.move xq)])
(.block 0 (.loop (some [2, 3, 9, 10]) (
.seq (xr [xb 11 .lss (.tmp 10) (xk 3)])
(.seq (.cond (.tmp 11) .skip
(.exit 0))
(.seq (.block 1 (.seq (xr [xm 12 10,
xi 13 (.index 3 1 false (.tmp 9) (.tmp 10)),
xm 4 12,
xm 5 13])
(.seq (xR [xm 14 4,
xi 15 (.indexAddr (some 3) 1 (.global 4) (.tmp 14)),
xl 16 15,
xm 17 5,
xi 18 (.max [.tmp 17, xq]),
xf 19 0 3,
xl 20 19,
xc 21 97 [.tmp 16, .tmp 18, .tmp 20],
xf 22 0 3,
xt 1 22 21])
(xR [xm 23 4,
xi 24 (.indexAddr (some 3) 1 (.global 4) (.tmp 23)),
xl 25 24,
xm 26 5,
xi 27 (.un .neg (.tmp 26)),
xi 28 (.max [.tmp 27, xq]),
xf 29 1 3,
xl 30 29,
xc 31 97 [.tmp 25, .tmp 28, .tmp 30],
xf 32 1 3,
xt 1 32 31]))))
(xr [xb 33 .add (.tmp 10) (xk 1),
xm 10 33])))))))
(.seq (xr [xL 34 2 3,
xt 2 2 34])
.ret))),
[.cell 2 true 2], .pure, 35⟩
def ef96 : EFun := ⟨
.seq (xr [xv 1 0,
xi 2 (.push [xz, xz, xz])])
(.seq (xr [xf 3 0 1,
xl 4 3,
xf 5 1 1,
xl 6 5,
xf 7 2 1,
xl 8 7,
xi 9 (.build [xz, xz, xz] [(0, 1, (.tmp 4)), (1, 1, (.tmp 6)), (2, 1, (.tmp 8))]),
xt 3 2 9])
.ret),
[.cell 2 true 3], .pure, 10⟩
def ef97 : EFun := ⟨
.seq (xr [xi 6 (.move (.const (.slice none 0 0)))])
(.seq (.block 0 (.loop (some [0, 1, 2]) (
.seq (.seq (xr [xm 10 1,
xb 11 .gtr (.tmp 10) xq])
(.cond (.tmp 11) .skip
(.exit 0)))
(.block 1 (.seq (xr [xi 7 (.move (.const (.int .u64 1)))])
(.seq (.block 2 (.loop (some [0, 1, 2, 7]) (
.seq (.seq (xr [xm 12 1,
xb 13 .gtr (.tmp 12) xq])
(.cond (.tmp 13) .skip
(.exit 2)))
(.block 3 (.seq (xr [xm 15 7,
xm 16 0,
xc 17 115 [.tmp 15, .tmp 16],
xm 14 17,
xe 18 14 0,
xe 19 14 1,
xm 8 18,
xm 9 19])
(.seq (.seq (xr [xm 20 8,
xb 21 .neq (.tmp 20) (.const (.int .u64 0))])
(.cond (.tmp 21) (.exit 2)
.skip))
(xr [xm 22 9,
xm 23 1,
xb 24 .sub (.tmp 23) (xk 1),
xm 7 22,
xm 1 24])))))))
(xr [xm 25 2,
xm 26 7,
xc 27 116 [.tmp 25, .tmp 26],
xm 2 27])))))))
(.seq (xr [xm 28 2,
xm 6 28])
.ret)),
[.tmp 6], .pure, 29⟩
def ef98 : EFun := ⟨
.seq (xr [xi 4 (.move xq)])
(.seq (xR [xm 5 0,
xi 6 (.conv .u64 (.tmp 5)),
xf 7 3 1,
xl 8 7,
xf 9 1 2,
xl 10 9,
xC 11 97 [.tmp 6, .tmp 8, .tmp 10],
xf 12 0 2,
xl 13 12,
xc 14 99 [.tmp 11, .tmp 13],
xm 4 14])
.ret),
[.tmp 4], .pure, 15⟩
def ef99 : EFun := ⟨
.seq (xr [xi 4 (.move xq)])
(.seq (.seq (xr [xm 6 0,
xn 7 6,
xm 8 1,
xn 9 8,
xB 10 .neq 7 9])
(.cond (.tmp 10) (.seq (.seq (xr [xm 11 0,
xn 12 11,
xm 13 1,
xn 14 13,
xB 15 .lss 12 14])
(.cond (.tmp 15) (.seq (xr [xi 4 (.move (.const (.int .i64 (-1))))])
.ret)
.skip))
(.seq (xr [xi 4 (.move (xk 1))])
.ret))
.skip))
(.seq (.seq (xr [xm 16 0,
xn 17 16,
xb 18 .sub (.tmp 17) (xk 1),
xm 5 18])
(.block 0 (.loop (some [0, 1, 5]) (
.seq (.seq (xr [xm 19 5,
xb 20 .geq (.tmp 19) xq])
(.cond (.tmp 20) .skip
(.exit 0)))
(.seq (.block 1 (.block 2 (.seq (xR [xm 24 0,
xm 25 5,
xa 26 24 25,
xl 27 26,
xm 28 1,
xm 29 5,
xa 30 28 29,
xl 31 30,
xB 32 .lss 27 31,
xm 23 32])
(.cond (.tmp 23) (.seq (xr [xi 4 (.move (.const (.int .i64 (-1))))])
.ret)
(.seq (xR [xm 34 0,
xm 35 5,
xa 36 34 35,
xl 37 36,
xm 38 1,
xm 39 5,
xa 40 38 39,
xl 41 40,
xB 42 .gtr 37 41,
xm 33 42])
(.cond (.tmp 33) (.seq (xr [xi 4 (.move (xk 1))])
.ret)
.skip))))))
(xr [xm 21 5,
xb 22 .sub (.tmp 21) (xk 1),
xm 5 22]))))))
(.seq (xr [xi 4 (.move xq)])
.ret))),
[.tmp 4], .pure, 43⟩
def ef100 : EFun := ⟨
.seq (xr [xv 1 0,
xi 2 (.push [xz, xz]),
xi 3 (.move xq)])
(.seq (.seq (xr [xL 4 2 1,
xc 5 117 [.tmp 4],
xb 6 .neq (.tmp 5) xq])
(.cond (.tmp 6) (.seq (xr [xi 7 (.build [xz, xz] []),
xt 2 2 7,
xi 3 (.move (xk 8))])
.ret)
.skip))
(.seq (xr [xL 8 2 1,
xt 2 2 8,
xi 3 (.move xq)])
.ret)),
[.cell 2 true 2, .tmp 3], .pure, 9⟩
def ef114 : EFun := ⟨
.seq (xr [xi 4 (.move xq)])
(.seq (.block 0 (.loop (some [0, 1]) (
.seq (.seq (xr [xm 5 1,
xb 6 .neq (.tmp 5) xq])
(.cond (.tmp 6) .skip
(.exit 0)))
(.block 1 (xR [xm 7 1,
xm 8 0,
xm 9 1,
xB 10 .rem 8 9,
xm 0 7,
xm 1 10])))))
(.seq (.seq (xr [xm 11 0,
xb 12 .lss (.tmp 11) xq])
(.cond (.tmp 12) (.seq (xr [xm 13 0,
xi 14 (.un .neg (.tmp 13)),
xm 4 14])
.ret)
.skip))
(.seq (xr [xm 15 0,
xm 4 15])
.ret))),
[.tmp 4], .pure, 16⟩
def ef115 : EFun := ⟨
.seq (xr [xi 4 (.move (.const (.int .u64 0))),
xi 5 (.move (.const (.int .u64 0)))])
(.seq (xr [xm 14 0,
xb 15 .and (.tmp 14) (.const (.int .u64 4294967295)),
xm 6 15])
(.seq (xr [xm 16 0,
xb 17 .shr (.tmp 16) (.const (.int .u64 32)),
xm 7 17])
(.seq (xr [xm 18 1,
xb 19 .and (.tmp 18) (.const (.int .u64 4294967295)),
xm 8 19])
(.seq (xr [xm 20 1,
xb 21 .shr (.tmp 20) (.const (.int .u64 32)),
xm 9 21])
(.seq (xr [xm 22 6,
xm 23 8,
xB 24 .mul 22 23,
xm 10 24])
(.seq (xr [xm 25 7,
xm 26 8,
xB 27 .mul 25 26,
xm 28 10,
xb 29 .shr (.tmp 28) (.const (.int .u64 32)),
xB 30 .add 27 29,
xm 11 30])
(.seq (xr [xm 31 11,
xb 32 .and (.tmp 31) (.const (.int .u64 4294967295)),
xm 12 32])
(.seq (xr [xm 33 11,
xb 34 .shr (.tmp 33) (.const (.int .u64 32)),
xm 13 34])
(.seq (xr [xm 35 12,
xm 36 6,
xm 37 9,
xB 38 .mul 36 37,
xB 39 .add 35 38,
xm 12 39])
(.seq (xr [xm 40 7,
xm 41 9,
xB 42 .mul 40 41,
xm 43 13,
xB 44 .add 42 43,
xm 45 12,
xb 46 .shr (.tmp 45) (.const (.int .u64 32)),
xB 47 .add 44 46,
xm 4 47])
(.seq (xr [xm 48 0,
xm 49 1,
xB 50 .mul 48 49,
xm 5 50])
.ret))))))))))),
[.tmp 4, .tmp 5], .pure, 51⟩
def ef116 : EFun := ⟨
.seq (xr [xi 4 (.move (.const (.slice none 0 0)))])
(.seq (xr [xm 13 0,
xn 14 13,
xb 15 .add (.tmp 14) (xk 1),
xi 16 (.makeSlice 1 8 [(.int .u64 0)] xq (.tmp 15)),
xm 5 16])
(.seq (xr [xi 6 (.move (.const (.int .u64 0)))])
(.seq (.seq (xr [xm 17 0,
xn 18 17,
xi 19 (.move xq)])
(.block 0 (.loop (some [1, 5, 6, 17, 18, 19]) (
.seq (xr [xB 20 .lss 19 18])
(.seq (.cond (.tmp 20) .skip
(.exit 0))
(.seq (.block 1 (.seq (xr [xa 21 17 19,
xl 22 21,
xm 8 22])
(.seq (xr [xm 24 8,
xm 25 1,
xc 26 115 [.tmp 24, .tmp 25],
xm 23 26,
xe 27 23 0,
xe 28 23 1,
xm 9 27,
xm 10 28])
(.seq (xr [xm 30 10,
xm 31 6,
xi 32 (.add64 (.tmp 30) (.tmp 31) (.const (.int .u64 0))),
xm 29 32,
xe 33 29 0,
xe 34 29 1,
xm 11 33,
xm 12 34])
(.seq (xr [xm 35 5,
xm 36 11,
xi 37 (.buildSlice 1 1 [(.int .u64 0)] [(0, 1, (.tmp 36))]),
xi 38 (.append 1 8 (.tmp 35) (.tmp 37)),
xm 5 38])
(xr [xm 39 9,
xm 40 12,
xB 41 .add 39 40,
xm 6 41]))))))
(xr [xb 42 .add (.tmp 19) (xk 1),
xm 19 42])))))))
(.seq (.seq (xr [xm 43 6,
xb 44 .gtr (.tmp 43) (.const (.int .u64 0))])
(.cond (.tmp 44) (xr [xm 45 5,
xm 46 6,
xi 47 (.buildSlice 1 1 [(.int .u64 0)] [(0, 1, (.tmp 46))]),
xi 48 (.append 1 8 (.tmp 45) (.tmp 47)),
xm 5 48])
.skip))
(.seq (xr [xm 49 5,
xm 4 49])
.ret))))),
[.tmp 4], .pure, 50⟩
def ef117 : EFun := ⟨
.seq (xr [xv 1 0,
xi 2 (.move xq)])
(.seq (.block 0 (.seq (xr [xf 4 0 1,
xl 5 4,
xc 6 94 [.tmp 5, (.const (.int .i64 (-1000000000000000))), (xk 1000000000000000)],
xi 7 (.un .not (.tmp 6)),
xm 8 7,
yf 9 1 1 8 false,
yl 10 9 8 false,
xg 11 (.call 94 [.tmp 10, (.const (.int .i64 (-1000000000000000))), (xk 1000000000000000)]) 8 false,
xg 12 (.un .not (.tmp 11)) 8 false,
xi 13 (.pick (.tmp 8) xT (.tmp 12)),
xm 3 13])
(.cond (.tmp 3) (.seq (xr [xi 2 (.move (xk 2))])
.ret)
(.seq (xr [xf 15 0 1,
xl 16 15,
xf 17 1 1,
xl 18 17,
xB 19 .gtr 16 18,
xm 14 19])
(.cond (.tmp 14) (.seq (xr [xi 2 (.move (xk 9))])
.ret)
.skip)))))
(.seq (xr [xi 2 (.move xq)])
.ret)),
[.tmp 2], .pure, 20⟩
end Go.Abs.M
