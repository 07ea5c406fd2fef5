--
import Derived.Test.YtllhkifkiabkbaaGreatDoorAbsWpM
import Derived.Test.YtllhkifkiabkbaaGreatDoorAbsNatM
import Derived.Test.YtllhkifkiabkbaaGreatDoorAbsNat3
set_option linter.unusedSimpArgs false
set_option linter.unusedVariables false
set_option maxRecDepth 100000
set_option maxHeartbeats 0
namespace Go.Abs.B
open Go Go.Abs
def glob:List Nat:=[0,3,4,2]
end Go.Abs.B
namespace Go.Abs.B
open Go Go.Abs
@[reducible,simp] def xi (d:Nat) (o:EOp):EOper:=⟨some d,o,none,[],false,false⟩
@[reducible,simp] def xg (d:Nat) (o:EOp) (g:Nat) (b:Bool):EOper:=⟨some d,o,some (g,b),[],false,false⟩
@[reducible,simp] def xm (d s:Nat):EOper:=⟨some d,.move (.tmp s),none,[],false,false⟩
@[reducible,simp] def xz:Value:=.int .i64 0
@[reducible,simp] def xr (l:List EOper):ECode:=.region false l
@[reducible,simp] def xR (l:List EOper):ECode:=.region true l
@[reducible,simp] def xl (d s:Nat):EOper:=⟨some d,.load false 1 (.tmp s),none,[],false,false⟩
@[reducible,simp] def xL (d n s:Nat):EOper:=⟨some d,.load true n (.tmp s),none,[],false,false⟩
@[reducible,simp] def xf (d o s:Nat):EOper:=⟨some d,.fieldAddr o (.tmp s),none,[],false,false⟩
@[reducible,simp] def xa (d a b:Nat):EOper:=⟨some d,.indexAddr none 1 (.tmp a) (.tmp b),none,[],false,false⟩
@[reducible,simp] def xn (d s:Nat):EOper:=⟨some d,.len false (.tmp s),none,[],false,false⟩
@[reducible,simp] def xb (d:Nat) (o:BinOp) (a b:Operand):EOper:=⟨some d,.bin o a b,none,[],false,false⟩
@[reducible,simp] def xB (d:Nat) (o:BinOp) (a b:Nat):EOper:=⟨some d,.bin o (.tmp a) (.tmp b),none,[],false,false⟩
@[reducible,simp] def xv (d s:Nat):EOper:=⟨some d,.box (.tmp s),none,[],false,false⟩
@[reducible,simp] def xe (d s i:Nat):EOper:=⟨some d,.extract (.tmp s) i,none,[],false,false⟩
@[reducible,simp] def xc (d f:Nat) (l:List Operand):EOper:=⟨some d,.call f l,none,[],false,false⟩
@[reducible,simp] def xC (d f:Nat) (l:List Operand):EOper:=⟨some d,.call f l,none,[],false,true⟩
@[reducible,simp] def xt (n a b:Nat):EOper:=⟨none,.store n (.tmp a) (.tmp b),none,[],false,false⟩
@[reducible,simp] def yl (d s g:Nat) (b:Bool):EOper:=⟨some d,.load false 1 (.tmp s),some (g,b),[],false,false⟩
@[reducible,simp] def yf (d o s g:Nat) (b:Bool):EOper:=⟨some d,.fieldAddr o (.tmp s),some (g,b),[],false,false⟩
@[reducible,simp] def ya (d a c g:Nat) (b:Bool):EOper:=⟨some d,.indexAddr none 1 (.tmp a) (.tmp c),some (g,b),[],false,false⟩
@[reducible,simp] def ym (d s g:Nat) (b:Bool):EOper:=⟨some d,.move (.tmp s),some (g,b),[],false,false⟩
@[reducible,simp] def yb (d:Nat) (o:BinOp) (a c:Operand) (g:Nat) (b:Bool):EOper:=⟨some d,.bin o a c,some (g,b),[],false,false⟩
@[reducible,simp] def xk (n:Int):Operand:=.const (.int .i64 n)
@[reducible,simp] def xq:Operand:=.const xz
@[reducible,simp] def xT:Operand:=.const (.bool true)
@[reducible,simp] def xF:Operand:=.const (.bool false)
end Go.Abs.B
set_option maxRecDepth 100000
set_option maxHeartbeats 0
namespace Go.Abs.B
open Go Go.Abs
def ef3:EFun:=⟨
.seq (xr [xv 2 0,
xi 4 (.move xF)])
(.seq (.seq (xr [xc 18 5 [],
xi 19 (.un .not (.tmp 18))])
(.cond (.tmp 19) (.seq (xr [xi 4 (.move xF)])
.ret)
.skip))
(.seq (.seq (xr [xL 20 3 2,
xc 21 6 [.tmp 20],
xi 22 (.un .not (.tmp 21)),
xm 23 22,
ym 24 1 23 false,
xg 25 (.len true (.tmp 24)) 23 false,
yb 26 .gtr (.tmp 25) (xk 600) 23 false,
ym 27 26 23 false,
ym 28 1 27 true,
xg 29 (.len true (.tmp 28)) 27 true,
yb 30 .leq (.tmp 29) (xk 60000) 27 true,
xg 31 (.pick (.tmp 27) (.tmp 30) xF) 23 false,
xi 32 (.pick (.tmp 23) xT (.tmp 31)),
xm 33 32,
ym 34 1 33 false,
xg 35 (.len true (.tmp 34)) 33 false,
yb 36 .gtr (.tmp 35) (xk 60100) 33 false,
xi 37 (.pick (.tmp 33) xT (.tmp 36))])
(.cond (.tmp 37) (.seq (xr [xi 4 (.move xT)])
.ret)
.skip))
(.seq (xr [xL 39 3 2,
xc 40 8 [.tmp 39],
xc 41 7 [.tmp 40],
xm 38 41,
xe 42 38 0,
xe 43 38 1,
xm 5 42,
xm 6 43])
(.seq (.seq (xr [xL 45 3 2,
xc 46 9 [.tmp 45],
xm 44 46,
xe 47 44 0,
xe 48 44 1,
xm 7 47,
xm 8 48])
(.seq (xr [xm 49 8,
xb 50 .neq (.tmp 49) xq])
(.cond (.tmp 50) (.seq (xr [xm 51 6,
xm 52 8,
xB 53 .neq 51 52,
xm 54 53,
ym 55 5 54 false,
yb 56 .neq (.tmp 55) (.const (.string ⟨#[]⟩)) 54 false,
xi 57 (.pick (.tmp 54) xT (.tmp 56))])
(.cond (.tmp 57) (.seq (xr [xi 4 (.move xF)])
.ret)
.skip))
(.seq (xr [xm 59 5,
xc 60 10 [.tmp 59],
xm 58 60,
xe 61 58 0,
xe 62 58 1,
xe 63 58 2,
xi 9 (.push [xz,(.slice none 0 0),(.slice none 0 0)]),
xt 3 9 61,
xm 10 62,
xm 11 63])
(.seq (xr [xm 64 6,
xb 65 .neq (.tmp 64) xq,
xm 66 65,
ym 67 5 66 false,
xg 68 (.load true 3 (.tmp 2)) 66 false,
xg 69 (.call 11 [.tmp 68]) 66 false,
yb 70 .neq (.tmp 67) (.tmp 69) 66 false,
xi 71 (.pick (.tmp 66) xT (.tmp 70)),
xm 72 71,
ym 73 11 72 false,
yb 74 .neq (.tmp 73) xq 72 false,
xi 75 (.pick (.tmp 72) xT (.tmp 74)),
xm 76 75,
ym 77 10 76 false,
yb 78 .neq (.tmp 77) xq 76 false,
xi 79 (.pick (.tmp 76) xT (.tmp 78)),
xm 80 79,
xg 81 (.load true 3 (.tmp 9)) 80 false,
xg 82 (.load true 3 (.tmp 2)) 80 false,
xg 83 (.call 12 [.tmp 81,.tmp 82]) 80 false,
xg 84 (.un .not (.tmp 83)) 80 false,
xi 85 (.pick (.tmp 80) xT (.tmp 84))])
(.cond (.tmp 85) (.seq (xr [xi 4 (.move xF)])
.ret)
.skip))))))
(.seq (xr [xm 87 1,
xc 88 10 [.tmp 87],
xm 86 88,
xe 89 86 0,
xe 90 86 1,
xe 91 86 2,
xi 12 (.push [xz,(.slice none 0 0),(.slice none 0 0)]),
xt 3 12 89,
xm 13 90,
xm 14 91])
(.seq (xr [xm 93 1,
xc 94 13 [.tmp 93],
xm 92 94,
xe 95 92 0,
xe 96 92 1,
xe 97 92 2,
xi 15 (.push [xz,(.slice none 0 0),(.slice none 0 0)]),
xt 3 15 95,
xm 16 96,
xm 17 97])
(.seq (xr [xm 98 14,
xm 99 17,
xB 100 .eql 98 99,
xm 101 100,
ym 102 13 101 true,
ym 103 16 101 true,
yb 104 .eql (.tmp 102) (.tmp 103) 101 true,
xi 105 (.pick (.tmp 101) (.tmp 104) xF),
xm 106 105,
xg 107 (.load true 3 (.tmp 12)) 106 true,
xg 108 (.load true 3 (.tmp 15)) 106 true,
xg 109 (.call 12 [.tmp 107,.tmp 108]) 106 true,
xi 110 (.pick (.tmp 106) (.tmp 109) xF),
xm 4 110])
.ret))))))),
[.tmp 4],.pure,111⟩
def ef5:EFun:=⟨
.seq (xr [xi 0 (.move xF)])
(.seq (xr [xi 9 (.build [xz,xz] [(0,1,(xk 440000)),(1,1,(xk 440000))]),
xi 1 (.push [xz,xz]),
xt 2 1 9])
(.seq (xR [xC 11 30 [],
xC 12 31 [],
xL 13 2 1,
xC 14 29 [.tmp 11,.tmp 12,.tmp 13],
xm 10 14,
xe 15 10 0,
xe 16 10 1,
xi 2 (.push [xz,xz]),
xt 2 2 15,
xm 3 16])
(.seq (xR [xC 18 30 [],
xC 19 31 [],
xL 20 2 1,
xC 21 32 [.tmp 18,.tmp 19,.tmp 20],
xm 17 21,
xe 22 17 0,
xe 23 17 1,
xi 4 (.push [xz,xz]),
xt 2 4 22,
xm 5 23])
(.seq (xr [xi 25 (.build [xz,xz] [(0,1,(xk 1000)),(1,1,(xk 2000))]),
xi 26 (.build [xz,xz] [(0,1,(xk 1500)),(1,1,(xk 1800))]),
xi 27 (.buildSlice 2 2 [xz,xz,xz,xz] [(0,2,(.tmp 25)),(2,2,(.tmp 26))]),
xi 28 (.build [xz,xz] [(1,1,(xk 100))]),
xc 29 33 [.tmp 27,.tmp 28],
xm 24 29,
xe 30 24 0,
xe 31 24 1,
xe 32 24 2,
xm 6 30,
xm 7 31,
xm 8 32])
(.seq (xr [xm 33 3,
xb 34 .eql (.tmp 33) xq,
xm 35 34,
xg 36 (.load true 2 (.tmp 2)) 35 true,
xg 37 (.build [xz,xz] [(0,1,(xk 76389)),(1,1,(xk 76390))]) 35 true,
xg 38 (.eqAgg false [(.int .i64),(.int .i64)] (.tmp 36) (.tmp 37)) 35 true,
xi 39 (.pick (.tmp 35) (.tmp 38) xF),
xm 40 39,
ym 41 5 40 true,
yb 42 .eql (.tmp 41) xq 40 true,
xi 43 (.pick (.tmp 40) (.tmp 42) xF),
xm 44 43,
xg 45 (.load true 2 (.tmp 4)) 44 true,
xg 46 (.build [xz,xz] [(0,1,(xk 793624)),(1,1,(xk 793636))]) 44 true,
xg 47 (.eqAgg false [(.int .i64),(.int .i64)] (.tmp 45) (.tmp 46)) 44 true,
xi 48 (.pick (.tmp 44) (.tmp 47) xF),
xm 49 48,
ym 50 8 49 true,
yb 51 .eql (.tmp 50) xq 49 true,
xi 52 (.pick (.tmp 49) (.tmp 51) xF),
xm 53 52,
ym 54 6 53 true,
xg 55 (.buildSlice 1 2 [xz,xz] [(0,1,(xk 1900)),(1,1,(xk 1800))]) 53 true,
xg 56 (.call 34 [.tmp 54,.tmp 55]) 53 true,
xi 57 (.pick (.tmp 53) (.tmp 56) xF),
xm 0 57])
.ret))))),
[.tmp 0],.pure,58⟩
def ef6:EFun:=⟨
.seq (xr [xv 1 0,
xi 2 (.move xF)])
(.seq (.seq (xr [xf 4 1 1,
xl 5 4,
xc 6 35 [.tmp 5],
xi 7 (.un .not (.tmp 6)),
xm 8 7,
yf 9 2 1 8 false,
yl 10 9 8 false,
xg 11 (.len false (.tmp 10)) 8 false,
yb 12 .gtr (.tmp 11) (xk 6) 8 false,
xi 13 (.pick (.tmp 8) xT (.tmp 12))])
(.cond (.tmp 13) (.seq (xr [xi 2 (.move xF)])
.ret)
.skip))
(.seq (.seq (xr [xi 3 (.move xq)])
(.block 0 (.loop (some [1,3]) (
.seq (.seq (xr [xm 14 3,
xf 15 2 1,
xl 16 15,
xn 17 16,
xB 18 .lss 14 17])
(.cond (.tmp 18) .skip
(.exit 0)))
(.seq (.block 1 (.seq (xr [xf 21 2 1,
xl 22 21,
xm 23 3,
xi 24 (.indexAddr none 10 (.tmp 22) (.tmp 23)),
xf 25 5 24,
xL 26 5 25,
xc 27 36 [.tmp 26],
xi 28 (.un .not (.tmp 27))])
(.cond (.tmp 28) (.seq (xr [xi 2 (.move xF)])
.ret)
.skip)))
(xr [xm 19 3,
xb 20 .add (.tmp 19) (xk 1),
xm 3 20]))))))
(.seq (xr [xi 2 (.move xT)])
.ret))),
[.tmp 2],.pure,29⟩
def ef8:EFun:=⟨
.seq (xr [xv 1 0,
xi 2 (.push [xz,(.slice none 0 0),(.slice none 0 0)])])
(.seq (xr [xi 3 (.buildSlice 4 0 [] []),
xf 4 1 1,
xl 5 4,
xi 6 (.append 4 40 (.tmp 3) (.tmp 5)),
xf 7 1 1,
xt 1 7 6])
(.seq (xr [xi 8 (.buildSlice 10 0 [] []),
xf 9 2 1,
xl 10 9,
xi 11 (.append 10 96 (.tmp 8) (.tmp 10)),
xf 12 2 1,
xt 1 12 11])
(.seq (xr [xL 13 3 1,
xt 3 2 13])
.ret))),
[.cell 2 true 3],.pure,14⟩
def ef9:EFun:=⟨
.seq (xr [xv 1 0,
xi 2 (.move xq),
xi 3 (.move xq)])
(.seq (.seq (xr [xf 7 0 1,
xl 8 7,
xc 9 41 [.tmp 8,(xk 1000),(xk 10000000)],
xi 10 (.un .not (.tmp 9))])
(.cond (.tmp 10) (.seq (xr [xi 2 (.move xq),
xi 3 (.move (xk 2))])
.ret)
.skip))
(.seq (.seq (xr [xf 11 1 1,
xl 12 11,
xc 13 42 [.tmp 12],
xm 4 13])
(.seq (xr [xm 14 4,
xb 15 .neq (.tmp 14) xq])
(.cond (.tmp 15) (.seq (xr [xm 16 4,
xi 2 (.move xq),
xm 3 16])
.ret)
.skip)))
(.seq (.seq (xr [xf 17 2 1,
xl 18 17,
xn 19 18,
xb 20 .gtr (.tmp 19) (xk 90)])
(.cond (.tmp 20) (.seq (xr [xi 2 (.move xq),
xi 3 (.move (xk 8))])
.ret)
.skip))
(.seq (.seq (xr [xi 5 (.move xq)])
(.block 0 (.loop (some [1,5]) (
.seq (.seq (xr [xm 21 5,
xf 22 2 1,
xl 23 22,
xn 24 23,
xB 25 .lss 21 24])
(.cond (.tmp 25) .skip
(.exit 0)))
(.seq (.block 1 (.seq (xr [xL 28 3 1,
xm 29 5,
xc 30 43 [.tmp 28,.tmp 29],
xm 6 30])
(.seq (xr [xm 31 6,
xb 32 .neq (.tmp 31) xq])
(.cond (.tmp 32) (.seq (xr [xm 33 5,
xm 34 6,
xm 2 33,
xm 3 34])
.ret)
.skip))))
(xr [xm 26 5,
xb 27 .add (.tmp 26) (xk 1),
xm 5 27]))))))
(.seq (xr [xi 2 (.move xq),
xi 3 (.move xq)])
.ret))))),
[.tmp 2,.tmp 3],.pure,35⟩
def ef10:EFun:=⟨
.seq (xr [xi 2 (.push [xz,(.slice none 0 0),(.slice none 0 0)]),
xi 3 (.push [xz]),
xi 4 (.push [xz])])
(.seq (.seq (xr [xm 12 0,
xi 13 (.len true (.tmp 12)),
xb 14 .gtr (.tmp 13) (xk 60000)])
(.cond (.tmp 14) (.seq (xr [xi 15 (.build [xz,(.slice none 0 0),(.slice none 0 0)] []),
xt 3 2 15,
⟨none,.store 1 (.tmp 3) xq,none,[],false,false⟩,
⟨none,.store 1 (.tmp 4) (xk 8),none,[],false,false⟩])
.ret)
.skip))
(.seq (xr [xi 5 (.push [xz,(.slice none 0 0),(.slice none 0 0)])])
(.seq (xr [xi 6 (.push [xz]),
⟨none,.store 1 (.tmp 6) xq,none,[],false,false⟩])
(.seq (.seq (xr [xm 16 0,
xc 17 44 [.tmp 16]])
(.block 0 (.rangeF (.tmp 17) 10 0 true [2,3,4,5,6] [18]
(xr [xm 7 18])
(.block 1 (.seq (xr [xm 20 7,
xi 21 (.call 45 [.tmp 20,(.const (.string ⟨#[10]⟩))]),
xm 19 21,
xe 22 19 0,
xe 23 19 1,
xm 8 22,
xm 9 23])
(.seq (.seq (xR [xm 24 9,
xi 25 (.un .not (.tmp 24)),
xm 26 25,
ym 27 8 26 false,
⟨(some 28),.call 47 [.tmp 27,(.const (.string ⟨#[32]⟩))],(some (26,false)),[],false,true⟩,
yl 29 6 26 false,
xg 30 (.call 46 [.tmp 5,.tmp 28,.tmp 29]) 26 false,
xg 31 (.un .not (.tmp 30)) 26 false,
xi 32 (.pick (.tmp 26) xT (.tmp 31))])
(.cond (.tmp 32) (.seq (xR [xi 33 (.build [xz,(.slice none 0 0),(.slice none 0 0)] []),
⟨(some 34),.load false 1 (.tmp 6),none,[],true,false⟩,
xb 35 .add (.tmp 34) (xk 1),
⟨none,.store 3 (.tmp 2) (.tmp 33),none,[1],false,false⟩,
xt 1 3 35,
⟨none,.store 1 (.tmp 4) (xk 7),none,[],false,false⟩])
.ret)
.skip))
(xr [xl 36 6,
xb 37 .add (.tmp 36) (xk 1),
xt 1 6 37])))))))
(.seq (.seq (xr [xl 38 6,
xb 39 .eql (.tmp 38) xq])
(.cond (.tmp 39) (.seq (xr [xi 40 (.build [xz,(.slice none 0 0),(.slice none 0 0)] []),
xt 3 2 40,
⟨none,.store 1 (.tmp 3) (xk 1),none,[],false,false⟩,
⟨none,.store 1 (.tmp 4) (xk 7),none,[],false,false⟩])
.ret)
.skip))
(.seq (.seq (xr [xL 42 3 5,
xc 43 37 [.tmp 42],
xm 41 43,
xe 44 41 0,
xe 45 41 1,
xm 10 44,
xm 11 45])
(.seq (xr [xm 46 11,
xb 47 .neq (.tmp 46) xq])
(.cond (.tmp 47) (.seq (xr [xi 48 (.build [xz,(.slice none 0 0),(.slice none 0 0)] []),
xm 49 11,
xt 3 2 48,
⟨none,.store 1 (.tmp 3) xq,none,[],false,false⟩,
xt 1 4 49])
.ret)
.skip)))
(.seq (xr [xL 50 3 5,
xt 3 2 50,
⟨none,.store 1 (.tmp 3) xq,none,[],false,false⟩,
⟨none,.store 1 (.tmp 4) xq,none,[],false,false⟩])
.ret))))))),
[.cell 2 true 3,.cell 3 false 1,.cell 4 false 1],.pure,51⟩
def ef11:EFun:=⟨
.seq (xr [xv 1 0,
xi 2 (.move (.const (.string ⟨#[]⟩)))])
(.seq (xr [xf 9 0 1,
xl 10 9,
xi 11 (.buildSlice 1 1 [xz] [(0,1,(.tmp 10))]),
xi 12 (.call 48 [(.const (.string ⟨#[102,111,114,107]⟩)),(.tmp 11)]),
xb 13 .add (.tmp 12) (.const (.string ⟨#[10]⟩)),
xm 3 13])
(.seq (.seq (xr [xi 4 (.move xq)])
(.block 0 (.loop (some [1,3,4]) (
.seq (.seq (xr [xm 14 4,
xf 15 1 1,
xl 16 15,
xn 17 16,
xB 18 .lss 14 17])
(.cond (.tmp 18) .skip
(.exit 0)))
(.seq (.block 1 (.seq (xr [xf 21 1 1,
xl 22 21,
xm 23 4,
xi 24 (.indexAddr none 4 (.tmp 22) (.tmp 23)),
xL 25 4 24,
xi 5 (.push [(.string ⟨#[]⟩),xz,xz,xz]),
xt 4 5 25])
(xr [xm 26 3,
xf 27 0 5,
xl 28 27,
xb 29 .add (.const (.string ⟨#[119,105,114,101,32]⟩)) (.tmp 28),
xf 30 1 5,
xl 31 30,
xf 32 2 5,
xl 33 32,
xf 34 3 5,
xl 35 34,
xi 36 (.buildSlice 1 3 [xz,xz,xz] [(0,1,(.tmp 31)),(1,1,(.tmp 33)),(2,1,(.tmp 35))]),
xc 37 48 [.tmp 29,.tmp 36],
xB 38 .add 26 37,
xb 39 .add (.tmp 38) (.const (.string ⟨#[10]⟩)),
xm 3 39])))
(xr [xm 19 4,
xb 20 .add (.tmp 19) (xk 1),
xm 4 20]))))))
(.seq (.seq (xr [xi 6 (.move xq)])
(.block 2 (.loop (some [1,3,6]) (
.seq (.seq (xr [xm 40 6,
xf 41 2 1,
xl 42 41,
xn 43 42,
xB 44 .lss 40 43])
(.cond (.tmp 44) .skip
(.exit 2)))
(.seq (.block 3 (.seq (xr [xf 47 2 1,
xl 48 47,
xm 49 6,
xi 50 (.indexAddr none 10 (.tmp 48) (.tmp 49)),
xL 51 10 50,
xi 7 (.push [xz,xz,xz,xz,xz,xz,xz,xz,(.string ⟨#[]⟩),(.string ⟨#[]⟩)]),
xt 10 7 51])
(.seq (xr [xf 52 5 7,
xf 53 4 52,
xl 54 53,
xm 8 54])
(.seq (.seq (xr [xm 55 8,
xb 56 .eql (.tmp 55) (.const (.string ⟨#[]⟩))])
(.cond (.tmp 56) (xr [xi 8 (.move (.const (.string ⟨#[45]⟩)))])
.skip))
(xR [xm 57 3,
xf 58 0 7,
xf 59 0 58,
xl 60 59,
xf 61 0 7,
xf 62 1 61,
xl 63 62,
xf 64 0 7,
xf 65 2 64,
xl 66 65,
xf 67 0 7,
xf 68 3 67,
xl 69 68,
xf 70 4 7,
xl 71 70,
xf 72 5 7,
xf 73 0 72,
xl 74 73,
xf 75 5 7,
xf 76 1 75,
xl 77 76,
xf 78 5 7,
xf 79 2 78,
xl 80 79,
xi 81 (.buildSlice 1 8 (List.replicate 8 xz) [(0,1,(.tmp 60)),(1,1,(.tmp 63)),(2,1,(.tmp 66)),(3,1,(.tmp 69)),(4,1,(.tmp 71)),(5,1,(.tmp 74)),(6,1,(.tmp 77)),(7,1,(.tmp 80))]),
⟨(some 82),.call 48 [(.const (.string ⟨#[117,110,105,115,111,110]⟩)),(.tmp 81)],none,[],false,true⟩,
xB 83 .add 57 82,
xb 84 .add (.tmp 83) (.const (.string ⟨#[32]⟩)),
xf 85 5 7,
xf 86 3 85,
xl 87 86,
xB 88 .add 84 87,
xb 89 .add (.tmp 88) (.const (.string ⟨#[32]⟩)),
xm 90 8,
xB 91 .add 89 90,
xb 92 .add (.tmp 91) (.const (.string ⟨#[10]⟩)),
xm 3 92])))))
(xr [xm 45 6,
xb 46 .add (.tmp 45) (xk 1),
xm 6 46]))))))
(.seq (xr [xm 93 3,
xm 2 93])
.ret)))),
[.tmp 2],.pure,94⟩
def ef12:EFun:=⟨
.seq (xr [xv 2 0,
xv 3 1,
xi 4 (.move xF)])
(.seq (.seq (xr [xf 7 0 2,
xl 8 7,
xf 9 0 3,
xl 10 9,
xB 11 .neq 8 10,
xm 12 11,
yf 13 1 2 12 false,
yl 14 13 12 false,
xg 15 (.len false (.tmp 14)) 12 false,
yf 16 1 3 12 false,
yl 17 16 12 false,
xg 18 (.len false (.tmp 17)) 12 false,
yb 19 .neq (.tmp 15) (.tmp 18) 12 false,
xi 20 (.pick (.tmp 12) xT (.tmp 19)),
xm 21 20,
yf 22 2 2 21 false,
yl 23 22 21 false,
xg 24 (.len false (.tmp 23)) 21 false,
yf 25 2 3 21 false,
yl 26 25 21 false,
xg 27 (.len false (.tmp 26)) 21 false,
yb 28 .neq (.tmp 24) (.tmp 27) 21 false,
xi 29 (.pick (.tmp 21) xT (.tmp 28))])
(.cond (.tmp 29) (.seq (xr [xi 4 (.move xF)])
.ret)
.skip))
(.seq (.seq (xr [xi 5 (.move xq)])
(.block 0 (.loop (some [2,3,5]) (
.seq (.seq (xr [xm 30 5,
xf 31 1 2,
xl 32 31,
xn 33 32,
xB 34 .lss 30 33])
(.cond (.tmp 34) .skip
(.exit 0)))
(.seq (.block 1 (.seq (xR [xf 37 1 2,
xl 38 37,
xm 39 5,
xi 40 (.indexAddr none 4 (.tmp 38) (.tmp 39)),
xL 41 4 40,
xf 42 1 3,
xl 43 42,
xm 44 5,
xi 45 (.indexAddr none 4 (.tmp 43) (.tmp 44)),
xL 46 4 45,
xi 47 (.eqAgg true [.str,(.int .i64),(.int .i64),(.int .i64)] (.tmp 41) (.tmp 46))])
(.cond (.tmp 47) (.seq (xr [xi 4 (.move xF)])
.ret)
.skip)))
(xr [xm 35 5,
xb 36 .add (.tmp 35) (xk 1),
xm 5 36]))))))
(.seq (.seq (xr [xi 6 (.move xq)])
(.block 2 (.loop (some [2,3,6]) (
.seq (.seq (xr [xm 48 6,
xf 49 2 2,
xl 50 49,
xn 51 50,
xB 52 .lss 48 51])
(.cond (.tmp 52) .skip
(.exit 2)))
(.seq (.block 3 (.seq (xR [xf 55 2 2,
xl 56 55,
xm 57 6,
xi 58 (.indexAddr none 10 (.tmp 56) (.tmp 57)),
xL 59 10 58,
xf 60 2 3,
xl 61 60,
xm 62 6,
xi 63 (.indexAddr none 10 (.tmp 61) (.tmp 62)),
xL 64 10 63,
xi 65 (.eqAgg true [(.int .i64),(.int .i64),(.int .i64),(.int .i64),(.int .i64),(.int .i64),(.int .i64),(.int .i64),.str,.str] (.tmp 59) (.tmp 64))])
(.cond (.tmp 65) (.seq (xr [xi 4 (.move xF)])
.ret)
.skip)))
(xr [xm 53 6,
xb 54 .add (.tmp 53) (xk 1),
xm 6 54]))))))
(.seq (xr [xi 4 (.move xT)])
.ret)))),
[.tmp 4],.pure,66⟩
def ef13:EFun:=⟨
.seq (xr [xi 2 (.push [xz,(.slice none 0 0),(.slice none 0 0)]),
xi 3 (.move xq),
xi 4 (.move xq)])
(.seq (.seq (xr [xm 11 0,
xi 12 (.len true (.tmp 11)),
xb 13 .gtr (.tmp 12) (xk 60000)])
(.cond (.tmp 13) (.seq (xr [xi 14 (.build [xz,(.slice none 0 0),(.slice none 0 0)] []),
xt 3 2 14,
xi 3 (.move xq),
xi 4 (.move (xk 8))])
.ret)
.skip))
(.seq (xr [xm 15 0,
xc 16 49 [.tmp 15,(.const (.int .u8 10))],
xm 5 16])
(.seq (xr [xm 17 5,
xn 18 17,
xb 19 .sub (.tmp 18) (xk 1),
xm 6 19])
(.seq (xr [xi 7 (.push [xz,(.slice none 0 0),(.slice none 0 0)])])
(.seq (.seq (xr [xi 8 (.move xq)])
(.block 0 (.loop (some [2,5,6,7,8]) (
.seq (.seq (xr [xm 20 8,
xm 21 6,
xB 22 .lss 20 21])
(.cond (.tmp 22) .skip
(.exit 0)))
(.seq (.block 1 (.seq (xr [xm 25 5,
xm 26 8,
xa 27 25 26,
xl 28 27,
xm 29 8,
xc 30 50 [.tmp 7,.tmp 28,.tmp 29],
xi 31 (.un .not (.tmp 30))])
(.cond (.tmp 31) (.seq (xr [xi 32 (.build [xz,(.slice none 0 0),(.slice none 0 0)] []),
xm 33 8,
xb 34 .add (.tmp 33) (xk 1),
xt 3 2 32,
xm 3 34,
xi 4 (.move (xk 7))])
.ret)
.skip)))
(xr [xm 23 8,
xb 24 .add (.tmp 23) (xk 1),
xm 8 24]))))))
(.seq (.seq (xr [xm 35 5,
xm 36 6,
xa 37 35 36,
xl 38 37,
xb 39 .neq (.tmp 38) (.const (.string ⟨#[]⟩)),
xm 40 39,
ym 41 6 40 false,
yb 42 .eql (.tmp 41) xq 40 false,
xi 43 (.pick (.tmp 40) xT (.tmp 42))])
(.cond (.tmp 43) (.seq (xr [xi 44 (.build [xz,(.slice none 0 0),(.slice none 0 0)] []),
xm 45 6,
xb 46 .add (.tmp 45) (xk 1),
xt 3 2 44,
xm 3 46,
xi 4 (.move (xk 7))])
.ret)
.skip))
(.seq (.seq (xr [xL 48 3 7,
xc 49 9 [.tmp 48],
xm 47 49,
xe 50 47 0,
xe 51 47 1,
xm 9 50,
xm 10 51])
(.seq (xr [xm 52 10,
xb 53 .neq (.tmp 52) xq])
(.cond (.tmp 53) (.seq (xr [xi 54 (.build [xz,(.slice none 0 0),(.slice none 0 0)] []),
xm 55 10,
xt 3 2 54,
xi 3 (.move xq),
xm 4 55])
.ret)
.skip)))
(.seq (xr [xL 56 3 7,
xt 3 2 56,
xi 3 (.move xq),
xi 4 (.move xq)])
.ret)))))))),
[.cell 2 true 3,.tmp 3,.tmp 4],.full,57⟩
def ef29:EFun:=⟨
.seq (xr [xv 4 1,
xv 5 2,
xi 6 (.push [xz,xz]),
xi 7 (.move xq)])
(.seq (xr [xm 11 0,
xL 12 5 4,
xL 13 2 5,
xc 14 63 [.tmp 11,.tmp 12,.tmp 13],
xm 10 14,
xe 15 10 0,
xe 16 10 1,
xi 8 (.push [(.string ⟨#[]⟩),xz,xz,xz,xz,xz,xz,(.string ⟨#[]⟩),(.string ⟨#[]⟩),xz,xz,xz,xz]),
xt 13 8 15,
xm 9 16])
(.seq (xr [xf 17 11 8,
xL 18 2 17,
xm 19 9,
xt 2 6 18,
xm 7 19])
.ret)),
[.cell 6 true 2,.tmp 7],.pure,20⟩
def ef30:EFun:=⟨
.seq (xr [xi 0 (.move (.const (.slice none 0 0)))])
(.seq (xr [xi 1 (.build [(.string ⟨#[]⟩),xz,xz,xz] [(0,1,(.const (.string ⟨#[115,116,101,101,108]⟩))),(1,1,(xk 24661)),(2,1,(xk 180000)),(3,1,(xk 97000000))]),
xi 2 (.buildSlice 4 1 [(.string ⟨#[]⟩),xz,xz,xz] [(0,4,(.tmp 1))]),
xm 0 2])
.ret),
[.tmp 0],.pure,3⟩
def ef31:EFun:=⟨
.seq (xr [xi 0 (.push [xz,xz,xz,(.string ⟨#[]⟩),(.string ⟨#[]⟩)])])
(.seq (xr [xi 1 (.build [xz,xz,xz,(.string ⟨#[]⟩),(.string ⟨#[]⟩)] [(0,1,(xk 40000)),(1,1,(xk 1000)),(3,1,(.const (.string ⟨#[115,116,101,101,108]⟩)))]),
xt 5 0 1])
.ret),
[.cell 0 true 5],.pure,2⟩
def ef32:EFun:=⟨
.seq (xr [xv 4 1,
xv 5 2,
xi 6 (.push [xz,xz]),
xi 7 (.move xq)])
(.seq (xr [xm 11 0,
xL 12 5 4,
xL 13 2 5,
xc 14 63 [.tmp 11,.tmp 12,.tmp 13],
xm 10 14,
xe 15 10 0,
xe 16 10 1,
xi 8 (.push [(.string ⟨#[]⟩),xz,xz,xz,xz,xz,xz,(.string ⟨#[]⟩),(.string ⟨#[]⟩),xz,xz,xz,xz]),
xt 13 8 15,
xm 9 16])
(.seq (.seq (xr [xm 17 9,
xb 18 .neq (.tmp 17) xq])
(.cond (.tmp 18) (.seq (xr [xi 19 (.build [xz,xz] []),
xm 20 9,
xt 2 6 19,
xm 7 20])
.ret)
.skip))
(.seq (xr [xL 21 13 8,
xc 22 64 [.tmp 21],
xe 23 22 0,
xe 24 22 1,
xt 2 6 23,
xm 7 24])
.ret))),
[.cell 6 true 2,.tmp 7],.pure,25⟩
def ef33:EFun:=⟨
.seq (xr [xv 3 1,
xi 4 (.move (.const (.slice none 0 0))),
xi 5 (.move (.const (.slice none 0 0))),
xi 6 (.move xq)])
(.seq (xr [xm 17 0,
xL 18 2 3,
xc 19 65 [.tmp 17,.tmp 18],
xm 16 19,
xe 20 16 0,
xe 21 16 1,
xm 7 20,
xm 8 21])
(.seq (.seq (xr [xm 22 8,
xb 23 .neq (.tmp 22) xq])
(.cond (.tmp 23) (.seq (xr [xm 24 8,
xi 4 (.move (.const (.slice none 0 0))),
xi 5 (.move (.const (.slice none 0 0))),
xm 6 24])
.ret)
.skip))
(.seq (.seq (xr [xm 26 0,
xn 27 26,
xb 28 .add (.tmp 27) (xk 1),
xm 29 7,
xc 30 66 [.tmp 28,.tmp 29],
xm 25 30,
xe 31 25 0,
xe 32 25 1,
xe 33 25 2,
xm 9 31,
xm 10 32,
xm 11 33])
(.seq (xr [xm 34 11,
xb 35 .neq (.tmp 34) xq])
(.cond (.tmp 35) (.seq (xr [xm 36 10,
xm 37 11,
xi 4 (.move (.const (.slice none 0 0))),
xm 5 36,
xm 6 37])
.ret)
.skip)))
(.seq (xr [xi 12 (.move (.const (.slice none 0 0)))])
(.seq (.seq (xr [xm 38 0,
xn 39 38,
xi 40 (.move xq)])
(.block 0 (.loop (some [3,12,38,39,40]) (
.seq (xr [xB 41 .lss 40 39])
(.seq (.cond (.tmp 41) .skip
(.exit 0))
(.seq (.block 1 (.seq (xr [xi 42 (.indexAddr none 2 (.tmp 38) (.tmp 40)),
xL 43 2 42,
xi 14 (.push [xz,xz]),
xt 2 14 43])
(xr [xm 44 12,
xf 45 1 14,
xl 46 45,
xi 47 (.buildSlice 1 1 [xz] [(0,1,(.tmp 46))]),
xi 48 (.append 1 8 (.tmp 44) (.tmp 47)),
xm 12 48])))
(xr [xb 49 .add (.tmp 40) (xk 1),
xm 40 49])))))))
(.seq (.seq (xr [xm 50 12,
xn 51 50,
xi 52 (.move xq)])
(.block 2 (.loop (some [3,12,51,52]) (
.seq (xr [xB 53 .lss 52 51])
(.seq (.cond (.tmp 53) .skip
(.exit 2))
(.seq (.block 3 (.seq (xr [xi 15 (.move (xk 1))])
(.block 4 (.loop (some [3,12,15,51,52]) (
.seq (.seq (xr [xm 54 15,
xm 55 12,
xn 56 55,
xB 57 .lss 54 56])
(.cond (.tmp 57) .skip
(.exit 4)))
(.seq (.block 5 (.seq (xR [xm 60 12,
xm 61 15,
xm 62 12,
xm 63 15,
xa 64 62 63,
xl 65 64,
xm 66 12,
xm 67 15,
xb 68 .sub (.tmp 67) (xk 1),
xa 69 66 68,
xl 70 69,
xf 71 0 3,
xl 72 71,
xB 73 .sub 70 72,
xi 74 (.min [.tmp 65,.tmp 73]),
xa 75 60 61,
xt 1 75 74])
(xR [xm 76 12,
xm 77 15,
xb 78 .sub (.tmp 77) (xk 1),
xm 79 12,
xm 80 15,
xb 81 .sub (.tmp 80) (xk 1),
xa 82 79 81,
xl 83 82,
xm 84 12,
xm 85 15,
xa 86 84 85,
xl 87 86,
xf 88 1 3,
xl 89 88,
xB 90 .add 87 89,
xi 91 (.min [.tmp 83,.tmp 90]),
xa 92 76 78,
xt 1 92 91])))
(xr [xm 58 15,
xb 59 .add (.tmp 58) (xk 1),
xm 15 59])))))))
(xr [xb 93 .add (.tmp 52) (xk 1),
xm 52 93])))))))
(.seq (xr [xm 94 12,
xm 4 94,
xi 5 (.move (.const (.slice none 0 0))),
xi 6 (.move xq)])
.ret))))))),
[.tmp 4,.tmp 5,.tmp 6],.pure,95⟩
def ef34:EFun:=⟨
.seq (xr [xi 4 (.move xF)])
(.seq (.seq (xr [xm 6 0,
xn 7 6,
xm 8 1,
xn 9 8,
xB 10 .neq 7 9])
(.cond (.tmp 10) (.seq (xr [xi 4 (.move xF)])
.ret)
.skip))
(.seq (.seq (xr [xi 5 (.move xq)])
(.block 0 (.loop (some [0,1,5]) (
.seq (.seq (xr [xm 11 5,
xm 12 0,
xn 13 12,
xB 14 .lss 11 13])
(.cond (.tmp 14) .skip
(.exit 0)))
(.seq (.block 1 (.seq (xR [xm 17 0,
xm 18 5,
xa 19 17 18,
xl 20 19,
xm 21 1,
xm 22 5,
xa 23 21 22,
xl 24 23,
xB 25 .neq 20 24])
(.cond (.tmp 25) (.seq (xr [xi 4 (.move xF)])
.ret)
.skip)))
(xr [xm 15 5,
xb 16 .add (.tmp 15) (xk 1),
xm 5 16]))))))
(.seq (xr [xi 4 (.move xT)])
.ret))),
[.tmp 4],.pure,26⟩
def ef35:EFun:=⟨
.seq (xr [xi 2 (.move xF)])
(.seq (.seq (xr [xm 4 0,
xn 5 4,
xb 6 .gtr (.tmp 5) (xk 6),
xm 7 6,
ym 8 0 7 true,
xg 9 (.len false (.tmp 8)) 7 true,
yb 10 .leq (.tmp 9) (xk 20) 7 true,
xi 11 (.pick (.tmp 7) (.tmp 10) xF),
xm 12 11,
ym 13 0 12 false,
xg 14 (.len false (.tmp 13)) 12 false,
yb 15 .gtr (.tmp 14) (xk 23) 12 false,
xi 16 (.pick (.tmp 12) xT (.tmp 15))])
(.cond (.tmp 16) (.seq (xr [xi 2 (.move xF)])
.ret)
.skip))
(.seq (.seq (xr [xi 3 (.move xq)])
(.block 0 (.loop (some [0,3]) (
.seq (.seq (xr [xm 17 3,
xm 18 0,
xn 19 18,
xB 20 .lss 17 19])
(.cond (.tmp 20) .skip
(.exit 0)))
(.seq (.block 1 (.seq (xr [xm 23 0,
xm 24 3,
xi 25 (.indexAddr none 4 (.tmp 23) (.tmp 24)),
xf 26 0 25,
xl 27 26,
xi 28 (.len true (.tmp 27)),
xb 29 .gtr (.tmp 28) (xk 20)])
(.cond (.tmp 29) (.seq (xr [xi 2 (.move xF)])
.ret)
.skip)))
(xr [xm 21 3,
xb 22 .add (.tmp 21) (xk 1),
xm 3 22]))))))
(.seq (xr [xi 2 (.move xT)])
.ret))),
[.tmp 2],.pure,30⟩
def ef36:EFun:=⟨
.seq (xr [xv 1 0,
xi 2 (.move xF)])
(.seq (xr [xf 3 3 1,
xl 4 3,
xi 5 (.len true (.tmp 4)),
xb 6 .leq (.tmp 5) (xk 20),
xm 7 6,
yf 8 4 1 7 true,
yl 9 8 7 true,
xg 10 (.len true (.tmp 9)) 7 true,
yb 11 .leq (.tmp 10) (xk 20) 7 true,
xi 12 (.pick (.tmp 7) (.tmp 11) xF),
xm 2 12])
.ret),
[.tmp 2],.pure,13⟩
def ef37:EFun:=⟨
.seq (xr [xv 1 0,
xi 2 (.move xq),
xi 3 (.move xq)])
(.seq (.seq (xr [xf 7 0 1,
xl 8 7,
xc 9 67 [.tmp 8,(xk 1000),(xk 10000000)],
xi 10 (.un .not (.tmp 9))])
(.cond (.tmp 10) (.seq (xr [xi 2 (.move xq),
xi 3 (.move (xk 2))])
.ret)
.skip))
(.seq (.seq (xr [xf 11 1 1,
xl 12 11,
xc 13 68 [.tmp 12],
xm 4 13])
(.seq (xr [xm 14 4,
xb 15 .neq (.tmp 14) xq])
(.cond (.tmp 15) (.seq (xr [xm 16 4,
xi 2 (.move xq),
xm 3 16])
.ret)
.skip)))
(.seq (.seq (xr [xf 17 2 1,
xl 18 17,
xn 19 18,
xb 20 .gtr (.tmp 19) (xk 90)])
(.cond (.tmp 20) (.seq (xr [xi 2 (.move xq),
xi 3 (.move (xk 8))])
.ret)
.skip))
(.seq (.seq (xr [xf 21 2 1,
xl 22 21,
xn 23 22,
xi 24 (.move xq)])
(.block 0 (.loop (some [1,23,24]) (
.seq (xr [xB 25 .lss 24 23])
(.seq (.cond (.tmp 25) .skip
(.exit 0))
(.seq (.block 1 (.seq (xr [xm 26 24,
xm 5 26])
(.seq (xr [xL 27 3 1,
xm 28 5,
xc 29 69 [.tmp 27,.tmp 28],
xm 6 29])
(.seq (xr [xm 30 6,
xb 31 .neq (.tmp 30) xq])
(.cond (.tmp 31) (.seq (xr [xm 32 5,
xm 33 6,
xm 2 32,
xm 3 33])
.ret)
.skip)))))
(xr [xb 34 .add (.tmp 24) (xk 1),
xm 24 34])))))))
(.seq (xr [xi 2 (.move xq),
xi 3 (.move xq)])
.ret))))),
[.tmp 2,.tmp 3],.pure,35⟩
def ef39:EFun:=⟨
.seq (xr [xi 2 (.move (.const (.string ⟨#[]⟩)))])
(.seq (xr [xi 3 (.move (.const (.slice none 0 0)))])
(.seq (.seq (xr [xm 8 0,
xn 9 8,
xi 10 (.move xq)])
(.block 0 (.loop (some [3,8,9,10]) (
.seq (xr [xB 11 .lss 10 9])
(.seq (.cond (.tmp 11) .skip
(.exit 0))
(.seq (.block 1 (.seq (xr [xa 12 8 10,
xl 13 12,
xm 5 13])
(.seq (xr [xm 14 5])
(.block 2 (.seq (xr [xi 15 (.assertT 9 (.string ⟨#[]⟩) (.tmp 14)),
xe 16 15 1,
xe 17 15 0])
(.cond (.tmp 16) (.seq (xr [xm 6 17])
(xr [xm 18 3,
xm 19 6,
xi 20 (.buildSlice 1 1 [(.string ⟨#[]⟩)] [(0,1,(.tmp 19))]),
xi 21 (.append 1 16 (.tmp 18) (.tmp 20)),
xm 3 21]))
(.seq (xr [xi 22 (.assertT 3 xz (.tmp 14)),
xe 23 22 1,
xe 24 22 0])
(.cond (.tmp 23) (.seq (xr [xm 7 24])
(xr [xm 25 3,
xm 26 7,
xc 27 71 [.tmp 26],
xi 28 (.buildSlice 1 1 [(.string ⟨#[]⟩)] [(0,1,(.tmp 27))]),
xi 29 (.append 1 16 (.tmp 25) (.tmp 28)),
xm 3 29]))
.skip))))))))
(xr [xb 30 .add (.tmp 10) (xk 1),
xm 10 30])))))))
(.seq (xr [xm 31 3,
xi 32 (.call 72 [.tmp 31,(.const (.string ⟨#[32]⟩))]),
xb 33 .add (.tmp 32) (.const (.string ⟨#[10]⟩)),
xm 2 33])
.ret))),
[.tmp 2],.pure,34⟩
def ef41:EFun:=⟨
.seq (xr [xi 6 (.move xF)])
(.seq (xr [xm 7 0,
xm 8 1,
xB 9 .geq 7 8,
xm 10 9,
ym 11 0 10 true,
ym 12 2 10 true,
yb 13 .leq (.tmp 11) (.tmp 12) 10 true,
xi 14 (.pick (.tmp 10) (.tmp 13) xF),
xm 6 14])
.ret),
[.tmp 6],.pure,15⟩
def ef42:EFun:=⟨
.seq (xr [xi 2 (.move xq)])
(.seq (.seq (xr [xm 4 0,
xn 5 4,
xb 6 .gtr (.tmp 5) (xk 20)])
(.cond (.tmp 6) (.seq (xr [xi 2 (.move (xk 8))])
.ret)
.skip))
(.seq (.seq (xr [xi 3 (.move xq)])
(.block 0 (.loop (some [0,3]) (
.seq (.seq (xr [xm 7 3,
xm 8 0,
xn 9 8,
xB 10 .lss 7 9])
(.cond (.tmp 10) .skip
(.exit 0)))
(.seq (.block 1 (.seq (.seq (xr [xm 13 0,
xm 14 3,
xi 15 (.indexAddr none 4 (.tmp 13) (.tmp 14)),
xf 16 0 15,
xl 17 16,
xc 18 73 [.tmp 17],
xi 19 (.un .not (.tmp 18))])
(.cond (.tmp 19) (.seq (xr [xi 2 (.move (xk 4))])
.ret)
.skip))
(.seq (.seq (xR [xm 20 0,
xm 21 3,
xi 22 (.slice 4 (.tmp 20) none (some (.tmp 21))),
xm 23 0,
xm 24 3,
xi 25 (.indexAddr none 4 (.tmp 23) (.tmp 24)),
xf 26 0 25,
xl 27 26,
xc 28 74 [.tmp 22,.tmp 27],
xb 29 .geq (.tmp 28) xq])
(.cond (.tmp 29) (.seq (xr [xi 2 (.move (xk 5))])
.ret)
.skip))
(.seq (xr [xm 30 0,
xm 31 3,
xi 32 (.indexAddr none 4 (.tmp 30) (.tmp 31)),
xf 33 1 32,
xl 34 33,
xc 35 41 [.tmp 34,(xk 1),(xk 200000)],
xi 36 (.un .not (.tmp 35)),
xm 37 36,
ym 38 0 37 false,
ym 39 3 37 false,
xg 40 (.indexAddr none 4 (.tmp 38) (.tmp 39)) 37 false,
yf 41 2 40 37 false,
yl 42 41 37 false,
xg 43 (.call 41 [.tmp 42,(xk 1),(xk 1000000)]) 37 false,
xg 44 (.un .not (.tmp 43)) 37 false,
xi 45 (.pick (.tmp 37) xT (.tmp 44)),
xm 46 45,
ym 47 0 46 false,
ym 48 3 46 false,
xg 49 (.indexAddr none 4 (.tmp 47) (.tmp 48)) 46 false,
yf 50 3 49 46 false,
yl 51 50 46 false,
xg 52 (.call 41 [.tmp 51,xq,(xk 100000000)]) 46 false,
xg 53 (.un .not (.tmp 52)) 46 false,
xi 54 (.pick (.tmp 46) xT (.tmp 53))])
(.cond (.tmp 54) (.seq (xr [xi 2 (.move (xk 2))])
.ret)
.skip)))))
(xr [xm 11 3,
xb 12 .add (.tmp 11) (xk 1),
xm 3 12]))))))
(.seq (xr [xi 2 (.move xq)])
.ret))),
[.tmp 2],.pure,55⟩
def ef43:EFun:=⟨
.seq (xr [xv 2 0,
xi 4 (.move xq)])
(.seq (xr [xf 9 2 2,
xl 10 9,
xm 11 1,
xi 12 (.indexAddr none 10 (.tmp 10) (.tmp 11)),
xL 13 10 12,
xi 5 (.push [xz,xz,xz,xz,xz,xz,xz,xz,(.string ⟨#[]⟩),(.string ⟨#[]⟩)]),
xt 10 5 13])
(.seq (.seq (xr [xf 14 0 5,
xL 15 4 14,
xc 16 75 [.tmp 15],
xi 17 (.un .not (.tmp 16))])
(.cond (.tmp 17) (.seq (xr [xi 4 (.move (xk 2))])
.ret)
.skip))
(.seq (.seq (xr [xf 18 4 5,
xl 19 18,
xc 20 41 [.tmp 19,(xk 1),(xk 4)],
xi 21 (.un .not (.tmp 20))])
(.cond (.tmp 21) (.seq (xr [xi 4 (.move (xk 2))])
.ret)
.skip))
(.seq (.seq (xr [xf 22 1 2,
xl 23 22,
xf 24 5 5,
xL 25 5 24,
xc 26 76 [.tmp 23,.tmp 25],
xm 6 26])
(.seq (xr [xm 27 6,
xb 28 .neq (.tmp 27) xq])
(.cond (.tmp 28) (.seq (xr [xm 29 6,
xm 4 29])
.ret)
.skip)))
(.seq (xr [xf 31 0 5,
xL 32 4 31,
xf 33 0 2,
xl 34 33,
xc 35 77 [.tmp 32,.tmp 34],
xm 30 35,
xe 36 30 0,
xe 37 30 1,
xi 7 (.push [xz,xz]),
xt 2 7 36,
xm 8 37])
(.seq (.seq (xr [xm 38 8,
xb 39 .neq (.tmp 38) xq])
(.cond (.tmp 39) (.seq (xr [xm 40 8,
xm 4 40])
.ret)
.skip))
(.seq (.seq (xr [xL 41 2 7,
xc 42 78 [.tmp 41],
xi 43 (.un .not (.tmp 42))])
(.cond (.tmp 43) (.seq (xr [xi 4 (.move (xk 2))])
.ret)
.skip))
(.seq (.seq (xR [xm 44 1,
xb 45 .gtr (.tmp 44) xq,
xm 46 45,
yf 47 0 5 46 true,
xg 48 (.load true 4 (.tmp 47)) 46 true,
yf 49 2 2 46 true,
yl 50 49 46 true,
ym 51 1 46 true,
yb 52 .sub (.tmp 51) (xk 1) 46 true,
xg 53 (.indexAddr none 10 (.tmp 50) (.tmp 52)) 46 true,
yf 54 0 53 46 true,
xg 55 (.load true 4 (.tmp 54)) 46 true,
xg 56 (.call 79 [.tmp 48,.tmp 55]) 46 true,
yb 57 .leq (.tmp 56) xq 46 true,
xi 58 (.pick (.tmp 46) (.tmp 57) xF)])
(.cond (.tmp 58) (.seq (xr [xi 4 (.move (xk 9))])
.ret)
.skip))
(.seq (xr [xi 4 (.move xq)])
.ret))))))))),
[.tmp 4],.pure,59⟩
def ef44:EFun:=⟨
.seq (xr [xv 1 0,
xi 2 (.move (.const .nilFunc))])
(.seq (xr [xi 3 (.makeFunc (.func 80) [.tmp 1]),
xm 2 3])
.ret),
[.tmp 2],.pure,4⟩
def ef45:EFun:=⟨
.seq (xr [xi 4 (.move (.const (.string ⟨#[]⟩))),
xi 5 (.move xF)])
(.seq (xr [xm 6 0,
xm 7 1,
xc 8 82 [.tmp 6,.tmp 7],
xe 9 8 0,
xe 10 8 1,
xm 4 9,
xm 5 10])
.ret),
[.tmp 4,.tmp 5],.pure,11⟩
def ef46:EFun:=⟨
.seq (xr [xi 6 (.move xF)])
(.seq (.block 0 (.seq (xr [xm 15 2,
xb 16 .eql (.tmp 15) xq,
xm 14 16])
(.cond (.tmp 14) (.seq (xr [xm 18 1,
xi 19 (.slice 1 (.tmp 18) (some (xk 1)) none),
xc 20 83 [.tmp 19],
xm 17 20,
xe 21 17 0,
xe 22 17 1,
xm 7 21,
xm 8 22])
(.seq (.seq (xr [xm 23 8,
xi 24 (.un .not (.tmp 23)),
xm 25 24,
ym 26 1 25 false,
xg 27 (.indexAddr none 1 (.tmp 26) xq) 25 false,
yl 28 27 25 false,
yb 29 .neq (.tmp 28) (.const (.string ⟨#[102,111,114,107]⟩)) 25 false,
xi 30 (.pick (.tmp 25) xT (.tmp 29)),
xm 31 30,
ym 32 7 31 false,
xg 33 (.len false (.tmp 32)) 31 false,
yb 34 .neq (.tmp 33) (xk 1) 31 false,
xi 35 (.pick (.tmp 31) xT (.tmp 34))])
(.cond (.tmp 35) (.seq (xr [xi 6 (.move xF)])
.ret)
.skip))
(xr [xm 36 0,
xm 37 7,
xi 38 (.indexAddr none 1 (.tmp 37) xq),
xl 39 38,
xi 40 (.nilCheck (.tmp 36)),
xf 41 0 40,
xt 1 41 39])))
(.seq (xr [xm 43 1,
xi 44 (.indexAddr none 1 (.tmp 43) xq),
xl 45 44,
xb 46 .eql (.tmp 45) (.const (.string ⟨#[119,105,114,101]⟩)),
xm 47 46,
ym 48 1 47 true,
xg 49 (.len false (.tmp 48)) 47 true,
yb 50 .eql (.tmp 49) (xk 5) 47 true,
xi 51 (.pick (.tmp 47) (.tmp 50) xF),
xm 52 51,
ym 53 0 52 true,
xg 54 (.nilCheck (.tmp 53)) 52 true,
yf 55 2 54 52 true,
yl 56 55 52 true,
xg 57 (.len false (.tmp 56)) 52 true,
yb 58 .eql (.tmp 57) xq 52 true,
xi 59 (.pick (.tmp 52) (.tmp 58) xF),
xm 42 59])
(.cond (.tmp 42) (.seq (xr [xm 61 1,
xi 62 (.slice 1 (.tmp 61) (some (xk 2)) none),
xc 63 83 [.tmp 62],
xm 60 63,
xe 64 60 0,
xe 65 60 1,
xm 9 64,
xm 10 65])
(.seq (.seq (xr [xm 66 10,
xi 67 (.un .not (.tmp 66))])
(.cond (.tmp 67) (.seq (xr [xi 6 (.move xF)])
.ret)
.skip))
(xR [xm 68 0,
xm 69 0,
xi 70 (.nilCheck (.tmp 69)),
xf 71 1 70,
xl 72 71,
xm 73 1,
xi 74 (.indexAddr none 1 (.tmp 73) (xk 1)),
xl 75 74,
xm 76 9,
xi 77 (.indexAddr none 1 (.tmp 76) xq),
xl 78 77,
xm 79 9,
xi 80 (.indexAddr none 1 (.tmp 79) (xk 1)),
xl 81 80,
xm 82 9,
xi 83 (.indexAddr none 1 (.tmp 82) (xk 2)),
xl 84 83,
xi 85 (.build [(.string ⟨#[]⟩),xz,xz,xz] [(0,1,(.tmp 75)),(1,1,(.tmp 78)),(2,1,(.tmp 81)),(3,1,(.tmp 84))]),
xi 86 (.buildSlice 4 1 [(.string ⟨#[]⟩),xz,xz,xz] [(0,4,(.tmp 85))]),
xi 87 (.appendT 4 40 (.tmp 72) (.tmp 86)),
xi 88 (.nilCheck (.tmp 68)),
xf 89 1 88,
xt 1 89 87])))
(.seq (xr [xm 91 1,
xi 92 (.indexAddr none 1 (.tmp 91) xq),
xl 93 92,
xb 94 .eql (.tmp 93) (.const (.string ⟨#[117,110,105,115,111,110]⟩)),
xm 95 94,
ym 96 1 95 true,
xg 97 (.len false (.tmp 96)) 95 true,
yb 98 .eql (.tmp 97) (xk 11) 95 true,
xi 99 (.pick (.tmp 95) (.tmp 98) xF),
xm 90 99])
(.cond (.tmp 90) (.seq (xr [xm 101 1,
xi 102 (.slice 1 (.tmp 101) (some (xk 1)) (some (xk 9))),
xc 103 83 [.tmp 102],
xm 100 103,
xe 104 100 0,
xe 105 100 1,
xm 11 104,
xm 12 105])
(.seq (.seq (xr [xm 106 12,
xi 107 (.un .not (.tmp 106))])
(.cond (.tmp 107) (.seq (xr [xi 6 (.move xF)])
.ret)
.skip))
(.seq (xR [xm 108 11,
xi 109 (.indexAddr none 1 (.tmp 108) xq),
xl 110 109,
xm 111 11,
xi 112 (.indexAddr none 1 (.tmp 111) (xk 1)),
xl 113 112,
xm 114 11,
xi 115 (.indexAddr none 1 (.tmp 114) (xk 2)),
xl 116 115,
xm 117 11,
xi 118 (.indexAddr none 1 (.tmp 117) (xk 3)),
xl 119 118,
xi 120 (.build [xz,xz,xz,xz] [(0,1,(.tmp 110)),(1,1,(.tmp 113)),(2,1,(.tmp 116)),(3,1,(.tmp 119))]),
xm 121 11,
xi 122 (.indexAddr none 1 (.tmp 121) (xk 4)),
xl 123 122,
xm 124 11,
xi 125 (.indexAddr none 1 (.tmp 124) (xk 5)),
xl 126 125,
xm 127 11,
xi 128 (.indexAddr none 1 (.tmp 127) (xk 6)),
xl 129 128,
xm 130 11,
xi 131 (.indexAddr none 1 (.tmp 130) (xk 7)),
xl 132 131,
xm 133 1,
xi 134 (.indexAddr none 1 (.tmp 133) (xk 9)),
xl 135 134,
xm 136 1,
xi 137 (.indexAddr none 1 (.tmp 136) (xk 10)),
xl 138 137,
xi 139 (.build [xz,xz,xz,(.string ⟨#[]⟩),(.string ⟨#[]⟩)] [(0,1,(.tmp 126)),(1,1,(.tmp 129)),(2,1,(.tmp 132)),(3,1,(.tmp 135)),(4,1,(.tmp 138))]),
xi 140 (.build [xz,xz,xz,xz,xz,xz,xz,xz,(.string ⟨#[]⟩),(.string ⟨#[]⟩)] [(0,4,(.tmp 120)),(4,1,(.tmp 123)),(5,5,(.tmp 139))]),
xi 13 (.push [xz,xz,xz,xz,xz,xz,xz,xz,(.string ⟨#[]⟩),(.string ⟨#[]⟩)]),
xt 10 13 140])
(.seq (.seq (xr [xf 141 5 13,
xf 142 4 141,
xl 143 142,
xb 144 .eql (.tmp 143) (.const (.string ⟨#[45]⟩))])
(.cond (.tmp 144) (xr [xf 145 5 13,
xf 146 4 145,
⟨none,.store 1 (.tmp 146) (.const (.string ⟨#[]⟩)),none,[],false,false⟩])
.skip))
(xR [xm 147 0,
xm 148 0,
xi 149 (.nilCheck (.tmp 148)),
xf 150 2 149,
xl 151 150,
xL 152 10 13,
xi 153 (.buildSlice 10 1 [xz,xz,xz,xz,xz,xz,xz,xz,(.string ⟨#[]⟩),(.string ⟨#[]⟩)] [(0,10,(.tmp 152))]),
xi 154 (.appendT 10 96 (.tmp 151) (.tmp 153)),
xi 155 (.nilCheck (.tmp 147)),
xf 156 2 155,
xt 1 156 154])))))
(.seq (xr [xi 6 (.move xF)])
.ret))))))))
(.seq (xr [xi 6 (.move xT)])
.ret)),
[.tmp 6],.full,157⟩
def ef47:EFun:=⟨
.seq (xr [xi 4 (.move (.const (.slice none 0 0)))])
(.seq (xr [xm 5 0,
xm 6 1,
xc 7 84 [.tmp 5,.tmp 6,xq,(.const (.int .i64 (-1)))],
xm 4 7])
.ret),
[.tmp 4],.pure,8⟩
def ef48:EFun:=⟨
.seq (xr [xi 4 (.move (.const (.string ⟨#[]⟩)))])
(.seq (.seq (xr [xi 5 (.move xq)])
(.block 0 (.loop (some [0,1,5]) (
.seq (.seq (xr [xm 6 5,
xm 7 1,
xn 8 7,
xB 9 .lss 6 8])
(.cond (.tmp 9) .skip
(.exit 0)))
(.seq (.block 1 (xr [xm 12 0,
xb 13 .add (.tmp 12) (.const (.string ⟨#[32]⟩)),
xm 14 1,
xm 15 5,
xa 16 14 15,
xl 17 16,
xc 18 60 [.tmp 17],
xB 19 .add 13 18,
xm 0 19]))
(xr [xm 10 5,
xb 11 .add (.tmp 10) (xk 1),
xm 5 11]))))))
(.seq (xr [xm 20 0,
xm 4 20])
.ret)),
[.tmp 4],.pure,21⟩
def ef49:EFun:=⟨
.seq (xr [xi 4 (.move (.const (.slice none 0 0)))])
(.seq (xr [xi 5 (.move (.const (.slice none 0 0)))])
(.seq (xr [xi 6 (.move xq)])
(.seq (.seq (xr [xi 7 (.move xq)])
(.block 0 (.loop (some [0,1,5,6,7]) (
.seq (.seq (xr [xm 8 7,
xm 9 0,
xi 10 (.len true (.tmp 9)),
xB 11 .leq 8 10])
(.cond (.tmp 11) .skip
(.exit 0)))
(.seq (.block 1 (.seq (xr [xm 14 7,
xm 15 0,
xi 16 (.len true (.tmp 15)),
xB 17 .eql 14 16,
xm 18 17,
ym 19 0 18 false,
ym 20 7 18 false,
xg 21 (.strIndex (.tmp 19) (.tmp 20)) 18 false,
ym 22 1 18 false,
yb 23 .eql (.tmp 21) (.tmp 22) 18 false,
xi 24 (.pick (.tmp 18) xT (.tmp 23))])
(.cond (.tmp 24) (.seq (xr [xm 25 5,
xm 26 0,
xm 27 6,
xm 28 7,
xi 29 (.strSlice (.tmp 26) (some (.tmp 27)) (some (.tmp 28))),
xi 30 (.buildSlice 1 1 [(.string ⟨#[]⟩)] [(0,1,(.tmp 29))]),
xi 31 (.append 1 16 (.tmp 25) (.tmp 30)),
xm 5 31])
(xr [xm 32 7,
xb 33 .add (.tmp 32) (xk 1),
xm 6 33]))
.skip)))
(xr [xm 12 7,
xb 13 .add (.tmp 12) (xk 1),
xm 7 13]))))))
(.seq (xr [xm 34 5,
xm 4 34])
.ret)))),
[.tmp 4],.pure,35⟩
def ef50:EFun:=⟨
.seq (xr [xi 6 (.move xF)])
(.seq (xr [xm 15 1,
xc 16 49 [.tmp 15,(.const (.int .u8 32))],
xm 7 16])
(.seq (.block 0 (.seq (xr [xm 18 7,
xi 19 (.indexAddr none 1 (.tmp 18) xq),
xl 20 19,
xb 21 .eql (.tmp 20) (.const (.string ⟨#[102,111,114,107]⟩)),
xm 22 21,
ym 23 7 22 true,
xg 24 (.len false (.tmp 23)) 22 true,
yb 25 .eql (.tmp 24) (xk 2) 22 true,
xi 26 (.pick (.tmp 22) (.tmp 25) xF),
xm 27 26,
ym 28 2 27 true,
yb 29 .eql (.tmp 28) xq 27 true,
xi 30 (.pick (.tmp 27) (.tmp 29) xF),
xm 17 30])
(.cond (.tmp 17) (.seq (xr [xm 32 7,
xi 33 (.slice 1 (.tmp 32) (some (xk 1)) none),
xc 34 85 [.tmp 33],
xm 31 34,
xe 35 31 0,
xe 36 31 1,
xm 8 35,
xm 9 36])
(.seq (.seq (xr [xm 37 9])
(.cond (.tmp 37) (xr [xm 38 0,
xm 39 8,
xi 40 (.indexAddr none 1 (.tmp 39) xq),
xl 41 40,
xi 42 (.nilCheck (.tmp 38)),
xf 43 0 42,
xt 1 43 41])
.skip))
(.seq (xr [xm 44 9,
xm 6 44])
.ret)))
(.seq (xr [xm 46 7,
xi 47 (.indexAddr none 1 (.tmp 46) xq),
xl 48 47,
xb 49 .eql (.tmp 48) (.const (.string ⟨#[119,105,114,101]⟩)),
xm 50 49,
ym 51 7 50 true,
xg 52 (.len false (.tmp 51)) 50 true,
yb 53 .eql (.tmp 52) (xk 5) 50 true,
xi 54 (.pick (.tmp 50) (.tmp 53) xF),
xm 55 54,
ym 56 2 55 true,
yb 57 .gtr (.tmp 56) xq 55 true,
xi 58 (.pick (.tmp 55) (.tmp 57) xF),
xm 59 58,
ym 60 0 59 true,
xg 61 (.nilCheck (.tmp 60)) 59 true,
yf 62 2 61 59 true,
yl 63 62 59 true,
xg 64 (.len false (.tmp 63)) 59 true,
yb 65 .eql (.tmp 64) xq 59 true,
xi 66 (.pick (.tmp 59) (.tmp 65) xF),
xm 45 66])
(.cond (.tmp 45) (.seq (xr [xm 68 7,
xi 69 (.slice 1 (.tmp 68) (some (xk 2)) none),
xc 70 85 [.tmp 69],
xm 67 70,
xe 71 67 0,
xe 72 67 1,
xm 10 71,
xm 11 72])
(.seq (.seq (xr [xm 73 11])
(.cond (.tmp 73) (xR [xm 74 0,
xm 75 0,
xi 76 (.nilCheck (.tmp 75)),
xf 77 1 76,
xl 78 77,
xm 79 7,
xi 80 (.indexAddr none 1 (.tmp 79) (xk 1)),
xl 81 80,
xm 82 10,
xi 83 (.indexAddr none 1 (.tmp 82) xq),
xl 84 83,
xm 85 10,
xi 86 (.indexAddr none 1 (.tmp 85) (xk 1)),
xl 87 86,
xm 88 10,
xi 89 (.indexAddr none 1 (.tmp 88) (xk 2)),
xl 90 89,
xi 91 (.build [(.string ⟨#[]⟩),xz,xz,xz] [(0,1,(.tmp 81)),(1,1,(.tmp 84)),(2,1,(.tmp 87)),(3,1,(.tmp 90))]),
xi 92 (.buildSlice 4 1 [(.string ⟨#[]⟩),xz,xz,xz] [(0,4,(.tmp 91))]),
xi 93 (.appendT 4 40 (.tmp 78) (.tmp 92)),
xi 94 (.nilCheck (.tmp 74)),
xf 95 1 94,
xt 1 95 93])
.skip))
(.seq (xr [xm 96 11,
xm 6 96])
.ret)))
(.seq (xr [xm 98 7,
xi 99 (.indexAddr none 1 (.tmp 98) xq),
xl 100 99,
xb 101 .eql (.tmp 100) (.const (.string ⟨#[117,110,105,115,111,110]⟩)),
xm 102 101,
ym 103 7 102 true,
xg 104 (.len false (.tmp 103)) 102 true,
yb 105 .eql (.tmp 104) (xk 11) 102 true,
xi 106 (.pick (.tmp 102) (.tmp 105) xF),
xm 107 106,
ym 108 2 107 true,
yb 109 .gtr (.tmp 108) xq 107 true,
xi 110 (.pick (.tmp 107) (.tmp 109) xF),
xm 97 110])
(.cond (.tmp 97) (.seq (xr [xm 112 7,
xi 113 (.slice 1 (.tmp 112) (some (xk 1)) (some (xk 9))),
xc 114 85 [.tmp 113],
xm 111 114,
xe 115 111 0,
xe 116 111 1,
xm 12 115,
xm 13 116])
(.seq (.seq (xr [xm 117 13])
(.cond (.tmp 117) (.seq (xR [xm 118 12,
xi 119 (.indexAddr none 1 (.tmp 118) xq),
xl 120 119,
xm 121 12,
xi 122 (.indexAddr none 1 (.tmp 121) (xk 1)),
xl 123 122,
xm 124 12,
xi 125 (.indexAddr none 1 (.tmp 124) (xk 2)),
xl 126 125,
xm 127 12,
xi 128 (.indexAddr none 1 (.tmp 127) (xk 3)),
xl 129 128,
xi 130 (.build [xz,xz,xz,xz] [(0,1,(.tmp 120)),(1,1,(.tmp 123)),(2,1,(.tmp 126)),(3,1,(.tmp 129))]),
xm 131 12,
xi 132 (.indexAddr none 1 (.tmp 131) (xk 4)),
xl 133 132,
xm 134 12,
xi 135 (.indexAddr none 1 (.tmp 134) (xk 5)),
xl 136 135,
xm 137 12,
xi 138 (.indexAddr none 1 (.tmp 137) (xk 6)),
xl 139 138,
xm 140 12,
xi 141 (.indexAddr none 1 (.tmp 140) (xk 7)),
xl 142 141,
xm 143 7,
xi 144 (.indexAddr none 1 (.tmp 143) (xk 9)),
xl 145 144,
xm 146 7,
xi 147 (.indexAddr none 1 (.tmp 146) (xk 10)),
xl 148 147,
xi 149 (.build [xz,xz,xz,(.string ⟨#[]⟩),(.string ⟨#[]⟩)] [(0,1,(.tmp 136)),(1,1,(.tmp 139)),(2,1,(.tmp 142)),(3,1,(.tmp 145)),(4,1,(.tmp 148))]),
xi 150 (.build [xz,xz,xz,xz,xz,xz,xz,xz,(.string ⟨#[]⟩),(.string ⟨#[]⟩)] [(0,4,(.tmp 130)),(4,1,(.tmp 133)),(5,5,(.tmp 149))]),
xi 14 (.push [xz,xz,xz,xz,xz,xz,xz,xz,(.string ⟨#[]⟩),(.string ⟨#[]⟩)]),
xt 10 14 150])
(.seq (.seq (xr [xf 151 5 14,
xf 152 4 151,
xl 153 152,
xb 154 .eql (.tmp 153) (.const (.string ⟨#[45]⟩))])
(.cond (.tmp 154) (xr [xf 155 5 14,
xf 156 4 155,
⟨none,.store 1 (.tmp 156) (.const (.string ⟨#[]⟩)),none,[],false,false⟩])
.skip))
(xR [xm 157 0,
xm 158 0,
xi 159 (.nilCheck (.tmp 158)),
xf 160 2 159,
xl 161 160,
xL 162 10 14,
xi 163 (.buildSlice 10 1 [xz,xz,xz,xz,xz,xz,xz,xz,(.string ⟨#[]⟩),(.string ⟨#[]⟩)] [(0,10,(.tmp 162))]),
xi 164 (.appendT 10 96 (.tmp 161) (.tmp 163)),
xi 165 (.nilCheck (.tmp 157)),
xf 166 2 165,
xt 1 166 164])))
.skip))
(.seq (xr [xm 167 13,
xm 6 167])
.ret)))
.skip)))))))
(.seq (xr [xi 6 (.move xF)])
.ret))),
[.tmp 6],.full,168⟩
def ef60:EFun:=⟨
.seq (xr [xi 2 (.move (.const (.string ⟨#[]⟩)))])
(.seq (.seq (xr [xm 5 0,
xb 6 .eql (.tmp 5) xq])
(.cond (.tmp 6) (.seq (xr [xi 2 (.move (.const (.string ⟨#[48]⟩)))])
.ret)
.skip))
(.seq (xr [xi 3 (.move (.const (.string ⟨#[]⟩)))])
(.seq (.seq (xr [xm 7 0,
xm 4 7])
(.block 0 (.loop (some [0,3,4]) (
.seq (.seq (xr [xm 8 4,
xb 9 .neq (.tmp 8) xq])
(.cond (.tmp 9) .skip
(.exit 0)))
(.seq (.block 1 (xr [xm 12 4,
xb 13 .rem (.tmp 12) (xk 10),
xc 14 96 [.tmp 13],
xb 15 .add (xk 48) (.tmp 14),
xi 16 (.conv .u8 (.tmp 15)),
xi 17 (.buildSlice 1 1 [(.int .u8 0)] [(0,1,(.tmp 16))]),
xi 18 (.strOf (.tmp 17)),
xm 19 3,
xB 20 .add 18 19,
xm 3 20]))
(xr [xm 10 4,
xb 11 .quo (.tmp 10) (xk 10),
xm 4 11]))))))
(.seq (.seq (xr [xm 21 0,
xb 22 .lss (.tmp 21) xq])
(.cond (.tmp 22) (.seq (xr [xm 23 3,
xb 24 .add (.const (.string ⟨#[45]⟩)) (.tmp 23),
xm 2 24])
.ret)
.skip))
(.seq (xr [xm 25 3,
xm 2 25])
.ret))))),
[.tmp 2],.pure,26⟩
def ef63:EFun:=⟨
.seq (xr [xv 4 1,
xv 5 2,
xi 6 (.push [(.string ⟨#[]⟩),xz,xz,xz,xz,xz,xz,(.string ⟨#[]⟩),(.string ⟨#[]⟩),xz,xz,xz,xz]),
xi 7 (.move xq)])
(.seq (.seq (xr [xm 10 0,
xL 11 5 4,
xc 12 99 [.tmp 10,.tmp 11],
xm 8 12])
(.seq (xr [xm 13 8,
xb 14 .neq (.tmp 13) xq])
(.cond (.tmp 14) (.seq (xr [xi 15 (.build [(.string ⟨#[]⟩),xz,xz,xz,xz,xz,xz,(.string ⟨#[]⟩),(.string ⟨#[]⟩),xz,xz,xz,xz] []),
xm 16 8,
xt 13 6 15,
xm 7 16])
.ret)
.skip)))
(.seq (.seq (xr [xL 17 2 5,
xc 18 100 [.tmp 17],
xm 9 18])
(.seq (xr [xm 19 9,
xb 20 .neq (.tmp 19) xq])
(.cond (.tmp 20) (.seq (xr [xi 21 (.build [(.string ⟨#[]⟩),xz,xz,xz,xz,xz,xz,(.string ⟨#[]⟩),(.string ⟨#[]⟩),xz,xz,xz,xz] []),
xm 22 9,
xt 13 6 21,
xm 7 22])
.ret)
.skip)))
(.seq (xr [xm 23 0,
xL 24 5 4,
xL 25 2 5,
xc 26 101 [.tmp 23,.tmp 24,.tmp 25],
xt 13 6 26,
xi 7 (.move xq)])
.ret))),
[.cell 6 true 13,.tmp 7],.pure,27⟩
def ef64:EFun:=⟨
.seq (xr [xv 1 0,
xi 2 (.push [xz,xz]),
xi 3 (.move xq)])
(.seq (.seq (xr [xf 7 11 1,
xf 8 0 7,
xl 9 8,
xb 10 .eql (.tmp 9) xq])
(.cond (.tmp 10) (.seq (xr [xi 11 (.build [xz,xz] []),
xt 2 2 11,
xi 3 (.move (xk 11))])
.ret)
.skip))
(.seq (xr [xf 12 4 1,
xf 13 1 12,
xl 14 13,
xb 15 .mul (xk 1000) (.tmp 14),
xf 16 4 1,
xf 17 1 16,
xl 18 17,
xB 19 .mul 15 18,
xm 4 19])
(.seq (xr [xm 20 4,
xm 21 4,
xf 22 4 1,
xf 23 0 22,
xl 24 23,
xc 25 102 [.tmp 20,.tmp 21,.tmp 24],
xi 5 (.push [xz,xz]),
xt 2 5 25])
(.seq (xr [xf 26 0 5,
xl 27 26,
xf 28 0 5,
xl 29 28,
xB 30 .mul 27 29,
xf 31 1 5,
xl 32 31,
xf 33 1 5,
xl 34 33,
xB 35 .mul 32 34,
xc 36 102 [.tmp 30,.tmp 35,(xk 1000)],
xi 6 (.push [xz,xz]),
xt 2 6 36])
(.seq (xr [xf 37 0 1,
xf 38 3 37,
xl 39 38,
xf 40 0 6,
xl 41 40,
xB 42 .mul 39 41,
xf 43 11 1,
xf 44 1 43,
xl 45 44,
xb 46 .mul (xk 1000) (.tmp 45),
xf 47 0 1,
xf 48 3 47,
xl 49 48,
xf 50 1 6,
xl 51 50,
xB 52 .mul 49 51,
xf 53 11 1,
xf 54 0 53,
xl 55 54,
xb 56 .mul (xk 1000) (.tmp 55),
xc 57 103 [.tmp 42,.tmp 46,.tmp 52,.tmp 56],
xt 2 2 57,
xi 3 (.move xq)])
.ret))))),
[.cell 2 true 2,.tmp 3],.pure,58⟩
def ef65:EFun:=⟨
.seq (xr [xv 3 1,
xi 4 (.move (.const (.slice none 0 0))),
xi 5 (.move xq)])
(.seq (.seq (xr [xm 13 0,
xn 14 13,
xb 15 .gtr (.tmp 14) (xk 50)])
(.cond (.tmp 15) (.seq (xr [xi 4 (.move (.const (.slice none 0 0))),
xi 5 (.move (xk 8))])
.ret)
.skip))
(.seq (.seq (xr [xm 16 0,
xn 17 16,
xi 18 (.move xq)])
(.block 0 (.loop (some [0,3,16,17,18]) (
.seq (xr [xB 19 .lss 18 17])
(.seq (.cond (.tmp 19) .skip
(.exit 0))
(.seq (.block 1 (.seq (xr [xi 20 (.indexAddr none 2 (.tmp 16) (.tmp 18)),
xL 21 2 20,
xi 7 (.push [xz,xz]),
xt 2 7 21])
(.seq (xr [xf 22 0 7,
xl 23 22,
xb 24 .lss (.tmp 23) (xk 1000),
xm 25 24,
yf 26 0 7 25 false,
yl 27 26 25 false,
yf 28 1 7 25 false,
yl 29 28 25 false,
yb 30 .gtr (.tmp 27) (.tmp 29) 25 false,
xi 31 (.pick (.tmp 25) xT (.tmp 30)),
xm 32 31,
yf 33 1 7 32 false,
yl 34 33 32 false,
yb 35 .gtr (.tmp 34) (xk 300000) 32 false,
xi 36 (.pick (.tmp 32) xT (.tmp 35))])
(.cond (.tmp 36) (.seq (xr [xi 4 (.move (.const (.slice none 0 0))),
xi 5 (.move (xk 2))])
.ret)
.skip))))
(xr [xb 37 .add (.tmp 18) (xk 1),
xm 18 37])))))))
(.seq (.seq (xr [xf 38 0 3,
xl 39 38,
xb 40 .lss (.tmp 39) (.const (.int .i64 (-300000))),
xm 41 40,
yf 42 0 3 41 false,
yl 43 42 41 false,
yf 44 1 3 41 false,
yl 45 44 41 false,
yb 46 .gtr (.tmp 43) (.tmp 45) 41 false,
xi 47 (.pick (.tmp 41) xT (.tmp 46)),
xm 48 47,
yf 49 1 3 48 false,
yl 50 49 48 false,
yb 51 .gtr (.tmp 50) (xk 300000) 48 false,
xi 52 (.pick (.tmp 48) xT (.tmp 51))])
(.cond (.tmp 52) (.seq (xr [xi 4 (.move (.const (.slice none 0 0))),
xi 5 (.move (xk 2))])
.ret)
.skip))
(.seq (xr [xm 53 0,
xn 54 53,
xm 8 54])
(.seq (xr [xi 9 (.move (.const (.slice none 0 0)))])
(.seq (.seq (xr [xm 55 0,
xn 56 55,
xi 57 (.move xq)])
(.block 2 (.loop (some [3,8,9,55,56,57]) (
.seq (xr [xB 58 .lss 57 56])
(.seq (.cond (.tmp 58) .skip
(.exit 2))
(.seq (.block 3 (.seq (xr [xm 59 57,
xi 60 (.indexAddr none 2 (.tmp 55) (.tmp 57)),
xL 61 2 60,
xi 11 (.push [xz,xz]),
xm 10 59,
xt 2 11 61])
(xr [xm 62 9,
xm 63 8,
xm 64 10,
xf 65 1 11,
xl 66 65,
xi 67 (.build [xz,xz,xz] [(0,1,(.tmp 63)),(1,1,(.tmp 64)),(2,1,(.tmp 66))]),
xm 68 10,
xm 69 8,
xf 70 0 11,
xl 71 70,
xi 72 (.un .neg (.tmp 71)),
xi 73 (.build [xz,xz,xz] [(0,1,(.tmp 68)),(1,1,(.tmp 69)),(2,1,(.tmp 72))]),
xi 74 (.buildSlice 3 2 [xz,xz,xz,xz,xz,xz] [(0,3,(.tmp 67)),(3,3,(.tmp 73))]),
xi 75 (.append 3 24 (.tmp 62) (.tmp 74)),
xm 9 75])))
(xr [xb 76 .add (.tmp 57) (xk 1),
xm 57 76])))))))
(.seq (.seq (xr [xi 12 (.move (xk 1))])
(.block 4 (.loop (some [3,8,9,12]) (
.seq (.seq (xr [xm 77 12,
xm 78 8,
xB 79 .lss 77 78])
(.cond (.tmp 79) .skip
(.exit 4)))
(.seq (.block 5 (xr [xm 82 9,
xm 83 12,
xb 84 .sub (.tmp 83) (xk 1),
xm 85 12,
xf 86 0 3,
xl 87 86,
xi 88 (.un .neg (.tmp 87)),
xi 89 (.build [xz,xz,xz] [(0,1,(.tmp 84)),(1,1,(.tmp 85)),(2,1,(.tmp 88))]),
xm 90 12,
xm 91 12,
xb 92 .sub (.tmp 91) (xk 1),
xf 93 1 3,
xl 94 93,
xi 95 (.build [xz,xz,xz] [(0,1,(.tmp 90)),(1,1,(.tmp 92)),(2,1,(.tmp 94))]),
xi 96 (.buildSlice 3 2 [xz,xz,xz,xz,xz,xz] [(0,3,(.tmp 89)),(3,3,(.tmp 95))]),
xi 97 (.append 3 24 (.tmp 82) (.tmp 96)),
xm 9 97]))
(xr [xm 80 12,
xb 81 .add (.tmp 80) (xk 1),
xm 12 81]))))))
(.seq (xr [xm 98 9,
xm 4 98,
xi 5 (.move xq)])
.ret)))))))),
[.tmp 4,.tmp 5],.pure,99⟩
def ef66:EFun:=⟨
.seq (xr [xi 4 (.move (.const (.slice none 0 0))),
xi 5 (.move (.const (.slice none 0 0))),
xi 6 (.move xq)])
(.seq (.seq (xr [xm 13 0,
xm 14 1,
xc 15 104 [.tmp 13,.tmp 14],
xm 7 15])
(.seq (xr [xm 16 7,
xb 17 .neq (.tmp 16) xq])
(.cond (.tmp 17) (.seq (xr [xm 18 7,
xi 4 (.move (.const (.slice none 0 0))),
xi 5 (.move (.const (.slice none 0 0))),
xm 6 18])
.ret)
.skip)))
(.seq (xR [xm 19 0,
xi 20 (.makeSlice 1 8 [xz] (.tmp 19) (.tmp 19)),
xm 21 0,
xi 22 (.makeSlice 1 8 [xz] (.tmp 21) (.tmp 21)),
xm 8 20,
xm 9 22])
(.seq (xr [xi 10 (.move xq)])
(.seq (.seq (xr [xm 23 0,
xi 24 (.move xq)])
(.block 0 (.loop (some [0,1,8,9,10,23,24]) (
.seq (xr [xB 25 .lss 24 23])
(.seq (.cond (.tmp 25) .skip
(.exit 0))
(.seq (.block 1 (.seq (xr [xm 26 1,
xm 27 8,
xm 28 9,
xc 29 105 [.tmp 26,.tmp 27,.tmp 28],
xm 10 29])
(.seq (xr [xm 30 10,
xb 31 .lss (.tmp 30) xq])
(.cond (.tmp 31) (.seq (xr [xm 32 8,
xm 4 32,
xi 5 (.move (.const (.slice none 0 0))),
xi 6 (.move xq)])
.ret)
.skip))))
(xr [xb 33 .add (.tmp 24) (xk 1),
xm 24 33])))))))
(.seq (.seq (xr [xm 34 0,
xi 35 (.move xq)])
(.block 2 (.loop (some [1,9,10,34,35]) (
.seq (xr [xB 36 .lss 35 34])
(.seq (.cond (.tmp 36) .skip
(.exit 2))
(.seq (.block 3 (xr [xm 37 1,
xm 38 9,
xm 39 10,
xa 40 38 39,
xl 41 40,
xi 42 (.indexAddr none 3 (.tmp 37) (.tmp 41)),
xf 43 0 42,
xl 44 43,
xm 10 44]))
(xr [xb 45 .add (.tmp 35) (xk 1),
xm 35 45])))))))
(.seq (xr [xi 11 (.move (.const (.slice none 0 0)))])
(.seq (.seq (xr [xm 46 10,
xm 12 46])
(.block 4 (.loop (some [1,9,10,11,12]) (
.seq (.seq (xr [xm 47 11,
xn 48 47,
xb 49 .eql (.tmp 48) xq,
xm 50 49,
ym 51 12 50 false,
ym 52 10 50 false,
yb 53 .neq (.tmp 51) (.tmp 52) 50 false,
xi 54 (.pick (.tmp 50) xT (.tmp 53))])
(.cond (.tmp 54) .skip
(.exit 4)))
(.seq (.block 5 (xr [xm 63 11,
xm 64 9,
xm 65 12,
xa 66 64 65,
xl 67 66,
xi 68 (.buildSlice 1 1 [xz] [(0,1,(.tmp 67))]),
xi 69 (.append 1 8 (.tmp 63) (.tmp 68)),
xm 11 69]))
(xr [xm 55 1,
xm 56 9,
xm 57 12,
xa 58 56 57,
xl 59 58,
xi 60 (.indexAddr none 3 (.tmp 55) (.tmp 59)),
xf 61 0 60,
xl 62 61,
xm 12 62]))))))
(.seq (xr [xm 70 11,
xc 71 106 [.tmp 70]])
(.seq (xr [xm 72 11,
xi 4 (.move (.const (.slice none 0 0))),
xm 5 72,
xi 6 (.move (xk 21))])
.ret))))))))),
[.tmp 4,.tmp 5,.tmp 6],.pure,73⟩
def ef67:EFun:=⟨
.seq (xr [xi 6 (.move xF)])
(.seq (xr [xm 7 1,
xm 8 0,
xB 9 .leq 7 8,
xm 10 9,
ym 11 0 10 true,
ym 12 2 10 true,
yb 13 .leq (.tmp 11) (.tmp 12) 10 true,
xi 14 (.pick (.tmp 10) (.tmp 13) xF),
xm 6 14])
.ret),
[.tmp 6],.pure,15⟩
def ef68:EFun:=⟨
.seq (xr [xi 2 (.move xq)])
(.seq (.seq (xr [xm 6 0,
xn 7 6,
xb 8 .gtr (.tmp 7) (xk 20)])
(.cond (.tmp 8) (.seq (xr [xi 2 (.move (xk 8))])
.ret)
.skip))
(.seq (xr [xi 9 (.makeMap),
xm 3 9])
(.seq (.seq (xr [xm 10 0,
xn 11 10,
xi 12 (.move xq)])
(.block 0 (.loop (some [3,10,11,12]) (
.seq (xr [xB 13 .lss 12 11])
(.seq (.cond (.tmp 13) .skip
(.exit 0))
(.seq (.block 1 (.seq (xr [xi 14 (.indexAddr none 4 (.tmp 10) (.tmp 12)),
xL 15 4 14,
xi 5 (.push [(.string ⟨#[]⟩),xz,xz,xz]),
xt 4 5 15])
(.seq (.block 2 (.seq (xr [xf 17 0 5,
xl 18 17,
xc 19 107 [.tmp 18],
xi 20 (.un .not (.tmp 19)),
xm 16 20])
(.cond (.tmp 16) (.seq (xr [xi 2 (.move (xk 4))])
.ret)
(.seq (xr [xm 22 3,
xf 23 0 5,
xl 24 23,
xi 25 (.mapGet .str (.bool false) false (.tmp 22) (.tmp 24)),
xm 21 25])
(.cond (.tmp 21) (.seq (xr [xi 2 (.move (xk 5))])
.ret)
(.seq (xr [xf 27 1 5,
xl 28 27,
xc 29 67 [.tmp 28,(xk 1),(xk 200000)],
xi 30 (.un .not (.tmp 29)),
xm 31 30,
yf 32 2 5 31 false,
yl 33 32 31 false,
xg 34 (.call 67 [.tmp 33,(xk 1),(xk 1000000)]) 31 false,
xg 35 (.un .not (.tmp 34)) 31 false,
xi 36 (.pick (.tmp 31) xT (.tmp 35)),
xm 37 36,
yf 38 3 5 37 false,
yl 39 38 37 false,
xg 40 (.call 67 [.tmp 39,xq,(xk 100000000)]) 37 false,
xg 41 (.un .not (.tmp 40)) 37 false,
xi 42 (.pick (.tmp 37) xT (.tmp 41)),
xm 26 42])
(.cond (.tmp 26) (.seq (xr [xi 2 (.move (xk 2))])
.ret)
.skip)))))))
(xr [xm 43 3,
xf 44 0 5,
xl 45 44,
⟨none,.mapSet .str (.tmp 43) (.tmp 45) xT,none,[],false,false⟩]))))
(xr [xb 46 .add (.tmp 12) (xk 1),
xm 12 46])))))))
(.seq (xr [xi 2 (.move xq)])
.ret)))),
[.tmp 2],.pure,47⟩
def ef69:EFun:=⟨
.seq (xr [xv 2 0,
xi 4 (.move xq)])
(.seq (xr [xf 13 2 2,
xl 14 13,
xm 15 1,
xi 16 (.indexAddr none 10 (.tmp 14) (.tmp 15)),
xL 17 10 16,
xi 5 (.push [xz,xz,xz,xz,xz,xz,xz,xz,(.string ⟨#[]⟩),(.string ⟨#[]⟩)]),
xt 10 5 17])
(.seq (.seq (xr [xf 18 0 5,
xL 19 4 18,
xc 20 108 [.tmp 19],
xm 6 20])
(.seq (xr [xm 21 6,
xb 22 .neq (.tmp 21) xq])
(.cond (.tmp 22) (.seq (xr [xm 23 6,
xm 4 23])
.ret)
.skip)))
(.seq (.seq (xr [xf 24 4 5,
xl 25 24,
xc 26 67 [.tmp 25,(xk 1),(xk 4)],
xi 27 (.un .not (.tmp 26))])
(.cond (.tmp 27) (.seq (xr [xi 4 (.move (xk 2))])
.ret)
.skip))
(.seq (.seq (xr [xf 28 1 2,
xl 29 28,
xf 30 5 5,
xL 31 5 30,
xc 32 99 [.tmp 29,.tmp 31],
xm 7 32])
(.seq (xr [xm 33 7,
xb 34 .neq (.tmp 33) xq])
(.cond (.tmp 34) (.seq (xr [xm 35 7,
xm 4 35])
.ret)
.skip)))
(.seq (xr [xf 37 0 5,
xL 38 4 37,
xf 39 0 2,
xl 40 39,
xc 41 109 [.tmp 38,.tmp 40],
xm 36 41,
xe 42 36 0,
xe 43 36 1,
xi 8 (.push [xz,xz]),
xt 2 8 42,
xm 9 43])
(.seq (.seq (xr [xm 44 9,
xb 45 .neq (.tmp 44) xq])
(.cond (.tmp 45) (.seq (xr [xm 46 9,
xm 4 46])
.ret)
.skip))
(.seq (.seq (xr [xL 47 2 8,
xc 48 100 [.tmp 47],
xm 10 48])
(.seq (xr [xm 49 10,
xb 50 .neq (.tmp 49) xq,
xm 51 50,
ym 52 1 51 false,
yb 53 .eql (.tmp 52) xq 51 false,
xi 54 (.pick (.tmp 51) xT (.tmp 53))])
(.cond (.tmp 54) (.seq (xr [xm 55 10,
xm 4 55])
.ret)
.skip)))
(.seq (.seq (xR [xf 57 0 5,
xL 58 4 57,
xf 59 2 2,
xl 60 59,
xm 61 1,
xb 62 .sub (.tmp 61) (xk 1),
xi 63 (.indexAddr none 10 (.tmp 60) (.tmp 62)),
xf 64 0 63,
xL 65 4 64,
xc 66 110 [.tmp 58,.tmp 65],
xm 56 66,
xe 67 56 0,
xe 68 56 1,
xm 11 67,
xm 12 68])
(.block 0 (.seq (xr [xm 70 12,
xb 71 .neq (.tmp 70) xq,
xm 69 71])
(.cond (.tmp 69) (.seq (xr [xm 72 12,
xm 4 72])
.ret)
(.seq (xr [xm 74 11,
xb 75 .leq (.tmp 74) xq,
xm 73 75])
(.cond (.tmp 73) (.seq (xr [xi 4 (.move (xk 9))])
.ret)
.skip))))))
(.seq (xr [xi 4 (.move xq)])
.ret))))))))),
[.tmp 4],.pure,76⟩
def ef71:EFun:=⟨
.skip,
[],.nat natItoa,0⟩
def ef72:EFun:=⟨
.skip,
[],.nat natJoin,0⟩
def ef73:EFun:=⟨
.seq (xr [xi 2 (.move xF)])
(.seq (.seq (xr [xm 4 0,
xi 5 (.len true (.tmp 4)),
xb 6 .eql (.tmp 5) xq,
xm 7 6,
ym 8 0 7 false,
xg 9 (.len true (.tmp 8)) 7 false,
yb 10 .gtr (.tmp 9) (xk 12) 7 false,
xi 11 (.pick (.tmp 7) xT (.tmp 10)),
xm 12 11,
ym 13 0 12 false,
xg 14 (.strIndex (.tmp 13) xq) 12 false,
xg 15 (.call 114 [.tmp 14]) 12 false,
xg 16 (.un .not (.tmp 15)) 12 false,
xi 17 (.pick (.tmp 12) xT (.tmp 16))])
(.cond (.tmp 17) (.seq (xr [xi 2 (.move xF)])
.ret)
.skip))
(.seq (.seq (xr [xi 3 (.move xq)])
(.block 0 (.loop (some [0,3]) (
.seq (.seq (xr [xm 18 3,
xm 19 0,
xi 20 (.len true (.tmp 19)),
xB 21 .lss 18 20])
(.cond (.tmp 21) .skip
(.exit 0)))
(.seq (.block 1 (.seq (xr [xm 24 0,
xm 25 3,
xi 26 (.strIndex (.tmp 24) (.tmp 25)),
xc 27 114 [.tmp 26],
xi 28 (.un .not (.tmp 27)),
xm 29 28,
ym 30 0 29 true,
ym 31 3 29 true,
xg 32 (.strIndex (.tmp 30) (.tmp 31)) 29 true,
xg 33 (.call 115 [.tmp 32]) 29 true,
xg 34 (.un .not (.tmp 33)) 29 true,
xi 35 (.pick (.tmp 29) (.tmp 34) xF),
xm 36 35,
ym 37 0 36 true,
ym 38 3 36 true,
xg 39 (.strIndex (.tmp 37) (.tmp 38)) 36 true,
yb 40 .neq (.tmp 39) (.const (.int .u8 45)) 36 true,
xi 41 (.pick (.tmp 36) (.tmp 40) xF)])
(.cond (.tmp 41) (.seq (xr [xi 2 (.move xF)])
.ret)
.skip)))
(xr [xm 22 3,
xb 23 .add (.tmp 22) (xk 1),
xm 3 23]))))))
(.seq (xr [xi 2 (.move xT)])
.ret))),
[.tmp 2],.pure,42⟩
def ef74:EFun:=⟨
.seq (xr [xi 4 (.move xq)])
(.seq (.seq (xr [xi 5 (.move xq)])
(.block 0 (.loop (some [0,1,5]) (
.seq (.seq (xr [xm 6 5,
xm 7 0,
xn 8 7,
xB 9 .lss 6 8])
(.cond (.tmp 9) .skip
(.exit 0)))
(.seq (.block 1 (.seq (xr [xm 12 0,
xm 13 5,
xi 14 (.indexAddr none 4 (.tmp 12) (.tmp 13)),
xf 15 0 14,
xl 16 15,
xm 17 1,
xB 18 .eql 16 17])
(.cond (.tmp 18) (.seq (xr [xm 19 5,
xm 4 19])
.ret)
.skip)))
(xr [xm 10 5,
xb 11 .add (.tmp 10) (xk 1),
xm 5 11]))))))
(.seq (xr [xi 4 (.move (.const (.int .i64 (-1))))])
.ret)),
[.tmp 4],.pure,20⟩
def ef75:EFun:=⟨
.seq (xr [xv 1 0,
xi 2 (.move xF)])
(.seq (.seq (xr [xf 5 0 1,
xl 6 5,
xf 7 1 1,
xl 8 7,
xf 9 2 1,
xl 10 9,
xi 11 (.build [xz,xz,xz] [(0,1,(.tmp 6)),(1,1,(.tmp 8)),(2,1,(.tmp 10))]),
xi 12 (.move xq)])
(.block 0 (.loop (some [1,11,12]) (
.seq (xr [xb 13 .lss (.tmp 12) (xk 3)])
(.seq (.cond (.tmp 13) .skip
(.exit 0))
(.seq (.block 1 (.seq (xr [xi 14 (.index 3 1 false (.tmp 11) (.tmp 12)),
xm 4 14])
(.seq (xr [xm 15 4,
xc 16 41 [.tmp 15,(.const (.int .i64 (-400))),(xk 400)],
xi 17 (.un .not (.tmp 16))])
(.cond (.tmp 17) (.seq (xr [xi 2 (.move xF)])
.ret)
.skip))))
(xr [xb 18 .add (.tmp 12) (xk 1),
xm 12 18])))))))
(.seq (xr [xf 19 3 1,
xl 20 19,
xc 21 41 [.tmp 20,(xk 1),(xk 12)],
xm 2 21])
.ret)),
[.tmp 2],.pure,22⟩
def ef76:EFun:=⟨
.seq (xr [xv 3 1,
xi 4 (.move xq)])
(.seq (.seq (xr [xf 6 0 3,
xl 7 6,
xc 8 41 [.tmp 7,(xk 1000),(xk 300000)],
xi 9 (.un .not (.tmp 8)),
xm 10 9,
yf 11 1 3 10 false,
yl 12 11 10 false,
xg 13 (.call 41 [.tmp 12,(xk 100),(xk 3000)]) 10 false,
xg 14 (.un .not (.tmp 13)) 10 false,
xi 15 (.pick (.tmp 10) xT (.tmp 14)),
xm 16 15,
yf 17 2 3 16 false,
yl 18 17 16 false,
xg 19 (.call 41 [.tmp 18,xq,(xk 10000)]) 16 false,
xg 20 (.un .not (.tmp 19)) 16 false,
xi 21 (.pick (.tmp 16) xT (.tmp 20))])
(.cond (.tmp 21) (.seq (xr [xi 4 (.move (xk 2))])
.ret)
.skip))
(.seq (.seq (xr [xf 22 2 3,
xl 23 22,
xb 24 .neq (.tmp 23) xq,
xm 25 24,
yf 26 2 3 25 true,
yl 27 26 25 true,
yf 28 1 3 25 true,
yl 29 28 25 true,
yb 30 .leq (.tmp 27) (.tmp 29) 25 true,
xi 31 (.pick (.tmp 25) (.tmp 30) xF),
xm 32 31,
yf 33 2 3 32 false,
yl 34 33 32 false,
yb 35 .neq (.tmp 34) xq 32 false,
yf 36 4 3 32 false,
yl 37 36 32 false,
yb 38 .neq (.tmp 37) (.const (.string ⟨#[]⟩)) 32 false,
xg 39 (.eqBool true (.tmp 35) (.tmp 38)) 32 false,
xi 40 (.pick (.tmp 32) xT (.tmp 39))])
(.cond (.tmp 40) (.seq (xr [xi 4 (.move (xk 3))])
.ret)
.skip))
(.seq (xr [xm 41 0,
xf 42 3 3,
xl 43 42,
xc 44 74 [.tmp 41,.tmp 43],
xm 5 44])
(.seq (.seq (xr [xm 45 5,
xb 46 .lss (.tmp 45) xq,
xm 47 46,
yf 48 2 3 47 false,
yl 49 48 47 false,
yb 50 .neq (.tmp 49) xq 47 false,
ym 51 50 47 false,
ym 52 0 51 true,
yf 53 4 3 51 true,
yl 54 53 51 true,
xg 55 (.call 74 [.tmp 52,.tmp 54]) 51 true,
yb 56 .lss (.tmp 55) xq 51 true,
xg 57 (.pick (.tmp 51) (.tmp 56) xF) 47 false,
xi 58 (.pick (.tmp 47) xT (.tmp 57))])
(.cond (.tmp 58) (.seq (xr [xi 4 (.move (xk 6))])
.ret)
.skip))
(.seq (.seq (xR [xm 59 0,
xm 60 5,
xi 61 (.indexAddr none 4 (.tmp 59) (.tmp 60)),
xf 62 2 61,
xl 63 62,
xf 64 1 3,
xl 65 64,
xB 66 .mul 63 65,
xf 67 1 3,
xl 68 67,
xB 69 .mul 66 68,
xb 70 .lss (.tmp 69) (xk 1000000)])
(.cond (.tmp 70) (.seq (xr [xi 4 (.move (xk 11))])
.ret)
.skip))
(.seq (xr [xi 4 (.move xq)])
.ret)))))),
[.tmp 4],.pure,71⟩
def ef77:EFun:=⟨
.seq (xr [xv 2 0,
xi 4 (.push [xz,xz]),
xi 5 (.move xq)])
(.seq (xr [xf 13 0 2,
xl 14 13,
xf 15 1 2,
xl 16 15,
xf 17 2 2,
xl 18 17,
xc 19 116 [.tmp 14,.tmp 16,.tmp 18],
xm 12 19,
xe 20 12 0,
xe 21 12 1,
xm 6 20,
xm 7 21])
(.seq (xR [xm 22 6,
xm 23 1,
xC 24 119 [.tmp 23],
xf 25 3 2,
xl 26 25,
xc 27 118 [.tmp 24,.tmp 26],
xc 28 117 [.tmp 22,.tmp 27],
xm 6 28])
(.seq (xr [xi 8 (.move xq),
xi 9 (.move (xk 1000000000000001))])
(.seq (.block 0 (.loop (some [2,4,6,7,8,9]) (
.seq (.seq (xr [xm 29 8,
xm 30 9,
xB 31 .lss 29 30])
(.cond (.tmp 31) .skip
(.exit 0)))
(.block 1 (.seq (xr [xm 32 9,
xm 33 9,
xm 34 8,
xB 35 .sub 33 34,
xb 36 .quo (.tmp 35) (xk 2),
xB 37 .sub 32 36,
xm 10 37])
(.seq (xR [xm 38 10,
xC 39 119 [.tmp 38],
xf 40 3 2,
xl 41 40,
xc 42 118 [.tmp 39,.tmp 41],
xm 43 7,
xc 44 117 [.tmp 42,.tmp 43],
xm 45 6,
xc 46 120 [.tmp 44,.tmp 45],
xb 47 .leq (.tmp 46) xq])
(.cond (.tmp 47) (xr [xm 48 10,
xm 8 48])
(xr [xm 49 10,
xb 50 .sub (.tmp 49) (xk 1),
xm 9 50]))))))))
(.seq (xr [xm 51 8,
xm 11 51])
(.seq (.seq (xR [xm 52 8,
xC 53 119 [.tmp 52],
xf 54 3 2,
xl 55 54,
xc 56 118 [.tmp 53,.tmp 55],
xm 57 7,
xc 58 117 [.tmp 56,.tmp 57],
xm 59 6,
xc 60 120 [.tmp 58,.tmp 59],
xb 61 .neq (.tmp 60) xq])
(.cond (.tmp 61) (xr [xm 62 8,
xb 63 .add (.tmp 62) (xk 1),
xm 11 63])
.skip))
(.seq (.seq (xr [xm 64 11,
xb 65 .gtr (.tmp 64) (xk 1000000000000000)])
(.cond (.tmp 65) (.seq (xr [xi 66 (.build [xz,xz] []),
xt 2 4 66,
xi 5 (.move (xk 8))])
.ret)
.skip))
(.seq (xr [xm 67 8,
xm 68 11,
xi 69 (.build [xz,xz] [(0,1,(.tmp 67)),(1,1,(.tmp 68))]),
xt 2 4 69,
xi 5 (.move xq)])
.ret)))))))),
[.cell 4 true 2,.tmp 5],.pure,70⟩
def ef78:EFun:=⟨
.seq (xr [xv 1 0,
xi 2 (.move xF)])
(.seq (xr [xf 3 0 1,
xl 4 3,
xf 5 1 1,
xl 6 5,
xc 7 41 [.tmp 4,(xk 1),.tmp 6],
xm 8 7,
yf 9 1 1 8 true,
yl 10 9 8 true,
yb 11 .leq (.tmp 10) (xk 10000000) 8 true,
xi 12 (.pick (.tmp 8) (.tmp 11) xF),
xm 2 12])
.ret),
[.tmp 2],.pure,13⟩
def ef79:EFun:=⟨
.seq (xr [xv 2 0,
xv 3 1,
xi 4 (.move xq)])
(.seq (xr [xL 8 4 2,
xL 9 4 3,
xc 10 122 [.tmp 8,.tmp 9,(.const (.int .i64 (-1)))],
xc 11 121 [.tmp 10],
xi 5 (.push [xz,xz,xz,xz]),
xt 4 5 11])
(.seq (xr [xf 13 0 5,
xl 14 13,
xf 15 1 5,
xl 16 15,
xf 17 2 5,
xl 18 17,
xc 19 116 [.tmp 14,.tmp 16,.tmp 18],
xm 12 19,
xe 20 12 0,
xe 21 12 1,
xm 6 20,
xm 7 21])
(.seq (xr [xm 22 6,
xm 23 7,
xc 24 120 [.tmp 22,.tmp 23],
xm 4 24])
.ret))),
[.tmp 4],.pure,25⟩
def ef80:EFun:=⟨
.block 0 (.loop (some [0,1]) (
.seq (.seq (xr [xl 5 1,
xi 6 (.len true (.tmp 5)),
xb 7 .gtr (.tmp 6) xq])
(.cond (.tmp 7) .skip
(.exit 0)))
(.block 1 (.seq (xr [xi 3 (.move (.const (.string ⟨#[]⟩)))])
(.seq (.seq (xr [xl 8 1,
xc 9 81 [.tmp 8,(.const (.int .u8 10))],
xm 4 9])
(.seq (xr [xm 10 4,
xb 11 .geq (.tmp 10) xq])
(.cond (.tmp 11) (xR [xl 12 1,
xm 13 4,
xb 14 .add (.tmp 13) (xk 1),
xi 15 (.strSlice (.tmp 12) none (some (.tmp 14))),
xl 16 1,
xm 17 4,
xb 18 .add (.tmp 17) (xk 1),
xi 19 (.strSlice (.tmp 16) (some (.tmp 18)) none),
xm 3 15,
xt 1 1 19])
(xr [xl 20 1,
xm 3 20,
⟨none,.store 1 (.tmp 1) (.const (.string ⟨#[]⟩)),none,[],false,false⟩]))))
(.seq (xr [xm 21 0,
xm 22 3,
xi 23 (.callVal (.tmp 21) [.tmp 22]),
xi 24 (.un .not (.tmp 23))])
(.cond (.tmp 24) .ret
.skip))))))),
[],.full,25⟩
def ef81:EFun:=⟨
.seq (xr [xi 4 (.move xq)])
(.seq (xr [xm 5 0,
xm 6 1,
xc 7 123 [.tmp 5,.tmp 6],
xm 4 7])
.ret),
[.tmp 4],.pure,8⟩
def ef82:EFun:=⟨
.seq (xr [xi 4 (.move (.const (.string ⟨#[]⟩))),
xi 5 (.move xF)])
(.seq (.seq (xr [xm 6 0,
xm 7 1,
xc 8 124 [.tmp 6,.tmp 7],
xi 9 (.un .not (.tmp 8))])
(.cond (.tmp 9) (.seq (xr [xm 10 0,
xm 4 10,
xi 5 (.move xF)])
.ret)
.skip))
(.seq (xr [xm 11 0,
xm 12 0,
xi 13 (.len true (.tmp 12)),
xm 14 1,
xi 15 (.len true (.tmp 14)),
xB 16 .sub 13 15,
xi 17 (.strSlice (.tmp 11) none (some (.tmp 16))),
xm 4 17,
xi 5 (.move xT)])
.ret)),
[.tmp 4,.tmp 5],.pure,18⟩
def ef83:EFun:=⟨
.seq (xr [xi 2 (.move (.const (.slice none 0 0))),
xi 3 (.move xF)])
(.seq (xr [xi 4 (.move (.const (.slice none 0 0)))])
(.seq (.seq (xr [xm 9 0,
xn 10 9,
xi 11 (.move xq)])
(.block 0 (.loop (some [4,9,10,11]) (
.seq (xr [xB 12 .lss 11 10])
(.seq (.cond (.tmp 12) .skip
(.exit 0))
(.seq (.block 1 (.seq (xr [xa 13 9 11,
xl 14 13,
xm 6 14])
(.seq (xr [xm 16 6,
xc 17 125 [.tmp 16],
xm 15 17,
xe 18 15 0,
xe 19 15 1,
xm 7 18,
xm 8 19])
(.seq (.seq (xr [xm 20 8,
xi 21 (.eqNil true (.tmp 20)),
xm 22 21,
ym 23 7 22 false,
xg 24 (.call 71 [.tmp 23]) 22 false,
ym 25 6 22 false,
yb 26 .neq (.tmp 24) (.tmp 25) 22 false,
xi 27 (.pick (.tmp 22) xT (.tmp 26)),
xm 28 27,
ym 29 6 28 false,
xg 30 (.call 126 [.tmp 29,(.const (.string ⟨#[45]⟩))]) 28 false,
xg 31 (.len true (.tmp 30)) 28 false,
yb 32 .gtr (.tmp 31) (xk 9) 28 false,
xi 33 (.pick (.tmp 28) xT (.tmp 32))])
(.cond (.tmp 33) (.seq (xr [xi 2 (.move (.const (.slice none 0 0))),
xi 3 (.move xF)])
.ret)
.skip))
(xr [xm 34 4,
xm 35 7,
xi 36 (.buildSlice 1 1 [xz] [(0,1,(.tmp 35))]),
xi 37 (.append 1 8 (.tmp 34) (.tmp 36)),
xm 4 37])))))
(xr [xb 38 .add (.tmp 11) (xk 1),
xm 11 38])))))))
(.seq (xr [xm 39 4,
xm 2 39,
xi 3 (.move xT)])
.ret))),
[.tmp 2,.tmp 3],.pure,40⟩
def ef84:EFun:=⟨
.seq (xr [xi 8 (.move (.const (.slice none 0 0)))])
(.seq (.seq (xr [xm 12 3,
xb 13 .eql (.tmp 12) xq])
(.cond (.tmp 13) (.seq (xr [xi 8 (.move (.const (.slice none 0 0)))])
.ret)
.skip))
(.seq (.seq (xr [xm 14 1,
xb 15 .eql (.tmp 14) (.const (.string ⟨#[]⟩))])
(.cond (.tmp 15) (.seq (xr [xm 16 0,
xm 17 3,
xc 18 127 [.tmp 16,.tmp 17],
xm 8 18])
.ret)
.skip))
(.seq (.seq (xr [xm 19 3,
xb 20 .lss (.tmp 19) xq])
(.cond (.tmp 20) (xr [xm 21 0,
xm 22 1,
xc 23 128 [.tmp 21,.tmp 22],
xb 24 .add (.tmp 23) (xk 1),
xm 3 24])
.skip))
(.seq (xr [xm 25 3,
xm 26 0,
xi 27 (.len true (.tmp 26)),
xb 28 .add (.tmp 27) (xk 1),
xi 29 (.min [.tmp 25,.tmp 28]),
xm 3 29])
(.seq (xr [xm 30 3,
xi 31 (.makeSlice 1 16 [(.string ⟨#[]⟩)] (.tmp 30) (.tmp 30)),
xm 9 31])
(.seq (xr [xm 32 3,
xb 33 .sub (.tmp 32) (xk 1),
xm 3 33])
(.seq (xr [xi 10 (.move xq)])
(.seq (.block 0 (.loop (some [0,1,2,3,9,10]) (
.seq (.seq (xr [xm 34 10,
xm 35 3,
xB 36 .lss 34 35])
(.cond (.tmp 36) .skip
(.exit 0)))
(.block 1 (.seq (xr [xm 37 0,
xm 38 1,
xc 39 129 [.tmp 37,.tmp 38],
xm 11 39])
(.seq (.seq (xr [xm 40 11,
xb 41 .lss (.tmp 40) xq])
(.cond (.tmp 41) (.exit 0)
.skip))
(.seq (xr [xm 42 9,
xm 43 10,
xm 44 0,
xm 45 11,
xm 46 2,
xB 47 .add 45 46,
xi 48 (.strSlice (.tmp 44) none (some (.tmp 47))),
xa 49 42 43,
xt 1 49 48])
(.seq (xr [xm 50 0,
xm 51 11,
xm 52 1,
xi 53 (.len true (.tmp 52)),
xB 54 .add 51 53,
xi 55 (.strSlice (.tmp 50) (some (.tmp 54)) none),
xm 0 55])
(xr [xm 56 10,
xb 57 .add (.tmp 56) (xk 1),
xm 10 57])))))))))
(.seq (xr [xm 58 9,
xm 59 10,
xm 60 0,
xa 61 58 59,
xt 1 61 60])
(.seq (xr [xm 62 9,
xm 63 10,
xb 64 .add (.tmp 63) (xk 1),
xi 65 (.slice 1 (.tmp 62) none (some (.tmp 64))),
xm 8 65])
.ret)))))))))),
[.tmp 8],.pure,66⟩
def ef85:EFun:=⟨
.seq (xr [xi 2 (.move (.const (.slice none 0 0))),
xi 3 (.move xF)])
(.seq (xr [xi 4 (.move (.const (.slice none 0 0)))])
(.seq (.seq (xr [xi 5 (.move xq)])
(.block 0 (.loop (some [0,4,5]) (
.seq (.seq (xr [xm 8 5,
xm 9 0,
xn 10 9,
xB 11 .lss 8 10])
(.cond (.tmp 11) .skip
(.exit 0)))
(.seq (.block 1 (.seq (xr [xm 15 0,
xm 16 5,
xa 17 15 16,
xl 18 17,
xc 19 95 [.tmp 18,(xk 9)],
xm 14 19,
xe 20 14 0,
xe 21 14 1,
xm 6 20,
xm 7 21])
(.seq (.seq (xr [xm 22 7,
xi 23 (.un .not (.tmp 22))])
(.cond (.tmp 23) (.seq (xr [xi 2 (.move (.const (.slice none 0 0))),
xi 3 (.move xF)])
.ret)
.skip))
(xr [xm 24 4,
xm 25 6,
xi 26 (.buildSlice 1 1 [xz] [(0,1,(.tmp 25))]),
xi 27 (.append 1 8 (.tmp 24) (.tmp 26)),
xm 4 27]))))
(xr [xm 12 5,
xb 13 .add (.tmp 12) (xk 1),
xm 5 13]))))))
(.seq (xr [xm 28 4,
xm 2 28,
xi 3 (.move xT)])
.ret))),
[.tmp 2,.tmp 3],.pure,29⟩
def ef95:EFun:=⟨
.seq (xr [xi 4 (.move xq),
xi 5 (.move xF)])
(.seq (xr [xi 6 (.move xq),
xi 7 (.move xq)])
(.seq (.seq (xr [xm 9 0,
xi 10 (.len true (.tmp 9)),
xb 11 .gtr (.tmp 10) xq,
xm 12 11,
ym 13 0 12 true,
xg 14 (.strIndex (.tmp 13) xq) 12 true,
yb 15 .eql (.tmp 14) (.const (.int .u8 45)) 12 true,
xi 16 (.pick (.tmp 12) (.tmp 15) xF)])
(.cond (.tmp 16) (xr [xi 7 (.move (xk 1))])
.skip))
(.seq (.seq (xr [xm 17 0,
xi 18 (.len true (.tmp 17)),
xm 19 7,
xB 20 .eql 18 19,
xm 21 20,
ym 22 0 21 false,
xg 23 (.len true (.tmp 22)) 21 false,
ym 24 7 21 false,
ym 25 1 21 false,
yb 26 .add (.tmp 24) (.tmp 25) 21 false,
yb 27 .gtr (.tmp 23) (.tmp 26) 21 false,
xi 28 (.pick (.tmp 21) xT (.tmp 27)),
xm 29 28,
ym 30 1 29 false,
yb 31 .gtr (.tmp 30) (xk 18) 29 false,
xi 32 (.pick (.tmp 29) xT (.tmp 31))])
(.cond (.tmp 32) (.seq (xr [xi 4 (.move xq),
xi 5 (.move xF)])
.ret)
.skip))
(.seq (.seq (xr [xm 33 7,
xm 8 33])
(.block 0 (.loop (some [0,6,7,8]) (
.seq (.seq (xr [xm 34 8,
xm 35 0,
xi 36 (.len true (.tmp 35)),
xB 37 .lss 34 36])
(.cond (.tmp 37) .skip
(.exit 0)))
(.seq (.block 1 (.seq (.seq (xr [xm 40 0,
xm 41 8,
xi 42 (.strIndex (.tmp 40) (.tmp 41)),
xc 43 115 [.tmp 42],
xi 44 (.un .not (.tmp 43))])
(.cond (.tmp 44) (.seq (xr [xi 4 (.move xq),
xi 5 (.move xF)])
.ret)
.skip))
(xr [xm 45 6,
xb 46 .mul (xk 10) (.tmp 45),
xm 47 0,
xm 48 8,
xi 49 (.strIndex (.tmp 47) (.tmp 48)),
xb 50 .sub (.tmp 49) (.const (.int .u8 48)),
xi 51 (.conv .i64 (.tmp 50)),
xB 52 .add 46 51,
xm 6 52])))
(xr [xm 38 8,
xb 39 .add (.tmp 38) (xk 1),
xm 8 39]))))))
(.seq (.seq (xr [xm 53 7,
xb 54 .eql (.tmp 53) (xk 1)])
(.cond (.tmp 54) (xr [xm 55 6,
xi 56 (.un .neg (.tmp 55)),
xm 6 56])
.skip))
(.seq (xr [xm 57 6,
xm 58 6,
xc 59 60 [.tmp 58],
xm 60 0,
xB 61 .eql 59 60,
xm 4 57,
xm 5 61])
.ret)))))),
[.tmp 4,.tmp 5],.pure,62⟩
def ef96:EFun:=⟨
.seq (xr [xi 2 (.move xq)])
(.seq (.seq (xr [xm 3 0,
xb 4 .lss (.tmp 3) xq])
(.cond (.tmp 4) (.seq (xr [xm 5 0,
xi 6 (.un .neg (.tmp 5)),
xm 2 6])
.ret)
.skip))
(.seq (xr [xm 7 0,
xm 2 7])
.ret)),
[.tmp 2],.pure,8⟩
def ef99:EFun:=⟨
.seq (xr [xv 3 1,
xi 4 (.move xq)])
(.seq (.seq (xr [xm 10 0,
xc 11 68 [.tmp 10],
xm 5 11])
(.seq (xr [xm 12 5,
xb 13 .neq (.tmp 12) xq])
(.cond (.tmp 13) (.seq (xr [xm 14 5,
xm 4 14])
.ret)
.skip)))
(.seq (xr [xm 16 0,
xf 17 3 3,
xl 18 17,
xc 19 149 [.tmp 16,.tmp 18],
xm 15 19,
xe 20 15 0,
xe 21 15 1,
xi 6 (.push [(.string ⟨#[]⟩),xz,xz,xz]),
xt 4 6 20,
xm 7 21])
(.seq (xr [xm 23 0,
xf 24 4 3,
xl 25 24,
xc 26 149 [.tmp 23,.tmp 25],
xm 22 26,
xe 27 22 0,
xe 28 22 1,
xi 8 (.push [(.string ⟨#[]⟩),xz,xz,xz]),
xt 4 8 27,
xm 9 28])
(.seq (.block 0 (.seq (xr [xf 30 0 3,
xl 31 30,
xc 32 67 [.tmp 31,(xk 1000),(xk 300000)],
xi 33 (.un .not (.tmp 32)),
xm 34 33,
yf 35 1 3 34 false,
yl 36 35 34 false,
xg 37 (.call 67 [.tmp 36,(xk 100),(xk 3000)]) 34 false,
xg 38 (.un .not (.tmp 37)) 34 false,
xi 39 (.pick (.tmp 34) xT (.tmp 38)),
xm 40 39,
yf 41 2 3 40 false,
yl 42 41 40 false,
xg 43 (.call 67 [.tmp 42,xq,(xk 10000)]) 40 false,
xg 44 (.un .not (.tmp 43)) 40 false,
xi 45 (.pick (.tmp 40) xT (.tmp 44)),
xm 29 45])
(.cond (.tmp 29) (.seq (xr [xi 4 (.move (xk 2))])
.ret)
(.seq (xr [xf 47 2 3,
xl 48 47,
xb 49 .neq (.tmp 48) xq,
xm 50 49,
yf 51 2 3 50 true,
yl 52 51 50 true,
yf 53 1 3 50 true,
yl 54 53 50 true,
yb 55 .leq (.tmp 52) (.tmp 54) 50 true,
xi 56 (.pick (.tmp 50) (.tmp 55) xF),
xm 57 56,
yf 58 2 3 57 false,
yl 59 58 57 false,
yb 60 .eql (.tmp 59) xq 57 false,
yf 61 4 3 57 false,
yl 62 61 57 false,
yb 63 .eql (.tmp 62) (.const (.string ⟨#[]⟩)) 57 false,
xg 64 (.eqBool true (.tmp 60) (.tmp 63)) 57 false,
xi 65 (.pick (.tmp 57) xT (.tmp 64)),
xm 46 65])
(.cond (.tmp 46) (.seq (xr [xi 4 (.move (xk 3))])
.ret)
(.seq (xr [xm 67 7,
xi 68 (.un .not (.tmp 67)),
xm 69 68,
yf 70 2 3 69 false,
yl 71 70 69 false,
yb 72 .neq (.tmp 71) xq 69 false,
ym 73 72 69 false,
ym 74 9 73 true,
xg 75 (.un .not (.tmp 74)) 73 true,
xg 76 (.pick (.tmp 73) (.tmp 75) xF) 69 false,
xi 77 (.pick (.tmp 69) xT (.tmp 76)),
xm 66 77])
(.cond (.tmp 66) (.seq (xr [xi 4 (.move (xk 6))])
.ret)
(.seq (xr [xf 79 2 6,
xl 80 79,
xf 81 1 3,
xl 82 81,
xB 83 .mul 80 82,
xf 84 1 3,
xl 85 84,
xB 86 .mul 83 85,
xb 87 .lss (.tmp 86) (xk 1000000),
xm 78 87])
(.cond (.tmp 78) (.seq (xr [xi 4 (.move (xk 11))])
.ret)
.skip)))))))))
(.seq (xr [xi 4 (.move xq)])
.ret))))),
[.tmp 4],.pure,88⟩
def ef100:EFun:=⟨
.seq (xr [xv 1 0,
xi 2 (.move xq)])
(.seq (.seq (xr [xf 3 0 1,
xl 4 3,
xb 5 .lss (.tmp 4) (xk 1),
xm 6 5,
yf 7 0 1 6 false,
yl 8 7 6 false,
yf 9 1 1 6 false,
yl 10 9 6 false,
yb 11 .gtr (.tmp 8) (.tmp 10) 6 false,
xi 12 (.pick (.tmp 6) xT (.tmp 11)),
xm 13 12,
yf 14 1 1 13 false,
yl 15 14 13 false,
yb 16 .gtr (.tmp 15) (xk 10000000) 13 false,
xi 17 (.pick (.tmp 13) xT (.tmp 16))])
(.cond (.tmp 17) (.seq (xr [xi 2 (.move (xk 2))])
.ret)
.skip))
(.seq (xr [xi 2 (.move xq)])
.ret)),
[.tmp 2],.pure,18⟩
def ef101:EFun:=⟨
.seq (xr [xv 4 1,
xv 5 2,
xi 6 (.push [(.string ⟨#[]⟩),xz,xz,xz,xz,xz,xz,(.string ⟨#[]⟩),(.string ⟨#[]⟩),xz,xz,xz,xz])])
(.seq (xr [xm 14 0,
xf 15 3 4,
xl 16 15,
xc 17 149 [.tmp 14,.tmp 16],
xm 13 17,
xe 18 13 0,
xe 19 13 1,
xi 7 (.push [(.string ⟨#[]⟩),xz,xz,xz]),
xt 4 7 18,
xm 8 19])
(.seq (xr [xf 20 0 5,
xl 21 20,
xf 22 0 4,
xl 23 22,
xB 24 .mul 21 23,
xf 25 1 5,
xl 26 25,
xf 27 0 4,
xl 28 27,
xB 29 .mul 26 28,
xc 30 102 [.tmp 24,.tmp 29,(xk 1000000)],
xi 9 (.push [xz,xz]),
xt 2 9 30])
(.seq (xr [xf 31 0 9,
xl 32 31,
xf 33 0 9,
xl 34 33,
xB 35 .mul 32 34,
xf 36 1 9,
xl 37 36,
xf 38 1 9,
xl 39 38,
xB 40 .mul 37 39,
xc 41 102 [.tmp 35,.tmp 40,(xk 10000)],
xi 10 (.push [xz,xz]),
xt 2 10 41])
(.seq (xr [xm 42 0,
xL 43 5 4,
xc 44 150 [.tmp 42,.tmp 43],
xm 11 44])
(.seq (xr [xm 45 11,
xm 46 11,
xc 47 102 [.tmp 45,.tmp 46,(xk 10000)],
xi 12 (.push [xz,xz]),
xt 2 12 47])
(.seq (xR [xL 48 4 7,
xL 49 5 4,
xL 50 2 9,
xf 51 0 12,
xl 52 51,
xf 53 0 10,
xl 54 53,
xB 55 .mul 52 54,
xf 56 1 12,
xl 57 56,
xf 58 1 10,
xl 59 58,
xB 60 .mul 57 59,
xC 61 102 [.tmp 55,.tmp 60,(xk 1000000)],
xi 62 (.build [(.string ⟨#[]⟩),xz,xz,xz,xz,xz,xz,(.string ⟨#[]⟩),(.string ⟨#[]⟩),xz,xz,xz,xz] [(0,4,(.tmp 48)),(4,5,(.tmp 49)),(9,2,(.tmp 50)),(11,2,(.tmp 61))]),
xt 13 6 62])
.ret)))))),
[.cell 6 true 13],.pure,63⟩
def ef102:EFun:=⟨
.seq (xr [xi 6 (.push [xz,xz])])
(.seq (xr [xm 7 0,
xm 8 2,
xm 9 1,
xm 10 2,
xc 11 103 [.tmp 7,.tmp 8,.tmp 9,.tmp 10],
xt 2 6 11])
.ret),
[.cell 6 true 2],.pure,12⟩
def ef103:EFun:=⟨
.seq (xr [xi 8 (.push [xz,xz])])
(.seq (xR [xm 9 0,
xm 10 1,
xB 11 .quo 9 10,
xm 12 2,
xm 13 3,
xB 14 .add 12 13,
xb 15 .sub (.tmp 14) (xk 1),
xm 16 3,
xB 17 .quo 15 16,
xi 18 (.build [xz,xz] [(0,1,(.tmp 11)),(1,1,(.tmp 17))]),
xt 2 8 18])
.ret),
[.cell 8 true 2],.pure,19⟩
def ef104:EFun:=⟨
.seq (xr [xi 4 (.move xq)])
(.seq (.block 0 (.seq (xr [xm 8 0,
xc 9 151 [.tmp 8,(xk 1),(xk 60)],
xi 10 (.un .not (.tmp 9)),
xm 7 10])
(.cond (.tmp 7) (.seq (xr [xi 4 (.move (xk 2))])
.ret)
(.seq (xr [xm 12 1,
xn 13 12,
xb 14 .gtr (.tmp 13) (xk 200),
xm 11 14])
(.cond (.tmp 11) (.seq (xr [xi 4 (.move (xk 8))])
.ret)
.skip)))))
(.seq (.seq (xr [xm 15 1,
xn 16 15,
xi 17 (.move xq)])
(.block 1 (.loop (some [0,15,16,17]) (
.seq (xr [xB 18 .lss 17 16])
(.seq (.cond (.tmp 18) .skip
(.exit 1))
(.seq (.block 2 (.seq (xr [xi 19 (.indexAddr none 3 (.tmp 15) (.tmp 17)),
xL 20 3 19,
xi 6 (.push [xz,xz,xz]),
xt 3 6 20])
(.block 3 (.seq (xr [xf 22 0 6,
xl 23 22,
xm 24 0,
xb 25 .sub (.tmp 24) (xk 1),
xc 26 151 [.tmp 23,xq,.tmp 25],
xi 27 (.un .not (.tmp 26)),
xm 28 27,
yf 29 1 6 28 false,
yl 30 29 28 false,
ym 31 0 28 false,
yb 32 .sub (.tmp 31) (xk 1) 28 false,
xg 33 (.call 151 [.tmp 30,xq,.tmp 32]) 28 false,
xg 34 (.un .not (.tmp 33)) 28 false,
xi 35 (.pick (.tmp 28) xT (.tmp 34)),
xm 21 35])
(.cond (.tmp 21) (.seq (xr [xi 4 (.move (xk 6))])
.ret)
(.seq (xr [xf 37 2 6,
xl 38 37,
xc 39 151 [.tmp 38,(.const (.int .i64 (-1000000000))),(xk 1000000000)],
xi 40 (.un .not (.tmp 39)),
xm 36 40])
(.cond (.tmp 36) (.seq (xr [xi 4 (.move (xk 2))])
.ret)
.skip)))))))
(xr [xb 41 .add (.tmp 17) (xk 1),
xm 17 41])))))))
(.seq (xr [xi 4 (.move xq)])
.ret))),
[.tmp 4],.pure,42⟩
end Go.Abs.B
set_option maxRecDepth 100000
set_option maxHeartbeats 0
namespace Go.Abs.B
open Go Go.Abs
def ef105:EFun:=⟨
.seq (xr [xi 6 (.move xq)])
(.seq (xr [xi 7 (.move (.const (.int .i64 (-1))))])
(.seq (.seq (xr [xm 11 0,
xn 12 11,
xi 13 (.move xq)])
(.block 0 (.loop (some [1,2,7,11,12,13]) (
.seq (xr [xB 14 .lss 13 12])
(.seq (.cond (.tmp 14) .skip
(.exit 0))
(.seq (.block 1 (.seq (xr [xm 15 13,
xi 16 (.indexAddr none 3 (.tmp 11) (.tmp 13)),
xL 17 3 16,
xi 9 (.push [xz,xz,xz]),
xm 8 15,
xt 3 9 17])
(.seq (xR [xm 18 1,
xf 19 0 9,
xl 20 19,
xa 21 18 20,
xl 22 21,
xf 23 2 9,
xl 24 23,
xB 25 .add 22 24,
xm 10 25])
(.seq (xr [xm 26 10,
xm 27 1,
xf 28 1 9,
xl 29 28,
xa 30 27 29,
xl 31 30,
xB 32 .lss 26 31])
(.cond (.tmp 32) (.seq (xR [xm 33 1,
xf 34 1 9,
xl 35 34,
xm 36 2,
xf 37 1 9,
⟨(some 38),.load false 1 (.tmp 37),none,[],true,false⟩,
xm 39 10,
xm 40 8,
xa 41 33 35,
⟨none,.store 1 (.tmp 41) (.tmp 39),none,[5],false,false⟩,
xa 42 36 38,
xt 1 42 40])
(xr [xf 43 1 9,
xl 44 43,
xm 7 44]))
.skip)))))
(xr [xb 45 .add (.tmp 13) (xk 1),
xm 13 45])))))))
(.seq (xr [xm 46 7,
xm 6 46])
.ret))),
[.tmp 6],.trunc,47⟩
def ef106:EFun:=⟨
.seq (xr [xm 4 0,
xn 5 4,
xb 6 .sub (.tmp 5) (xk 1),
xi 2 (.move xq),
xm 3 6])
(.block 0 (.loop (some [0,2,3]) (
.seq (.seq (xr [xm 7 2,
xm 8 3,
xB 9 .lss 7 8])
(.cond (.tmp 9) .skip
(.exit 0)))
(.seq (.block 1 (xR [xm 14 0,
xm 15 2,
xm 16 0,
xm 17 3,
xm 18 0,
xm 19 3,
xa 20 18 19,
xl 21 20,
xm 22 0,
xm 23 2,
xa 24 22 23,
xl 25 24,
xa 26 14 15,
xt 1 26 21,
xa 27 16 17,
xt 1 27 25]))
(xr [xm 10 2,
xb 11 .add (.tmp 10) (xk 1),
xm 12 3,
xb 13 .sub (.tmp 12) (xk 1),
xm 2 11,
xm 3 13]))))),
[],.trunc,28⟩
def ef107:EFun:=⟨
.seq (xr [xi 2 (.move xF)])
(.seq (.seq (xr [xm 6 0,
xi 7 (.bytesOf (.tmp 6)),
xn 8 7,
xi 9 (.move xq)])
(.block 0 (.loop (some [0,7,8,9]) (
.seq (xr [xB 10 .lss 9 8])
(.seq (.cond (.tmp 10) .skip
(.exit 0))
(.seq (.block 1 (.seq (xr [xm 11 9,
xa 12 7 9,
xl 13 12,
xm 3 11,
xm 4 13])
(.seq (xr [xm 14 4,
xb 15 .geq (.tmp 14) (.const (.int .u8 97)),
xm 16 15,
ym 17 4 16 true,
yb 18 .leq (.tmp 17) (.const (.int .u8 122)) 16 true,
xi 19 (.pick (.tmp 16) (.tmp 18) xF),
xm 20 19,
ym 21 4 20 false,
yb 22 .geq (.tmp 21) (.const (.int .u8 65)) 20 false,
ym 23 22 20 false,
ym 24 4 23 true,
yb 25 .leq (.tmp 24) (.const (.int .u8 90)) 23 true,
xg 26 (.pick (.tmp 23) (.tmp 25) xF) 20 false,
xi 27 (.pick (.tmp 20) xT (.tmp 26)),
xm 5 27])
(.seq (xr [xm 28 5,
xi 29 (.un .not (.tmp 28)),
xm 30 29,
ym 31 3 30 true,
yb 32 .eql (.tmp 31) xq 30 true,
ym 33 32 30 true,
ym 34 4 33 false,
yb 35 .neq (.tmp 34) (.const (.int .u8 45)) 33 false,
ym 36 35 33 false,
ym 37 4 36 true,
yb 38 .lss (.tmp 37) (.const (.int .u8 48)) 36 true,
ym 39 38 36 true,
ym 40 4 39 false,
yb 41 .gtr (.tmp 40) (.const (.int .u8 57)) 39 false,
xg 42 (.pick (.tmp 39) xT (.tmp 41)) 36 true,
xg 43 (.pick (.tmp 36) (.tmp 42) xF) 33 false,
xg 44 (.pick (.tmp 33) xT (.tmp 43)) 30 true,
xi 45 (.pick (.tmp 30) (.tmp 44) xF)])
(.cond (.tmp 45) (.seq (xr [xi 2 (.move xF)])
.ret)
.skip)))))
(xr [xb 46 .add (.tmp 9) (xk 1),
xm 9 46])))))))
(.seq (xr [xm 47 0,
xb 48 .neq (.tmp 47) (.const (.string ⟨#[]⟩)),
xm 49 48,
ym 50 0 49 true,
xg 51 (.len true (.tmp 50)) 49 true,
yb 52 .leq (.tmp 51) (xk 12) 49 true,
xi 53 (.pick (.tmp 49) (.tmp 52) xF),
xm 2 53])
.ret)),
[.tmp 2],.pure,54⟩
def ef108:EFun:=⟨
.seq (xr [xv 1 0,
xi 2 (.move xq)])
(.seq (.seq (xr [xL 5 4 1,
xc 6 152 [.tmp 5],
xi 7 (.move xq)])
(.block 0 (.loop (some [1,6,7]) (
.seq (xr [xb 8 .lss (.tmp 7) (xk 3)])
(.seq (.cond (.tmp 8) .skip
(.exit 0))
(.seq (.block 1 (.seq (xr [xi 9 (.index 3 1 false (.tmp 6) (.tmp 7)),
xm 4 9])
(.seq (xr [xm 10 4,
xc 11 151 [.tmp 10,(.const (.int .i64 (-400))),(xk 400)],
xi 12 (.un .not (.tmp 11))])
(.cond (.tmp 12) (.seq (xr [xi 2 (.move (xk 2))])
.ret)
.skip))))
(xr [xb 13 .add (.tmp 7) (xk 1),
xm 7 13])))))))
(.seq (.seq (xr [xf 14 3 1,
xl 15 14,
xc 16 151 [.tmp 15,(xk 1),(xk 12)],
xi 17 (.un .not (.tmp 16))])
(.cond (.tmp 17) (.seq (xr [xi 2 (.move (xk 2))])
.ret)
.skip))
(.seq (xr [xi 2 (.move xq)])
.ret))),
[.tmp 2],.pure,18⟩
def ef109:EFun:=⟨
.seq (xr [xv 2 0,
xi 4 (.push [xz,xz]),
xi 5 (.move xq)])
(.seq (.seq (xr [xL 13 4 2,
xc 14 108 [.tmp 13],
xm 6 14])
(.seq (xr [xm 15 6,
xb 16 .neq (.tmp 15) xq])
(.cond (.tmp 16) (.seq (xr [xi 17 (.build [xz,xz] []),
xm 18 6,
xt 2 4 17,
xm 5 18])
.ret)
.skip)))
(.seq (.seq (xr [xm 19 1,
xc 20 151 [.tmp 19,(xk 1),(xk 1000000000)],
xi 21 (.un .not (.tmp 20))])
(.cond (.tmp 21) (.seq (xr [xi 22 (.build [xz,xz] []),
xt 2 4 22,
xi 5 (.move (xk 2))])
.ret)
.skip))
(.seq (xr [xL 23 4 2,
xc 24 153 [.tmp 23],
xt 4 2 24])
(.seq (xr [xL 25 4 2,
xc 26 152 [.tmp 25],
xc 27 154 [.tmp 26],
xi 7 (.push [(.slice none 0 0),(.slice none 0 0)]),
xt 2 7 27])
(.seq (xr [xm 28 1,
xi 29 (.conv .u64 (.tmp 28)),
xf 30 3 2,
xl 31 30,
xf 32 0 7,
xl 33 32,
xc 34 155 [.tmp 29,.tmp 31,.tmp 33],
xf 35 0 7,
xt 1 35 34])
(.seq (xr [xi 36 (.makeFunc (.func 156) [.tmp 2,.tmp 7]),
xm 8 36])
(.seq (xr [xi 9 (.move xq),
xi 10 (.move (xk 1000000000000001))])
(.seq (.block 0 (.loop (some [4,8,9,10]) (
.seq (.seq (xr [xm 37 9,
xm 38 10,
xB 39 .lss 37 38])
(.cond (.tmp 39) .skip
(.exit 0)))
(.block 1 (.seq (xr [xm 40 10,
xm 41 10,
xm 42 9,
xB 43 .sub 41 42,
xb 44 .quo (.tmp 43) (xk 2),
xB 45 .sub 40 44,
xm 11 45])
(.seq (xr [xm 46 8,
xm 47 11,
xi 48 (.callVal (.tmp 46) [.tmp 47]),
xb 49 .leq (.tmp 48) xq])
(.cond (.tmp 49) (xr [xm 50 11,
xm 9 50])
(xr [xm 51 11,
xb 52 .sub (.tmp 51) (xk 1),
xm 10 52]))))))))
(.seq (xr [xm 53 9,
xm 54 9,
xi 55 (.build [xz,xz] [(0,1,(.tmp 53)),(1,1,(.tmp 54))]),
xi 12 (.push [xz,xz]),
xt 2 12 55])
(.seq (.seq (xr [xm 56 9,
xb 57 .eql (.tmp 56) xq,
xm 58 57,
ym 59 8 58 false,
ym 60 9 58 false,
xg 61 (.callVal (.tmp 59) [.tmp 60]) 58 false,
yb 62 .neq (.tmp 61) xq 58 false,
xi 63 (.pick (.tmp 58) xT (.tmp 62))])
(.cond (.tmp 63) (xr [xf 64 1 12,
xl 65 64,
xb 66 .add (.tmp 65) (xk 1),
xf 67 1 12,
xt 1 67 66])
.skip))
(.seq (xr [xL 68 2 12,
xc 69 158 [.tmp 68],
xe 70 69 0,
xe 71 69 1,
xt 2 4 70,
xm 5 71])
.ret))))))))))),
[.cell 4 true 2,.tmp 5],.pure,72⟩
def ef110:EFun:=⟨
.seq (xr [xv 2 0,
xv 3 1,
xi 4 (.move xq),
xi 5 (.move xq)])
(.seq (.seq (xr [xL 7 4 2,
xL 8 4 3,
xc 9 159 [.tmp 7,.tmp 8],
xm 6 9])
(.seq (xr [xm 10 6,
xb 11 .neq (.tmp 10) xq])
(.cond (.tmp 11) (.seq (xr [xm 12 6,
xi 4 (.move xq),
xm 5 12])
.ret)
.skip)))
(.seq (xr [xL 13 4 2,
xL 14 4 3,
xc 15 160 [.tmp 13,.tmp 14],
xm 4 15,
xi 5 (.move xq)])
.ret)),
[.tmp 4,.tmp 5],.pure,16⟩
def ef114:EFun:=⟨
.seq (xr [xi 2 (.move xF)])
(.seq (xr [xm 3 0,
xb 4 .geq (.tmp 3) (.const (.int .u8 97)),
xm 5 4,
ym 6 0 5 true,
yb 7 .leq (.tmp 6) (.const (.int .u8 122)) 5 true,
xi 8 (.pick (.tmp 5) (.tmp 7) xF),
xm 9 8,
ym 10 0 9 false,
yb 11 .geq (.tmp 10) (.const (.int .u8 65)) 9 false,
ym 12 11 9 false,
ym 13 0 12 true,
yb 14 .leq (.tmp 13) (.const (.int .u8 90)) 12 true,
xg 15 (.pick (.tmp 12) (.tmp 14) xF) 9 false,
xi 16 (.pick (.tmp 9) xT (.tmp 15)),
xm 2 16])
.ret),
[.tmp 2],.pure,17⟩
def ef115:EFun:=⟨
.seq (xr [xi 2 (.move xF)])
(.seq (xr [xm 3 0,
xb 4 .geq (.tmp 3) (.const (.int .u8 48)),
xm 5 4,
ym 6 0 5 true,
yb 7 .leq (.tmp 6) (.const (.int .u8 57)) 5 true,
xi 8 (.pick (.tmp 5) (.tmp 7) xF),
xm 2 8])
.ret),
[.tmp 2],.pure,9⟩
def ef116:EFun:=⟨
.seq (xr [xi 6 (.move (.const (.slice none 0 0))),
xi 7 (.move (.const (.slice none 0 0)))])
(.seq (xr [xi 13 (.buildSlice 1 1 [xz] [(0,1,(xk 1))]),
xi 14 (.buildSlice 1 1 [xz] [(0,1,(xk 1))]),
xm 8 13,
xm 9 14])
(.seq (.seq (xr [xm 15 0,
xm 16 1,
xm 17 2,
xi 18 (.build [xz,xz,xz] [(0,1,(.tmp 15)),(1,1,(.tmp 16)),(2,1,(.tmp 17))]),
xi 19 (.move xq)])
(.block 0 (.loop (some [8,9,18,19]) (
.seq (xr [xb 20 .lss (.tmp 19) (xk 3)])
(.seq (.cond (.tmp 20) .skip
(.exit 0))
(.seq (.block 1 (.seq (xr [xm 21 19,
xi 22 (.index 3 1 false (.tmp 18) (.tmp 19)),
xm 10 21,
xm 11 22])
(.seq (xr [xi 23 (.build [xz,xz,xz] [(0,1,(xk 2)),(1,1,(xk 3)),(2,1,(xk 5))]),
xm 24 10,
xi 25 (.index 3 1 false (.tmp 23) (.tmp 24)),
xc 26 119 [.tmp 25],
xm 12 26])
(.seq (xr [xm 27 11,
xb 28 .gtr (.tmp 27) xq])
(.cond (.tmp 28) (xr [xm 29 8,
xm 30 12,
xm 31 11,
xc 32 118 [.tmp 30,.tmp 31],
xc 33 117 [.tmp 29,.tmp 32],
xm 8 33])
(xr [xm 34 9,
xm 35 12,
xm 36 11,
xi 37 (.un .neg (.tmp 36)),
xc 38 118 [.tmp 35,.tmp 37],
xc 39 117 [.tmp 34,.tmp 38],
xm 9 39]))))))
(xr [xb 40 .add (.tmp 19) (xk 1),
xm 19 40])))))))
(.seq (xr [xm 41 8,
xm 42 9,
xm 6 41,
xm 7 42])
.ret))),
[.tmp 6,.tmp 7],.pure,43⟩
def ef117:EFun:=⟨
.seq (xr [xi 4 (.move (.const (.slice none 0 0)))])
(.seq (xr [xm 10 0,
xn 11 10,
xm 12 1,
xn 13 12,
xB 14 .add 11 13,
xb 15 .add (.tmp 14) (xk 1),
xi 16 (.makeSlice 1 8 [xz] (.tmp 15) (.tmp 15)),
xm 5 16])
(.seq (.seq (xr [xi 6 (.move xq)])
(.block 0 (.loop (some [0,1,5,6]) (
.seq (.seq (xr [xm 17 6,
xm 18 0,
xn 19 18,
xB 20 .lss 17 19])
(.cond (.tmp 20) .skip
(.exit 0)))
(.seq (.block 1 (.seq (xr [xi 7 (.move xq)])
(.seq (xr [xi 8 (.move xq)])
(.block 2 (.loop (some [0,1,5,6,7,8]) (
.seq (.seq (xr [xm 23 8,
xm 24 1,
xn 25 24,
xB 26 .lss 23 25,
xm 27 26,
ym 28 7 27 false,
yb 29 .gtr (.tmp 28) xq 27 false,
xi 30 (.pick (.tmp 27) xT (.tmp 29))])
(.cond (.tmp 30) .skip
(.exit 2)))
(.seq (.block 3 (.seq (xr [xm 33 5,
xm 34 6,
xm 35 8,
xB 36 .add 34 35,
xa 37 33 36,
xl 38 37,
xm 39 7,
xB 40 .add 38 39,
xm 9 40])
(.seq (.seq (xr [xm 41 8,
xm 42 1,
xn 43 42,
xB 44 .lss 41 43])
(.cond (.tmp 44) (xR [xm 45 9,
xm 46 0,
xm 47 6,
xa 48 46 47,
xl 49 48,
xm 50 1,
xm 51 8,
xa 52 50 51,
xl 53 52,
xB 54 .mul 49 53,
xB 55 .add 45 54,
xm 9 55])
.skip))
(xr [xm 56 5,
xm 57 6,
xm 58 8,
xB 59 .add 57 58,
xm 60 9,
xb 61 .rem (.tmp 60) (xk 10000),
xm 62 9,
xb 63 .quo (.tmp 62) (xk 10000),
xa 64 56 59,
xt 1 64 61,
xm 7 63]))))
(xr [xm 31 8,
xb 32 .add (.tmp 31) (xk 1),
xm 8 32]))))))))
(xr [xm 21 6,
xb 22 .add (.tmp 21) (xk 1),
xm 6 22]))))))
(.seq (.block 4 (.loop (some [5]) (
.seq (.seq (xr [xm 65 5,
xn 66 65,
xb 67 .gtr (.tmp 66) xq,
xm 68 67,
ym 69 5 68 true,
ym 70 5 68 true,
xg 71 (.len false (.tmp 70)) 68 true,
yb 72 .sub (.tmp 71) (xk 1) 68 true,
ya 73 69 72 68 true,
yl 74 73 68 true,
yb 75 .eql (.tmp 74) xq 68 true,
xi 76 (.pick (.tmp 68) (.tmp 75) xF)])
(.cond (.tmp 76) .skip
(.exit 4)))
(.block 5 (xr [xm 77 5,
xm 78 5,
xn 79 78,
xb 80 .sub (.tmp 79) (xk 1),
xi 81 (.slice 1 (.tmp 77) none (some (.tmp 80))),
xm 5 81])))))
(.seq (xr [xm 82 5,
xm 4 82])
.ret)))),
[.tmp 4],.pure,83⟩
def ef118:EFun:=⟨
.seq (xr [xi 4 (.move (.const (.slice none 0 0)))])
(.seq (xr [xi 6 (.buildSlice 1 1 [xz] [(0,1,(xk 1))]),
xm 5 6])
(.seq (.block 0 (.loop (some [0,1,5]) (
.seq (.seq (xr [xm 7 1,
xb 8 .gtr (.tmp 7) xq])
(.cond (.tmp 8) .skip
(.exit 0)))
(.block 1 (.seq (.seq (xr [xm 9 1,
xb 10 .rem (.tmp 9) (xk 2),
xb 11 .eql (.tmp 10) (xk 1)])
(.cond (.tmp 11) (xr [xm 12 5,
xm 13 0,
xc 14 117 [.tmp 12,.tmp 13],
xm 5 14])
.skip))
(xr [xm 15 0,
xm 16 0,
xc 17 117 [.tmp 15,.tmp 16],
xm 18 1,
xb 19 .quo (.tmp 18) (xk 2),
xm 0 17,
xm 1 19]))))))
(.seq (xr [xm 20 5,
xm 4 20])
.ret))),
[.tmp 4],.pure,21⟩
def ef119:EFun:=⟨
.seq (xr [xi 2 (.move (.const (.slice none 0 0)))])
(.seq (xr [xi 3 (.move (.const (.slice none 0 0)))])
(.seq (.block 0 (.loop (some [0,3]) (
.seq (.seq (xr [xm 4 0,
xb 5 .gtr (.tmp 4) xq])
(.cond (.tmp 5) .skip
(.exit 0)))
(.block 1 (.seq (xr [xm 6 3,
xm 7 0,
xb 8 .rem (.tmp 7) (xk 10000),
xi 9 (.buildSlice 1 1 [xz] [(0,1,(.tmp 8))]),
xi 10 (.append 1 8 (.tmp 6) (.tmp 9)),
xm 3 10])
(xr [xm 11 0,
xb 12 .quo (.tmp 11) (xk 10000),
xm 0 12]))))))
(.seq (xr [xm 13 3,
xm 2 13])
.ret))),
[.tmp 2],.pure,14⟩
def ef120:EFun:=⟨
.seq (xr [xi 4 (.move xq)])
(.seq (.seq (xr [xm 6 0,
xn 7 6,
xm 8 1,
xn 9 8,
xB 10 .neq 7 9])
(.cond (.tmp 10) (.seq (.seq (xr [xm 11 0,
xn 12 11,
xm 13 1,
xn 14 13,
xB 15 .lss 12 14])
(.cond (.tmp 15) (.seq (xr [xi 4 (.move (.const (.int .i64 (-1))))])
.ret)
.skip))
(.seq (xr [xi 4 (.move (xk 1))])
.ret))
.skip))
(.seq (.seq (xr [xm 16 0,
xn 17 16,
xb 18 .sub (.tmp 17) (xk 1),
xm 5 18])
(.block 0 (.loop (some [0,1,5]) (
.seq (.seq (xr [xm 19 5,
xb 20 .geq (.tmp 19) xq])
(.cond (.tmp 20) .skip
(.exit 0)))
(.seq (.block 1 (.seq (.seq (xR [xm 23 0,
xm 24 5,
xa 25 23 24,
xl 26 25,
xm 27 1,
xm 28 5,
xa 29 27 28,
xl 30 29,
xB 31 .lss 26 30])
(.cond (.tmp 31) (.seq (xr [xi 4 (.move (.const (.int .i64 (-1))))])
.ret)
.skip))
(.seq (xR [xm 32 0,
xm 33 5,
xa 34 32 33,
xl 35 34,
xm 36 1,
xm 37 5,
xa 38 36 37,
xl 39 38,
xB 40 .gtr 35 39])
(.cond (.tmp 40) (.seq (xr [xi 4 (.move (xk 1))])
.ret)
.skip))))
(xr [xm 21 5,
xb 22 .sub (.tmp 21) (xk 1),
xm 5 22]))))))
(.seq (xr [xi 4 (.move xq)])
.ret))),
[.tmp 4],.pure,41⟩
def ef121:EFun:=⟨
.seq (xr [xv 1 0,
xi 2 (.push [xz,xz,xz,xz])])
(.seq (xR [xf 4 0 1,
xl 5 4,
xf 6 1 1,
xl 7 6,
xC 8 163 [.tmp 5,.tmp 7],
xf 9 2 1,
xl 10 9,
xf 11 3 1,
xl 12 11,
xc 13 163 [.tmp 10,.tmp 12],
xc 14 163 [.tmp 8,.tmp 13],
xm 3 14])
(.seq (xR [xf 15 0 1,
xl 16 15,
xm 17 3,
xB 18 .quo 16 17,
xf 19 1 1,
xl 20 19,
xm 21 3,
xB 22 .quo 20 21,
xf 23 2 1,
xl 24 23,
xm 25 3,
xB 26 .quo 24 25,
xf 27 3 1,
xl 28 27,
xm 29 3,
xB 30 .quo 28 29,
xi 31 (.build [xz,xz,xz,xz] [(0,1,(.tmp 18)),(1,1,(.tmp 22)),(2,1,(.tmp 26)),(3,1,(.tmp 30))]),
xt 4 2 31])
.ret)),
[.cell 2 true 4],.pure,32⟩
def ef122:EFun:=⟨
.seq (xr [xv 3 0,
xv 4 1,
xi 6 (.push [xz,xz,xz,xz])])
(.seq (xr [xf 7 0 3,
xl 8 7,
xf 9 3 4,
xl 10 9,
xB 11 .mul 8 10,
xm 12 2,
xf 13 0 4,
xl 14 13,
xB 15 .mul 12 14,
xf 16 3 3,
xl 17 16,
xB 18 .mul 15 17,
xB 19 .add 11 18,
xf 20 1 3,
xl 21 20,
xf 22 3 4,
xl 23 22,
xB 24 .mul 21 23,
xm 25 2,
xf 26 1 4,
xl 27 26,
xB 28 .mul 25 27,
xf 29 3 3,
xl 30 29,
xB 31 .mul 28 30,
xB 32 .add 24 31,
xf 33 2 3,
xl 34 33,
xf 35 3 4,
xl 36 35,
xB 37 .mul 34 36,
xm 38 2,
xf 39 2 4,
xl 40 39,
xB 41 .mul 38 40,
xf 42 3 3,
xl 43 42,
xB 44 .mul 41 43,
xB 45 .add 37 44,
xf 46 3 3,
xl 47 46,
xf 48 3 4,
xl 49 48,
xB 50 .mul 47 49,
xi 51 (.build [xz,xz,xz,xz] [(0,1,(.tmp 19)),(1,1,(.tmp 32)),(2,1,(.tmp 45)),(3,1,(.tmp 50))]),
xt 4 6 51])
.ret),
[.cell 6 true 4],.pure,52⟩
def ef123:EFun:=⟨
.skip,
[],.nat natIndexByte,0⟩
def ef124:EFun:=⟨
.seq (xr [xi 4 (.move xF)])
(.seq (xr [xm 5 0,
xi 6 (.len true (.tmp 5)),
xm 7 1,
xi 8 (.len true (.tmp 7)),
xB 9 .geq 6 8,
xm 10 9,
ym 11 0 10 true,
ym 12 0 10 true,
xg 13 (.len true (.tmp 12)) 10 true,
ym 14 1 10 true,
xg 15 (.len true (.tmp 14)) 10 true,
yb 16 .sub (.tmp 13) (.tmp 15) 10 true,
xg 17 (.strSlice (.tmp 11) (some (.tmp 16)) none) 10 true,
ym 18 1 10 true,
yb 19 .eql (.tmp 17) (.tmp 18) 10 true,
xi 20 (.pick (.tmp 10) (.tmp 19) xF),
xm 4 20])
.ret),
[.tmp 4],.pure,21⟩
def ef125:EFun:=⟨
.skip,
[],.nat (natAtoi 262 1 2),0⟩
def ef126:EFun:=⟨
.seq (xr [xi 4 (.move (.const (.string ⟨#[]⟩)))])
(.seq (xr [xm 5 0,
xm 6 1,
xc 7 167 [.tmp 5,.tmp 6],
xm 4 7])
.ret),
[.tmp 4],.pure,8⟩
def ef127:EFun:=⟨
.seq (xr [xi 4 (.move (.const (.slice none 0 0)))])
(.seq (xr [xm 10 0,
xc 11 168 [.tmp 10],
xm 5 11])
(.seq (.seq (xr [xm 12 1,
xb 13 .lss (.tmp 12) xq,
xm 14 13,
ym 15 1 14 false,
ym 16 5 14 false,
yb 17 .gtr (.tmp 15) (.tmp 16) 14 false,
xi 18 (.pick (.tmp 14) xT (.tmp 17))])
(.cond (.tmp 18) (xr [xm 19 5,
xm 1 19])
.skip))
(.seq (xr [xm 20 1,
xi 21 (.makeSlice 1 16 [(.string ⟨#[]⟩)] (.tmp 20) (.tmp 20)),
xm 6 21])
(.seq (.seq (xr [xi 7 (.move xq)])
(.block 0 (.loop (some [0,1,6,7]) (
.seq (.seq (xr [xm 22 7,
xm 23 1,
xb 24 .sub (.tmp 23) (xk 1),
xB 25 .lss 22 24])
(.cond (.tmp 25) .skip
(.exit 0)))
(.seq (.block 1 (.seq (xr [xm 29 0,
xc 30 169 [.tmp 29],
xm 28 30,
xe 31 28 0,
xe 32 28 1,
xm 8 31,
xm 9 32])
(.seq (xr [xm 33 6,
xm 34 7,
xm 35 0,
xm 36 9,
xi 37 (.strSlice (.tmp 35) none (some (.tmp 36))),
xa 38 33 34,
xt 1 38 37])
(xr [xm 39 0,
xm 40 9,
xi 41 (.strSlice (.tmp 39) (some (.tmp 40)) none),
xm 0 41]))))
(xr [xm 26 7,
xb 27 .add (.tmp 26) (xk 1),
xm 7 27]))))))
(.seq (.seq (xr [xm 42 1,
xb 43 .gtr (.tmp 42) xq])
(.cond (.tmp 43) (xr [xm 44 6,
xm 45 1,
xb 46 .sub (.tmp 45) (xk 1),
xm 47 0,
xa 48 44 46,
xt 1 48 47])
.skip))
(.seq (xr [xm 49 6,
xm 4 49])
.ret)))))),
[.tmp 4],.pure,50⟩
def ef128:EFun:=⟨
.skip,
[],.nat natCount1,0⟩
def ef129:EFun:=⟨
.seq (xr [xi 4 (.move xq)])
(.seq (xr [xm 5 0,
xm 6 1,
xc 7 171 [.tmp 5,.tmp 6],
xm 4 7])
.ret),
[.tmp 4],.pure,8⟩
def ef149:EFun:=⟨
.seq (xr [xv 3 1,
xi 4 (.push [(.string ⟨#[]⟩),xz,xz,xz]),
xi 5 (.move xF)])
(.seq (xr [xm 7 0,
xi 8 (.makeFunc (.func 183) [.tmp 3]),
xc 9 182 [.tmp 7,.tmp 8],
xm 6 9])
(.seq (.seq (xr [xm 10 6,
xb 11 .lss (.tmp 10) xq])
(.cond (.tmp 11) (.seq (xr [xi 12 (.build [(.string ⟨#[]⟩),xz,xz,xz] []),
xt 4 4 12,
xi 5 (.move xF)])
.ret)
.skip))
(.seq (xr [xm 13 0,
xm 14 6,
xi 15 (.indexAddr none 4 (.tmp 13) (.tmp 14)),
xL 16 4 15,
xt 4 4 16,
xi 5 (.move xT)])
.ret))),
[.cell 4 true 4,.tmp 5],.pure,17⟩
def ef150:EFun:=⟨
.seq (xr [xv 3 1,
xi 4 (.move xq)])
(.seq (xr [xm 11 0,
xf 12 3 3,
xl 13 12,
xc 14 149 [.tmp 11,.tmp 13],
xm 10 14,
xe 15 10 0,
xe 16 10 1,
xi 5 (.push [(.string ⟨#[]⟩),xz,xz,xz]),
xt 4 5 15,
xm 6 16])
(.seq (xr [xf 17 1 5,
xl 18 17,
xf 19 1 3,
xl 20 19,
xB 21 .mul 18 20,
xf 22 1 3,
xl 23 22,
xB 24 .mul 21 23,
xm 7 24])
(.seq (.seq (xr [xf 25 2 3,
xl 26 25,
xb 27 .neq (.tmp 26) xq])
(.cond (.tmp 27) (.seq (xr [xm 29 0,
xf 30 4 3,
xl 31 30,
xc 32 149 [.tmp 29,.tmp 31],
xm 28 32,
xe 33 28 0,
xe 34 28 1,
xi 8 (.push [(.string ⟨#[]⟩),xz,xz,xz]),
xt 4 8 33,
xm 9 34])
(xr [xm 35 7,
xf 36 1 8,
xl 37 36,
xf 38 2 3,
xl 39 38,
xf 40 2 3,
xl 41 40,
xB 42 .mul 39 41,
xf 43 1 3,
xl 44 43,
xf 45 1 3,
xl 46 45,
xB 47 .mul 44 46,
xB 48 .sub 42 47,
xB 49 .mul 37 48,
xB 50 .add 35 49,
xm 7 50]))
.skip))
(.seq (xr [xm 51 7,
xm 4 51])
.ret)))),
[.tmp 4],.pure,52⟩
def ef151:EFun:=⟨
.seq (xr [xi 6 (.move xF)])
(.seq (xr [xm 7 0,
xm 8 1,
xB 9 .geq 7 8,
xm 10 9,
ym 11 0 10 true,
ym 12 2 10 true,
yb 13 .leq (.tmp 11) (.tmp 12) 10 true,
xi 14 (.pick (.tmp 10) (.tmp 13) xF),
xm 6 14])
.ret),
[.tmp 6],.pure,15⟩
def ef152:EFun:=⟨
.seq (xr [xv 1 0,
xi 2 (.push [xz,xz,xz])])
(.seq (xr [xf 3 0 1,
xl 4 3,
xf 5 1 1,
xl 6 5,
xf 7 2 1,
xl 8 7,
xi 9 (.build [xz,xz,xz] [(0,1,(.tmp 4)),(1,1,(.tmp 6)),(2,1,(.tmp 8))]),
xt 3 2 9])
.ret),
[.cell 2 true 3],.pure,10⟩
def ef153:EFun:=⟨
.seq (xr [xv 1 0,
xi 2 (.push [xz,xz,xz,xz])])
(.seq (xR [xf 4 0 1,
xl 5 4,
xf 6 1 1,
xl 7 6,
xC 8 184 [.tmp 5,.tmp 7],
xf 9 2 1,
xl 10 9,
xf 11 3 1,
xl 12 11,
xc 13 184 [.tmp 10,.tmp 12],
xc 14 184 [.tmp 8,.tmp 13],
xm 3 14])
(.seq (xR [xf 15 0 1,
xl 16 15,
xm 17 3,
xB 18 .quo 16 17,
xf 19 1 1,
xl 20 19,
xm 21 3,
xB 22 .quo 20 21,
xf 23 2 1,
xl 24 23,
xm 25 3,
xB 26 .quo 24 25,
xf 27 3 1,
xl 28 27,
xm 29 3,
xB 30 .quo 28 29,
xi 31 (.build [xz,xz,xz,xz] [(0,1,(.tmp 18)),(1,1,(.tmp 22)),(2,1,(.tmp 26)),(3,1,(.tmp 30))]),
xt 4 2 31])
.ret)),
[.cell 2 true 4],.pure,32⟩
def ef154:EFun:=⟨
.seq (xr [xv 1 0,
xi 2 (.push [(.slice none 0 0),(.slice none 0 0)])])
(.seq (xr [xi 6 (.buildSlice 1 1 [(.int .u64 0)] [(0,1,(.const (.int .u64 1)))]),
xi 7 (.buildSlice 1 1 [(.int .u64 0)] [(0,1,(.const (.int .u64 1)))]),
xi 8 (.build [(.slice none 0 0),(.slice none 0 0)] [(0,1,(.tmp 6)),(1,1,(.tmp 7))]),
xi 3 (.push [(.slice none 0 0),(.slice none 0 0)]),
xt 2 3 8])
(.seq (.seq (xr [xL 9 3 1,
xi 10 (.move xq)])
(.block 0 (.loop (some [2,3,9,10]) (
.seq (xr [xb 11 .lss (.tmp 10) (xk 3)])
(.seq (.cond (.tmp 11) .skip
(.exit 0))
(.seq (.block 1 (.seq (xr [xm 12 10,
xi 13 (.index 3 1 false (.tmp 9) (.tmp 10)),
xm 4 12,
xm 5 13])
(.seq (xR [xm 14 4,
xi 15 (.indexAddr (some 3) 1 (.global 0) (.tmp 14)),
xl 16 15,
xm 17 5,
xi 18 (.max [.tmp 17,xq]),
xf 19 0 3,
xl 20 19,
xc 21 155 [.tmp 16,.tmp 18,.tmp 20],
xf 22 0 3,
xt 1 22 21])
(xR [xm 23 4,
xi 24 (.indexAddr (some 3) 1 (.global 0) (.tmp 23)),
xl 25 24,
xm 26 5,
xi 27 (.un .neg (.tmp 26)),
xi 28 (.max [.tmp 27,xq]),
xf 29 1 3,
xl 30 29,
xc 31 155 [.tmp 25,.tmp 28,.tmp 30],
xf 32 1 3,
xt 1 32 31]))))
(xr [xb 33 .add (.tmp 10) (xk 1),
xm 10 33])))))))
(.seq (xr [xL 34 2 3,
xt 2 2 34])
.ret))),
[.cell 2 true 2],.pure,35⟩
def ef155:EFun:=⟨
.seq (xr [xi 6 (.move (.const (.slice none 0 0)))])
(.seq (.block 0 (.loop (some [0,1,2]) (
.seq (.seq (xr [xm 10 1,
xb 11 .gtr (.tmp 10) xq])
(.cond (.tmp 11) .skip
(.exit 0)))
(.block 1 (.seq (xr [xi 7 (.move (.const (.int .u64 1)))])
(.seq (.block 2 (.loop (some [0,1,2,7]) (
.seq (.seq (xr [xm 12 1,
xb 13 .gtr (.tmp 12) xq])
(.cond (.tmp 13) .skip
(.exit 2)))
(.block 3 (.seq (xr [xm 15 7,
xm 16 0,
xc 17 185 [.tmp 15,.tmp 16],
xm 14 17,
xe 18 14 0,
xe 19 14 1,
xm 8 18,
xm 9 19])
(.seq (.seq (xr [xm 20 8,
xb 21 .neq (.tmp 20) (.const (.int .u64 0))])
(.cond (.tmp 21) (.exit 2)
.skip))
(xr [xm 22 9,
xm 23 1,
xb 24 .sub (.tmp 23) (xk 1),
xm 7 22,
xm 1 24])))))))
(xr [xm 25 2,
xm 26 7,
xc 27 186 [.tmp 25,.tmp 26],
xm 2 27])))))))
(.seq (xr [xm 28 2,
xm 6 28])
.ret)),
[.tmp 6],.pure,29⟩
def ef156:EFun:=⟨
.seq (xr [xi 4 (.move xq)])
(.seq (xR [xm 5 0,
xi 6 (.conv .u64 (.tmp 5)),
xf 7 3 1,
xl 8 7,
xf 9 1 2,
xl 10 9,
xC 11 155 [.tmp 6,.tmp 8,.tmp 10],
xf 12 0 2,
xl 13 12,
xc 14 157 [.tmp 11,.tmp 13],
xm 4 14])
.ret),
[.tmp 4],.pure,15⟩
def ef157:EFun:=⟨
.seq (xr [xi 4 (.move xq)])
(.seq (.seq (xr [xm 6 0,
xn 7 6,
xm 8 1,
xn 9 8,
xB 10 .neq 7 9])
(.cond (.tmp 10) (.seq (.seq (xr [xm 11 0,
xn 12 11,
xm 13 1,
xn 14 13,
xB 15 .lss 12 14])
(.cond (.tmp 15) (.seq (xr [xi 4 (.move (.const (.int .i64 (-1))))])
.ret)
.skip))
(.seq (xr [xi 4 (.move (xk 1))])
.ret))
.skip))
(.seq (.seq (xr [xm 16 0,
xn 17 16,
xb 18 .sub (.tmp 17) (xk 1),
xm 5 18])
(.block 0 (.loop (some [0,1,5]) (
.seq (.seq (xr [xm 19 5,
xb 20 .geq (.tmp 19) xq])
(.cond (.tmp 20) .skip
(.exit 0)))
(.seq (.block 1 (.block 2 (.seq (xR [xm 24 0,
xm 25 5,
xa 26 24 25,
xl 27 26,
xm 28 1,
xm 29 5,
xa 30 28 29,
xl 31 30,
xB 32 .lss 27 31,
xm 23 32])
(.cond (.tmp 23) (.seq (xr [xi 4 (.move (.const (.int .i64 (-1))))])
.ret)
(.seq (xR [xm 34 0,
xm 35 5,
xa 36 34 35,
xl 37 36,
xm 38 1,
xm 39 5,
xa 40 38 39,
xl 41 40,
xB 42 .gtr 37 41,
xm 33 42])
(.cond (.tmp 33) (.seq (xr [xi 4 (.move (xk 1))])
.ret)
.skip))))))
(xr [xm 21 5,
xb 22 .sub (.tmp 21) (xk 1),
xm 5 22]))))))
(.seq (xr [xi 4 (.move xq)])
.ret))),
[.tmp 4],.pure,43⟩
def ef158:EFun:=⟨
.seq (xr [xv 1 0,
xi 2 (.push [xz,xz]),
xi 3 (.move xq)])
(.seq (.seq (xr [xL 4 2 1,
xc 5 187 [.tmp 4],
xb 6 .neq (.tmp 5) xq])
(.cond (.tmp 6) (.seq (xr [xi 7 (.build [xz,xz] []),
xt 2 2 7,
xi 3 (.move (xk 8))])
.ret)
.skip))
(.seq (xr [xL 8 2 1,
xt 2 2 8,
xi 3 (.move xq)])
.ret)),
[.cell 2 true 2,.tmp 3],.pure,9⟩
def ef159:EFun:=⟨
.seq (xr [xv 2 0,
xv 3 1,
xi 4 (.move xq)])
(.seq (.seq (xr [xL 6 4 2,
xc 7 108 [.tmp 6],
xm 5 7])
(.seq (xr [xm 8 5,
xb 9 .neq (.tmp 8) xq])
(.cond (.tmp 9) (.seq (xr [xm 10 5,
xm 4 10])
.ret)
.skip)))
(.seq (xr [xL 11 4 3,
xc 12 108 [.tmp 11],
xm 4 12])
.ret)),
[.tmp 4],.pure,13⟩
def ef160:EFun:=⟨
.seq (xr [xv 2 0,
xv 3 1,
xi 4 (.move xq)])
(.seq (xr [xL 6 4 2,
xL 7 4 3,
xc 8 188 [.tmp 6,.tmp 7,(.const (.int .i64 (-1)))],
xc 9 153 [.tmp 8],
xc 10 152 [.tmp 9],
xc 11 154 [.tmp 10],
xi 5 (.push [(.slice none 0 0),(.slice none 0 0)]),
xt 2 5 11])
(.seq (xr [xf 12 0 5,
xl 13 12,
xf 14 1 5,
xl 15 14,
xc 16 157 [.tmp 13,.tmp 15],
xm 4 16])
.ret)),
[.tmp 4],.pure,17⟩
def ef163:EFun:=⟨
.seq (xr [xi 4 (.move xq)])
(.seq (.block 0 (.loop (some [0,1]) (
.seq (.seq (xr [xm 5 1,
xb 6 .neq (.tmp 5) xq])
(.cond (.tmp 6) .skip
(.exit 0)))
(.block 1 (xR [xm 7 1,
xm 8 0,
xm 9 1,
xB 10 .rem 8 9,
xm 0 7,
xm 1 10])))))
(.seq (xr [xm 11 0,
xc 12 96 [.tmp 11],
xm 4 12])
.ret)),
[.tmp 4],.pure,13⟩
def ef167:EFun:=⟨
.seq (xr [xi 4 (.move (.const (.string ⟨#[]⟩)))])
(.seq (.seq (xr [xm 5 0,
xm 6 1,
xc 7 199 [.tmp 5,.tmp 6]])
(.cond (.tmp 7) (.seq (xr [xm 8 0,
xm 9 1,
xi 10 (.len true (.tmp 9)),
xi 11 (.strSlice (.tmp 8) (some (.tmp 10)) none),
xm 4 11])
.ret)
.skip))
(.seq (xr [xm 12 0,
xm 4 12])
.ret)),
[.tmp 4],.pure,13⟩
def ef169:EFun:=⟨
.seq (xr [xi 2 (.move (.const (.int .i32 0))),
xi 3 (.move xq)])
(.seq (.seq (xr [xm 4 0,
xb 5 .neq (.tmp 4) (.const (.string ⟨#[]⟩)),
xm 6 5,
ym 7 0 6 true,
xg 8 (.strIndex (.tmp 7) xq) 6 true,
yb 9 .lss (.tmp 8) (.const (.int .u8 128)) 6 true,
xi 10 (.pick (.tmp 6) (.tmp 9) xF)])
(.cond (.tmp 10) (.seq (xr [xm 11 0,
xi 12 (.strIndex (.tmp 11) xq),
xi 13 (.conv .i32 (.tmp 12)),
xm 2 13,
xi 3 (.move (xk 1))])
.ret)
(xr [xm 15 0,
xc 16 200 [.tmp 15],
xm 14 16,
xe 17 14 0,
xe 18 14 1,
xm 2 17,
xm 3 18])))
.ret),
[.tmp 2,.tmp 3],.pure,19⟩
def ef171:EFun:=⟨
.skip,
[],.nat natIndex1,0⟩
def ef182:EFun:=⟨
.seq (xr [xi 4 (.move xq)])
(.seq (.seq (xr [xm 6 0,
xn 7 6,
xi 8 (.move xq)])
(.block 0 (.loop (some [0,1,7,8]) (
.seq (xr [xB 9 .lss 8 7])
(.seq (.cond (.tmp 9) .skip
(.exit 0))
(.seq (.block 1 (.seq (xr [xm 10 8,
xm 5 10])
(.seq (xr [xm 11 1,
xm 12 0,
xm 13 5,
xi 14 (.indexAddr none 4 (.tmp 12) (.tmp 13)),
xL 15 4 14,
xi 16 (.callVal (.tmp 11) [.tmp 15])])
(.cond (.tmp 16) (.seq (xr [xm 17 5,
xm 4 17])
.ret)
.skip))))
(xr [xb 18 .add (.tmp 8) (xk 1),
xm 8 18])))))))
(.seq (xr [xi 4 (.move (.const (.int .i64 (-1))))])
.ret)),
[.tmp 4],.pure,19⟩
def ef183:EFun:=⟨
.seq (xr [xv 2 0,
xi 3 (.move xF)])
(.seq (xr [xf 4 0 2,
xl 5 4,
xl 6 1,
xB 7 .eql 5 6,
xm 3 7])
.ret),
[.tmp 3],.pure,8⟩
def ef184:EFun:=⟨
.seq (xr [xi 4 (.move xq)])
(.seq (.block 0 (.loop (some [0,1]) (
.seq (.seq (xr [xm 5 1,
xb 6 .neq (.tmp 5) xq])
(.cond (.tmp 6) .skip
(.exit 0)))
(.block 1 (xR [xm 7 1,
xm 8 0,
xm 9 1,
xB 10 .rem 8 9,
xm 0 7,
xm 1 10])))))
(.seq (.seq (xr [xm 11 0,
xb 12 .lss (.tmp 11) xq])
(.cond (.tmp 12) (.seq (xr [xm 13 0,
xi 14 (.un .neg (.tmp 13)),
xm 4 14])
.ret)
.skip))
(.seq (xr [xm 15 0,
xm 4 15])
.ret))),
[.tmp 4],.pure,16⟩
def ef185:EFun:=⟨
.seq (xr [xi 4 (.move (.const (.int .u64 0))),
xi 5 (.move (.const (.int .u64 0)))])
(.seq (xr [xm 14 0,
xb 15 .and (.tmp 14) (.const (.int .u64 4294967295)),
xm 6 15])
(.seq (xr [xm 16 0,
xb 17 .shr (.tmp 16) (.const (.int .u64 32)),
xm 7 17])
(.seq (xr [xm 18 1,
xb 19 .and (.tmp 18) (.const (.int .u64 4294967295)),
xm 8 19])
(.seq (xr [xm 20 1,
xb 21 .shr (.tmp 20) (.const (.int .u64 32)),
xm 9 21])
(.seq (xr [xm 22 6,
xm 23 8,
xB 24 .mul 22 23,
xm 10 24])
(.seq (xr [xm 25 7,
xm 26 8,
xB 27 .mul 25 26,
xm 28 10,
xb 29 .shr (.tmp 28) (.const (.int .u64 32)),
xB 30 .add 27 29,
xm 11 30])
(.seq (xr [xm 31 11,
xb 32 .and (.tmp 31) (.const (.int .u64 4294967295)),
xm 12 32])
(.seq (xr [xm 33 11,
xb 34 .shr (.tmp 33) (.const (.int .u64 32)),
xm 13 34])
(.seq (xr [xm 35 12,
xm 36 6,
xm 37 9,
xB 38 .mul 36 37,
xB 39 .add 35 38,
xm 12 39])
(.seq (xr [xm 40 7,
xm 41 9,
xB 42 .mul 40 41,
xm 43 13,
xB 44 .add 42 43,
xm 45 12,
xb 46 .shr (.tmp 45) (.const (.int .u64 32)),
xB 47 .add 44 46,
xm 4 47])
(.seq (xr [xm 48 0,
xm 49 1,
xB 50 .mul 48 49,
xm 5 50])
.ret))))))))))),
[.tmp 4,.tmp 5],.pure,51⟩
def ef186:EFun:=⟨
.seq (xr [xi 4 (.move (.const (.slice none 0 0)))])
(.seq (xr [xm 13 0,
xn 14 13,
xb 15 .add (.tmp 14) (xk 1),
xi 16 (.makeSlice 1 8 [(.int .u64 0)] xq (.tmp 15)),
xm 5 16])
(.seq (xr [xi 6 (.move (.const (.int .u64 0)))])
(.seq (.seq (xr [xm 17 0,
xn 18 17,
xi 19 (.move xq)])
(.block 0 (.loop (some [1,5,6,17,18,19]) (
.seq (xr [xB 20 .lss 19 18])
(.seq (.cond (.tmp 20) .skip
(.exit 0))
(.seq (.block 1 (.seq (xr [xa 21 17 19,
xl 22 21,
xm 8 22])
(.seq (xr [xm 24 8,
xm 25 1,
xc 26 185 [.tmp 24,.tmp 25],
xm 23 26,
xe 27 23 0,
xe 28 23 1,
xm 9 27,
xm 10 28])
(.seq (xr [xm 30 10,
xm 31 6,
xi 32 (.add64 (.tmp 30) (.tmp 31) (.const (.int .u64 0))),
xm 29 32,
xe 33 29 0,
xe 34 29 1,
xm 11 33,
xm 12 34])
(.seq (xr [xm 35 5,
xm 36 11,
xi 37 (.buildSlice 1 1 [(.int .u64 0)] [(0,1,(.tmp 36))]),
xi 38 (.append 1 8 (.tmp 35) (.tmp 37)),
xm 5 38])
(xr [xm 39 9,
xm 40 12,
xB 41 .add 39 40,
xm 6 41]))))))
(xr [xb 42 .add (.tmp 19) (xk 1),
xm 19 42])))))))
(.seq (.seq (xr [xm 43 6,
xb 44 .gtr (.tmp 43) (.const (.int .u64 0))])
(.cond (.tmp 44) (xr [xm 45 5,
xm 46 6,
xi 47 (.buildSlice 1 1 [(.int .u64 0)] [(0,1,(.tmp 46))]),
xi 48 (.append 1 8 (.tmp 45) (.tmp 47)),
xm 5 48])
.skip))
(.seq (xr [xm 49 5,
xm 4 49])
.ret))))),
[.tmp 4],.pure,50⟩
def ef187:EFun:=⟨
.seq (xr [xv 1 0,
xi 2 (.move xq)])
(.seq (.block 0 (.seq (xr [xf 4 0 1,
xl 5 4,
xc 6 151 [.tmp 5,(.const (.int .i64 (-1000000000000000))),(xk 1000000000000000)],
xi 7 (.un .not (.tmp 6)),
xm 8 7,
yf 9 1 1 8 false,
yl 10 9 8 false,
xg 11 (.call 151 [.tmp 10,(.const (.int .i64 (-1000000000000000))),(xk 1000000000000000)]) 8 false,
xg 12 (.un .not (.tmp 11)) 8 false,
xi 13 (.pick (.tmp 8) xT (.tmp 12)),
xm 3 13])
(.cond (.tmp 3) (.seq (xr [xi 2 (.move (xk 2))])
.ret)
(.seq (xr [xf 15 0 1,
xl 16 15,
xf 17 1 1,
xl 18 17,
xB 19 .gtr 16 18,
xm 14 19])
(.cond (.tmp 14) (.seq (xr [xi 2 (.move (xk 9))])
.ret)
.skip)))))
(.seq (xr [xi 2 (.move xq)])
.ret)),
[.tmp 2],.pure,20⟩
def ef188:EFun:=⟨
.seq (xr [xv 3 0,
xv 4 1,
xi 6 (.push [xz,xz,xz,xz])])
(.seq (xr [xf 7 0 3,
xl 8 7,
xf 9 3 4,
xl 10 9,
xB 11 .mul 8 10,
xm 12 2,
xf 13 0 4,
xl 14 13,
xB 15 .mul 12 14,
xf 16 3 3,
xl 17 16,
xB 18 .mul 15 17,
xB 19 .add 11 18,
xf 20 1 3,
xl 21 20,
xf 22 3 4,
xl 23 22,
xB 24 .mul 21 23,
xm 25 2,
xf 26 1 4,
xl 27 26,
xB 28 .mul 25 27,
xf 29 3 3,
xl 30 29,
xB 31 .mul 28 30,
xB 32 .add 24 31,
xf 33 2 3,
xl 34 33,
xf 35 3 4,
xl 36 35,
xB 37 .mul 34 36,
xm 38 2,
xf 39 2 4,
xl 40 39,
xB 41 .mul 38 40,
xf 42 3 3,
xl 43 42,
xB 44 .mul 41 43,
xB 45 .add 37 44,
xf 46 3 3,
xl 47 46,
xf 48 3 4,
xl 49 48,
xB 50 .mul 47 49,
xi 51 (.build [xz,xz,xz,xz] [(0,1,(.tmp 19)),(1,1,(.tmp 32)),(2,1,(.tmp 45)),(3,1,(.tmp 50))]),
xt 4 6 51])
.ret),
[.cell 6 true 4],.pure,52⟩
def ef199:EFun:=⟨
.seq (xr [xi 4 (.move xF)])
(.seq (xr [xm 5 0,
xi 6 (.len true (.tmp 5)),
xm 7 1,
xi 8 (.len true (.tmp 7)),
xB 9 .geq 6 8,
xm 10 9,
ym 11 0 10 true,
ym 12 1 10 true,
xg 13 (.len true (.tmp 12)) 10 true,
xg 14 (.strSlice (.tmp 11) none (some (.tmp 13))) 10 true,
ym 15 1 10 true,
yb 16 .eql (.tmp 14) (.tmp 15) 10 true,
xi 17 (.pick (.tmp 10) (.tmp 16) xF),
xm 4 17])
.ret),
[.tmp 4],.pure,18⟩
end Go.Abs.B
set_option maxRecDepth 100000
set_option maxHeartbeats 0
namespace Go.Abs.B
open Go Go.Abs
def fns:Nat→Option EFun
 | 3=>some ef3
 | 5=>some ef5
 | 6=>some ef6
 | 8=>some ef8
 | 9=>some ef9
 | 10=>some ef10
 | 11=>some ef11
 | 12=>some ef12
 | 13=>some ef13
 | 29=>some ef29
 | 30=>some ef30
 | 31=>some ef31
 | 32=>some ef32
 | 33=>some ef33
 | 34=>some ef34
 | 35=>some ef35
 | 36=>some ef36
 | 37=>some ef37
 | 39=>some ef39
 | 41=>some ef41
 | 42=>some ef42
 | 43=>some ef43
 | 44=>some ef44
 | 45=>some ef45
 | 46=>some ef46
 | 47=>some ef47
 | 48=>some ef48
 | 49=>some ef49
 | 50=>some ef50
 | 60=>some ef60
 | 63=>some ef63
 | 64=>some ef64
 | 65=>some ef65
 | 66=>some ef66
 | 67=>some ef67
 | 68=>some ef68
 | 69=>some ef69
 | 71=>some ef71
 | 72=>some ef72
 | 73=>some ef73
 | 74=>some ef74
 | 75=>some ef75
 | 76=>some ef76
 | 77=>some ef77
 | 78=>some ef78
 | 79=>some ef79
 | 80=>some ef80
 | 81=>some ef81
 | 82=>some ef82
 | 83=>some ef83
 | 84=>some ef84
 | 85=>some ef85
 | 95=>some ef95
 | 96=>some ef96
 | 99=>some ef99
 | 100=>some ef100
 | 101=>some ef101
 | 102=>some ef102
 | 103=>some ef103
 | 104=>some ef104
 | 105=>some ef105
 | 106=>some ef106
 | 107=>some ef107
 | 108=>some ef108
 | 109=>some ef109
 | 110=>some ef110
 | 114=>some ef114
 | 115=>some ef115
 | 116=>some ef116
 | 117=>some ef117
 | 118=>some ef118
 | 119=>some ef119
 | 120=>some ef120
 | 121=>some ef121
 | 122=>some ef122
 | 123=>some ef123
 | 124=>some ef124
 | 125=>some ef125
 | 126=>some ef126
 | 127=>some ef127
 | 128=>some ef128
 | 129=>some ef129
 | 149=>some ef149
 | 150=>some ef150
 | 151=>some ef151
 | 152=>some ef152
 | 153=>some ef153
 | 154=>some ef154
 | 155=>some ef155
 | 156=>some ef156
 | 157=>some ef157
 | 158=>some ef158
 | 159=>some ef159
 | 160=>some ef160
 | 163=>some ef163
 | 167=>some ef167
 | 169=>some ef169
 | 171=>some ef171
 | 182=>some ef182
 | 183=>some ef183
 | 184=>some ef184
 | 185=>some ef185
 | 186=>some ef186
 | 187=>some ef187
 | 188=>some ef188
 | 199=>some ef199
 | _=>none
def E:EProg:=⟨fns,glob,2 ^ 64⟩
theorem fn3:E.fn 3=some ef3:=rfl
theorem fn5:E.fn 5=some ef5:=rfl
theorem fn6:E.fn 6=some ef6:=rfl
theorem fn8:E.fn 8=some ef8:=rfl
theorem fn9:E.fn 9=some ef9:=rfl
theorem fn10:E.fn 10=some ef10:=rfl
theorem fn11:E.fn 11=some ef11:=rfl
theorem fn12:E.fn 12=some ef12:=rfl
theorem fn13:E.fn 13=some ef13:=rfl
theorem fn29:E.fn 29=some ef29:=rfl
theorem fn30:E.fn 30=some ef30:=rfl
theorem fn31:E.fn 31=some ef31:=rfl
theorem fn32:E.fn 32=some ef32:=rfl
theorem fn33:E.fn 33=some ef33:=rfl
theorem fn34:E.fn 34=some ef34:=rfl
theorem fn35:E.fn 35=some ef35:=rfl
theorem fn36:E.fn 36=some ef36:=rfl
theorem fn37:E.fn 37=some ef37:=rfl
theorem fn39:E.fn 39=some ef39:=rfl
theorem fn41:E.fn 41=some ef41:=rfl
theorem fn42:E.fn 42=some ef42:=rfl
theorem fn43:E.fn 43=some ef43:=rfl
theorem fn44:E.fn 44=some ef44:=rfl
theorem fn45:E.fn 45=some ef45:=rfl
theorem fn46:E.fn 46=some ef46:=rfl
theorem fn47:E.fn 47=some ef47:=rfl
theorem fn48:E.fn 48=some ef48:=rfl
theorem fn49:E.fn 49=some ef49:=rfl
theorem fn50:E.fn 50=some ef50:=rfl
theorem fn60:E.fn 60=some ef60:=rfl
theorem fn63:E.fn 63=some ef63:=rfl
theorem fn64:E.fn 64=some ef64:=rfl
theorem fn65:E.fn 65=some ef65:=rfl
theorem fn66:E.fn 66=some ef66:=rfl
theorem fn67:E.fn 67=some ef67:=rfl
theorem fn68:E.fn 68=some ef68:=rfl
theorem fn69:E.fn 69=some ef69:=rfl
theorem fn71:E.fn 71=some ef71:=rfl
theorem fn72:E.fn 72=some ef72:=rfl
theorem fn73:E.fn 73=some ef73:=rfl
theorem fn74:E.fn 74=some ef74:=rfl
theorem fn75:E.fn 75=some ef75:=rfl
theorem fn76:E.fn 76=some ef76:=rfl
theorem fn77:E.fn 77=some ef77:=rfl
theorem fn78:E.fn 78=some ef78:=rfl
theorem fn79:E.fn 79=some ef79:=rfl
theorem fn80:E.fn 80=some ef80:=rfl
theorem fn81:E.fn 81=some ef81:=rfl
theorem fn82:E.fn 82=some ef82:=rfl
theorem fn83:E.fn 83=some ef83:=rfl
theorem fn84:E.fn 84=some ef84:=rfl
theorem fn85:E.fn 85=some ef85:=rfl
theorem fn95:E.fn 95=some ef95:=rfl
theorem fn96:E.fn 96=some ef96:=rfl
theorem fn99:E.fn 99=some ef99:=rfl
theorem fn100:E.fn 100=some ef100:=rfl
theorem fn101:E.fn 101=some ef101:=rfl
theorem fn102:E.fn 102=some ef102:=rfl
theorem fn103:E.fn 103=some ef103:=rfl
theorem fn104:E.fn 104=some ef104:=rfl
theorem fn105:E.fn 105=some ef105:=rfl
theorem fn106:E.fn 106=some ef106:=rfl
theorem fn107:E.fn 107=some ef107:=rfl
theorem fn108:E.fn 108=some ef108:=rfl
theorem fn109:E.fn 109=some ef109:=rfl
theorem fn110:E.fn 110=some ef110:=rfl
theorem fn114:E.fn 114=some ef114:=rfl
theorem fn115:E.fn 115=some ef115:=rfl
theorem fn116:E.fn 116=some ef116:=rfl
theorem fn117:E.fn 117=some ef117:=rfl
theorem fn118:E.fn 118=some ef118:=rfl
theorem fn119:E.fn 119=some ef119:=rfl
theorem fn120:E.fn 120=some ef120:=rfl
theorem fn121:E.fn 121=some ef121:=rfl
theorem fn122:E.fn 122=some ef122:=rfl
theorem fn123:E.fn 123=some ef123:=rfl
theorem fn124:E.fn 124=some ef124:=rfl
theorem fn125:E.fn 125=some ef125:=rfl
theorem fn126:E.fn 126=some ef126:=rfl
theorem fn127:E.fn 127=some ef127:=rfl
theorem fn128:E.fn 128=some ef128:=rfl
theorem fn129:E.fn 129=some ef129:=rfl
theorem fn149:E.fn 149=some ef149:=rfl
theorem fn150:E.fn 150=some ef150:=rfl
theorem fn151:E.fn 151=some ef151:=rfl
theorem fn152:E.fn 152=some ef152:=rfl
theorem fn153:E.fn 153=some ef153:=rfl
theorem fn154:E.fn 154=some ef154:=rfl
theorem fn155:E.fn 155=some ef155:=rfl
theorem fn156:E.fn 156=some ef156:=rfl
theorem fn157:E.fn 157=some ef157:=rfl
theorem fn158:E.fn 158=some ef158:=rfl
theorem fn159:E.fn 159=some ef159:=rfl
theorem fn160:E.fn 160=some ef160:=rfl
theorem fn163:E.fn 163=some ef163:=rfl
theorem fn167:E.fn 167=some ef167:=rfl
theorem fn169:E.fn 169=some ef169:=rfl
theorem fn171:E.fn 171=some ef171:=rfl
theorem fn182:E.fn 182=some ef182:=rfl
theorem fn183:E.fn 183=some ef183:=rfl
theorem fn184:E.fn 184=some ef184:=rfl
theorem fn185:E.fn 185=some ef185:=rfl
theorem fn186:E.fn 186=some ef186:=rfl
theorem fn187:E.fn 187=some ef187:=rfl
theorem fn188:E.fn 188=some ef188:=rfl
theorem fn199:E.fn 199=some ef199:=rfl
end Go.Abs.B
