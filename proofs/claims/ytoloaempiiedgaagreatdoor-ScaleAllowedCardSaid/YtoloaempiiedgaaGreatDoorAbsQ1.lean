/- The functions, compiled for the abstract evaluator. Written by wip/abs/Print.lean. -/
import Derived.Test.YtoloaempiiedgaaGreatDoorAbsQ0
set_option linter.unusedSimpArgs false
set_option linter.unusedVariables false
set_option maxRecDepth 100000
set_option maxHeartbeats 0
namespace Go.Abs.Q
open Go Go.Abs
def ef3 : EFun := ⟨
 .seq (.region false [xi 3 (.box (.tmp 0)),
 xi 4 (.box (.tmp 1)),
 xi 6 (.move (.const (.bool false)))])
 (.seq (.seq (.region false [xi 10 (.call 10 []),
 xi 11 (.un .not (.tmp 10))])
 (.cond (.tmp 11) (.seq (.region false [xi 6 (.move (.const (.bool false)))])
 (.ret))
 (.skip)))
 (.seq (.seq (.region false [xi 12 (.load true 3 (.tmp 3)),
 xi 13 (.call 11 [(.tmp 12)]),
 xi 14 (.un .not (.tmp 13)),
 xm 15 14,
 xg 16 (.move (.tmp 2)) 15 false,
 xg 17 (.call 12 [(.tmp 16)]) 15 false,
 xg 18 (.un .not (.tmp 17)) 15 false,
 xi 19 (.pick (.tmp 15) (.const (.bool true)) (.tmp 18))])
 (.cond (.tmp 19) (.seq (.region false [xi 6 (.move (.const (.bool true)))])
 (.ret))
 (.skip)))
 (.seq (.region true [xi 21 (.load true 3 (.tmp 3)),
 ⟨(some 22), .call 14 [(.tmp 21)], none, [], false, true⟩,
 xi 23 (.load true 4 (.tmp 4)),
 xm 24 2,
 ⟨(some 25), .call 15 [(.tmp 24)], none, [], false, true⟩,
 xi 26 (.call 13 [(.tmp 22), (.tmp 23), (.tmp 25)]),
 xm 20 26,
 xi 27 (.extract (.tmp 20) 0),
 xi 28 (.extract (.tmp 20) 1),
 xm 7 27,
 xm 8 28])
 (.seq (.seq (.region false [xi 29 (.load true 3 (.tmp 3)),
 xi 30 (.load true 4 (.tmp 4)),
 xm 31 2,
 xi 32 (.call 16 [(.tmp 29), (.tmp 30), (.tmp 31)]),
 xm 9 32])
 (.seq (.region false [xm 33 9,
 xi 34 (.bin .neq (.tmp 33) (.const xz))])
 (.cond (.tmp 34) (.seq (.region false [xm 35 8,
 xm 36 9,
 xi 37 (.bin .eql (.tmp 35) (.tmp 36)),
 xm 38 37,
 xg 39 (.move (.tmp 7)) 38 true,
 xg 40 (.len false (.tmp 39)) 38 true,
 xg 41 (.bin .eql (.tmp 40) (.const xz)) 38 true,
 xi 42 (.pick (.tmp 38) (.tmp 41) (.const (.bool false))),
 xm 6 42])
 (.ret))
 (.skip))))
 (.seq (.region true [xm 43 8,
 xi 44 (.bin .eql (.tmp 43) (.const xz)),
 xm 45 44,
 xg 46 (.move (.tmp 7)) 45 true,
 xg 47 (.load true 3 (.tmp 3)) 45 true,
 ⟨(some 48), .call 19 [(.tmp 47)], (some (45, true)), [], false, true⟩,
 xg 49 (.load true 4 (.tmp 4)) 45 true,
 xg 50 (.move (.tmp 2)) 45 true,
 xg 51 (.call 18 [(.tmp 48), (.tmp 49), (.tmp 50)]) 45 true,
 xg 52 (.call 17 [(.tmp 46), (.tmp 51)]) 45 true,
 xi 53 (.pick (.tmp 45) (.tmp 52) (.const (.bool false))),
 xm 6 53])
 (.ret)))))),
 [.tmp 6], .pure, 54⟩

def ef10 : EFun := ⟨
 .seq (.region false [xi 0 (.move (.const (.bool false)))])
 (.seq (.region false [xi 9 (.build [xz, xz] [(0, 1, (.const (.int .i64 440000))), (1, 1, (.const (.int .i64 440000)))]),
 xi 1 (.push [xz, xz]),
 ⟨none, .store 2 (.tmp 1) (.tmp 9), none, [], false, false⟩])
 (.seq (.region true [⟨(some 11), .call 55 [], none, [], false, true⟩,
 ⟨(some 12), .call 56 [], none, [], false, true⟩,
 xi 13 (.load true 2 (.tmp 1)),
 ⟨(some 14), .call 54 [(.tmp 11), (.tmp 12), (.tmp 13)], none, [], false, true⟩,
 xm 10 14,
 xi 15 (.extract (.tmp 10) 0),
 xi 16 (.extract (.tmp 10) 1),
 xi 2 (.push [xz, xz]),
 ⟨none, .store 2 (.tmp 2) (.tmp 15), none, [], false, false⟩,
 xm 3 16])
 (.seq (.region true [⟨(some 18), .call 55 [], none, [], false, true⟩,
 ⟨(some 19), .call 56 [], none, [], false, true⟩,
 xi 20 (.load true 2 (.tmp 1)),
 ⟨(some 21), .call 57 [(.tmp 18), (.tmp 19), (.tmp 20)], none, [], false, true⟩,
 xm 17 21,
 xi 22 (.extract (.tmp 17) 0),
 xi 23 (.extract (.tmp 17) 1),
 xi 4 (.push [xz, xz]),
 ⟨none, .store 2 (.tmp 4) (.tmp 22), none, [], false, false⟩,
 xm 5 23])
 (.seq (.region false [xi 25 (.build [xz, xz] [(0, 1, (.const (.int .i64 1000))), (1, 1, (.const (.int .i64 2000)))]),
 xi 26 (.build [xz, xz] [(0, 1, (.const (.int .i64 1500))), (1, 1, (.const (.int .i64 1800)))]),
 xi 27 (.buildSlice 2 2 [xz, xz, xz, xz] [(0, 2, (.tmp 25)), (2, 2, (.tmp 26))]),
 xi 28 (.build [xz, xz] [(1, 1, (.const (.int .i64 100)))]),
 xi 29 (.call 58 [(.tmp 27), (.tmp 28)]),
 xm 24 29,
 xi 30 (.extract (.tmp 24) 0),
 xi 31 (.extract (.tmp 24) 1),
 xi 32 (.extract (.tmp 24) 2),
 xm 6 30,
 xm 7 31,
 xm 8 32])
 (.seq (.region false [xm 33 3,
 xi 34 (.bin .eql (.tmp 33) (.const xz)),
 xm 35 34,
 xg 36 (.load true 2 (.tmp 2)) 35 true,
 xg 37 (.build [xz, xz] [(0, 1, (.const (.int .i64 76389))), (1, 1, (.const (.int .i64 76390)))]) 35 true,
 xg 38 (.eqAgg false [(.int .i64), (.int .i64)] (.tmp 36) (.tmp 37)) 35 true,
 xi 39 (.pick (.tmp 35) (.tmp 38) (.const (.bool false))),
 xm 40 39,
 xg 41 (.move (.tmp 5)) 40 true,
 xg 42 (.bin .eql (.tmp 41) (.const xz)) 40 true,
 xi 43 (.pick (.tmp 40) (.tmp 42) (.const (.bool false))),
 xm 44 43,
 xg 45 (.load true 2 (.tmp 4)) 44 true,
 xg 46 (.build [xz, xz] [(0, 1, (.const (.int .i64 793624))), (1, 1, (.const (.int .i64 793636)))]) 44 true,
 xg 47 (.eqAgg false [(.int .i64), (.int .i64)] (.tmp 45) (.tmp 46)) 44 true,
 xi 48 (.pick (.tmp 44) (.tmp 47) (.const (.bool false))),
 xm 49 48,
 xg 50 (.move (.tmp 8)) 49 true,
 xg 51 (.bin .eql (.tmp 50) (.const xz)) 49 true,
 xi 52 (.pick (.tmp 49) (.tmp 51) (.const (.bool false))),
 xm 53 52,
 xg 54 (.move (.tmp 6)) 53 true,
 xg 55 (.buildSlice 1 2 [xz, xz] [(0, 1, (.const (.int .i64 1900))), (1, 1, (.const (.int .i64 1800)))]) 53 true,
 xg 56 (.call 59 [(.tmp 54), (.tmp 55)]) 53 true,
 xi 57 (.pick (.tmp 53) (.tmp 56) (.const (.bool false))),
 xm 0 57])
 (.ret)))))),
 [.tmp 0], .pure, 58⟩

def ef11 : EFun := ⟨
 .seq (.region false [xi 1 (.box (.tmp 0)),
 xi 2 (.move (.const (.bool false)))])
 (.seq (.seq (.region false [xi 4 (.fieldAddr 1 (.tmp 1)),
 xi 5 (.load false 1 (.tmp 4)),
 xi 6 (.call 60 [(.tmp 5)]),
 xi 7 (.un .not (.tmp 6)),
 xm 8 7,
 xg 9 (.fieldAddr 2 (.tmp 1)) 8 false,
 xg 10 (.load false 1 (.tmp 9)) 8 false,
 xg 11 (.len false (.tmp 10)) 8 false,
 xg 12 (.bin .gtr (.tmp 11) (.const (.int .i64 6))) 8 false,
 xi 13 (.pick (.tmp 8) (.const (.bool true)) (.tmp 12))])
 (.cond (.tmp 13) (.seq (.region false [xi 2 (.move (.const (.bool false)))])
 (.ret))
 (.skip)))
 (.seq (.seq (.region false [xi 3 (.move (.const xz))])
 (.block 0 (.loop (some [1, 3]) (
 .seq (.seq (.region false [xm 14 3,
 xi 15 (.fieldAddr 2 (.tmp 1)),
 xi 16 (.load false 1 (.tmp 15)),
 xi 17 (.len false (.tmp 16)),
 xi 18 (.bin .lss (.tmp 14) (.tmp 17))])
 (.cond (.tmp 18) (.skip)
 (.exit 0)))
 (.seq (.block 1 (.seq (.region false [xi 21 (.fieldAddr 2 (.tmp 1)),
 xi 22 (.load false 1 (.tmp 21)),
 xm 23 3,
 xi 24 (.indexAddr none 10 (.tmp 22) (.tmp 23)),
 xi 25 (.fieldAddr 5 (.tmp 24)),
 xi 26 (.load true 5 (.tmp 25)),
 xi 27 (.call 61 [(.tmp 26)]),
 xi 28 (.un .not (.tmp 27))])
 (.cond (.tmp 28) (.seq (.region false [xi 2 (.move (.const (.bool false)))])
 (.ret))
 (.skip))))
 (.region false [xm 19 3,
 xi 20 (.bin .add (.tmp 19) (.const (.int .i64 1))),
 xm 3 20]))))))
 (.seq (.region false [xi 2 (.move (.const (.bool true)))])
 (.ret)))),
 [.tmp 2], .pure, 29⟩

def ef12 : EFun := ⟨
 .seq (.region false [xi 2 (.move (.const (.bool false)))])
 (.seq (.region false [xm 3 0,
 xi 4 (.len false (.tmp 3)),
 xi 5 (.bin .leq (.tmp 4) (.const (.int .i64 6))),
 xm 6 5,
 xg 7 (.move (.tmp 0)) 6 false,
 xg 8 (.len false (.tmp 7)) 6 false,
 xg 9 (.bin .gtr (.tmp 8) (.const (.int .i64 20))) 6 false,
 xg 10 (.move (.tmp 9)) 6 false,
 xg 11 (.move (.tmp 0)) 10 true,
 xg 12 (.len false (.tmp 11)) 10 true,
 xg 13 (.bin .leq (.tmp 12) (.const (.int .i64 25))) 10 true,
 xg 14 (.pick (.tmp 10) (.tmp 13) (.const (.bool false))) 6 false,
 xi 15 (.pick (.tmp 6) (.const (.bool true)) (.tmp 14)),
 xm 2 15])
 (.ret)),
 [.tmp 2], .pure, 16⟩

def ef13 : EFun := ⟨
 .seq (.region false [xi 3 (.box (.tmp 0)),
 xi 4 (.box (.tmp 1)),
 xi 6 (.move (.const (.slice none 0 0))),
 xi 7 (.move (.const xz))])
 (.seq (.region false [xi 17 (.load true 3 (.tmp 3)),
 xi 18 (.load true 4 (.tmp 4)),
 xm 19 2,
 xi 20 (.call 62 [(.tmp 17), (.tmp 18), (.tmp 19)]),
 xm 16 20,
 xi 21 (.extract (.tmp 16) 0),
 xi 22 (.extract (.tmp 16) 1),
 xm 8 21,
 xm 9 22])
 (.seq (.seq (.region false [xm 23 9,
 xi 24 (.bin .neq (.tmp 23) (.const xz))])
 (.cond (.tmp 24) (.seq (.region false [xm 25 9,
 xi 6 (.move (.const (.slice none 0 0))),
 xm 7 25])
 (.ret))
 (.skip)))
 (.seq (.region false [xi 10 (.move (.const (.slice none 0 0)))])
 (.seq (.seq (.region false [xm 26 8,
 xi 27 (.nilCheck (.tmp 26)),
 xi 28 (.fieldAddr 0 (.tmp 27)),
 xi 29 (.load false 1 (.tmp 28)),
 xi 30 (.len false (.tmp 29)),
 xi 31 (.move (.const xz))])
 (.block 0 (.loop (some [10, 29, 30, 31]) (
 .seq (.region false [xi 32 (.bin .lss (.tmp 31) (.tmp 30))])
 (.seq (.cond (.tmp 32) (.skip)
 (.exit 0))
 (.seq (.block 1 (.seq (.region false [xi 33 (.indexAddr none 1 (.tmp 29) (.tmp 31)),
 xi 34 (.load false 1 (.tmp 33)),
 xm 12 34])
 (.seq (.region false [xi 13 (.move (.const (.slice none 0 0)))])
 (.seq (.seq (.region false [xm 35 12,
 xi 36 (.len false (.tmp 35)),
 xi 37 (.move (.const xz))])
 (.block 2 (.loop (some [10, 13, 29, 30, 31, 35, 36, 37]) (
 .seq (.region false [xi 38 (.bin .lss (.tmp 37) (.tmp 36))])
 (.seq (.cond (.tmp 38) (.skip)
 (.exit 2))
 (.seq (.block 3 (.seq (.region false [xm 39 37,
 xi 40 (.indexAddr none 1 (.tmp 35) (.tmp 37)),
 xi 41 (.load false 1 (.tmp 40)),
 xm 14 39,
 xm 15 41])
 (.seq (.region false [xm 42 15])
 (.cond (.tmp 42) (.region false [xm 43 13,
 xm 44 14,
 xi 45 (.buildSlice 1 1 [xz] [(0, 1, (.tmp 44))]),
 xi 46 (.appendT 1 8 (.tmp 43) (.tmp 45)),
 xm 13 46])
 (.skip)))))
 (.region false [xi 47 (.bin .add (.tmp 37) (.const (.int .i64 1))),
 xm 37 47])))))))
 (.region false [xm 48 10,
 xm 49 13,
 xi 50 (.buildSlice 1 1 [(.slice none 0 0)] [(0, 1, (.tmp 49))]),
 xi 51 (.appendT 1 24 (.tmp 48) (.tmp 50)),
 xm 10 51])))))
 (.region false [xi 52 (.bin .add (.tmp 31) (.const (.int .i64 1))),
 xm 31 52])))))))
 (.seq (.region false [xm 53 10,
 xm 6 53,
 xi 7 (.move (.const xz))])
 (.ret)))))),
 [.tmp 6, .tmp 7], .full, 54⟩

def ef14 : EFun := ⟨
 .seq (.region false [xi 1 (.box (.tmp 0)),
 xi 2 (.push [xz, (.slice none 0 0), (.slice none 0 0)])])
 (.seq (.region false [xi 3 (.buildSlice 4 0 [] []),
 xi 4 (.fieldAddr 1 (.tmp 1)),
 xi 5 (.load false 1 (.tmp 4)),
 xi 6 (.append 4 40 (.tmp 3) (.tmp 5)),
 xi 7 (.fieldAddr 1 (.tmp 1)),
 ⟨none, .store 1 (.tmp 7) (.tmp 6), none, [], false, false⟩])
 (.seq (.region false [xi 8 (.buildSlice 10 0 [] []),
 xi 9 (.fieldAddr 2 (.tmp 1)),
 xi 10 (.load false 1 (.tmp 9)),
 xi 11 (.append 10 96 (.tmp 8) (.tmp 10)),
 xi 12 (.fieldAddr 2 (.tmp 1)),
 ⟨none, .store 1 (.tmp 12) (.tmp 11), none, [], false, false⟩])
 (.seq (.region false [xi 13 (.load true 3 (.tmp 1)),
 ⟨none, .store 3 (.tmp 2) (.tmp 13), none, [], false, false⟩])
 (.ret)))),
 [.cell 2 true 3], .pure, 14⟩

def ef15 : EFun := ⟨
 .seq (.region false [xi 2 (.move (.const (.slice none 0 0)))])
 (.seq (.region false [xi 3 (.buildSlice 1 0 [] []),
 xm 4 0,
 xi 5 (.append 1 8 (.tmp 3) (.tmp 4)),
 xm 2 5])
 (.ret)),
 [.tmp 2], .pure, 6⟩

def ef16 : EFun := ⟨
 .seq (.region false [xi 3 (.box (.tmp 0)),
 xi 4 (.box (.tmp 1)),
 xi 6 (.move (.const xz))])
 (.seq (.seq (.region false [xi 11 (.load true 3 (.tmp 3)),
 xi 12 (.call 34 [(.tmp 11)]),
 xm 10 12,
 xi 13 (.extract (.tmp 10) 0),
 xi 14 (.extract (.tmp 10) 1),
 xm 7 13,
 xm 8 14])
 (.seq (.region false [xm 15 8,
 xi 16 (.bin .neq (.tmp 15) (.const xz))])
 (.cond (.tmp 16) (.seq (.region false [xm 17 8,
 xm 6 17])
 (.ret))
 (.skip))))
 (.seq (.seq (.region false [xi 18 (.load true 4 (.tmp 4)),
 xi 19 (.call 63 [(.tmp 18)]),
 xm 9 19])
 (.seq (.region false [xm 20 9,
 xi 21 (.bin .neq (.tmp 20) (.const xz))])
 (.cond (.tmp 21) (.seq (.region false [xm 22 9,
 xm 6 22])
 (.ret))
 (.skip))))
 (.seq (.region false [xm 23 2,
 xi 24 (.call 64 [(.tmp 23)]),
 xm 6 24])
 (.ret)))),
 [.tmp 6], .pure, 25⟩

def ef17 : EFun := ⟨
 .seq (.region false [xi 4 (.move (.const (.bool false)))])
 (.seq (.seq (.region false [xm 6 0,
 xi 7 (.len false (.tmp 6)),
 xm 8 1,
 xi 9 (.len false (.tmp 8)),
 xi 10 (.bin .neq (.tmp 7) (.tmp 9))])
 (.cond (.tmp 10) (.seq (.region false [xi 4 (.move (.const (.bool false)))])
 (.ret))
 (.skip)))
 (.seq (.seq (.region false [xi 5 (.move (.const xz))])
 (.block 0 (.loop (some [0, 1, 5]) (
 .seq (.seq (.region false [xm 11 5,
 xm 12 0,
 xi 13 (.len false (.tmp 12)),
 xi 14 (.bin .lss (.tmp 11) (.tmp 13))])
 (.cond (.tmp 14) (.skip)
 (.exit 0)))
 (.seq (.block 1 (.seq (.region true [xm 17 0,
 xm 18 5,
 xi 19 (.indexAddr none 1 (.tmp 17) (.tmp 18)),
 xi 20 (.load false 1 (.tmp 19)),
 xm 21 1,
 xm 22 5,
 xi 23 (.indexAddr none 1 (.tmp 21) (.tmp 22)),
 xi 24 (.load false 1 (.tmp 23)),
 xi 25 (.call 59 [(.tmp 20), (.tmp 24)]),
 xi 26 (.un .not (.tmp 25))])
 (.cond (.tmp 26) (.seq (.region false [xi 4 (.move (.const (.bool false)))])
 (.ret))
 (.skip))))
 (.region false [xm 15 5,
 xi 16 (.bin .add (.tmp 15) (.const (.int .i64 1))),
 xm 5 16]))))))
 (.seq (.region false [xi 4 (.move (.const (.bool true)))])
 (.ret)))),
 [.tmp 4], .pure, 27⟩

def ef18 : EFun := ⟨
 .seq (.region false [xi 3 (.box (.tmp 0)),
 xi 4 (.box (.tmp 1)),
 xi 6 (.move (.const (.slice none 0 0)))])
 (.seq (.region false [xi 7 (.move (.const (.slice none 0 0)))])
 (.seq (.seq (.region false [xi 8 (.move (.const xz))])
 (.block 0 (.loop (some [2, 3, 4, 7, 8]) (
 .seq (.seq (.region false [xm 11 8,
 xi 12 (.fieldAddr 0 (.tmp 3)),
 xi 13 (.fieldAddr 2 (.tmp 12)),
 xi 14 (.load false 1 (.tmp 13)),
 xi 15 (.len false (.tmp 14)),
 xi 16 (.bin .lss (.tmp 11) (.tmp 15))])
 (.cond (.tmp 16) (.skip)
 (.exit 0)))
 (.seq (.block 1 (.seq (.region false [xi 9 (.move (.const (.slice none 0 0)))])
 (.seq (.seq (.region false [xi 10 (.move (.const xz))])
 (.block 2 (.loop (some [2, 3, 4, 7, 8, 9, 10]) (
 .seq (.seq (.region false [xm 19 10,
 xm 20 2,
 xi 21 (.len false (.tmp 20)),
 xi 22 (.bin .lss (.tmp 19) (.tmp 21))])
 (.cond (.tmp 22) (.skip)
 (.exit 2)))
 (.seq (.block 3 (.seq (.region true [xi 25 (.load true 4 (.tmp 3)),
 xi 26 (.load true 4 (.tmp 4)),
 xm 27 8,
 xm 28 2,
 xm 29 10,
 xi 30 (.indexAddr none 1 (.tmp 28) (.tmp 29)),
 xi 31 (.load false 1 (.tmp 30)),
 xi 32 (.call 65 [(.tmp 25), (.tmp 26), (.tmp 27), (.tmp 31)])])
 (.cond (.tmp 32) (.region false [xm 33 9,
 xm 34 10,
 xi 35 (.buildSlice 1 1 [xz] [(0, 1, (.tmp 34))]),
 xi 36 (.appendT 1 8 (.tmp 33) (.tmp 35)),
 xm 9 36])
 (.skip))))
 (.region false [xm 23 10,
 xi 24 (.bin .add (.tmp 23) (.const (.int .i64 1))),
 xm 10 24]))))))
 (.region false [xm 37 7,
 xm 38 9,
 xi 39 (.buildSlice 1 1 [(.slice none 0 0)] [(0, 1, (.tmp 38))]),
 xi 40 (.appendT 1 24 (.tmp 37) (.tmp 39)),
 xm 7 40]))))
 (.region false [xm 17 8,
 xi 18 (.bin .add (.tmp 17) (.const (.int .i64 1))),
 xm 8 18]))))))
 (.seq (.region false [xm 41 7,
 xm 6 41])
 (.ret)))),
 [.tmp 6], .full, 42⟩

def ef19 : EFun := ⟨
 .seq (.region false [xi 1 (.box (.tmp 0)),
 xi 2 (.push [xz, (.slice none 0 0), (.slice none 0 0), (.slice none 0 0)])])
 (.seq (.region false [xi 7 (.load true 3 (.tmp 1)),
 xi 8 (.build [xz, (.slice none 0 0), (.slice none 0 0), (.slice none 0 0)] [(0, 3, (.tmp 7))]),
 xi 3 (.push [xz, (.slice none 0 0), (.slice none 0 0), (.slice none 0 0)]),
 ⟨none, .store 4 (.tmp 3) (.tmp 8), none, [], false, false⟩])
 (.seq (.seq (.region false [xi 4 (.move (.const xz))])
 (.block 0 (.loop (some [1, 2, 3, 4]) (
 .seq (.seq (.region false [xm 9 4,
 xi 10 (.fieldAddr 2 (.tmp 1)),
 xi 11 (.load false 1 (.tmp 10)),
 xi 12 (.len false (.tmp 11)),
 xi 13 (.bin .lss (.tmp 9) (.tmp 12))])
 (.cond (.tmp 13) (.skip)
 (.exit 0)))
 (.seq (.block 1 (.seq (.region true [xi 17 (.fieldAddr 2 (.tmp 1)),
 xi 18 (.load false 1 (.tmp 17)),
 xm 19 4,
 xi 20 (.indexAddr none 10 (.tmp 18) (.tmp 19)),
 xi 21 (.fieldAddr 0 (.tmp 20)),
 xi 22 (.load true 4 (.tmp 21)),
 xi 23 (.fieldAddr 0 (.tmp 1)),
 xi 24 (.load false 1 (.tmp 23)),
 ⟨(some 25), .call 66 [(.tmp 22), (.tmp 24)], none, [], false, true⟩,
 xm 16 25,
 xi 26 (.extract (.tmp 16) 0),
 xi 27 (.extract (.tmp 16) 1),
 xi 5 (.push [xz, xz]),
 ⟨none, .store 2 (.tmp 5) (.tmp 26), none, [], false, false⟩,
 xm 6 27])
 (.region false [xi 28 (.fieldAddr 3 (.tmp 3)),
 xi 29 (.load false 1 (.tmp 28)),
 xi 30 (.load true 2 (.tmp 5)),
 xi 31 (.buildSlice 2 1 [xz, xz] [(0, 2, (.tmp 30))]),
 xi 32 (.append 2 16 (.tmp 29) (.tmp 31)),
 xi 33 (.fieldAddr 3 (.tmp 3)),
 ⟨none, .store 1 (.tmp 33) (.tmp 32), none, [], false, false⟩])))
 (.region false [xm 14 4,
 xi 15 (.bin .add (.tmp 14) (.const (.int .i64 1))),
 xm 4 15]))))))
 (.seq (.region false [xi 34 (.load true 4 (.tmp 3)),
 ⟨none, .store 4 (.tmp 2) (.tmp 34), none, [], false, false⟩])
 (.ret)))),
 [.cell 2 true 4], .pure, 35⟩

def ef34 : EFun := ⟨
 .seq (.region false [xi 1 (.box (.tmp 0)),
 xi 2 (.move (.const xz)),
 xi 3 (.move (.const xz))])
 (.seq (.seq (.region false [xi 7 (.fieldAddr 0 (.tmp 1)),
 xi 8 (.load false 1 (.tmp 7)),
 xi 9 (.call 74 [(.tmp 8), (.const (.int .i64 1000)), (.const (.int .i64 10000000))]),
 xi 10 (.un .not (.tmp 9))])
 (.cond (.tmp 10) (.seq (.region false [xi 2 (.move (.const xz)),
 xi 3 (.move (.const (.int .i64 2)))])
 (.ret))
 (.skip)))
 (.seq (.seq (.region false [xi 11 (.fieldAddr 1 (.tmp 1)),
 xi 12 (.load false 1 (.tmp 11)),
 xi 13 (.call 106 [(.tmp 12)]),
 xm 4 13])
 (.seq (.region false [xm 14 4,
 xi 15 (.bin .neq (.tmp 14) (.const xz))])
 (.cond (.tmp 15) (.seq (.region false [xm 16 4,
 xi 2 (.move (.const xz)),
 xm 3 16])
 (.ret))
 (.skip))))
 (.seq (.seq (.region false [xi 17 (.fieldAddr 2 (.tmp 1)),
 xi 18 (.load false 1 (.tmp 17)),
 xi 19 (.len false (.tmp 18)),
 xi 20 (.bin .gtr (.tmp 19) (.const (.int .i64 90)))])
 (.cond (.tmp 20) (.seq (.region false [xi 2 (.move (.const xz)),
 xi 3 (.move (.const (.int .i64 8)))])
 (.ret))
 (.skip)))
 (.seq (.seq (.region false [xi 5 (.move (.const xz))])
 (.block 0 (.loop (some [1, 5]) (
 .seq (.seq (.region false [xm 21 5,
 xi 22 (.fieldAddr 2 (.tmp 1)),
 xi 23 (.load false 1 (.tmp 22)),
 xi 24 (.len false (.tmp 23)),
 xi 25 (.bin .lss (.tmp 21) (.tmp 24))])
 (.cond (.tmp 25) (.skip)
 (.exit 0)))
 (.seq (.block 1 (.seq (.region false [xi 28 (.load true 3 (.tmp 1)),
 xm 29 5,
 xi 30 (.call 107 [(.tmp 28), (.tmp 29)]),
 xm 6 30])
 (.seq (.region false [xm 31 6,
 xi 32 (.bin .neq (.tmp 31) (.const xz))])
 (.cond (.tmp 32) (.seq (.region false [xm 33 5,
 xm 34 6,
 xm 2 33,
 xm 3 34])
 (.ret))
 (.skip)))))
 (.region false [xm 26 5,
 xi 27 (.bin .add (.tmp 26) (.const (.int .i64 1))),
 xm 5 27]))))))
 (.seq (.region false [xi 2 (.move (.const xz)),
 xi 3 (.move (.const xz))])
 (.ret)))))),
 [.tmp 2, .tmp 3], .pure, 35⟩

def ef54 : EFun := ⟨
 .seq (.region false [xi 4 (.box (.tmp 1)),
 xi 5 (.box (.tmp 2)),
 xi 6 (.push [xz, xz]),
 xi 7 (.move (.const xz))])
 (.seq (.region false [xm 11 0,
 xi 12 (.load true 5 (.tmp 4)),
 xi 13 (.load true 2 (.tmp 5)),
 xi 14 (.call 124 [(.tmp 11), (.tmp 12), (.tmp 13)]),
 xm 10 14,
 xi 15 (.extract (.tmp 10) 0),
 xi 16 (.extract (.tmp 10) 1),
 xi 8 (.push [(.string ⟨#[]⟩), xz, xz, xz, xz, xz, xz, (.string ⟨#[]⟩), (.string ⟨#[]⟩), xz, xz, xz, xz]),
 ⟨none, .store 13 (.tmp 8) (.tmp 15), none, [], false, false⟩,
 xm 9 16])
 (.seq (.region false [xi 17 (.fieldAddr 11 (.tmp 8)),
 xi 18 (.load true 2 (.tmp 17)),
 xm 19 9,
 ⟨none, .store 2 (.tmp 6) (.tmp 18), none, [], false, false⟩,
 xm 7 19])
 (.ret))),
 [.cell 6 true 2, .tmp 7], .pure, 20⟩

def ef55 : EFun := ⟨
 .seq (.region false [xi 0 (.move (.const (.slice none 0 0)))])
 (.seq (.region false [xi 1 (.build [(.string ⟨#[]⟩), xz, xz, xz] [(0, 1, (.const (.string ⟨#[115, 116, 101, 101, 108]⟩))), (1, 1, (.const (.int .i64 24661))), (2, 1, (.const (.int .i64 180000))), (3, 1, (.const (.int .i64 97000000)))]),
 xi 2 (.buildSlice 4 1 [(.string ⟨#[]⟩), xz, xz, xz] [(0, 4, (.tmp 1))]),
 xm 0 2])
 (.ret)),
 [.tmp 0], .pure, 3⟩

def ef56 : EFun := ⟨
 .seq (.region false [xi 0 (.push [xz, xz, xz, (.string ⟨#[]⟩), (.string ⟨#[]⟩)])])
 (.seq (.region false [xi 1 (.build [xz, xz, xz, (.string ⟨#[]⟩), (.string ⟨#[]⟩)] [(0, 1, (.const (.int .i64 40000))), (1, 1, (.const (.int .i64 1000))), (3, 1, (.const (.string ⟨#[115, 116, 101, 101, 108]⟩)))]),
 ⟨none, .store 5 (.tmp 0) (.tmp 1), none, [], false, false⟩])
 (.ret)),
 [.cell 0 true 5], .pure, 2⟩

def ef57 : EFun := ⟨
 .seq (.region false [xi 4 (.box (.tmp 1)),
 xi 5 (.box (.tmp 2)),
 xi 6 (.push [xz, xz]),
 xi 7 (.move (.const xz))])
 (.seq (.region false [xm 11 0,
 xi 12 (.load true 5 (.tmp 4)),
 xi 13 (.load true 2 (.tmp 5)),
 xi 14 (.call 124 [(.tmp 11), (.tmp 12), (.tmp 13)]),
 xm 10 14,
 xi 15 (.extract (.tmp 10) 0),
 xi 16 (.extract (.tmp 10) 1),
 xi 8 (.push [(.string ⟨#[]⟩), xz, xz, xz, xz, xz, xz, (.string ⟨#[]⟩), (.string ⟨#[]⟩), xz, xz, xz, xz]),
 ⟨none, .store 13 (.tmp 8) (.tmp 15), none, [], false, false⟩,
 xm 9 16])
 (.seq (.seq (.region false [xm 17 9,
 xi 18 (.bin .neq (.tmp 17) (.const xz))])
 (.cond (.tmp 18) (.seq (.region false [xi 19 (.build [xz, xz] []),
 xm 20 9,
 ⟨none, .store 2 (.tmp 6) (.tmp 19), none, [], false, false⟩,
 xm 7 20])
 (.ret))
 (.skip)))
 (.seq (.region false [xi 21 (.load true 13 (.tmp 8)),
 xi 22 (.call 125 [(.tmp 21)]),
 xi 23 (.extract (.tmp 22) 0),
 xi 24 (.extract (.tmp 22) 1),
 ⟨none, .store 2 (.tmp 6) (.tmp 23), none, [], false, false⟩,
 xm 7 24])
 (.ret)))),
 [.cell 6 true 2, .tmp 7], .pure, 25⟩

def ef58 : EFun := ⟨
 .seq (.region false [xi 3 (.box (.tmp 1)),
 xi 4 (.move (.const (.slice none 0 0))),
 xi 5 (.move (.const (.slice none 0 0))),
 xi 6 (.move (.const xz))])
 (.seq (.region false [xm 17 0,
 xi 18 (.load true 2 (.tmp 3)),
 xi 19 (.call 126 [(.tmp 17), (.tmp 18)]),
 xm 16 19,
 xi 20 (.extract (.tmp 16) 0),
 xi 21 (.extract (.tmp 16) 1),
 xm 7 20,
 xm 8 21])
 (.seq (.seq (.region false [xm 22 8,
 xi 23 (.bin .neq (.tmp 22) (.const xz))])
 (.cond (.tmp 23) (.seq (.region false [xm 24 8,
 xi 4 (.move (.const (.slice none 0 0))),
 xi 5 (.move (.const (.slice none 0 0))),
 xm 6 24])
 (.ret))
 (.skip)))
 (.seq (.seq (.region false [xm 26 0,
 xi 27 (.len false (.tmp 26)),
 xi 28 (.bin .add (.tmp 27) (.const (.int .i64 1))),
 xm 29 7,
 xi 30 (.call 127 [(.tmp 28), (.tmp 29)]),
 xm 25 30,
 xi 31 (.extract (.tmp 25) 0),
 xi 32 (.extract (.tmp 25) 1),
 xi 33 (.extract (.tmp 25) 2),
 xm 9 31,
 xm 10 32,
 xm 11 33])
 (.seq (.region false [xm 34 11,
 xi 35 (.bin .neq (.tmp 34) (.const xz))])
 (.cond (.tmp 35) (.seq (.region false [xm 36 10,
 xm 37 11,
 xi 4 (.move (.const (.slice none 0 0))),
 xm 5 36,
 xm 6 37])
 (.ret))
 (.skip))))
 (.seq (.region false [xi 12 (.move (.const (.slice none 0 0)))])
 (.seq (.seq (.region false [xm 38 0,
 xi 39 (.len false (.tmp 38)),
 xi 40 (.move (.const xz))])
 (.block 0 (.loop (some [3, 12, 38, 39, 40]) (
 .seq (.region false [xi 41 (.bin .lss (.tmp 40) (.tmp 39))])
 (.seq (.cond (.tmp 41) (.skip)
 (.exit 0))
 (.seq (.block 1 (.seq (.region false [xi 42 (.indexAddr none 2 (.tmp 38) (.tmp 40)),
 xi 43 (.load true 2 (.tmp 42)),
 xi 14 (.push [xz, xz]),
 ⟨none, .store 2 (.tmp 14) (.tmp 43), none, [], false, false⟩])
 (.region false [xm 44 12,
 xi 45 (.fieldAddr 1 (.tmp 14)),
 xi 46 (.load false 1 (.tmp 45)),
 xi 47 (.buildSlice 1 1 [xz] [(0, 1, (.tmp 46))]),
 xi 48 (.append 1 8 (.tmp 44) (.tmp 47)),
 xm 12 48])))
 (.region false [xi 49 (.bin .add (.tmp 40) (.const (.int .i64 1))),
 xm 40 49])))))))
 (.seq (.seq (.region false [xm 50 12,
 xi 51 (.len false (.tmp 50)),
 xi 52 (.move (.const xz))])
 (.block 2 (.loop (some [3, 12, 51, 52]) (
 .seq (.region false [xi 53 (.bin .lss (.tmp 52) (.tmp 51))])
 (.seq (.cond (.tmp 53) (.skip)
 (.exit 2))
 (.seq (.block 3 (.seq (.region false [xi 15 (.move (.const (.int .i64 1)))])
 (.block 4 (.loop (some [3, 12, 15, 51, 52]) (
 .seq (.seq (.region false [xm 54 15,
 xm 55 12,
 xi 56 (.len false (.tmp 55)),
 xi 57 (.bin .lss (.tmp 54) (.tmp 56))])
 (.cond (.tmp 57) (.skip)
 (.exit 4)))
 (.seq (.block 5 (.seq (.region true [xm 60 12,
 xm 61 15,
 xm 62 12,
 xm 63 15,
 xi 64 (.indexAddr none 1 (.tmp 62) (.tmp 63)),
 xi 65 (.load false 1 (.tmp 64)),
 xm 66 12,
 xm 67 15,
 xi 68 (.bin .sub (.tmp 67) (.const (.int .i64 1))),
 xi 69 (.indexAddr none 1 (.tmp 66) (.tmp 68)),
 xi 70 (.load false 1 (.tmp 69)),
 xi 71 (.fieldAddr 0 (.tmp 3)),
 xi 72 (.load false 1 (.tmp 71)),
 xi 73 (.bin .sub (.tmp 70) (.tmp 72)),
 xi 74 (.min [(.tmp 65), (.tmp 73)]),
 xi 75 (.indexAddr none 1 (.tmp 60) (.tmp 61)),
 ⟨none, .store 1 (.tmp 75) (.tmp 74), none, [], false, false⟩])
 (.region true [xm 76 12,
 xm 77 15,
 xi 78 (.bin .sub (.tmp 77) (.const (.int .i64 1))),
 xm 79 12,
 xm 80 15,
 xi 81 (.bin .sub (.tmp 80) (.const (.int .i64 1))),
 xi 82 (.indexAddr none 1 (.tmp 79) (.tmp 81)),
 xi 83 (.load false 1 (.tmp 82)),
 xm 84 12,
 xm 85 15,
 xi 86 (.indexAddr none 1 (.tmp 84) (.tmp 85)),
 xi 87 (.load false 1 (.tmp 86)),
 xi 88 (.fieldAddr 1 (.tmp 3)),
 xi 89 (.load false 1 (.tmp 88)),
 xi 90 (.bin .add (.tmp 87) (.tmp 89)),
 xi 91 (.min [(.tmp 83), (.tmp 90)]),
 xi 92 (.indexAddr none 1 (.tmp 76) (.tmp 78)),
 ⟨none, .store 1 (.tmp 92) (.tmp 91), none, [], false, false⟩])))
 (.region false [xm 58 15,
 xi 59 (.bin .add (.tmp 58) (.const (.int .i64 1))),
 xm 15 59])))))))
 (.region false [xi 93 (.bin .add (.tmp 52) (.const (.int .i64 1))),
 xm 52 93])))))))
 (.seq (.region false [xm 94 12,
 xm 4 94,
 xi 5 (.move (.const (.slice none 0 0))),
 xi 6 (.move (.const xz))])
 (.ret)))))))),
 [.tmp 4, .tmp 5, .tmp 6], .pure, 95⟩

def ef59 : EFun := ⟨
 .seq (.region false [xi 4 (.move (.const (.bool false)))])
 (.seq (.seq (.region false [xm 6 0,
 xi 7 (.len false (.tmp 6)),
 xm 8 1,
 xi 9 (.len false (.tmp 8)),
 xi 10 (.bin .neq (.tmp 7) (.tmp 9))])
 (.cond (.tmp 10) (.seq (.region false [xi 4 (.move (.const (.bool false)))])
 (.ret))
 (.skip)))
 (.seq (.seq (.region false [xi 5 (.move (.const xz))])
 (.block 0 (.loop (some [0, 1, 5]) (
 .seq (.seq (.region false [xm 11 5,
 xm 12 0,
 xi 13 (.len false (.tmp 12)),
 xi 14 (.bin .lss (.tmp 11) (.tmp 13))])
 (.cond (.tmp 14) (.skip)
 (.exit 0)))
 (.seq (.block 1 (.seq (.region true [xm 17 0,
 xm 18 5,
 xi 19 (.indexAddr none 1 (.tmp 17) (.tmp 18)),
 xi 20 (.load false 1 (.tmp 19)),
 xm 21 1,
 xm 22 5,
 xi 23 (.indexAddr none 1 (.tmp 21) (.tmp 22)),
 xi 24 (.load false 1 (.tmp 23)),
 xi 25 (.bin .neq (.tmp 20) (.tmp 24))])
 (.cond (.tmp 25) (.seq (.region false [xi 4 (.move (.const (.bool false)))])
 (.ret))
 (.skip))))
 (.region false [xm 15 5,
 xi 16 (.bin .add (.tmp 15) (.const (.int .i64 1))),
 xm 5 16]))))))
 (.seq (.region false [xi 4 (.move (.const (.bool true)))])
 (.ret)))),
 [.tmp 4], .pure, 26⟩

def ef60 : EFun := ⟨
 .seq (.region false [xi 2 (.move (.const (.bool false)))])
 (.seq (.seq (.region false [xm 4 0,
 xi 5 (.len false (.tmp 4)),
 xi 6 (.bin .gtr (.tmp 5) (.const (.int .i64 6))),
 xm 7 6,
 xg 8 (.move (.tmp 0)) 7 true,
 xg 9 (.len false (.tmp 8)) 7 true,
 xg 10 (.bin .leq (.tmp 9) (.const (.int .i64 20))) 7 true,
 xi 11 (.pick (.tmp 7) (.tmp 10) (.const (.bool false))),
 xm 12 11,
 xg 13 (.move (.tmp 0)) 12 false,
 xg 14 (.len false (.tmp 13)) 12 false,
 xg 15 (.bin .gtr (.tmp 14) (.const (.int .i64 23))) 12 false,
 xi 16 (.pick (.tmp 12) (.const (.bool true)) (.tmp 15))])
 (.cond (.tmp 16) (.seq (.region false [xi 2 (.move (.const (.bool false)))])
 (.ret))
 (.skip)))
 (.seq (.seq (.region false [xi 3 (.move (.const xz))])
 (.block 0 (.loop (some [0, 3]) (
 .seq (.seq (.region false [xm 17 3,
 xm 18 0,
 xi 19 (.len false (.tmp 18)),
 xi 20 (.bin .lss (.tmp 17) (.tmp 19))])
 (.cond (.tmp 20) (.skip)
 (.exit 0)))
 (.seq (.block 1 (.seq (.region false [xm 23 0,
 xm 24 3,
 xi 25 (.indexAddr none 4 (.tmp 23) (.tmp 24)),
 xi 26 (.fieldAddr 0 (.tmp 25)),
 xi 27 (.load false 1 (.tmp 26)),
 xi 28 (.len true (.tmp 27)),
 xi 29 (.bin .gtr (.tmp 28) (.const (.int .i64 20)))])
 (.cond (.tmp 29) (.seq (.region false [xi 2 (.move (.const (.bool false)))])
 (.ret))
 (.skip))))
 (.region false [xm 21 3,
 xi 22 (.bin .add (.tmp 21) (.const (.int .i64 1))),
 xm 3 22]))))))
 (.seq (.region false [xi 2 (.move (.const (.bool true)))])
 (.ret)))),
 [.tmp 2], .pure, 30⟩

def ef61 : EFun := ⟨
 .seq (.region false [xi 1 (.box (.tmp 0)),
 xi 2 (.move (.const (.bool false)))])
 (.seq (.region false [xi 3 (.fieldAddr 3 (.tmp 1)),
 xi 4 (.load false 1 (.tmp 3)),
 xi 5 (.len true (.tmp 4)),
 xi 6 (.bin .leq (.tmp 5) (.const (.int .i64 20))),
 xm 7 6,
 xg 8 (.fieldAddr 4 (.tmp 1)) 7 true,
 xg 9 (.load false 1 (.tmp 8)) 7 true,
 xg 10 (.len true (.tmp 9)) 7 true,
 xg 11 (.bin .leq (.tmp 10) (.const (.int .i64 20))) 7 true,
 xi 12 (.pick (.tmp 7) (.tmp 11) (.const (.bool false))),
 xm 2 12])
 (.ret)),
 [.tmp 2], .pure, 13⟩

def ef62 : EFun := ⟨
 .seq (.region false [xi 3 (.box (.tmp 0)),
 xi 4 (.box (.tmp 1)),
 xi 6 (.move (.const (.pointer none))),
 xi 7 (.move (.const xz))])
 (.seq (.seq (.region false [xi 23 (.load true 3 (.tmp 3)),
 xi 24 (.call 102 [(.tmp 23)]),
 xm 22 24,
 xi 25 (.extract (.tmp 22) 0),
 xi 26 (.extract (.tmp 22) 1),
 xm 8 25,
 xm 9 26])
 (.seq (.region false [xm 27 9,
 xi 28 (.bin .neq (.tmp 27) (.const xz))])
 (.cond (.tmp 28) (.seq (.region false [xm 29 9,
 xi 6 (.move (.const (.pointer none))),
 xm 7 29])
 (.ret))
 (.skip))))
 (.seq (.seq (.region false [xi 30 (.load true 4 (.tmp 4)),
 xi 31 (.call 128 [(.tmp 30)]),
 xm 10 31])
 (.seq (.region false [xm 32 10,
 xi 33 (.bin .neq (.tmp 32) (.const xz))])
 (.cond (.tmp 33) (.seq (.region false [xm 34 10,
 xi 6 (.move (.const (.pointer none))),
 xm 7 34])
 (.ret))
 (.skip))))
 (.seq (.seq (.region false [xm 35 2,
 xi 36 (.call 129 [(.tmp 35)]),
 xm 11 36])
 (.seq (.region false [xm 37 11,
 xi 38 (.bin .neq (.tmp 37) (.const xz))])
 (.cond (.tmp 38) (.seq (.region false [xm 39 11,
 xi 6 (.move (.const (.pointer none))),
 xm 7 39])
 (.ret))
 (.skip))))
 (.seq (.region false [xi 40 (.fieldAddr 3 (.tmp 4)),
 xi 41 (.load false 1 (.tmp 40)),
 xi 42 (.build [(.slice none 0 0), (.slice none 0 0), xz] [(2, 1, (.tmp 41))]),
 xi 43 (.box (.tmp 42)),
 xm 12 43])
 (.seq (.seq (.region false [xi 44 (.fieldAddr 2 (.tmp 3)),
 xi 45 (.load false 1 (.tmp 44)),
 xi 46 (.len false (.tmp 45)),
 xi 47 (.move (.const xz))])
 (.block 0 (.loop (some [2, 3, 4, 12, 45, 46, 47]) (
 .seq (.region false [xi 48 (.bin .lss (.tmp 47) (.tmp 46))])
 (.seq (.cond (.tmp 48) (.skip)
 (.exit 0))
 (.seq (.block 1 (.seq (.region false [xm 49 47,
 xi 50 (.indexAddr none 10 (.tmp 45) (.tmp 47)),
 xi 51 (.load true 10 (.tmp 50)),
 xi 14 (.push [xz, xz, xz, xz, xz, xz, xz, xz, (.string ⟨#[]⟩), (.string ⟨#[]⟩)]),
 xm 13 49,
 ⟨none, .store 10 (.tmp 14) (.tmp 51), none, [], false, false⟩])
 (.seq (.region false [xi 52 (.load true 3 (.tmp 3)),
 xm 53 13,
 xi 54 (.call 130 [(.tmp 52), (.tmp 53)]),
 xi 15 (.push [xz, xz]),
 ⟨none, .store 2 (.tmp 15) (.tmp 54), none, [], false, false⟩])
 (.seq (.region true [xm 55 2,
 xi 56 (.len false (.tmp 55)),
 xi 57 (.makeSlice 1 1 [(.bool false)] (.tmp 56) (.tmp 56)),
 xm 58 2,
 xi 59 (.len false (.tmp 58)),
 xi 60 (.makeSlice 2 16 [xz, xz] (.tmp 59) (.tmp 59)),
 xm 16 57,
 xm 17 60])
 (.seq (.seq (.region false [xm 61 2,
 xi 62 (.len false (.tmp 61)),
 xi 63 (.move (.const xz))])
 (.block 2 (.loop (some [2, 3, 4, 12, 14, 15, 16, 17, 45, 46, 47, 61, 62, 63]) (
 .seq (.region false [xi 64 (.bin .lss (.tmp 63) (.tmp 62))])
 (.seq (.cond (.tmp 64) (.skip)
 (.exit 2))
 (.seq (.block 3 (.seq (.region false [xm 65 63,
 xi 66 (.indexAddr none 1 (.tmp 61) (.tmp 63)),
 xi 67 (.load false 1 (.tmp 66)),
 xm 18 65,
 xm 19 67])
 (.seq (.region false [xi 68 (.fieldAddr 5 (.tmp 14)),
 xi 69 (.load true 5 (.tmp 68)),
 xi 20 (.push [xz, xz, xz, (.string ⟨#[]⟩), (.string ⟨#[]⟩)]),
 ⟨none, .store 5 (.tmp 20) (.tmp 69), none, [], false, false⟩])
 (.seq (.region false [xm 70 19,
 xi 71 (.fieldAddr 1 (.tmp 20)),
 ⟨none, .store 1 (.tmp 71) (.tmp 70), none, [], false, false⟩])
 (.seq (.seq (.region false [xi 72 (.fieldAddr 1 (.tmp 3)),
 xi 73 (.load false 1 (.tmp 72)),
 xi 74 (.load true 5 (.tmp 20)),
 xi 75 (.call 131 [(.tmp 73), (.tmp 74)]),
 xi 76 (.bin .neq (.tmp 75) (.const xz))])
 (.cond (.tmp 76) (.exit 3)
 (.skip)))
 (.seq (.region false [xi 77 (.fieldAddr 1 (.tmp 3)),
 xi 78 (.load false 1 (.tmp 77)),
 xi 79 (.load true 5 (.tmp 20)),
 xi 80 (.load true 2 (.tmp 15)),
 xi 81 (.call 132 [(.tmp 78), (.tmp 79), (.tmp 80)]),
 xi 21 (.push [(.string ⟨#[]⟩), xz, xz, xz, xz, xz, xz, (.string ⟨#[]⟩), (.string ⟨#[]⟩), xz, xz, xz, xz]),
 ⟨none, .store 13 (.tmp 21) (.tmp 81), none, [], false, false⟩])
 (.region true [xm 82 16,
 xm 83 18,
 xm 84 17,
 xm 85 18,
 xi 86 (.load true 13 (.tmp 21)),
 xi 87 (.load true 4 (.tmp 4)),
 ⟨(some 88), .call 133 [(.tmp 86), (.tmp 87)], none, [], false, true⟩,
 xi 89 (.fieldAddr 11 (.tmp 21)),
 ⟨(some 90), .load true 2 (.tmp 89), none, [], true, false⟩,
 xi 91 (.indexAddr none 1 (.tmp 82) (.tmp 83)),
 ⟨none, .store 1 (.tmp 91) (.tmp 88), none, [8], false, false⟩,
 xi 92 (.indexAddr none 2 (.tmp 84) (.tmp 85)),
 ⟨none, .store 2 (.tmp 92) (.tmp 90), none, [], false, false⟩])))))))
 (.region false [xi 93 (.bin .add (.tmp 63) (.const (.int .i64 1))),
 xm 63 93])))))))
 (.region true [xm 94 12,
 xm 95 12,
 xm 96 12,
 xi 97 (.nilCheck (.tmp 96)),
 xi 98 (.fieldAddr 0 (.tmp 97)),
 xi 99 (.load false 1 (.tmp 98)),
 xm 100 16,
 xi 101 (.buildSlice 1 1 [(.slice none 0 0)] [(0, 1, (.tmp 100))]),
 ⟨(some 102), .appendT 1 24 (.tmp 99) (.tmp 101), none, [], true, false⟩,
 xm 103 12,
 xi 104 (.nilCheck (.tmp 103)),
 xi 105 (.fieldAddr 1 (.tmp 104)),
 ⟨(some 106), .load false 1 (.tmp 105), none, [8], false, false⟩,
 xm 107 17,
 xi 108 (.buildSlice 1 1 [(.slice none 0 0)] [(0, 1, (.tmp 107))]),
 xi 109 (.appendT 1 24 (.tmp 106) (.tmp 108)),
 xi 110 (.nilCheck (.tmp 94)),
 xi 111 (.fieldAddr 0 (.tmp 110)),
 ⟨none, .store 1 (.tmp 111) (.tmp 102), none, [], false, false⟩,
 xi 112 (.nilCheck (.tmp 95)),
 xi 113 (.fieldAddr 1 (.tmp 112)),
 ⟨none, .store 1 (.tmp 113) (.tmp 109), none, [], false, false⟩]))))))
 (.region false [xi 114 (.bin .add (.tmp 47) (.const (.int .i64 1))),
 xm 47 114])))))))
 (.seq (.region false [xm 115 12,
 xm 6 115,
 xi 7 (.move (.const xz))])
 (.ret))))))),
 [.tmp 6, .tmp 7], .full, 116⟩

def ef63 : EFun := ⟨
 .seq (.region false [xi 1 (.box (.tmp 0)),
 xi 2 (.move (.const xz))])
 (.seq (.seq (.region false [xi 3 (.fieldAddr 0 (.tmp 1)),
 xi 4 (.load false 1 (.tmp 3)),
 xi 5 (.call 74 [(.tmp 4), (.const xz), (.const (.int .i64 1000000000000000))]),
 xi 6 (.un .not (.tmp 5)),
 xm 7 6,
 xg 8 (.fieldAddr 1 (.tmp 1)) 7 false,
 xg 9 (.load false 1 (.tmp 8)) 7 false,
 xg 10 (.call 74 [(.tmp 9), (.const xz), (.const (.int .i64 1000000000000000))]) 7 false,
 xg 11 (.un .not (.tmp 10)) 7 false,
 xi 12 (.pick (.tmp 7) (.const (.bool true)) (.tmp 11)),
 xm 13 12,
 xg 14 (.fieldAddr 3 (.tmp 1)) 13 false,
 xg 15 (.load false 1 (.tmp 14)) 13 false,
 xg 16 (.call 74 [(.tmp 15), (.const xz), (.const (.int .i64 1000000000000000))]) 13 false,
 xg 17 (.un .not (.tmp 16)) 13 false,
 xi 18 (.pick (.tmp 13) (.const (.bool true)) (.tmp 17)),
 xm 19 18,
 xg 20 (.fieldAddr 2 (.tmp 1)) 19 false,
 xg 21 (.load false 1 (.tmp 20)) 19 false,
 xg 22 (.call 74 [(.tmp 21), (.const xz), (.const (.int .i64 1000000))]) 19 false,
 xg 23 (.un .not (.tmp 22)) 19 false,
 xi 24 (.pick (.tmp 19) (.const (.bool true)) (.tmp 23))])
 (.cond (.tmp 24) (.seq (.region false [xi 2 (.move (.const (.int .i64 2)))])
 (.ret))
 (.skip)))
 (.seq (.seq (.region false [xi 25 (.fieldAddr 0 (.tmp 1)),
 xi 26 (.load false 1 (.tmp 25)),
 xi 27 (.fieldAddr 1 (.tmp 1)),
 xi 28 (.load false 1 (.tmp 27)),
 xi 29 (.bin .gtr (.tmp 26) (.tmp 28))])
 (.cond (.tmp 29) (.seq (.region false [xi 2 (.move (.const (.int .i64 9)))])
 (.ret))
 (.skip)))
 (.seq (.region false [xi 2 (.move (.const xz))])
 (.ret)))),
 [.tmp 2], .pure, 30⟩

def ef64 : EFun := ⟨
 .seq (.region false [xi 2 (.move (.const xz))])
 (.seq (.seq (.region false [xm 4 0,
 xi 5 (.len false (.tmp 4)),
 xi 6 (.bin .eql (.tmp 5) (.const xz)),
 xm 7 6,
 xg 8 (.move (.tmp 0)) 7 false,
 xg 9 (.len false (.tmp 8)) 7 false,
 xg 10 (.bin .gtr (.tmp 9) (.const (.int .i64 20))) 7 false,
 xi 11 (.pick (.tmp 7) (.const (.bool true)) (.tmp 10))])
 (.cond (.tmp 11) (.seq (.region false [xi 2 (.move (.const (.int .i64 8)))])
 (.ret))
 (.skip)))
 (.seq (.seq (.region false [xi 3 (.move (.const xz))])
 (.block 0 (.loop (some [0, 3]) (
 .seq (.seq (.region false [xm 12 3,
 xm 13 0,
 xi 14 (.len false (.tmp 13)),
 xi 15 (.bin .lss (.tmp 12) (.tmp 14))])
 (.cond (.tmp 15) (.skip)
 (.exit 0)))
 (.seq (.block 1 (.seq (.seq (.region false [xm 18 0,
 xm 19 3,
 xi 20 (.indexAddr none 1 (.tmp 18) (.tmp 19)),
 xi 21 (.load false 1 (.tmp 20)),
 xi 22 (.call 74 [(.tmp 21), (.const (.int .i64 100)), (.const (.int .i64 3000))]),
 xi 23 (.un .not (.tmp 22))])
 (.cond (.tmp 23) (.seq (.region false [xi 2 (.move (.const (.int .i64 2)))])
 (.ret))
 (.skip)))
 (.seq (.region true [xm 24 3,
 xi 25 (.bin .gtr (.tmp 24) (.const xz)),
 xm 26 25,
 xg 27 (.move (.tmp 0)) 26 true,
 xg 28 (.move (.tmp 3)) 26 true,
 xg 29 (.bin .sub (.tmp 28) (.const (.int .i64 1))) 26 true,
 xg 30 (.indexAddr none 1 (.tmp 27) (.tmp 29)) 26 true,
 xg 31 (.load false 1 (.tmp 30)) 26 true,
 xg 32 (.move (.tmp 0)) 26 true,
 xg 33 (.move (.tmp 3)) 26 true,
 xg 34 (.indexAddr none 1 (.tmp 32) (.tmp 33)) 26 true,
 xg 35 (.load false 1 (.tmp 34)) 26 true,
 xg 36 (.bin .geq (.tmp 31) (.tmp 35)) 26 true,
 xi 37 (.pick (.tmp 26) (.tmp 36) (.const (.bool false)))])
 (.cond (.tmp 37) (.seq (.region false [xi 2 (.move (.const (.int .i64 9)))])
 (.ret))
 (.skip)))))
 (.region false [xm 16 3,
 xi 17 (.bin .add (.tmp 16) (.const (.int .i64 1))),
 xm 3 17]))))))
 (.seq (.region false [xi 2 (.move (.const xz))])
 (.ret)))),
 [.tmp 2], .pure, 38⟩

def ef65 : EFun := ⟨
 .seq (.region false [xi 4 (.box (.tmp 0)),
 xi 5 (.box (.tmp 1)),
 xi 8 (.move (.const (.bool false)))])
 (.seq (.region false [xi 10 (.load true 4 (.tmp 4)),
 xm 11 2,
 xm 12 3,
 xi 13 (.call 134 [(.tmp 10), (.tmp 11), (.tmp 12)]),
 xi 9 (.push [xz, xz, xz, (.string ⟨#[]⟩), (.string ⟨#[]⟩)]),
 ⟨none, .store 5 (.tmp 9) (.tmp 13), none, [], false, false⟩])
 (.seq (.region false [xi 14 (.fieldAddr 0 (.tmp 4)),
 xi 15 (.fieldAddr 1 (.tmp 14)),
 xi 16 (.load false 1 (.tmp 15)),
 xi 17 (.load true 5 (.tmp 9)),
 xi 18 (.call 135 [(.tmp 16), (.tmp 17)]),
 xi 19 (.bin .eql (.tmp 18) (.const xz)),
 xm 20 19,
 xg 21 (.load true 4 (.tmp 4)) 20 true,
 xg 22 (.move (.tmp 2)) 20 true,
 xg 23 (.load true 5 (.tmp 9)) 20 true,
 xg 24 (.load true 4 (.tmp 5)) 20 true,
 xg 25 (.call 136 [(.tmp 21), (.tmp 22), (.tmp 23), (.tmp 24)]) 20 true,
 xi 26 (.pick (.tmp 20) (.tmp 25) (.const (.bool false))),
 xm 8 26])
 (.ret))),
 [.tmp 8], .pure, 27⟩

def ef66 : EFun := ⟨
 .seq (.region false [xi 2 (.box (.tmp 0)),
 xi 4 (.push [xz, xz]),
 xi 5 (.move (.const xz))])
 (.seq (.region false [xi 13 (.fieldAddr 0 (.tmp 2)),
 xi 14 (.load false 1 (.tmp 13)),
 xi 15 (.fieldAddr 1 (.tmp 2)),
 xi 16 (.load false 1 (.tmp 15)),
 xi 17 (.fieldAddr 2 (.tmp 2)),
 xi 18 (.load false 1 (.tmp 17)),
 xi 19 (.call 137 [(.tmp 14), (.tmp 16), (.tmp 18)]),
 xm 12 19,
 xi 20 (.extract (.tmp 12) 0),
 xi 21 (.extract (.tmp 12) 1),
 xm 6 20,
 xm 7 21])
 (.seq (.region true [xm 22 6,
 xm 23 1,
 ⟨(some 24), .call 140 [(.tmp 23)], none, [], false, true⟩,
 xi 25 (.fieldAddr 3 (.tmp 2)),
 xi 26 (.load false 1 (.tmp 25)),
 xi 27 (.call 139 [(.tmp 24), (.tmp 26)]),
 xi 28 (.call 138 [(.tmp 22), (.tmp 27)]),
 xm 6 28])
 (.seq (.region false [xi 8 (.move (.const xz)),
 xi 9 (.move (.const (.int .i64 1000000000000001)))])
 (.seq (.block 0 (.loop (some [2, 4, 6, 7, 8, 9]) (
 .seq (.seq (.region false [xm 29 8,
 xm 30 9,
 xi 31 (.bin .lss (.tmp 29) (.tmp 30))])
 (.cond (.tmp 31) (.skip)
 (.exit 0)))
 (.block 1 (.seq (.region false [xm 32 9,
 xm 33 9,
 xm 34 8,
 xi 35 (.bin .sub (.tmp 33) (.tmp 34)),
 xi 36 (.bin .quo (.tmp 35) (.const (.int .i64 2))),
 xi 37 (.bin .sub (.tmp 32) (.tmp 36)),
 xm 10 37])
 (.seq (.region true [xm 38 10,
 ⟨(some 39), .call 140 [(.tmp 38)], none, [], false, true⟩,
 xi 40 (.fieldAddr 3 (.tmp 2)),
 xi 41 (.load false 1 (.tmp 40)),
 xi 42 (.call 139 [(.tmp 39), (.tmp 41)]),
 xm 43 7,
 xi 44 (.call 138 [(.tmp 42), (.tmp 43)]),
 xm 45 6,
 xi 46 (.call 141 [(.tmp 44), (.tmp 45)]),
 xi 47 (.bin .leq (.tmp 46) (.const xz))])
 (.cond (.tmp 47) (.region false [xm 48 10,
 xm 8 48])
 (.region false [xm 49 10,
 xi 50 (.bin .sub (.tmp 49) (.const (.int .i64 1))),
 xm 9 50]))))))))
 (.seq (.region false [xm 51 8,
 xm 11 51])
 (.seq (.seq (.region true [xm 52 8,
 ⟨(some 53), .call 140 [(.tmp 52)], none, [], false, true⟩,
 xi 54 (.fieldAddr 3 (.tmp 2)),
 xi 55 (.load false 1 (.tmp 54)),
 xi 56 (.call 139 [(.tmp 53), (.tmp 55)]),
 xm 57 7,
 xi 58 (.call 138 [(.tmp 56), (.tmp 57)]),
 xm 59 6,
 xi 60 (.call 141 [(.tmp 58), (.tmp 59)]),
 xi 61 (.bin .neq (.tmp 60) (.const xz))])
 (.cond (.tmp 61) (.region false [xm 62 8,
 xi 63 (.bin .add (.tmp 62) (.const (.int .i64 1))),
 xm 11 63])
 (.skip)))
 (.seq (.seq (.region false [xm 64 11,
 xi 65 (.bin .gtr (.tmp 64) (.const (.int .i64 1000000000000000)))])
 (.cond (.tmp 65) (.seq (.region false [xi 66 (.build [xz, xz] []),
 ⟨none, .store 2 (.tmp 4) (.tmp 66), none, [], false, false⟩,
 xi 5 (.move (.const (.int .i64 8)))])
 (.ret))
 (.skip)))
 (.seq (.region false [xm 67 8,
 xm 68 11,
 xi 69 (.build [xz, xz] [(0, 1, (.tmp 67)), (1, 1, (.tmp 68))]),
 ⟨none, .store 2 (.tmp 4) (.tmp 69), none, [], false, false⟩,
 xi 5 (.move (.const xz))])
 (.ret))))))))),
 [.cell 4 true 2, .tmp 5], .pure, 70⟩

def ef71 : EFun := ⟨
 .seq (.region false [xi 6 (.move (.const (.bool false)))])
 (.seq (.region false [xm 7 1,
 xm 8 0,
 xi 9 (.bin .leq (.tmp 7) (.tmp 8)),
 xm 10 9,
 xg 11 (.move (.tmp 0)) 10 true,
 xg 12 (.move (.tmp 2)) 10 true,
 xg 13 (.bin .leq (.tmp 11) (.tmp 12)) 10 true,
 xi 14 (.pick (.tmp 10) (.tmp 13) (.const (.bool false))),
 xm 6 14])
 (.ret)),
 [.tmp 6], .pure, 15⟩

def ef74 : EFun := ⟨
 .seq (.region false [xi 6 (.move (.const (.bool false)))])
 (.seq (.region false [xm 7 0,
 xm 8 1,
 xi 9 (.bin .geq (.tmp 7) (.tmp 8)),
 xm 10 9,
 xg 11 (.move (.tmp 0)) 10 true,
 xg 12 (.move (.tmp 2)) 10 true,
 xg 13 (.bin .leq (.tmp 11) (.tmp 12)) 10 true,
 xi 14 (.pick (.tmp 10) (.tmp 13) (.const (.bool false))),
 xm 6 14])
 (.ret)),
 [.tmp 6], .pure, 15⟩

def ef82 : EFun := ⟨
 .seq (.region false [xi 2 (.move (.const xz))])
 (.seq (.seq (.region false [xm 3 0,
 xi 4 (.bin .lss (.tmp 3) (.const xz))])
 (.cond (.tmp 4) (.seq (.region false [xm 5 0,
 xi 6 (.un .neg (.tmp 5)),
 xm 2 6])
 (.ret))
 (.skip)))
 (.seq (.region false [xm 7 0,
 xm 2 7])
 (.ret))),
 [.tmp 2], .pure, 8⟩

def ef93 : EFun := ⟨
 .seq (.region false [xi 2 (.move (.const (.bool false)))])
 (.seq (.seq (.region false [xm 4 0,
 xi 5 (.len true (.tmp 4)),
 xi 6 (.bin .eql (.tmp 5) (.const xz)),
 xm 7 6,
 xg 8 (.move (.tmp 0)) 7 false,
 xg 9 (.len true (.tmp 8)) 7 false,
 xg 10 (.bin .gtr (.tmp 9) (.const (.int .i64 12))) 7 false,
 xi 11 (.pick (.tmp 7) (.const (.bool true)) (.tmp 10)),
 xm 12 11,
 xg 13 (.move (.tmp 0)) 12 false,
 xg 14 (.strIndex (.tmp 13) (.const xz)) 12 false,
 xg 15 (.call 159 [(.tmp 14)]) 12 false,
 xg 16 (.un .not (.tmp 15)) 12 false,
 xi 17 (.pick (.tmp 12) (.const (.bool true)) (.tmp 16))])
 (.cond (.tmp 17) (.seq (.region false [xi 2 (.move (.const (.bool false)))])
 (.ret))
 (.skip)))
 (.seq (.seq (.region false [xi 3 (.move (.const xz))])
 (.block 0 (.loop (some [0, 3]) (
 .seq (.seq (.region false [xm 18 3,
 xm 19 0,
 xi 20 (.len true (.tmp 19)),
 xi 21 (.bin .lss (.tmp 18) (.tmp 20))])
 (.cond (.tmp 21) (.skip)
 (.exit 0)))
 (.seq (.block 1 (.seq (.region false [xm 24 0,
 xm 25 3,
 xi 26 (.strIndex (.tmp 24) (.tmp 25)),
 xi 27 (.call 159 [(.tmp 26)]),
 xi 28 (.un .not (.tmp 27)),
 xm 29 28,
 xg 30 (.move (.tmp 0)) 29 true,
 xg 31 (.move (.tmp 3)) 29 true,
 xg 32 (.strIndex (.tmp 30) (.tmp 31)) 29 true,
 xg 33 (.call 156 [(.tmp 32)]) 29 true,
 xg 34 (.un .not (.tmp 33)) 29 true,
 xi 35 (.pick (.tmp 29) (.tmp 34) (.const (.bool false))),
 xm 36 35,
 xg 37 (.move (.tmp 0)) 36 true,
 xg 38 (.move (.tmp 3)) 36 true,
 xg 39 (.strIndex (.tmp 37) (.tmp 38)) 36 true,
 xg 40 (.bin .neq (.tmp 39) (.const (.int .u8 45))) 36 true,
 xi 41 (.pick (.tmp 36) (.tmp 40) (.const (.bool false)))])
 (.cond (.tmp 41) (.seq (.region false [xi 2 (.move (.const (.bool false)))])
 (.ret))
 (.skip))))
 (.region false [xm 22 3,
 xi 23 (.bin .add (.tmp 22) (.const (.int .i64 1))),
 xm 3 23]))))))
 (.seq (.region false [xi 2 (.move (.const (.bool true)))])
 (.ret)))),
 [.tmp 2], .pure, 42⟩

def ef102 : EFun := ⟨
 .seq (.region false [xi 1 (.box (.tmp 0)),
 xi 2 (.move (.const xz)),
 xi 3 (.move (.const xz))])
 (.seq (.seq (.region false [xi 7 (.fieldAddr 0 (.tmp 1)),
 xi 8 (.load false 1 (.tmp 7)),
 xi 9 (.call 71 [(.tmp 8), (.const (.int .i64 1000)), (.const (.int .i64 10000000))]),
 xi 10 (.un .not (.tmp 9))])
 (.cond (.tmp 10) (.seq (.region false [xi 2 (.move (.const xz)),
 xi 3 (.move (.const (.int .i64 2)))])
 (.ret))
 (.skip)))
 (.seq (.seq (.region false [xi 11 (.fieldAddr 1 (.tmp 1)),
 xi 12 (.load false 1 (.tmp 11)),
 xi 13 (.call 164 [(.tmp 12)]),
 xm 4 13])
 (.seq (.region false [xm 14 4,
 xi 15 (.bin .neq (.tmp 14) (.const xz))])
 (.cond (.tmp 15) (.seq (.region false [xm 16 4,
 xi 2 (.move (.const xz)),
 xm 3 16])
 (.ret))
 (.skip))))
 (.seq (.seq (.region false [xi 17 (.fieldAddr 2 (.tmp 1)),
 xi 18 (.load false 1 (.tmp 17)),
 xi 19 (.len false (.tmp 18)),
 xi 20 (.bin .gtr (.tmp 19) (.const (.int .i64 90)))])
 (.cond (.tmp 20) (.seq (.region false [xi 2 (.move (.const xz)),
 xi 3 (.move (.const (.int .i64 8)))])
 (.ret))
 (.skip)))
 (.seq (.seq (.region false [xi 21 (.fieldAddr 2 (.tmp 1)),
 xi 22 (.load false 1 (.tmp 21)),
 xi 23 (.len false (.tmp 22)),
 xi 24 (.move (.const xz))])
 (.block 0 (.loop (some [1, 23, 24]) (
 .seq (.region false [xi 25 (.bin .lss (.tmp 24) (.tmp 23))])
 (.seq (.cond (.tmp 25) (.skip)
 (.exit 0))
 (.seq (.block 1 (.seq (.region false [xm 26 24,
 xm 5 26])
 (.seq (.region false [xi 27 (.load true 3 (.tmp 1)),
 xm 28 5,
 xi 29 (.call 165 [(.tmp 27), (.tmp 28)]),
 xm 6 29])
 (.seq (.region false [xm 30 6,
 xi 31 (.bin .neq (.tmp 30) (.const xz))])
 (.cond (.tmp 31) (.seq (.region false [xm 32 5,
 xm 33 6,
 xm 2 32,
 xm 3 33])
 (.ret))
 (.skip))))))
 (.region false [xi 34 (.bin .add (.tmp 24) (.const (.int .i64 1))),
 xm 24 34])))))))
 (.seq (.region false [xi 2 (.move (.const xz)),
 xi 3 (.move (.const xz))])
 (.ret)))))),
 [.tmp 2, .tmp 3], .pure, 35⟩

def ef106 : EFun := ⟨
 .seq (.region false [xi 2 (.move (.const xz))])
 (.seq (.seq (.region false [xm 4 0,
 xi 5 (.len false (.tmp 4)),
 xi 6 (.bin .gtr (.tmp 5) (.const (.int .i64 20)))])
 (.cond (.tmp 6) (.seq (.region false [xi 2 (.move (.const (.int .i64 8)))])
 (.ret))
 (.skip)))
 (.seq (.seq (.region false [xi 3 (.move (.const xz))])
 (.block 0 (.loop (some [0, 3]) (
 .seq (.seq (.region false [xm 7 3,
 xm 8 0,
 xi 9 (.len false (.tmp 8)),
 xi 10 (.bin .lss (.tmp 7) (.tmp 9))])
 (.cond (.tmp 10) (.skip)
 (.exit 0)))
 (.seq (.block 1 (.seq (.seq (.region false [xm 13 0,
 xm 14 3,
 xi 15 (.indexAddr none 4 (.tmp 13) (.tmp 14)),
 xi 16 (.fieldAddr 0 (.tmp 15)),
 xi 17 (.load false 1 (.tmp 16)),
 xi 18 (.call 93 [(.tmp 17)]),
 xi 19 (.un .not (.tmp 18))])
 (.cond (.tmp 19) (.seq (.region false [xi 2 (.move (.const (.int .i64 4)))])
 (.ret))
 (.skip)))
 (.seq (.seq (.region true [xm 20 0,
 xm 21 3,
 xi 22 (.slice 4 (.tmp 20) none (some (.tmp 21))),
 xm 23 0,
 xm 24 3,
 xi 25 (.indexAddr none 4 (.tmp 23) (.tmp 24)),
 xi 26 (.fieldAddr 0 (.tmp 25)),
 xi 27 (.load false 1 (.tmp 26)),
 xi 28 (.call 167 [(.tmp 22), (.tmp 27)]),
 xi 29 (.bin .geq (.tmp 28) (.const xz))])
 (.cond (.tmp 29) (.seq (.region false [xi 2 (.move (.const (.int .i64 5)))])
 (.ret))
 (.skip)))
 (.seq (.region false [xm 30 0,
 xm 31 3,
 xi 32 (.indexAddr none 4 (.tmp 30) (.tmp 31)),
 xi 33 (.fieldAddr 1 (.tmp 32)),
 xi 34 (.load false 1 (.tmp 33)),
 xi 35 (.call 74 [(.tmp 34), (.const (.int .i64 1)), (.const (.int .i64 200000))]),
 xi 36 (.un .not (.tmp 35)),
 xm 37 36,
 xg 38 (.move (.tmp 0)) 37 false,
 xg 39 (.move (.tmp 3)) 37 false,
 xg 40 (.indexAddr none 4 (.tmp 38) (.tmp 39)) 37 false,
 xg 41 (.fieldAddr 2 (.tmp 40)) 37 false,
 xg 42 (.load false 1 (.tmp 41)) 37 false,
 xg 43 (.call 74 [(.tmp 42), (.const (.int .i64 1)), (.const (.int .i64 1000000))]) 37 false,
 xg 44 (.un .not (.tmp 43)) 37 false,
 xi 45 (.pick (.tmp 37) (.const (.bool true)) (.tmp 44)),
 xm 46 45,
 xg 47 (.move (.tmp 0)) 46 false,
 xg 48 (.move (.tmp 3)) 46 false,
 xg 49 (.indexAddr none 4 (.tmp 47) (.tmp 48)) 46 false,
 xg 50 (.fieldAddr 3 (.tmp 49)) 46 false,
 xg 51 (.load false 1 (.tmp 50)) 46 false,
 xg 52 (.call 74 [(.tmp 51), (.const xz), (.const (.int .i64 100000000))]) 46 false,
 xg 53 (.un .not (.tmp 52)) 46 false,
 xi 54 (.pick (.tmp 46) (.const (.bool true)) (.tmp 53))])
 (.cond (.tmp 54) (.seq (.region false [xi 2 (.move (.const (.int .i64 2)))])
 (.ret))
 (.skip))))))
 (.region false [xm 11 3,
 xi 12 (.bin .add (.tmp 11) (.const (.int .i64 1))),
 xm 3 12]))))))
 (.seq (.region false [xi 2 (.move (.const xz))])
 (.ret)))),
 [.tmp 2], .pure, 55⟩

def ef107 : EFun := ⟨
 .seq (.region false [xi 2 (.box (.tmp 0)),
 xi 4 (.move (.const xz))])
 (.seq (.region false [xi 9 (.fieldAddr 2 (.tmp 2)),
 xi 10 (.load false 1 (.tmp 9)),
 xm 11 1,
 xi 12 (.indexAddr none 10 (.tmp 10) (.tmp 11)),
 xi 13 (.load true 10 (.tmp 12)),
 xi 5 (.push [xz, xz, xz, xz, xz, xz, xz, xz, (.string ⟨#[]⟩), (.string ⟨#[]⟩)]),
 ⟨none, .store 10 (.tmp 5) (.tmp 13), none, [], false, false⟩])
 (.seq (.seq (.region false [xi 14 (.fieldAddr 0 (.tmp 5)),
 xi 15 (.load true 4 (.tmp 14)),
 xi 16 (.call 168 [(.tmp 15)]),
 xi 17 (.un .not (.tmp 16))])
 (.cond (.tmp 17) (.seq (.region false [xi 4 (.move (.const (.int .i64 2)))])
 (.ret))
 (.skip)))
 (.seq (.seq (.region false [xi 18 (.fieldAddr 4 (.tmp 5)),
 xi 19 (.load false 1 (.tmp 18)),
 xi 20 (.call 74 [(.tmp 19), (.const (.int .i64 1)), (.const (.int .i64 4))]),
 xi 21 (.un .not (.tmp 20))])
 (.cond (.tmp 21) (.seq (.region false [xi 4 (.move (.const (.int .i64 2)))])
 (.ret))
 (.skip)))
 (.seq (.seq (.region false [xi 22 (.fieldAddr 1 (.tmp 2)),
 xi 23 (.load false 1 (.tmp 22)),
 xi 24 (.fieldAddr 5 (.tmp 5)),
 xi 25 (.load true 5 (.tmp 24)),
 xi 26 (.call 135 [(.tmp 23), (.tmp 25)]),
 xm 6 26])
 (.seq (.region false [xm 27 6,
 xi 28 (.bin .neq (.tmp 27) (.const xz))])
 (.cond (.tmp 28) (.seq (.region false [xm 29 6,
 xm 4 29])
 (.ret))
 (.skip))))
 (.seq (.region false [xi 31 (.fieldAddr 0 (.tmp 5)),
 xi 32 (.load true 4 (.tmp 31)),
 xi 33 (.fieldAddr 0 (.tmp 2)),
 xi 34 (.load false 1 (.tmp 33)),
 xi 35 (.call 66 [(.tmp 32), (.tmp 34)]),
 xm 30 35,
 xi 36 (.extract (.tmp 30) 0),
 xi 37 (.extract (.tmp 30) 1),
 xi 7 (.push [xz, xz]),
 ⟨none, .store 2 (.tmp 7) (.tmp 36), none, [], false, false⟩,
 xm 8 37])
 (.seq (.seq (.region false [xm 38 8,
 xi 39 (.bin .neq (.tmp 38) (.const xz))])
 (.cond (.tmp 39) (.seq (.region false [xm 40 8,
 xm 4 40])
 (.ret))
 (.skip)))
 (.seq (.seq (.region false [xi 41 (.load true 2 (.tmp 7)),
 xi 42 (.call 169 [(.tmp 41)]),
 xi 43 (.un .not (.tmp 42))])
 (.cond (.tmp 43) (.seq (.region false [xi 4 (.move (.const (.int .i64 2)))])
 (.ret))
 (.skip)))
 (.seq (.seq (.region true [xm 44 1,
 xi 45 (.bin .gtr (.tmp 44) (.const xz)),
 xm 46 45,
 xg 47 (.fieldAddr 0 (.tmp 5)) 46 true,
 xg 48 (.load true 4 (.tmp 47)) 46 true,
 xg 49 (.fieldAddr 2 (.tmp 2)) 46 true,
 xg 50 (.load false 1 (.tmp 49)) 46 true,
 xg 51 (.move (.tmp 1)) 46 true,
 xg 52 (.bin .sub (.tmp 51) (.const (.int .i64 1))) 46 true,
 xg 53 (.indexAddr none 10 (.tmp 50) (.tmp 52)) 46 true,
 xg 54 (.fieldAddr 0 (.tmp 53)) 46 true,
 xg 55 (.load true 4 (.tmp 54)) 46 true,
 xg 56 (.call 170 [(.tmp 48), (.tmp 55)]) 46 true,
 xg 57 (.bin .leq (.tmp 56) (.const xz)) 46 true,
 xi 58 (.pick (.tmp 46) (.tmp 57) (.const (.bool false)))])
 (.cond (.tmp 58) (.seq (.region false [xi 4 (.move (.const (.int .i64 9)))])
 (.ret))
 (.skip)))
 (.seq (.region false [xi 4 (.move (.const xz))])
 (.ret)))))))))),
 [.tmp 4], .pure, 59⟩

def ef124 : EFun := ⟨
 .seq (.region false [xi 4 (.box (.tmp 1)),
 xi 5 (.box (.tmp 2)),
 xi 6 (.push [(.string ⟨#[]⟩), xz, xz, xz, xz, xz, xz, (.string ⟨#[]⟩), (.string ⟨#[]⟩), xz, xz, xz, xz]),
 xi 7 (.move (.const xz))])
 (.seq (.seq (.region false [xm 10 0,
 xi 11 (.load true 5 (.tmp 4)),
 xi 12 (.call 131 [(.tmp 10), (.tmp 11)]),
 xm 8 12])
 (.seq (.region false [xm 13 8,
 xi 14 (.bin .neq (.tmp 13) (.const xz))])
 (.cond (.tmp 14) (.seq (.region false [xi 15 (.build [(.string ⟨#[]⟩), xz, xz, xz, xz, xz, xz, (.string ⟨#[]⟩), (.string ⟨#[]⟩), xz, xz, xz, xz] []),
 xm 16 8,
 ⟨none, .store 13 (.tmp 6) (.tmp 15), none, [], false, false⟩,
 xm 7 16])
 (.ret))
 (.skip))))
 (.seq (.seq (.region false [xi 17 (.load true 2 (.tmp 5)),
 xi 18 (.call 186 [(.tmp 17)]),
 xm 9 18])
 (.seq (.region false [xm 19 9,
 xi 20 (.bin .neq (.tmp 19) (.const xz))])
 (.cond (.tmp 20) (.seq (.region false [xi 21 (.build [(.string ⟨#[]⟩), xz, xz, xz, xz, xz, xz, (.string ⟨#[]⟩), (.string ⟨#[]⟩), xz, xz, xz, xz] []),
 xm 22 9,
 ⟨none, .store 13 (.tmp 6) (.tmp 21), none, [], false, false⟩,
 xm 7 22])
 (.ret))
 (.skip))))
 (.seq (.region false [xm 23 0,
 xi 24 (.load true 5 (.tmp 4)),
 xi 25 (.load true 2 (.tmp 5)),
 xi 26 (.call 132 [(.tmp 23), (.tmp 24), (.tmp 25)]),
 ⟨none, .store 13 (.tmp 6) (.tmp 26), none, [], false, false⟩,
 xi 7 (.move (.const xz))])
 (.ret)))),
 [.cell 6 true 13, .tmp 7], .pure, 27⟩

end Go.Abs.Q
