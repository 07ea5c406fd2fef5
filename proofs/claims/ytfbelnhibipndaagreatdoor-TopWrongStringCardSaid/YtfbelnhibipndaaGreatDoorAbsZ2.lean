/- The functions, compiled for the abstract evaluator. Written by wip/abs/Print.lean. -/
import Derived.Test.YtfbelnhibipndaaGreatDoorAbsZ0
set_option linter.unusedSimpArgs false
set_option linter.unusedVariables false
set_option maxRecDepth 100000
set_option maxHeartbeats 0
namespace Go.Abs.Z
open Go Go.Abs
def ef107 : EFun := ⟨
 .seq (.region false [xi 2 (.move (.const xz))])
 (.seq (.seq (.region false [xm 5 0,
 xi 6 (.len false (.tmp 5)),
 xi 7 (.bin .gtr (.tmp 6) (.const (.int .i64 88)))])
 (.cond (.tmp 7) (.seq (.region false [xi 2 (.move (.const (.int .i64 8)))])
 (.ret))
 (.skip)))
 (.seq (.seq (.region false [xm 8 0,
 xi 9 (.len false (.tmp 8)),
 xi 10 (.move (.const xz))])
 (.block 0 (.loop (some [0, 8, 9, 10]) (
 .seq (.region false [xi 11 (.bin .lss (.tmp 10) (.tmp 9))])
 (.seq (.cond (.tmp 11) (.skip)
 (.exit 0))
 (.seq (.block 1 (.seq (.region false [xm 12 10,
 xi 13 (.indexAddr none 3 (.tmp 8) (.tmp 10)),
 xi 14 (.load true 3 (.tmp 13)),
 xi 4 (.push [xz, xz, xz]),
 xm 3 12,
 ⟨none, .store 3 (.tmp 4) (.tmp 14), none, [], false, false⟩])
 (.block 2 (.seq (.region false [xi 16 (.fieldAddr 0 (.tmp 4)),
 xi 17 (.load false 1 (.tmp 16)),
 xi 18 (.call 148 [(.tmp 17)]),
 xi 19 (.un .not (.tmp 18)),
 xm 20 19,
 xg 21 (.fieldAddr 1 (.tmp 4)) 20 false,
 xg 22 (.fieldAddr 0 (.tmp 21)) 20 false,
 xg 23 (.load false 1 (.tmp 22)) 20 false,
 xg 24 (.call 54 [(.tmp 23), (.const (.int .i64 1)), (.const (.int .i64 20000000))]) 20 false,
 xg 25 (.un .not (.tmp 24)) 20 false,
 xi 26 (.pick (.tmp 20) (.const (.bool true)) (.tmp 25)),
 xm 27 26,
 xg 28 (.fieldAddr 1 (.tmp 4)) 27 false,
 xg 29 (.fieldAddr 1 (.tmp 28)) 27 false,
 xg 30 (.load false 1 (.tmp 29)) 27 false,
 xg 31 (.call 54 [(.tmp 30), (.const (.int .i64 1)), (.const (.int .i64 20000000))]) 27 false,
 xg 32 (.un .not (.tmp 31)) 27 false,
 xi 33 (.pick (.tmp 27) (.const (.bool true)) (.tmp 32)),
 xm 15 33])
 (.cond (.tmp 15) (.seq (.region false [xi 2 (.move (.const (.int .i64 2)))])
 (.ret))
 (.seq (.region true [xi 35 (.fieldAddr 1 (.tmp 4)),
 xi 36 (.fieldAddr 0 (.tmp 35)),
 xi 37 (.load false 1 (.tmp 36)),
 xi 38 (.fieldAddr 1 (.tmp 4)),
 xi 39 (.fieldAddr 1 (.tmp 38)),
 xi 40 (.load false 1 (.tmp 39)),
 xi 41 (.bin .gtr (.tmp 37) (.tmp 40)),
 xm 42 41,
 xg 43 (.move (.tmp 3)) 42 false,
 xg 44 (.bin .gtr (.tmp 43) (.const xz)) 42 false,
 xg 45 (.move (.tmp 44)) 42 false,
 xg 46 (.fieldAddr 0 (.tmp 4)) 45 true,
 xg 47 (.load false 1 (.tmp 46)) 45 true,
 xg 48 (.move (.tmp 0)) 45 true,
 xg 49 (.move (.tmp 3)) 45 true,
 xg 50 (.bin .sub (.tmp 49) (.const (.int .i64 1))) 45 true,
 xg 51 (.indexAddr none 3 (.tmp 48) (.tmp 50)) 45 true,
 xg 52 (.fieldAddr 0 (.tmp 51)) 45 true,
 xg 53 (.load false 1 (.tmp 52)) 45 true,
 xg 54 (.bin .leq (.tmp 47) (.tmp 53)) 45 true,
 xg 55 (.pick (.tmp 45) (.tmp 54) (.const (.bool false))) 42 false,
 xi 56 (.pick (.tmp 42) (.const (.bool true)) (.tmp 55)),
 xm 34 56])
 (.cond (.tmp 34) (.seq (.region false [xi 2 (.move (.const (.int .i64 9)))])
 (.ret))
 (.skip))))))))
 (.region false [xi 57 (.bin .add (.tmp 10) (.const (.int .i64 1))),
 xm 10 57])))))))
 (.seq (.region false [xi 2 (.move (.const xz))])
 (.ret)))),
 [.tmp 2], .pure, 58⟩

def ef108 : EFun := ⟨
 .seq (.region false [xi 2 (.move (.const (.bool false)))])
 (.seq (.region false [xm 3 0,
 xi 4 (.bin .geq (.tmp 3) (.const (.int .u8 97))),
 xm 5 4,
 xg 6 (.move (.tmp 0)) 5 true,
 xg 7 (.bin .leq (.tmp 6) (.const (.int .u8 122))) 5 true,
 xi 8 (.pick (.tmp 5) (.tmp 7) (.const (.bool false))),
 xm 9 8,
 xg 10 (.move (.tmp 0)) 9 false,
 xg 11 (.bin .geq (.tmp 10) (.const (.int .u8 65))) 9 false,
 xg 12 (.move (.tmp 11)) 9 false,
 xg 13 (.move (.tmp 0)) 12 true,
 xg 14 (.bin .leq (.tmp 13) (.const (.int .u8 90))) 12 true,
 xg 15 (.pick (.tmp 12) (.tmp 14) (.const (.bool false))) 9 false,
 xi 16 (.pick (.tmp 9) (.const (.bool true)) (.tmp 15)),
 xm 2 16])
 (.ret)),
 [.tmp 2], .pure, 17⟩

def ef109 : EFun := ⟨
 .seq (.region false [xi 2 (.move (.const (.bool false)))])
 (.seq (.region false [xm 3 0,
 xi 4 (.bin .geq (.tmp 3) (.const (.int .u8 48))),
 xm 5 4,
 xg 6 (.move (.tmp 0)) 5 true,
 xg 7 (.bin .leq (.tmp 6) (.const (.int .u8 57))) 5 true,
 xi 8 (.pick (.tmp 5) (.tmp 7) (.const (.bool false))),
 xm 2 8])
 (.ret)),
 [.tmp 2], .pure, 9⟩

def ef110 : EFun := ⟨
 .seq (.region false [xi 2 (.box (.tmp 0)),
 xi 4 (.push [xz, xz, xz])])
 (.seq (.region false [xm 8 1,
 xi 9 (.call 149 [(.tmp 8)]),
 xm 5 9])
 (.seq (.region false [xi 6 (.push [xz, xz, xz])])
 (.seq (.seq (.region false [xi 7 (.move (.const xz))])
 (.block 0 (.loop (some [2, 4, 5, 6, 7]) (
 .seq (.seq (.region false [xm 10 7,
 xm 11 5,
 xi 12 (.bin .lss (.tmp 10) (.tmp 11))])
 (.cond (.tmp 12) (.skip)
 (.exit 0)))
 (.seq (.block 1 (.region true [xi 15 (.load true 3 (.tmp 6)),
 xi 16 (.load true 25 (.tmp 2)),
 xm 17 7,
 ⟨(some 18), .call 151 [(.tmp 16), (.tmp 17)], none, [], false, true⟩,
 xi 19 (.call 150 [(.tmp 15), (.const (.int .i64 1)), (.tmp 18)]),
 ⟨none, .store 3 (.tmp 6) (.tmp 19), none, [], false, false⟩]))
 (.region false [xm 13 7,
 xi 14 (.bin .add (.tmp 13) (.const (.int .i64 1))),
 xm 7 14]))))))
 (.seq (.region true [xi 20 (.load true 3 (.tmp 6)),
 xm 21 5,
 xi 22 (.bin .mul (.const (.int .i64 7)) (.tmp 21)),
 xi 23 (.bin .quo (.tmp 22) (.const (.int .i64 12))),
 xi 24 (.un .neg (.tmp 23)),
 ⟨(some 25), .call 152 [], none, [], false, true⟩,
 xi 26 (.call 150 [(.tmp 20), (.tmp 24), (.tmp 25)]),
 ⟨none, .store 3 (.tmp 4) (.tmp 26), none, [], false, false⟩])
 (.ret))))),
 [.cell 4 true 3], .pure, 27⟩

def ef111 : EFun := ⟨
 .seq (.region false [xi 6 (.push [xz, xz]),
 xi 7 (.move (.const xz))])
 (.seq (.region false [xm 8 0,
 xm 9 2,
 xi 10 (.call 154 [(.tmp 8), (.const (.int .i64 48)), (.tmp 9)]),
 xi 11 (.call 155 [(.tmp 10)]),
 xm 12 1,
 xi 13 (.call 153 [(.tmp 11), (.tmp 12)]),
 xi 14 (.extract (.tmp 13) 0),
 xi 15 (.extract (.tmp 13) 1),
 ⟨none, .store 2 (.tmp 6) (.tmp 14), none, [], false, false⟩,
 xm 7 15])
 (.ret)),
 [.cell 6 true 2, .tmp 7], .pure, 16⟩

def ef112 : EFun := ⟨
 .seq (.region false [xi 4 (.move (.const (.bool false)))])
 (.seq (.region false [xm 5 0,
 xm 6 1,
 xi 7 (.call 123 [(.tmp 5), (.tmp 6)]),
 xi 8 (.bin .geq (.tmp 7) (.const xz)),
 xm 4 8])
 (.ret)),
 [.tmp 4], .pure, 9⟩

def ef113 : EFun := ⟨
 .seq (.region false [xi 3 (.move (.const (.bool false)))])
 (.seq (.region false [xm 4 0,
 xi 5 (.load false 1 (.tmp 1)),
 xi 6 (.len false (.tmp 5)),
 xi 7 (.bin .sub (.tmp 6) (.const (.int .i64 1))),
 xi 8 (.call 54 [(.tmp 4), (.const xz), (.tmp 7)]),
 xi 9 (.un .not (.tmp 8)),
 xm 3 9])
 (.ret)),
 [.tmp 3], .pure, 10⟩

def ef114 : EFun := ⟨
 .seq (.region false [xi 2 (.move (.const (.bool false)))])
 (.seq (.seq (.region false [xi 3 (.move (.const (.int .i64 1)))])
 (.block 0 (.loop (some [0, 3]) (
 .seq (.seq (.region false [xm 4 3,
 xm 5 0,
 xi 6 (.len false (.tmp 5)),
 xi 7 (.bin .lss (.tmp 4) (.tmp 6))])
 (.cond (.tmp 7) (.skip)
 (.exit 0)))
 (.seq (.block 1 (.seq (.region true [xm 10 0,
 xm 11 3,
 xi 12 (.indexAddr none 1 (.tmp 10) (.tmp 11)),
 xi 13 (.load false 1 (.tmp 12)),
 xm 14 0,
 xm 15 3,
 xi 16 (.bin .sub (.tmp 15) (.const (.int .i64 1))),
 xi 17 (.indexAddr none 1 (.tmp 14) (.tmp 16)),
 xi 18 (.load false 1 (.tmp 17)),
 xi 19 (.bin .leq (.tmp 13) (.tmp 18))])
 (.cond (.tmp 19) (.seq (.region false [xi 2 (.move (.const (.bool false)))])
 (.ret))
 (.skip))))
 (.region false [xm 8 3,
 xi 9 (.bin .add (.tmp 8) (.const (.int .i64 1))),
 xm 3 9]))))))
 (.seq (.region false [xi 2 (.move (.const (.bool true)))])
 (.ret))),
 [.tmp 2], .pure, 20⟩

def ef115 : EFun := ⟨
 .seq (.region false [xm 3 0,
 xi 4 (.len false (.tmp 3)),
 xm 2 4])
 (.region false [xm 5 0,
 xm 6 2,
 xm 7 2,
 xi 8 (.conv .u64 (.tmp 7)),
 xi 9 (.call 157 [(.tmp 8)]),
 xi 10 (.call 156 [(.tmp 5), (.const xz), (.tmp 6), (.tmp 9)])]),
 [], .trunc, 11⟩

def ef116 : EFun := ⟨
 .seq (.region false [xi 2 (.move (.const (.slice none 0 0)))])
 (.seq (.seq (.region false [xm 6 0,
 xi 7 (.len false (.tmp 6)),
 xi 8 (.bin .lss (.tmp 7) (.const (.int .i64 2)))])
 (.cond (.tmp 8) (.seq (.region false [xm 9 0,
 xm 2 9])
 (.ret))
 (.skip)))
 (.seq (.seq (.region false [xi 3 (.move (.const (.int .i64 1)))])
 (.block 0 (.loop (some [0, 3]) (
 .seq (.seq (.region false [xm 10 3,
 xm 11 0,
 xi 12 (.len false (.tmp 11)),
 xi 13 (.bin .lss (.tmp 10) (.tmp 12))])
 (.cond (.tmp 13) (.skip)
 (.exit 0)))
 (.seq (.block 1 (.seq (.region true [xm 16 0,
 xm 17 3,
 xi 18 (.indexAddr none 1 (.tmp 16) (.tmp 17)),
 xi 19 (.load false 1 (.tmp 18)),
 xm 20 0,
 xm 21 3,
 xi 22 (.bin .sub (.tmp 21) (.const (.int .i64 1))),
 xi 23 (.indexAddr none 1 (.tmp 20) (.tmp 22)),
 xi 24 (.load false 1 (.tmp 23)),
 xi 25 (.bin .eql (.tmp 19) (.tmp 24))])
 (.cond (.tmp 25) (.seq (.region false [xm 26 0,
 xm 27 3,
 xi 28 (.slice 1 (.tmp 26) (some (.tmp 27)) none),
 xm 4 28])
 (.seq (.seq (.region false [xi 5 (.move (.const (.int .i64 1)))])
 (.block 2 (.loop (some [0, 3, 4, 5]) (
 .seq (.seq (.region false [xm 29 5,
 xm 30 4,
 xi 31 (.len false (.tmp 30)),
 xi 32 (.bin .lss (.tmp 29) (.tmp 31))])
 (.cond (.tmp 32) (.skip)
 (.exit 2)))
 (.seq (.block 3 (.seq (.region true [xm 35 4,
 xm 36 5,
 xi 37 (.indexAddr none 1 (.tmp 35) (.tmp 36)),
 xi 38 (.load false 1 (.tmp 37)),
 xm 39 4,
 xm 40 5,
 xi 41 (.bin .sub (.tmp 40) (.const (.int .i64 1))),
 xi 42 (.indexAddr none 1 (.tmp 39) (.tmp 41)),
 xi 43 (.load false 1 (.tmp 42)),
 xi 44 (.bin .neq (.tmp 38) (.tmp 43))])
 (.cond (.tmp 44) (.seq (.region false [xm 45 0,
 xm 46 3,
 xm 47 4,
 xm 48 5,
 xi 49 (.indexAddr none 1 (.tmp 47) (.tmp 48)),
 xi 50 (.load false 1 (.tmp 49)),
 xi 51 (.indexAddr none 1 (.tmp 45) (.tmp 46)),
 ⟨none, .store 1 (.tmp 51) (.tmp 50), none, [], false, false⟩])
 (.region false [xm 52 3,
 xi 53 (.bin .add (.tmp 52) (.const (.int .i64 1))),
 xm 3 53]))
 (.skip))))
 (.region false [xm 33 5,
 xi 34 (.bin .add (.tmp 33) (.const (.int .i64 1))),
 xm 5 34]))))))
 (.seq (.region false [xm 54 0,
 xm 55 3,
 xi 56 (.slice 1 (.tmp 54) (some (.tmp 55)) none),
 ⟨none, .clear 1 [xz] (.tmp 56), none, [], false, false⟩])
 (.seq (.region false [xm 57 0,
 xm 58 3,
 xi 59 (.slice 1 (.tmp 57) none (some (.tmp 58))),
 xm 2 59])
 (.ret)))))
 (.skip))))
 (.region false [xm 14 3,
 xi 15 (.bin .add (.tmp 14) (.const (.int .i64 1))),
 xm 3 15]))))))
 (.seq (.region false [xm 60 0,
 xm 2 60])
 (.ret)))),
 [.tmp 2], .trunc, 61⟩

def ef117 : EFun := ⟨
 .seq (.region false [xi 4 (.move (.const (.bool false)))])
 (.seq (.region false [xm 5 0,
 xm 6 1,
 xi 7 (.call 158 [(.tmp 5), (.tmp 6)]),
 xi 8 (.bin .geq (.tmp 7) (.const xz)),
 xm 4 8])
 (.ret)),
 [.tmp 4], .pure, 9⟩

def ef118 : EFun := ⟨
 .seq (.region false [xi 4 (.move (.const xz)),
 xi 5 (.move (.const (.bool false)))])
 (.seq (.region false [xm 10 0,
 xi 11 (.len false (.tmp 10)),
 xm 6 11])
 (.seq (.region false [xm 12 6,
 xi 7 (.move (.const xz)),
 xm 8 12])
 (.seq (.block 0 (.loop (some [0, 1, 6, 7, 8]) (
 .seq (.seq (.region false [xm 13 7,
 xm 14 8,
 xi 15 (.bin .lss (.tmp 13) (.tmp 14))])
 (.cond (.tmp 15) (.skip)
 (.exit 0)))
 (.block 1 (.seq (.region false [xm 16 7,
 xm 17 8,
 xi 18 (.bin .add (.tmp 16) (.tmp 17)),
 xi 19 (.conv .u64 (.tmp 18)),
 xi 20 (.bin .shr (.tmp 19) (.const (.int .u64 1))),
 xi 21 (.conv .i64 (.tmp 20)),
 xm 9 21])
 (.seq (.region false [xm 22 0,
 xm 23 9,
 xi 24 (.indexAddr none 1 (.tmp 22) (.tmp 23)),
 xi 25 (.load false 1 (.tmp 24)),
 xm 26 1,
 xi 27 (.call 159 [(.tmp 25), (.tmp 26)])])
 (.cond (.tmp 27) (.region false [xm 28 9,
 xi 29 (.bin .add (.tmp 28) (.const (.int .i64 1))),
 xm 7 29])
 (.region false [xm 30 9,
 xm 8 30]))))))))
 (.seq (.region false [xm 31 7,
 xm 32 7,
 xm 33 6,
 xi 34 (.bin .lss (.tmp 32) (.tmp 33)),
 xm 35 34,
 xg 36 (.move (.tmp 0)) 35 true,
 xg 37 (.move (.tmp 7)) 35 true,
 xg 38 (.indexAddr none 1 (.tmp 36) (.tmp 37)) 35 true,
 xg 39 (.load false 1 (.tmp 38)) 35 true,
 xg 40 (.move (.tmp 1)) 35 true,
 xg 41 (.bin .eql (.tmp 39) (.tmp 40)) 35 true,
 xg 42 (.move (.tmp 41)) 35 true,
 xg 43 (.move (.tmp 0)) 42 false,
 xg 44 (.move (.tmp 7)) 42 false,
 xg 45 (.indexAddr none 1 (.tmp 43) (.tmp 44)) 42 false,
 xg 46 (.load false 1 (.tmp 45)) 42 false,
 xg 47 (.call 160 [(.tmp 46)]) 42 false,
 xg 48 (.move (.tmp 47)) 42 false,
 xg 49 (.move (.tmp 1)) 48 true,
 xg 50 (.call 160 [(.tmp 49)]) 48 true,
 xg 51 (.pick (.tmp 48) (.tmp 50) (.const (.bool false))) 42 false,
 xg 52 (.pick (.tmp 42) (.const (.bool true)) (.tmp 51)) 35 true,
 xi 53 (.pick (.tmp 35) (.tmp 52) (.const (.bool false))),
 xm 4 31,
 xm 5 53])
 (.ret))))),
 [.tmp 4, .tmp 5], .pure, 54⟩

def ef122 : EFun := ⟨
 .seq (.region false [xi 4 (.move (.const (.slice none 0 0)))])
 (.seq (.region false [xi 5 (.move (.const (.slice none 0 0)))])
 (.seq (.seq (.region false [xm 8 0,
 xi 9 (.len false (.tmp 8)),
 xi 10 (.move (.const xz))])
 (.block 0 (.loop (some [1, 5, 8, 9, 10]) (
 .seq (.region false [xi 11 (.bin .lss (.tmp 10) (.tmp 9))])
 (.seq (.cond (.tmp 11) (.skip)
 (.exit 0))
 (.seq (.block 1 (.seq (.region false [xm 12 10,
 xi 13 (.indexAddr none 4 (.tmp 8) (.tmp 10)),
 xi 14 (.load true 4 (.tmp 13)),
 xi 7 (.push [xz, xz, xz, xz]),
 xm 6 12,
 ⟨none, .store 4 (.tmp 7) (.tmp 14), none, [], false, false⟩])
 (.seq (.region false [xi 15 (.fieldAddr 0 (.tmp 7)),
 xi 16 (.load false 1 (.tmp 15)),
 xm 17 1,
 xi 18 (.bin .eql (.tmp 16) (.tmp 17)),
 xm 19 18,
 xg 20 (.fieldAddr 1 (.tmp 7)) 19 false,
 xg 21 (.load false 1 (.tmp 20)) 19 false,
 xg 22 (.move (.tmp 1)) 19 false,
 xg 23 (.bin .eql (.tmp 21) (.tmp 22)) 19 false,
 xi 24 (.pick (.tmp 19) (.const (.bool true)) (.tmp 23))])
 (.cond (.tmp 24) (.region false [xm 25 5,
 xm 26 6,
 xi 27 (.buildSlice 1 1 [xz] [(0, 1, (.tmp 26))]),
 xi 28 (.append 1 8 (.tmp 25) (.tmp 27)),
 xm 5 28])
 (.skip)))))
 (.region false [xi 29 (.bin .add (.tmp 10) (.const (.int .i64 1))),
 xm 10 29])))))))
 (.seq (.region false [xm 30 5,
 xm 4 30])
 (.ret)))),
 [.tmp 4], .pure, 31⟩

def ef123 : EFun := ⟨
 .seq (.region false [xi 4 (.move (.const xz))])
 (.seq (.seq (.region false [xm 6 0,
 xi 7 (.len false (.tmp 6)),
 xi 8 (.move (.const xz))])
 (.block 0 (.loop (some [0, 1, 7, 8]) (
 .seq (.region false [xi 9 (.bin .lss (.tmp 8) (.tmp 7))])
 (.seq (.cond (.tmp 9) (.skip)
 (.exit 0))
 (.seq (.block 1 (.seq (.region false [xm 10 8,
 xm 5 10])
 (.seq (.region false [xm 11 1,
 xm 12 0,
 xm 13 5,
 xi 14 (.indexAddr none 1 (.tmp 12) (.tmp 13)),
 xi 15 (.load false 1 (.tmp 14)),
 xi 16 (.callVal (.tmp 11) [(.tmp 15)])])
 (.cond (.tmp 16) (.seq (.region false [xm 17 5,
 xm 4 17])
 (.ret))
 (.skip)))))
 (.region false [xi 18 (.bin .add (.tmp 8) (.const (.int .i64 1))),
 xm 8 18])))))))
 (.seq (.region false [xi 4 (.move (.const (.int .i64 (-1))))])
 (.ret))),
 [.tmp 4], .pure, 19⟩

def ef127 : EFun := ⟨
 .seq (.region false [xi 2 (.move (.const (.bool false)))])
 (.seq (.region false [xm 3 0,
 xi 4 (.bin .lss (.tmp 3) (.const (.int .i64 (-48)))),
 xm 5 4,
 xg 6 (.move (.tmp 0)) 5 false,
 xg 7 (.bin .gtr (.tmp 6) (.const (.int .i64 48))) 5 false,
 xi 8 (.pick (.tmp 5) (.const (.bool true)) (.tmp 7)),
 xm 2 8])
 (.ret)),
 [.tmp 2], .pure, 9⟩

def ef128 : EFun := ⟨
 .seq (.region false [xi 2 (.move (.const (.bool false)))])
 (.seq (.seq (.region false [xm 6 0,
 xi 7 (.bytesOf (.tmp 6)),
 xi 8 (.len false (.tmp 7)),
 xi 9 (.move (.const xz))])
 (.block 0 (.loop (some [0, 7, 8, 9]) (
 .seq (.region false [xi 10 (.bin .lss (.tmp 9) (.tmp 8))])
 (.seq (.cond (.tmp 10) (.skip)
 (.exit 0))
 (.seq (.block 1 (.seq (.region false [xm 11 9,
 xi 12 (.indexAddr none 1 (.tmp 7) (.tmp 9)),
 xi 13 (.load false 1 (.tmp 12)),
 xm 3 11,
 xm 4 13])
 (.seq (.region false [xm 14 4,
 xi 15 (.bin .geq (.tmp 14) (.const (.int .u8 97))),
 xm 16 15,
 xg 17 (.move (.tmp 4)) 16 true,
 xg 18 (.bin .leq (.tmp 17) (.const (.int .u8 122))) 16 true,
 xi 19 (.pick (.tmp 16) (.tmp 18) (.const (.bool false))),
 xm 20 19,
 xg 21 (.move (.tmp 4)) 20 false,
 xg 22 (.bin .geq (.tmp 21) (.const (.int .u8 65))) 20 false,
 xg 23 (.move (.tmp 22)) 20 false,
 xg 24 (.move (.tmp 4)) 23 true,
 xg 25 (.bin .leq (.tmp 24) (.const (.int .u8 90))) 23 true,
 xg 26 (.pick (.tmp 23) (.tmp 25) (.const (.bool false))) 20 false,
 xi 27 (.pick (.tmp 20) (.const (.bool true)) (.tmp 26)),
 xm 5 27])
 (.seq (.region false [xm 28 5,
 xi 29 (.un .not (.tmp 28)),
 xm 30 29,
 xg 31 (.move (.tmp 3)) 30 true,
 xg 32 (.bin .eql (.tmp 31) (.const xz)) 30 true,
 xg 33 (.move (.tmp 32)) 30 true,
 xg 34 (.move (.tmp 4)) 33 false,
 xg 35 (.bin .neq (.tmp 34) (.const (.int .u8 45))) 33 false,
 xg 36 (.move (.tmp 35)) 33 false,
 xg 37 (.move (.tmp 4)) 36 true,
 xg 38 (.bin .lss (.tmp 37) (.const (.int .u8 48))) 36 true,
 xg 39 (.move (.tmp 38)) 36 true,
 xg 40 (.move (.tmp 4)) 39 false,
 xg 41 (.bin .gtr (.tmp 40) (.const (.int .u8 57))) 39 false,
 xg 42 (.pick (.tmp 39) (.const (.bool true)) (.tmp 41)) 36 true,
 xg 43 (.pick (.tmp 36) (.tmp 42) (.const (.bool false))) 33 false,
 xg 44 (.pick (.tmp 33) (.const (.bool true)) (.tmp 43)) 30 true,
 xi 45 (.pick (.tmp 30) (.tmp 44) (.const (.bool false)))])
 (.cond (.tmp 45) (.seq (.region false [xi 2 (.move (.const (.bool false)))])
 (.ret))
 (.skip))))))
 (.region false [xi 46 (.bin .add (.tmp 9) (.const (.int .i64 1))),
 xm 9 46])))))))
 (.seq (.region false [xm 47 0,
 xi 48 (.bin .neq (.tmp 47) (.const (.string ⟨#[]⟩))),
 xm 49 48,
 xg 50 (.move (.tmp 0)) 49 true,
 xg 51 (.len true (.tmp 50)) 49 true,
 xg 52 (.bin .leq (.tmp 51) (.const (.int .i64 12))) 49 true,
 xi 53 (.pick (.tmp 49) (.tmp 52) (.const (.bool false))),
 xm 2 53])
 (.ret))),
 [.tmp 2], .pure, 54⟩

def ef129 : EFun := ⟨
 .seq (.region false [xi 2 (.move (.const xz))])
 (.seq (.region false [xi 3 (.move (.const xz))])
 (.seq (.seq (.region false [xm 6 0,
 xi 7 (.len false (.tmp 6)),
 xi 8 (.move (.const xz))])
 (.block 0 (.loop (some [3, 6, 7, 8]) (
 .seq (.region false [xi 9 (.bin .lss (.tmp 8) (.tmp 7))])
 (.seq (.cond (.tmp 9) (.skip)
 (.exit 0))
 (.seq (.block 1 (.seq (.region false [xi 10 (.indexAddr none 1 (.tmp 6) (.tmp 8)),
 xi 11 (.load false 1 (.tmp 10)),
 xm 5 11])
 (.region false [xm 12 3,
 xm 13 5,
 xi 14 (.bin .add (.tmp 12) (.tmp 13)),
 xm 3 14])))
 (.region false [xi 15 (.bin .add (.tmp 8) (.const (.int .i64 1))),
 xm 8 15])))))))
 (.seq (.region false [xm 16 3,
 xm 2 16])
 (.ret)))),
 [.tmp 2], .pure, 17⟩

def ef130 : EFun := ⟨
 .seq (.region false [xi 1 (.box (.tmp 0)),
 xi 2 (.move (.const (.pointer none)))])
 (.seq (.region false [xi 3 (.push (List.replicate 72 xz))])
 (.seq (.region false [xi 4 (.push [xz, xz, xz])])
 (.seq (.seq (.region false [xi 8 (.move (.const xz))])
 (.block 0 (.loop (some [1, 3, 4, 8]) (
 .seq (.region false [xi 9 (.bin .lss (.tmp 8) (.const (.int .i64 12)))])
 (.seq (.cond (.tmp 9) (.skip)
 (.exit 0))
 (.seq (.block 1 (.seq (.region false [xm 10 8,
 xm 5 10])
 (.seq (.region true [xm 11 5,
 xi 12 (.fieldAddr 1 (.tmp 1)),
 xi 13 (.indexAddr (some 12) 1 (.tmp 12) (.tmp 11)),
 xi 14 (.load false 1 (.tmp 13)),
 xm 15 5,
 xi 16 (.fieldAddr 13 (.tmp 1)),
 xi 17 (.indexAddr (some 12) 1 (.tmp 16) (.tmp 15)),
 xi 18 (.load false 1 (.tmp 17)),
 xm 6 14,
 xm 7 18])
 (.seq (.region false [xm 19 5,
 xm 20 6,
 xi 21 (.bin .mul (.const (.int .i64 19)) (.tmp 20)),
 xi 22 (.bin .add (.const (.int .i64 (-12))) (.tmp 21)),
 xm 23 7,
 xi 24 (.bin .mul (.const (.int .i64 4)) (.tmp 23)),
 xi 25 (.bin .add (.tmp 22) (.tmp 24)),
 xm 26 6,
 xi 27 (.bin .mul (.const (.int .i64 12)) (.tmp 26)),
 xi 28 (.bin .sub (.const (.int .i64 12)) (.tmp 27)),
 xm 29 7,
 xi 30 (.bin .mul (.const (.int .i64 4)) (.tmp 29)),
 xi 31 (.bin .sub (.tmp 28) (.tmp 30)),
 xm 32 7,
 xi 33 (.build [xz, xz, xz] [(0, 1, (.tmp 25)), (1, 1, (.tmp 31)), (2, 1, (.tmp 32))]),
 xi 34 (.fieldAddr 0 (.tmp 3)),
 xi 35 (.indexAddr (some 12) 3 (.tmp 34) (.tmp 19)),
 ⟨none, .store 3 (.tmp 35) (.tmp 33), none, [], false, false⟩])
 (.seq (.region true [xm 36 5,
 xi 37 (.bin .mul (.const (.int .i64 7)) (.tmp 36)),
 xi 38 (.bin .rem (.tmp 37) (.const (.int .i64 12))),
 xi 39 (.load true 3 (.tmp 4)),
 ⟨(some 40), .call 165 [], none, [], false, true⟩,
 xm 41 5,
 xi 42 (.bin .mul (.const (.int .i64 7)) (.tmp 41)),
 xi 43 (.bin .quo (.tmp 42) (.const (.int .i64 12))),
 xi 44 (.un .neg (.tmp 43)),
 xi 45 (.call 164 [(.tmp 39), (.tmp 40), (.tmp 44)]),
 xi 46 (.fieldAddr 36 (.tmp 3)),
 xi 47 (.indexAddr (some 12) 3 (.tmp 46) (.tmp 38)),
 ⟨none, .store 3 (.tmp 47) (.tmp 45), none, [], false, false⟩])
 (.region true [xi 48 (.load true 3 (.tmp 4)),
 xm 49 5,
 xi 50 (.fieldAddr 0 (.tmp 3)),
 xi 51 (.indexAddr (some 12) 3 (.tmp 50) (.tmp 49)),
 xi 52 (.load true 3 (.tmp 51)),
 xi 53 (.call 164 [(.tmp 48), (.tmp 52), (.const (.int .i64 1))]),
 ⟨none, .store 3 (.tmp 4) (.tmp 53), none, [], false, false⟩]))))))
 (.region false [xi 54 (.bin .add (.tmp 8) (.const (.int .i64 1))),
 xm 8 54])))))))
 (.seq (.region false [xm 2 3])
 (.ret))))),
 [.tmp 2], .pure, 55⟩

def ef131 : EFun := ⟨
 .seq (.region false [xi 2 (.move (.const xz))])
 (.seq (.region false [xi 3 (.move (.const xz))])
 (.seq (.seq (.region false [xi 9 (.move (.const xz))])
 (.block 0 (.loop (some [0, 3, 9]) (
 .seq (.region false [xi 10 (.bin .lss (.tmp 9) (.const (.int .i64 3)))])
 (.seq (.cond (.tmp 10) (.skip)
 (.exit 0))
 (.seq (.block 1 (.seq (.region false [xm 11 9,
 xm 4 11])
 (.seq (.region true [xm 12 0,
 xm 13 4,
 xi 14 (.nilCheck (.tmp 12)),
 xi 15 (.fieldAddr 36 (.tmp 14)),
 xi 16 (.indexAddr (some 12) 3 (.tmp 15) (.const xz)),
 xi 17 (.indexAddr (some 3) 1 (.tmp 16) (.tmp 13)),
 xi 18 (.load false 1 (.tmp 17)),
 xm 19 0,
 xm 20 4,
 xi 21 (.nilCheck (.tmp 19)),
 xi 22 (.fieldAddr 36 (.tmp 21)),
 xi 23 (.indexAddr (some 12) 3 (.tmp 22) (.const xz)),
 xi 24 (.indexAddr (some 3) 1 (.tmp 23) (.tmp 20)),
 xi 25 (.load false 1 (.tmp 24)),
 xm 5 18,
 xm 6 25])
 (.seq (.seq (.region false [xm 26 0,
 xi 27 (.nilCheck (.tmp 26)),
 xi 28 (.fieldAddr 36 (.tmp 27)),
 xi 29 (.load true 36 (.tmp 28)),
 xi 30 (.move (.const xz))])
 (.block 2 (.loop (some [0, 3, 4, 5, 6, 9, 29, 30]) (
 .seq (.region false [xi 31 (.bin .lss (.tmp 30) (.const (.int .i64 12)))])
 (.seq (.cond (.tmp 31) (.skip)
 (.exit 2))
 (.seq (.block 3 (.seq (.region false [xi 32 (.index 12 3 true (.tmp 29) (.tmp 30)),
 xi 8 (.push [xz, xz, xz]),
 ⟨none, .store 3 (.tmp 8) (.tmp 32), none, [], false, false⟩])
 (.region true [xm 33 5,
 xm 34 4,
 xi 35 (.indexAddr (some 3) 1 (.tmp 8) (.tmp 34)),
 xi 36 (.load false 1 (.tmp 35)),
 xi 37 (.min [(.tmp 33), (.tmp 36)]),
 xm 38 6,
 xm 39 4,
 xi 40 (.indexAddr (some 3) 1 (.tmp 8) (.tmp 39)),
 xi 41 (.load false 1 (.tmp 40)),
 xi 42 (.max [(.tmp 38), (.tmp 41)]),
 xm 5 37,
 xm 6 42])))
 (.region false [xi 43 (.bin .add (.tmp 30) (.const (.int .i64 1))),
 xm 30 43])))))))
 (.region false [xm 44 3,
 xm 45 6,
 xm 46 5,
 xi 47 (.bin .sub (.tmp 45) (.tmp 46)),
 xi 48 (.max [(.tmp 44), (.tmp 47)]),
 xm 3 48])))))
 (.region false [xi 49 (.bin .add (.tmp 9) (.const (.int .i64 1))),
 xm 9 49])))))))
 (.seq (.region false [xm 50 3,
 xm 2 50])
 (.ret)))),
 [.tmp 2], .pure, 51⟩

def ef132 : EFun := ⟨
 .seq (.region false [xi 4 (.move (.const (.bool false)))])
 (.seq (.region false [xm 5 0,
 xm 6 1,
 xi 7 (.call 166 [(.tmp 5), (.tmp 6)]),
 xi 8 (.bin .geq (.tmp 7) (.const xz)),
 xm 4 8])
 (.ret)),
 [.tmp 4], .pure, 9⟩

def ef148 : EFun := ⟨
 .seq (.region false [xi 2 (.move (.const (.bool false)))])
 (.seq (.region false [xm 3 0,
 xi 4 (.call 54 [(.tmp 3), (.const xz), (.const (.int .i64 87))]),
 xm 2 4])
 (.ret)),
 [.tmp 2], .pure, 5⟩

def ef149 : EFun := ⟨
 .seq (.region false [xi 2 (.move (.const xz))])
 (.seq (.region false [xm 3 0,
 xi 4 (.bin .mul (.const (.int .i64 7)) (.tmp 3)),
 xi 5 (.call 178 [(.tmp 4), (.const (.int .i64 12))]),
 xm 2 5])
 (.ret)),
 [.tmp 2], .pure, 6⟩

def ef150 : EFun := ⟨
 .seq (.region false [xi 3 (.box (.tmp 0)),
 xi 5 (.box (.tmp 2)),
 xi 6 (.push [xz, xz, xz])])
 (.seq (.seq (.region false [xi 7 (.move (.const xz))])
 (.block 0 (.loop (some [1, 3, 5, 6, 7]) (
 .seq (.seq (.region false [xm 8 7,
 xi 9 (.bin .lss (.tmp 8) (.const (.int .i64 3)))])
 (.cond (.tmp 9) (.skip)
 (.exit 0)))
 (.seq (.block 1 (.region true [xm 12 7,
 xm 13 7,
 xi 14 (.indexAddr (some 3) 1 (.tmp 3) (.tmp 13)),
 xi 15 (.load false 1 (.tmp 14)),
 xm 16 1,
 xm 17 7,
 xi 18 (.indexAddr (some 3) 1 (.tmp 5) (.tmp 17)),
 xi 19 (.load false 1 (.tmp 18)),
 xi 20 (.bin .mul (.tmp 16) (.tmp 19)),
 xi 21 (.bin .add (.tmp 15) (.tmp 20)),
 xi 22 (.indexAddr (some 3) 1 (.tmp 3) (.tmp 12)),
 ⟨none, .store 1 (.tmp 22) (.tmp 21), none, [], false, false⟩]))
 (.region false [xm 10 7,
 xi 11 (.bin .add (.tmp 10) (.const (.int .i64 1))),
 xm 7 11]))))))
 (.seq (.region false [xi 23 (.load true 3 (.tmp 3)),
 ⟨none, .store 3 (.tmp 6) (.tmp 23), none, [], false, false⟩])
 (.ret))),
 [.cell 6 true 3], .pure, 24⟩

def ef151 : EFun := ⟨
 .seq (.region false [xi 2 (.box (.tmp 0)),
 xi 4 (.push [xz, xz, xz])])
 (.seq (.region false [xm 7 1,
 xi 8 (.call 178 [(.tmp 7), (.const (.int .i64 12))]),
 xm 1 8])
 (.seq (.region true [xm 9 1,
 xi 10 (.fieldAddr 1 (.tmp 2)),
 xi 11 (.indexAddr (some 12) 1 (.tmp 10) (.tmp 9)),
 xi 12 (.load false 1 (.tmp 11)),
 xm 13 1,
 xi 14 (.fieldAddr 13 (.tmp 2)),
 xi 15 (.indexAddr (some 12) 1 (.tmp 14) (.tmp 13)),
 xi 16 (.load false 1 (.tmp 15)),
 xm 5 12,
 xm 6 16])
 (.seq (.region false [xm 17 5,
 xi 18 (.bin .mul (.const (.int .i64 19)) (.tmp 17)),
 xi 19 (.bin .add (.const (.int .i64 (-12))) (.tmp 18)),
 xm 20 6,
 xi 21 (.bin .mul (.const (.int .i64 4)) (.tmp 20)),
 xi 22 (.bin .add (.tmp 19) (.tmp 21)),
 xm 23 5,
 xi 24 (.bin .mul (.const (.int .i64 12)) (.tmp 23)),
 xi 25 (.bin .sub (.const (.int .i64 12)) (.tmp 24)),
 xm 26 6,
 xi 27 (.bin .mul (.const (.int .i64 4)) (.tmp 26)),
 xi 28 (.bin .sub (.tmp 25) (.tmp 27)),
 xm 29 6,
 xi 30 (.build [xz, xz, xz] [(0, 1, (.tmp 22)), (1, 1, (.tmp 28)), (2, 1, (.tmp 29))]),
 ⟨none, .store 3 (.tmp 4) (.tmp 30), none, [], false, false⟩])
 (.ret)))),
 [.cell 4 true 3], .pure, 31⟩

def ef152 : EFun := ⟨
 .seq (.region false [xi 0 (.push [xz, xz, xz])])
 (.seq (.region false [xi 1 (.build [xz, xz, xz] [(0, 1, (.const (.int .i64 12))), (1, 1, (.const xz)), (2, 1, (.const xz))]),
 ⟨none, .store 3 (.tmp 0) (.tmp 1), none, [], false, false⟩])
 (.ret)),
 [.cell 0 true 3], .pure, 2⟩

def ef153 : EFun := ⟨
 .seq (.region false [xi 2 (.box (.tmp 0)),
 xi 4 (.push [xz, xz]),
 xi 5 (.move (.const xz))])
 (.seq (.seq (.region false [xi 13 (.load true 4 (.tmp 2)),
 xi 14 (.call 179 [(.tmp 13)]),
 xm 6 14])
 (.seq (.region false [xm 15 6,
 xi 16 (.bin .neq (.tmp 15) (.const xz))])
 (.cond (.tmp 16) (.seq (.region false [xi 17 (.build [xz, xz] []),
 xm 18 6,
 ⟨none, .store 2 (.tmp 4) (.tmp 17), none, [], false, false⟩,
 xm 5 18])
 (.ret))
 (.skip))))
 (.seq (.seq (.region false [xm 19 1,
 xi 20 (.call 180 [(.tmp 19), (.const (.int .i64 1)), (.const (.int .i64 1000000000))]),
 xi 21 (.un .not (.tmp 20))])
 (.cond (.tmp 21) (.seq (.region false [xi 22 (.build [xz, xz] []),
 ⟨none, .store 2 (.tmp 4) (.tmp 22), none, [], false, false⟩,
 xi 5 (.move (.const (.int .i64 2)))])
 (.ret))
 (.skip)))
 (.seq (.region false [xi 23 (.load true 4 (.tmp 2)),
 xi 24 (.call 181 [(.tmp 23)]),
 ⟨none, .store 4 (.tmp 2) (.tmp 24), none, [], false, false⟩])
 (.seq (.region false [xi 25 (.load true 4 (.tmp 2)),
 xi 26 (.call 183 [(.tmp 25)]),
 xi 27 (.call 182 [(.tmp 26)]),
 xi 7 (.push [(.slice none 0 0), (.slice none 0 0)]),
 ⟨none, .store 2 (.tmp 7) (.tmp 27), none, [], false, false⟩])
 (.seq (.region false [xm 28 1,
 xi 29 (.conv .u64 (.tmp 28)),
 xi 30 (.fieldAddr 3 (.tmp 2)),
 xi 31 (.load false 1 (.tmp 30)),
 xi 32 (.fieldAddr 0 (.tmp 7)),
 xi 33 (.load false 1 (.tmp 32)),
 xi 34 (.call 184 [(.tmp 29), (.tmp 31), (.tmp 33)]),
 xi 35 (.fieldAddr 0 (.tmp 7)),
 ⟨none, .store 1 (.tmp 35) (.tmp 34), none, [], false, false⟩])
 (.seq (.region false [xi 36 (.makeFunc (.func 185) [(.tmp 2), (.tmp 7)]),
 xm 8 36])
 (.seq (.region false [xi 9 (.move (.const xz)),
 xi 10 (.move (.const (.int .i64 1000000000000001)))])
 (.seq (.block 0 (.loop (some [4, 8, 9, 10]) (
 .seq (.seq (.region false [xm 37 9,
 xm 38 10,
 xi 39 (.bin .lss (.tmp 37) (.tmp 38))])
 (.cond (.tmp 39) (.skip)
 (.exit 0)))
 (.block 1 (.seq (.region false [xm 40 10,
 xm 41 10,
 xm 42 9,
 xi 43 (.bin .sub (.tmp 41) (.tmp 42)),
 xi 44 (.bin .quo (.tmp 43) (.const (.int .i64 2))),
 xi 45 (.bin .sub (.tmp 40) (.tmp 44)),
 xm 11 45])
 (.seq (.region false [xm 46 8,
 xm 47 11,
 xi 48 (.callVal (.tmp 46) [(.tmp 47)]),
 xi 49 (.bin .leq (.tmp 48) (.const xz))])
 (.cond (.tmp 49) (.region false [xm 50 11,
 xm 9 50])
 (.region false [xm 51 11,
 xi 52 (.bin .sub (.tmp 51) (.const (.int .i64 1))),
 xm 10 52]))))))))
 (.seq (.region false [xm 53 9,
 xm 54 9,
 xi 55 (.build [xz, xz] [(0, 1, (.tmp 53)), (1, 1, (.tmp 54))]),
 xi 12 (.push [xz, xz]),
 ⟨none, .store 2 (.tmp 12) (.tmp 55), none, [], false, false⟩])
 (.seq (.seq (.region false [xm 56 9,
 xi 57 (.bin .eql (.tmp 56) (.const xz)),
 xm 58 57,
 xg 59 (.move (.tmp 8)) 58 false,
 xg 60 (.move (.tmp 9)) 58 false,
 xg 61 (.callVal (.tmp 59) [(.tmp 60)]) 58 false,
 xg 62 (.bin .neq (.tmp 61) (.const xz)) 58 false,
 xi 63 (.pick (.tmp 58) (.const (.bool true)) (.tmp 62))])
 (.cond (.tmp 63) (.region false [xi 64 (.fieldAddr 1 (.tmp 12)),
 xi 65 (.load false 1 (.tmp 64)),
 xi 66 (.bin .add (.tmp 65) (.const (.int .i64 1))),
 xi 67 (.fieldAddr 1 (.tmp 12)),
 ⟨none, .store 1 (.tmp 67) (.tmp 66), none, [], false, false⟩])
 (.skip)))
 (.seq (.region false [xi 68 (.load true 2 (.tmp 12)),
 xi 69 (.call 187 [(.tmp 68)]),
 xi 70 (.extract (.tmp 69) 0),
 xi 71 (.extract (.tmp 69) 1),
 ⟨none, .store 2 (.tmp 4) (.tmp 70), none, [], false, false⟩,
 xm 5 71])
 (.ret)))))))))))),
 [.cell 4 true 2, .tmp 5], .pure, 72⟩

def ef154 : EFun := ⟨
 .seq (.region false [xi 6 (.push [xz, xz, xz])])
 (.seq (.region false [xm 7 0,
 xm 8 2,
 xi 9 (.call 188 [(.tmp 7), (.tmp 8)]),
 xm 10 0,
 xm 11 1,
 xi 12 (.call 188 [(.tmp 10), (.tmp 11)]),
 xi 13 (.call 164 [(.tmp 9), (.tmp 12), (.const (.int .i64 (-1)))]),
 ⟨none, .store 3 (.tmp 6) (.tmp 13), none, [], false, false⟩])
 (.ret)),
 [.cell 6 true 3], .pure, 14⟩

def ef155 : EFun := ⟨
 .seq (.region false [xi 1 (.box (.tmp 0)),
 xi 2 (.push [xz, xz, xz, xz])])
 (.seq (.region false [xi 6 (.indexAddr (some 3) 1 (.tmp 1) (.const xz)),
 xi 7 (.load false 1 (.tmp 6)),
 xi 8 (.indexAddr (some 3) 1 (.tmp 1) (.const (.int .i64 1))),
 xi 9 (.load false 1 (.tmp 8)),
 xi 10 (.indexAddr (some 3) 1 (.tmp 1) (.const (.int .i64 2))),
 xi 11 (.load false 1 (.tmp 10)),
 xi 12 (.build [xz, xz, xz, xz] [(0, 1, (.tmp 7)), (1, 1, (.tmp 9)), (2, 1, (.tmp 11)), (3, 1, (.const (.int .i64 12)))]),
 xi 13 (.call 189 [(.tmp 12)]),
 xm 5 13,
 xi 14 (.extract (.tmp 5) 0),
 xi 15 (.extract (.tmp 5) 1),
 xi 3 (.push [xz, xz, xz, xz]),
 ⟨none, .store 4 (.tmp 3) (.tmp 14), none, [], false, false⟩,
 xm 4 15])
 (.seq (.region false [xi 16 (.load true 4 (.tmp 3)),
 ⟨none, .store 4 (.tmp 2) (.tmp 16), none, [], false, false⟩])
 (.ret))),
 [.cell 2 true 4], .pure, 17⟩

def ef156 : EFun := ⟨
 .seq (.region false [xi 8 (.move (.const (.bool true)))])
 (.seq (.region false [xi 9 (.move (.const (.bool true)))])
 (.block 0 (.loop (some [0, 1, 2, 3, 8, 9]) (
 .block 1 (.seq (.region false [xm 19 2,
 xm 20 1,
 xi 21 (.bin .sub (.tmp 19) (.tmp 20)),
 xm 10 21])
 (.seq (.seq (.region false [xm 22 10,
 xi 23 (.bin .leq (.tmp 22) (.const (.int .i64 12)))])
 (.cond (.tmp 23) (.seq (.region false [xm 24 0,
 xm 25 1,
 xm 26 2,
 xi 27 (.call 190 [(.tmp 24), (.tmp 25), (.tmp 26)])])
 (.ret))
 (.skip)))
 (.seq (.seq (.region false [xm 28 3,
 xi 29 (.bin .eql (.tmp 28) (.const xz))])
 (.cond (.tmp 29) (.seq (.region false [xm 30 0,
 xm 31 1,
 xm 32 2,
 xi 33 (.call 191 [(.tmp 30), (.tmp 31), (.tmp 32)])])
 (.ret))
 (.skip)))
 (.seq (.seq (.region false [xm 34 8,
 xi 35 (.un .not (.tmp 34))])
 (.cond (.tmp 35) (.seq (.region false [xm 36 0,
 xm 37 1,
 xm 38 2,
 xi 39 (.call 192 [(.tmp 36), (.tmp 37), (.tmp 38)])])
 (.region false [xm 40 3,
 xi 41 (.bin .sub (.tmp 40) (.const (.int .i64 1))),
 xm 3 41]))
 (.skip)))
 (.seq (.region false [xm 43 0,
 xm 44 1,
 xm 45 2,
 xi 46 (.call 193 [(.tmp 43), (.tmp 44), (.tmp 45)]),
 xm 42 46,
 xi 47 (.extract (.tmp 42) 0),
 xi 48 (.extract (.tmp 42) 1),
 xm 11 47,
 xm 12 48])
 (.seq (.seq (.region false [xm 49 12,
 xi 50 (.bin .eql (.tmp 49) (.const (.int .i64 2)))])
 (.cond (.tmp 50) (.seq (.region false [xm 51 0,
 xm 52 1,
 xm 53 2,
 xi 54 (.call 194 [(.tmp 51), (.tmp 52), (.tmp 53)])])
 (.seq (.region false [xm 55 2,
 xi 56 (.bin .sub (.tmp 55) (.const (.int .i64 1))),
 xm 57 11,
 xm 58 1,
 xi 59 (.bin .sub (.tmp 57) (.tmp 58)),
 xi 60 (.bin .sub (.tmp 56) (.tmp 59)),
 xm 11 60])
 (.region false [xi 12 (.move (.const (.int .i64 1)))])))
 (.skip)))
 (.seq (.seq (.region false [xm 61 8,
 xm 62 61,
 xg 63 (.move (.tmp 9)) 62 true,
 xi 64 (.pick (.tmp 62) (.tmp 63) (.const (.bool false))),
 xm 65 64,
 xg 66 (.move (.tmp 12)) 65 true,
 xg 67 (.bin .eql (.tmp 66) (.const (.int .i64 1))) 65 true,
 xi 68 (.pick (.tmp 65) (.tmp 67) (.const (.bool false)))])
 (.cond (.tmp 68) (.seq (.region false [xm 69 0,
 xm 70 1,
 xm 71 2,
 xi 72 (.call 195 [(.tmp 69), (.tmp 70), (.tmp 71)])])
 (.cond (.tmp 72) (.ret)
 (.skip)))
 (.skip)))
 (.seq (.seq (.region true [xm 73 1,
 xi 74 (.bin .gtr (.tmp 73) (.const xz)),
 xm 75 74,
 xg 76 (.move (.tmp 0)) 75 true,
 xg 77 (.move (.tmp 1)) 75 true,
 xg 78 (.bin .sub (.tmp 77) (.const (.int .i64 1))) 75 true,
 xg 79 (.indexAddr none 1 (.tmp 76) (.tmp 78)) 75 true,
 xg 80 (.load false 1 (.tmp 79)) 75 true,
 xg 81 (.move (.tmp 0)) 75 true,
 xg 82 (.move (.tmp 11)) 75 true,
 xg 83 (.indexAddr none 1 (.tmp 81) (.tmp 82)) 75 true,
 xg 84 (.load false 1 (.tmp 83)) 75 true,
 xg 85 (.call 159 [(.tmp 80), (.tmp 84)]) 75 true,
 xg 86 (.un .not (.tmp 85)) 75 true,
 xi 87 (.pick (.tmp 75) (.tmp 86) (.const (.bool false)))])
 (.cond (.tmp 87) (.seq (.region false [xm 88 0,
 xm 89 1,
 xm 90 2,
 xm 91 11,
 xi 92 (.call 196 [(.tmp 88), (.tmp 89), (.tmp 90), (.tmp 91)]),
 xm 13 92])
 (.seq (.region false [xm 93 13,
 xm 1 93])
 (.exit 1)))
 (.skip)))
 (.seq (.region false [xm 95 0,
 xm 96 1,
 xm 97 2,
 xm 98 11,
 xi 99 (.call 197 [(.tmp 95), (.tmp 96), (.tmp 97), (.tmp 98)]),
 xm 94 99,
 xi 100 (.extract (.tmp 94) 0),
 xi 101 (.extract (.tmp 94) 1),
 xm 14 100,
 xm 15 101])
 (.seq (.region false [xm 102 15,
 xm 9 102])
 (.seq (.region false [xm 103 14,
 xm 104 1,
 xi 105 (.bin .sub (.tmp 103) (.tmp 104)),
 xm 106 2,
 xm 107 14,
 xi 108 (.bin .sub (.tmp 106) (.tmp 107)),
 xm 16 105,
 xm 17 108])
 (.seq (.region false [xm 109 10,
 xi 110 (.bin .quo (.tmp 109) (.const (.int .i64 8))),
 xm 18 110])
 (.seq (.region false [xm 111 16,
 xm 112 17,
 xi 113 (.bin .lss (.tmp 111) (.tmp 112))])
 (.cond (.tmp 113) (.seq (.region false [xm 114 16,
 xm 115 18,
 xi 116 (.bin .geq (.tmp 114) (.tmp 115)),
 xm 8 116])
 (.seq (.region false [xm 117 0,
 xm 118 1,
 xm 119 14,
 xm 120 3,
 xi 121 (.call 156 [(.tmp 117), (.tmp 118), (.tmp 119), (.tmp 120)])])
 (.region false [xm 122 14,
 xi 123 (.bin .add (.tmp 122) (.const (.int .i64 1))),
 xm 1 123])))
 (.seq (.region false [xm 124 17,
 xm 125 18,
 xi 126 (.bin .geq (.tmp 124) (.tmp 125)),
 xm 8 126])
 (.seq (.region false [xm 127 0,
 xm 128 14,
 xi 129 (.bin .add (.tmp 128) (.const (.int .i64 1))),
 xm 130 2,
 xm 131 3,
 xi 132 (.call 156 [(.tmp 127), (.tmp 129), (.tmp 130), (.tmp 131)])])
 (.region false [xm 133 14,
 xm 2 133]))))))))))))))))))))),
 [], .trunc, 134⟩

def ef157 : EFun := ⟨
 .seq (.region false [xi 2 (.move (.const xz))])
 (.seq (.cond (.const (.bool false)) (.seq (.region false [xm 3 0,
 xi 4 (.conv .u32 (.tmp 3)),
 xi 5 (.call 198 [(.tmp 4)]),
 xm 2 5])
 (.ret))
 (.skip))
 (.seq (.region false [xm 6 0,
 xi 7 (.call 199 [(.tmp 6)]),
 xm 2 7])
 (.ret))),
 [.tmp 2], .pure, 8⟩

def ef158 : EFun := ⟨
 .seq (.region false [xi 4 (.move (.const xz))])
 (.seq (.seq (.region false [xm 6 0,
 xi 7 (.len false (.tmp 6)),
 xi 8 (.move (.const xz))])
 (.block 0 (.loop (some [0, 1, 7, 8]) (
 .seq (.region false [xi 9 (.bin .lss (.tmp 8) (.tmp 7))])
 (.seq (.cond (.tmp 9) (.skip)
 (.exit 0))
 (.seq (.block 1 (.seq (.region false [xm 10 8,
 xm 5 10])
 (.seq (.region false [xm 11 1,
 xm 12 0,
 xm 13 5,
 xi 14 (.indexAddr none 1 (.tmp 12) (.tmp 13)),
 xi 15 (.load false 1 (.tmp 14)),
 xi 16 (.bin .eql (.tmp 11) (.tmp 15))])
 (.cond (.tmp 16) (.seq (.region false [xm 17 5,
 xm 4 17])
 (.ret))
 (.skip)))))
 (.region false [xi 18 (.bin .add (.tmp 8) (.const (.int .i64 1))),
 xm 8 18])))))))
 (.seq (.region false [xi 4 (.move (.const (.int .i64 (-1))))])
 (.ret))),
 [.tmp 4], .pure, 19⟩

def ef159 : EFun := ⟨
 .seq (.region false [xi 4 (.move (.const (.bool false)))])
 (.seq (.region false [xm 5 0,
 xi 6 (.call 200 [(.tmp 5)]),
 xm 7 6,
 xg 8 (.move (.tmp 1)) 7 true,
 xg 9 (.call 200 [(.tmp 8)]) 7 true,
 xg 10 (.un .not (.tmp 9)) 7 true,
 xi 11 (.pick (.tmp 7) (.tmp 10) (.const (.bool false))),
 xm 12 11,
 xg 13 (.move (.tmp 0)) 12 false,
 xg 14 (.move (.tmp 1)) 12 false,
 xg 15 (.bin .lss (.tmp 13) (.tmp 14)) 12 false,
 xi 16 (.pick (.tmp 12) (.const (.bool true)) (.tmp 15)),
 xm 4 16])
 (.ret)),
 [.tmp 4], .pure, 17⟩

def ef160 : EFun := ⟨
 .seq (.region false [xi 2 (.move (.const (.bool false)))])
 (.seq (.region false [xm 3 0,
 xm 4 0,
 xi 5 (.bin .neq (.tmp 3) (.tmp 4)),
 xm 2 5])
 (.ret)),
 [.tmp 2], .pure, 6⟩

def ef164 : EFun := ⟨
 .seq (.region false [xi 3 (.box (.tmp 0)),
 xi 4 (.box (.tmp 1)),
 xi 6 (.push [xz, xz, xz])])
 (.seq (.seq (.region false [xi 8 (.move (.const xz))])
 (.block 0 (.loop (some [2, 3, 4, 6, 8]) (
 .seq (.region false [xi 9 (.bin .lss (.tmp 8) (.const (.int .i64 3)))])
 (.seq (.cond (.tmp 9) (.skip)
 (.exit 0))
 (.seq (.block 1 (.seq (.region false [xm 10 8,
 xm 7 10])
 (.region true [xm 11 7,
 xi 12 (.indexAddr (some 3) 1 (.tmp 3) (.tmp 11)),
 xi 13 (.load false 1 (.tmp 12)),
 xm 14 2,
 xm 15 7,
 xi 16 (.indexAddr (some 3) 1 (.tmp 4) (.tmp 15)),
 xi 17 (.load false 1 (.tmp 16)),
 xi 18 (.bin .mul (.tmp 14) (.tmp 17)),
 xi 19 (.bin .add (.tmp 13) (.tmp 18)),
 xi 20 (.indexAddr (some 3) 1 (.tmp 3) (.tmp 11)),
 ⟨none, .store 1 (.tmp 20) (.tmp 19), none, [], false, false⟩])))
 (.region false [xi 21 (.bin .add (.tmp 8) (.const (.int .i64 1))),
 xm 8 21])))))))
 (.seq (.region false [xi 22 (.load true 3 (.tmp 3)),
 ⟨none, .store 3 (.tmp 6) (.tmp 22), none, [], false, false⟩])
 (.ret))),
 [.cell 6 true 3], .pure, 23⟩

def ef165 : EFun := ⟨
 .seq (.region false [xi 0 (.push [xz, xz, xz])])
 (.seq (.region false [xi 1 (.build [xz, xz, xz] [(0, 1, (.const (.int .i64 12)))]),
 ⟨none, .store 3 (.tmp 0) (.tmp 1), none, [], false, false⟩])
 (.ret)),
 [.cell 0 true 3], .pure, 2⟩

def ef166 : EFun := ⟨
 .seq (.region false [xi 4 (.move (.const xz))])
 (.seq (.seq (.region false [xm 6 0,
 xi 7 (.len false (.tmp 6)),
 xi 8 (.move (.const xz))])
 (.block 0 (.loop (some [0, 1, 7, 8]) (
 .seq (.region false [xi 9 (.bin .lss (.tmp 8) (.tmp 7))])
 (.seq (.cond (.tmp 9) (.skip)
 (.exit 0))
 (.seq (.block 1 (.seq (.region false [xm 10 8,
 xm 5 10])
 (.seq (.region false [xm 11 1,
 xm 12 0,
 xm 13 5,
 xi 14 (.indexAddr none 1 (.tmp 12) (.tmp 13)),
 xi 15 (.load false 1 (.tmp 14)),
 xi 16 (.eqBool false (.tmp 11) (.tmp 15))])
 (.cond (.tmp 16) (.seq (.region false [xm 17 5,
 xm 4 17])
 (.ret))
 (.skip)))))
 (.region false [xi 18 (.bin .add (.tmp 8) (.const (.int .i64 1))),
 xm 8 18])))))))
 (.seq (.region false [xi 4 (.move (.const (.int .i64 (-1))))])
 (.ret))),
 [.tmp 4], .pure, 19⟩

def ef178 : EFun := ⟨
 .seq (.region false [xi 4 (.move (.const xz))])
 (.seq (.region false [xm 6 0,
 xm 7 1,
 xi 8 (.bin .rem (.tmp 6) (.tmp 7)),
 xm 5 8])
 (.seq (.seq (.region false [xm 9 5,
 xi 10 (.bin .lss (.tmp 9) (.const xz))])
 (.cond (.tmp 10) (.region false [xm 11 5,
 xm 12 1,
 xi 13 (.bin .add (.tmp 11) (.tmp 12)),
 xm 5 13])
 (.skip)))
 (.seq (.region false [xm 14 5,
 xm 4 14])
 (.ret)))),
 [.tmp 4], .pure, 15⟩

def ef179 : EFun := ⟨
 .seq (.region false [xi 1 (.box (.tmp 0)),
 xi 2 (.move (.const xz))])
 (.seq (.seq (.region false [xi 5 (.load true 4 (.tmp 1)),
 xi 6 (.call 183 [(.tmp 5)]),
 xi 7 (.move (.const xz))])
 (.block 0 (.loop (some [1, 6, 7]) (
 .seq (.region false [xi 8 (.bin .lss (.tmp 7) (.const (.int .i64 3)))])
 (.seq (.cond (.tmp 8) (.skip)
 (.exit 0))
 (.seq (.block 1 (.seq (.region false [xi 9 (.index 3 1 false (.tmp 6) (.tmp 7)),
 xm 4 9])
 (.seq (.region false [xm 10 4,
 xi 11 (.call 180 [(.tmp 10), (.const (.int .i64 (-400))), (.const (.int .i64 400))]),
 xi 12 (.un .not (.tmp 11))])
 (.cond (.tmp 12) (.seq (.region false [xi 2 (.move (.const (.int .i64 2)))])
 (.ret))
 (.skip)))))
 (.region false [xi 13 (.bin .add (.tmp 7) (.const (.int .i64 1))),
 xm 7 13])))))))
 (.seq (.seq (.region false [xi 14 (.fieldAddr 3 (.tmp 1)),
 xi 15 (.load false 1 (.tmp 14)),
 xi 16 (.call 180 [(.tmp 15), (.const (.int .i64 1)), (.const (.int .i64 12))]),
 xi 17 (.un .not (.tmp 16))])
 (.cond (.tmp 17) (.seq (.region false [xi 2 (.move (.const (.int .i64 2)))])
 (.ret))
 (.skip)))
 (.seq (.region false [xi 2 (.move (.const xz))])
 (.ret)))),
 [.tmp 2], .pure, 18⟩

def ef180 : EFun := ⟨
 .seq (.region false [xi 6 (.move (.const (.bool false)))])
 (.seq (.region false [xm 7 0,
 xm 8 1,
 xi 9 (.bin .geq (.tmp 7) (.tmp 8)),
 xm 10 9,
 xg 11 (.move (.tmp 0)) 10 true,
 xg 12 (.move (.tmp 2)) 10 true,
 xg 13 (.bin .leq (.tmp 11) (.tmp 12)) 10 true,
 xi 14 (.pick (.tmp 10) (.tmp 13) (.const (.bool false))),
 xm 6 14])
 (.ret)),
 [.tmp 6], .pure, 15⟩

def ef181 : EFun := ⟨
 .seq (.region false [xi 1 (.box (.tmp 0)),
 xi 2 (.push [xz, xz, xz, xz])])
 (.seq (.region true [xi 4 (.fieldAddr 0 (.tmp 1)),
 xi 5 (.load false 1 (.tmp 4)),
 xi 6 (.fieldAddr 1 (.tmp 1)),
 xi 7 (.load false 1 (.tmp 6)),
 ⟨(some 8), .call 218 [(.tmp 5), (.tmp 7)], none, [], false, true⟩,
 xi 9 (.fieldAddr 2 (.tmp 1)),
 xi 10 (.load false 1 (.tmp 9)),
 xi 11 (.fieldAddr 3 (.tmp 1)),
 xi 12 (.load false 1 (.tmp 11)),
 xi 13 (.call 218 [(.tmp 10), (.tmp 12)]),
 xi 14 (.call 218 [(.tmp 8), (.tmp 13)]),
 xm 3 14])
 (.seq (.region true [xi 15 (.fieldAddr 0 (.tmp 1)),
 xi 16 (.load false 1 (.tmp 15)),
 xm 17 3,
 xi 18 (.bin .quo (.tmp 16) (.tmp 17)),
 xi 19 (.fieldAddr 1 (.tmp 1)),
 xi 20 (.load false 1 (.tmp 19)),
 xm 21 3,
 xi 22 (.bin .quo (.tmp 20) (.tmp 21)),
 xi 23 (.fieldAddr 2 (.tmp 1)),
 xi 24 (.load false 1 (.tmp 23)),
 xm 25 3,
 xi 26 (.bin .quo (.tmp 24) (.tmp 25)),
 xi 27 (.fieldAddr 3 (.tmp 1)),
 xi 28 (.load false 1 (.tmp 27)),
 xm 29 3,
 xi 30 (.bin .quo (.tmp 28) (.tmp 29)),
 xi 31 (.build [xz, xz, xz, xz] [(0, 1, (.tmp 18)), (1, 1, (.tmp 22)), (2, 1, (.tmp 26)), (3, 1, (.tmp 30))]),
 ⟨none, .store 4 (.tmp 2) (.tmp 31), none, [], false, false⟩])
 (.ret))),
 [.cell 2 true 4], .pure, 32⟩

def ef182 : EFun := ⟨
 .seq (.region false [xi 1 (.box (.tmp 0)),
 xi 2 (.push [(.slice none 0 0), (.slice none 0 0)])])
 (.seq (.region false [xi 6 (.buildSlice 1 1 [(.int .u64 0)] [(0, 1, (.const (.int .u64 1)))]),
 xi 7 (.buildSlice 1 1 [(.int .u64 0)] [(0, 1, (.const (.int .u64 1)))]),
 xi 8 (.build [(.slice none 0 0), (.slice none 0 0)] [(0, 1, (.tmp 6)), (1, 1, (.tmp 7))]),
 xi 3 (.push [(.slice none 0 0), (.slice none 0 0)]),
 ⟨none, .store 2 (.tmp 3) (.tmp 8), none, [], false, false⟩])
 (.seq (.seq (.region false [xi 9 (.load true 3 (.tmp 1)),
 xi 10 (.move (.const xz))])
 (.block 0 (.loop (some [2, 3, 9, 10]) (
 .seq (.region false [xi 11 (.bin .lss (.tmp 10) (.const (.int .i64 3)))])
 (.seq (.cond (.tmp 11) (.skip)
 (.exit 0))
 (.seq (.block 1 (.seq (.region false [xm 12 10,
 xi 13 (.index 3 1 false (.tmp 9) (.tmp 10)),
 xm 4 12,
 xm 5 13])
 (.seq (.region true [xm 14 4,
 xi 15 (.indexAddr (some 3) 1 (.global 1) (.tmp 14)),
 xi 16 (.load false 1 (.tmp 15)),
 xm 17 5,
 xi 18 (.max [(.tmp 17), (.const xz)]),
 xi 19 (.fieldAddr 0 (.tmp 3)),
 xi 20 (.load false 1 (.tmp 19)),
 xi 21 (.call 184 [(.tmp 16), (.tmp 18), (.tmp 20)]),
 xi 22 (.fieldAddr 0 (.tmp 3)),
 ⟨none, .store 1 (.tmp 22) (.tmp 21), none, [], false, false⟩])
 (.region true [xm 23 4,
 xi 24 (.indexAddr (some 3) 1 (.global 1) (.tmp 23)),
 xi 25 (.load false 1 (.tmp 24)),
 xm 26 5,
 xi 27 (.un .neg (.tmp 26)),
 xi 28 (.max [(.tmp 27), (.const xz)]),
 xi 29 (.fieldAddr 1 (.tmp 3)),
 xi 30 (.load false 1 (.tmp 29)),
 xi 31 (.call 184 [(.tmp 25), (.tmp 28), (.tmp 30)]),
 xi 32 (.fieldAddr 1 (.tmp 3)),
 ⟨none, .store 1 (.tmp 32) (.tmp 31), none, [], false, false⟩]))))
 (.region false [xi 33 (.bin .add (.tmp 10) (.const (.int .i64 1))),
 xm 10 33])))))))
 (.seq (.region false [xi 34 (.load true 2 (.tmp 3)),
 ⟨none, .store 2 (.tmp 2) (.tmp 34), none, [], false, false⟩])
 (.ret)))),
 [.cell 2 true 2], .pure, 35⟩

def ef183 : EFun := ⟨
 .seq (.region false [xi 1 (.box (.tmp 0)),
 xi 2 (.push [xz, xz, xz])])
 (.seq (.region false [xi 3 (.fieldAddr 0 (.tmp 1)),
 xi 4 (.load false 1 (.tmp 3)),
 xi 5 (.fieldAddr 1 (.tmp 1)),
 xi 6 (.load false 1 (.tmp 5)),
 xi 7 (.fieldAddr 2 (.tmp 1)),
 xi 8 (.load false 1 (.tmp 7)),
 xi 9 (.build [xz, xz, xz] [(0, 1, (.tmp 4)), (1, 1, (.tmp 6)), (2, 1, (.tmp 8))]),
 ⟨none, .store 3 (.tmp 2) (.tmp 9), none, [], false, false⟩])
 (.ret)),
 [.cell 2 true 3], .pure, 10⟩

def ef184 : EFun := ⟨
 .seq (.region false [xi 6 (.move (.const (.slice none 0 0)))])
 (.seq (.block 0 (.loop (some [0, 1, 2]) (
 .seq (.seq (.region false [xm 10 1,
 xi 11 (.bin .gtr (.tmp 10) (.const xz))])
 (.cond (.tmp 11) (.skip)
 (.exit 0)))
 (.block 1 (.seq (.region false [xi 7 (.move (.const (.int .u64 1)))])
 (.seq (.block 2 (.loop (some [0, 1, 2, 7]) (
 .seq (.seq (.region false [xm 12 1,
 xi 13 (.bin .gtr (.tmp 12) (.const xz))])
 (.cond (.tmp 13) (.skip)
 (.exit 2)))
 (.block 3 (.seq (.region false [xm 15 7,
 xm 16 0,
 xi 17 (.call 219 [(.tmp 15), (.tmp 16)]),
 xm 14 17,
 xi 18 (.extract (.tmp 14) 0),
 xi 19 (.extract (.tmp 14) 1),
 xm 8 18,
 xm 9 19])
 (.seq (.seq (.region false [xm 20 8,
 xi 21 (.bin .neq (.tmp 20) (.const (.int .u64 0)))])
 (.cond (.tmp 21) (.exit 2)
 (.skip)))
 (.region false [xm 22 9,
 xm 23 1,
 xi 24 (.bin .sub (.tmp 23) (.const (.int .i64 1))),
 xm 7 22,
 xm 1 24])))))))
 (.region false [xm 25 2,
 xm 26 7,
 xi 27 (.call 220 [(.tmp 25), (.tmp 26)]),
 xm 2 27])))))))
 (.seq (.region false [xm 28 2,
 xm 6 28])
 (.ret))),
 [.tmp 6], .pure, 29⟩

def ef185 : EFun := ⟨
 .seq (.region false [xi 4 (.move (.const xz))])
 (.seq (.region true [xm 5 0,
 xi 6 (.conv .u64 (.tmp 5)),
 xi 7 (.fieldAddr 3 (.tmp 1)),
 xi 8 (.load false 1 (.tmp 7)),
 xi 9 (.fieldAddr 1 (.tmp 2)),
 xi 10 (.load false 1 (.tmp 9)),
 ⟨(some 11), .call 184 [(.tmp 6), (.tmp 8), (.tmp 10)], none, [], false, true⟩,
 xi 12 (.fieldAddr 0 (.tmp 2)),
 xi 13 (.load false 1 (.tmp 12)),
 xi 14 (.call 186 [(.tmp 11), (.tmp 13)]),
 xm 4 14])
 (.ret)),
 [.tmp 4], .pure, 15⟩

def ef186 : EFun := ⟨
 .seq (.region false [xi 4 (.move (.const xz))])
 (.seq (.seq (.region false [xm 6 0,
 xi 7 (.len false (.tmp 6)),
 xm 8 1,
 xi 9 (.len false (.tmp 8)),
 xi 10 (.bin .neq (.tmp 7) (.tmp 9))])
 (.cond (.tmp 10) (.seq (.seq (.region false [xm 11 0,
 xi 12 (.len false (.tmp 11)),
 xm 13 1,
 xi 14 (.len false (.tmp 13)),
 xi 15 (.bin .lss (.tmp 12) (.tmp 14))])
 (.cond (.tmp 15) (.seq (.region false [xi 4 (.move (.const (.int .i64 (-1))))])
 (.ret))
 (.skip)))
 (.seq (.region false [xi 4 (.move (.const (.int .i64 1)))])
 (.ret)))
 (.skip)))
 (.seq (.seq (.region false [xm 16 0,
 xi 17 (.len false (.tmp 16)),
 xi 18 (.bin .sub (.tmp 17) (.const (.int .i64 1))),
 xm 5 18])
 (.block 0 (.loop (some [0, 1, 5]) (
 .seq (.seq (.region false [xm 19 5,
 xi 20 (.bin .geq (.tmp 19) (.const xz))])
 (.cond (.tmp 20) (.skip)
 (.exit 0)))
 (.seq (.block 1 (.block 2 (.seq (.region true [xm 24 0,
 xm 25 5,
 xi 26 (.indexAddr none 1 (.tmp 24) (.tmp 25)),
 xi 27 (.load false 1 (.tmp 26)),
 xm 28 1,
 xm 29 5,
 xi 30 (.indexAddr none 1 (.tmp 28) (.tmp 29)),
 xi 31 (.load false 1 (.tmp 30)),
 xi 32 (.bin .lss (.tmp 27) (.tmp 31)),
 xm 23 32])
 (.cond (.tmp 23) (.seq (.region false [xi 4 (.move (.const (.int .i64 (-1))))])
 (.ret))
 (.seq (.region true [xm 34 0,
 xm 35 5,
 xi 36 (.indexAddr none 1 (.tmp 34) (.tmp 35)),
 xi 37 (.load false 1 (.tmp 36)),
 xm 38 1,
 xm 39 5,
 xi 40 (.indexAddr none 1 (.tmp 38) (.tmp 39)),
 xi 41 (.load false 1 (.tmp 40)),
 xi 42 (.bin .gtr (.tmp 37) (.tmp 41)),
 xm 33 42])
 (.cond (.tmp 33) (.seq (.region false [xi 4 (.move (.const (.int .i64 1)))])
 (.ret))
 (.skip)))))))
 (.region false [xm 21 5,
 xi 22 (.bin .sub (.tmp 21) (.const (.int .i64 1))),
 xm 5 22]))))))
 (.seq (.region false [xi 4 (.move (.const xz))])
 (.ret)))),
 [.tmp 4], .pure, 43⟩

def ef187 : EFun := ⟨
 .seq (.region false [xi 1 (.box (.tmp 0)),
 xi 2 (.push [xz, xz]),
 xi 3 (.move (.const xz))])
 (.seq (.seq (.region false [xi 4 (.load true 2 (.tmp 1)),
 xi 5 (.call 221 [(.tmp 4)]),
 xi 6 (.bin .neq (.tmp 5) (.const xz))])
 (.cond (.tmp 6) (.seq (.region false [xi 7 (.build [xz, xz] []),
 ⟨none, .store 2 (.tmp 2) (.tmp 7), none, [], false, false⟩,
 xi 3 (.move (.const (.int .i64 8)))])
 (.ret))
 (.skip)))
 (.seq (.region false [xi 8 (.load true 2 (.tmp 1)),
 ⟨none, .store 2 (.tmp 2) (.tmp 8), none, [], false, false⟩,
 xi 3 (.move (.const xz))])
 (.ret))),
 [.cell 2 true 2, .tmp 3], .pure, 9⟩

def ef188 : EFun := ⟨
 .seq (.region false [xi 4 (.push [xz, xz, xz])])
 (.seq (.region false [xm 8 1,
 xi 9 (.call 222 [(.tmp 8)]),
 xm 7 9,
 xi 10 (.extract (.tmp 7) 0),
 xi 11 (.extract (.tmp 7) 1),
 xm 5 10,
 xm 6 11])
 (.seq (.region true [xm 12 0,
 xm 13 5,
 xi 14 (.nilCheck (.tmp 12)),
 xi 15 (.fieldAddr 36 (.tmp 14)),
 xi 16 (.indexAddr (some 12) 3 (.tmp 15) (.tmp 13)),
 xi 17 (.load true 3 (.tmp 16)),
 ⟨(some 18), .call 165 [], none, [], false, true⟩,
 xm 19 6,
 xi 20 (.call 164 [(.tmp 17), (.tmp 18), (.tmp 19)]),
 ⟨none, .store 3 (.tmp 4) (.tmp 20), none, [], false, false⟩])
 (.ret))),
 [.cell 4 true 3], .pure, 21⟩

def ef189 : EFun := ⟨
 .seq (.region false [xi 1 (.box (.tmp 0)),
 xi 2 (.push [xz, xz, xz, xz]),
 xi 3 (.move (.const xz))])
 (.seq (.seq (.region false [xi 5 (.load true 4 (.tmp 1)),
 xi 6 (.call 179 [(.tmp 5)]),
 xm 4 6])
 (.seq (.region false [xm 7 4,
 xi 8 (.bin .neq (.tmp 7) (.const xz))])
 (.cond (.tmp 8) (.seq (.region false [xi 9 (.build [xz, xz, xz, xz] []),
 xm 10 4,
 ⟨none, .store 4 (.tmp 2) (.tmp 9), none, [], false, false⟩,
 xm 3 10])
 (.ret))
 (.skip))))
 (.seq (.region false [xi 11 (.load true 4 (.tmp 1)),
 xi 12 (.call 181 [(.tmp 11)]),
 ⟨none, .store 4 (.tmp 2) (.tmp 12), none, [], false, false⟩,
 xi 3 (.move (.const xz))])
 (.ret))),
 [.cell 2 true 4, .tmp 3], .pure, 13⟩

def ef190 : EFun := ⟨
 .seq (.region false [xm 8 1,
 xi 9 (.bin .add (.tmp 8) (.const (.int .i64 1))),
 xm 6 9])
 (.block 0 (.loop (some [0, 1, 2, 6]) (
 .seq (.seq (.region false [xm 10 6,
 xm 11 2,
 xi 12 (.bin .lss (.tmp 10) (.tmp 11))])
 (.cond (.tmp 12) (.skip)
 (.exit 0)))
 (.seq (.block 1 (.seq (.region false [xm 15 6,
 xm 7 15])
 (.block 2 (.loop (some [0, 1, 2, 6, 7]) (
 .seq (.seq (.region true [xm 16 7,
 xm 17 1,
 xi 18 (.bin .gtr (.tmp 16) (.tmp 17)),
 xm 19 18,
 xg 20 (.move (.tmp 0)) 19 true,
 xg 21 (.move (.tmp 7)) 19 true,
 xg 22 (.indexAddr none 1 (.tmp 20) (.tmp 21)) 19 true,
 xg 23 (.load false 1 (.tmp 22)) 19 true,
 xg 24 (.move (.tmp 0)) 19 true,
 xg 25 (.move (.tmp 7)) 19 true,
 xg 26 (.bin .sub (.tmp 25) (.const (.int .i64 1))) 19 true,
 xg 27 (.indexAddr none 1 (.tmp 24) (.tmp 26)) 19 true,
 xg 28 (.load false 1 (.tmp 27)) 19 true,
 xg 29 (.call 159 [(.tmp 23), (.tmp 28)]) 19 true,
 xi 30 (.pick (.tmp 19) (.tmp 29) (.const (.bool false)))])
 (.cond (.tmp 30) (.skip)
 (.exit 2)))
 (.seq (.block 3 (.region true [xm 33 0,
 xm 34 7,
 xm 35 0,
 xm 36 7,
 xi 37 (.bin .sub (.tmp 36) (.const (.int .i64 1))),
 xm 38 0,
 xm 39 7,
 xi 40 (.bin .sub (.tmp 39) (.const (.int .i64 1))),
 xi 41 (.indexAddr none 1 (.tmp 38) (.tmp 40)),
 xi 42 (.load false 1 (.tmp 41)),
 xm 43 0,
 xm 44 7,
 xi 45 (.indexAddr none 1 (.tmp 43) (.tmp 44)),
 xi 46 (.load false 1 (.tmp 45)),
 xi 47 (.indexAddr none 1 (.tmp 33) (.tmp 34)),
 ⟨none, .store 1 (.tmp 47) (.tmp 42), none, [], false, false⟩,
 xi 48 (.indexAddr none 1 (.tmp 35) (.tmp 37)),
 ⟨none, .store 1 (.tmp 48) (.tmp 46), none, [], false, false⟩]))
 (.region false [xm 31 7,
 xi 32 (.bin .sub (.tmp 31) (.const (.int .i64 1))),
 xm 7 32])))))))
 (.region false [xm 13 6,
 xi 14 (.bin .add (.tmp 13) (.const (.int .i64 1))),
 xm 6 14]))))),
 [], .trunc, 49⟩

def ef191 : EFun := ⟨
 .seq (.region false [xm 11 1,
 xm 6 11])
 (.seq (.region false [xi 7 (.move (.const xz))])
 (.seq (.region false [xm 12 2,
 xm 13 1,
 xi 14 (.bin .sub (.tmp 12) (.tmp 13)),
 xm 8 14])
 (.seq (.seq (.region false [xm 15 8,
 xi 16 (.bin .sub (.tmp 15) (.const (.int .i64 1))),
 xi 17 (.bin .quo (.tmp 16) (.const (.int .i64 2))),
 xm 9 17])
 (.block 0 (.loop (some [0, 6, 7, 8, 9]) (
 .seq (.seq (.region false [xm 18 9,
 xi 19 (.bin .geq (.tmp 18) (.const xz))])
 (.cond (.tmp 19) (.skip)
 (.exit 0)))
 (.seq (.block 1 (.region false [xm 22 0,
 xm 23 9,
 xm 24 8,
 xm 25 6,
 xi 26 (.call 223 [(.tmp 22), (.tmp 23), (.tmp 24), (.tmp 25)])]))
 (.region false [xm 20 9,
 xi 21 (.bin .sub (.tmp 20) (.const (.int .i64 1))),
 xm 9 21]))))))
 (.seq (.region false [xm 27 8,
 xi 28 (.bin .sub (.tmp 27) (.const (.int .i64 1))),
 xm 10 28])
 (.block 2 (.loop (some [0, 6, 7, 10]) (
 .seq (.seq (.region false [xm 29 10,
 xi 30 (.bin .geq (.tmp 29) (.const xz))])
 (.cond (.tmp 30) (.skip)
 (.exit 2)))
 (.seq (.block 3 (.seq (.region true [xm 33 0,
 xm 34 6,
 xm 35 0,
 xm 36 6,
 xm 37 10,
 xi 38 (.bin .add (.tmp 36) (.tmp 37)),
 xm 39 0,
 xm 40 6,
 xm 41 10,
 xi 42 (.bin .add (.tmp 40) (.tmp 41)),
 xi 43 (.indexAddr none 1 (.tmp 39) (.tmp 42)),
 xi 44 (.load false 1 (.tmp 43)),
 xm 45 0,
 xm 46 6,
 xi 47 (.indexAddr none 1 (.tmp 45) (.tmp 46)),
 xi 48 (.load false 1 (.tmp 47)),
 xi 49 (.indexAddr none 1 (.tmp 33) (.tmp 34)),
 ⟨none, .store 1 (.tmp 49) (.tmp 44), none, [], false, false⟩,
 xi 50 (.indexAddr none 1 (.tmp 35) (.tmp 38)),
 ⟨none, .store 1 (.tmp 50) (.tmp 48), none, [], false, false⟩])
 (.region false [xm 51 0,
 xm 52 7,
 xm 53 10,
 xm 54 6,
 xi 55 (.call 223 [(.tmp 51), (.tmp 52), (.tmp 53), (.tmp 54)])])))
 (.region false [xm 31 10,
 xi 32 (.bin .sub (.tmp 31) (.const (.int .i64 1))),
 xm 10 32]))))))))),
 [], .trunc, 56⟩

def ef192 : EFun := ⟨
 .seq (.region false [xm 11 2,
 xm 12 1,
 xi 13 (.bin .sub (.tmp 11) (.tmp 12)),
 xm 6 13])
 (.seq (.region false [xm 14 6,
 xi 15 (.bin .geq (.tmp 14) (.const (.int .i64 8)))])
 (.cond (.tmp 15) (.seq (.region false [xm 16 6,
 xi 17 (.conv .u64 (.tmp 16)),
 xi 7 (.push [(.int .u64 0)]),
 ⟨none, .store 1 (.tmp 7) (.tmp 17), none, [], false, false⟩])
 (.seq (.region false [xm 18 6,
 xi 19 (.call 224 [(.tmp 18)]),
 xm 8 19])
 (.seq (.region false [xm 20 1,
 xm 21 6,
 xi 22 (.bin .quo (.tmp 21) (.const (.int .i64 4))),
 xi 23 (.bin .mul (.tmp 22) (.const (.int .i64 2))),
 xi 24 (.bin .add (.tmp 20) (.tmp 23)),
 xi 25 (.bin .sub (.tmp 24) (.const (.int .i64 1))),
 xm 9 25])
 (.block 0 (.loop (some [0, 1, 6, 7, 8, 9]) (
 .seq (.seq (.region false [xm 26 9,
 xm 27 1,
 xm 28 6,
 xi 29 (.bin .quo (.tmp 28) (.const (.int .i64 4))),
 xi 30 (.bin .mul (.tmp 29) (.const (.int .i64 2))),
 xi 31 (.bin .add (.tmp 27) (.tmp 30)),
 xi 32 (.bin .add (.tmp 31) (.const (.int .i64 1))),
 xi 33 (.bin .leq (.tmp 26) (.tmp 32))])
 (.cond (.tmp 33) (.skip)
 (.exit 0)))
 (.seq (.block 1 (.seq (.region false [xi 36 (.call 225 [(.tmp 7)]),
 xm 37 8,
 xi 38 (.bin .sub (.tmp 37) (.const (.int .u64 1))),
 xi 39 (.bin .and (.tmp 36) (.tmp 38)),
 xi 40 (.conv .i64 (.tmp 39)),
 xm 10 40])
 (.seq (.seq (.region false [xm 41 10,
 xm 42 6,
 xi 43 (.bin .geq (.tmp 41) (.tmp 42))])
 (.cond (.tmp 43) (.region false [xm 44 10,
 xm 45 6,
 xi 46 (.bin .sub (.tmp 44) (.tmp 45)),
 xm 10 46])
 (.skip)))
 (.region true [xm 47 0,
 xm 48 9,
 xm 49 0,
 xm 50 1,
 xm 51 10,
 xi 52 (.bin .add (.tmp 50) (.tmp 51)),
 xm 53 0,
 xm 54 1,
 xm 55 10,
 xi 56 (.bin .add (.tmp 54) (.tmp 55)),
 xi 57 (.indexAddr none 1 (.tmp 53) (.tmp 56)),
 xi 58 (.load false 1 (.tmp 57)),
 xm 59 0,
 xm 60 9,
 xi 61 (.indexAddr none 1 (.tmp 59) (.tmp 60)),
 xi 62 (.load false 1 (.tmp 61)),
 xi 63 (.indexAddr none 1 (.tmp 47) (.tmp 48)),
 ⟨none, .store 1 (.tmp 63) (.tmp 58), none, [], false, false⟩,
 xi 64 (.indexAddr none 1 (.tmp 49) (.tmp 52)),
 ⟨none, .store 1 (.tmp 64) (.tmp 62), none, [], false, false⟩]))))
 (.region false [xm 34 9,
 xi 35 (.bin .add (.tmp 34) (.const (.int .i64 1))),
 xm 9 35]))))))))
 (.skip))),
 [], .trunc, 65⟩

def ef193 : EFun := ⟨
 .seq (.region false [xi 6 (.move (.const xz)),
 xi 7 (.move (.const xz))])
 (.seq (.region false [xm 13 2,
 xm 14 1,
 xi 15 (.bin .sub (.tmp 13) (.tmp 14)),
 xm 8 15])
 (.seq (.region false [xi 9 (.push [xz])])
 (.seq (.region false [xm 16 1,
 xm 17 8,
 xi 18 (.bin .quo (.tmp 17) (.const (.int .i64 4))),
 xi 19 (.bin .mul (.tmp 18) (.const (.int .i64 1))),
 xi 20 (.bin .add (.tmp 16) (.tmp 19)),
 xm 10 20])
 (.seq (.region false [xm 21 1,
 xm 22 8,
 xi 23 (.bin .quo (.tmp 22) (.const (.int .i64 4))),
 xi 24 (.bin .mul (.tmp 23) (.const (.int .i64 2))),
 xi 25 (.bin .add (.tmp 21) (.tmp 24)),
 xm 11 25])
 (.seq (.region false [xm 26 1,
 xm 27 8,
 xi 28 (.bin .quo (.tmp 27) (.const (.int .i64 4))),
 xi 29 (.bin .mul (.tmp 28) (.const (.int .i64 3))),
 xi 30 (.bin .add (.tmp 26) (.tmp 29)),
 xm 12 30])
 (.seq (.seq (.region false [xm 31 8,
 xi 32 (.bin .geq (.tmp 31) (.const (.int .i64 8)))])
 (.cond (.tmp 32) (.seq (.seq (.region false [xm 33 8,
 xi 34 (.bin .geq (.tmp 33) (.const (.int .i64 50)))])
 (.cond (.tmp 34) (.seq (.region false [xm 35 0,
 xm 36 10,
 xi 37 (.call 226 [(.tmp 35), (.tmp 36), (.tmp 9)]),
 xm 10 37])
 (.seq (.region false [xm 38 0,
 xm 39 11,
 xi 40 (.call 226 [(.tmp 38), (.tmp 39), (.tmp 9)]),
 xm 11 40])
 (.region false [xm 41 0,
 xm 42 12,
 xi 43 (.call 226 [(.tmp 41), (.tmp 42), (.tmp 9)]),
 xm 12 43])))
 (.skip)))
 (.region false [xm 44 0,
 xm 45 10,
 xm 46 11,
 xm 47 12,
 xi 48 (.call 227 [(.tmp 44), (.tmp 45), (.tmp 46), (.tmp 47), (.tmp 9)]),
 xm 11 48]))
 (.skip)))
 (.seq (.region false [xi 49 (.load false 1 (.tmp 9))])
 (.block 0 (.seq (.region false [xi 52 (.bin .eql (.tmp 49) (.const xz)),
 xm 51 52])
 (.cond (.tmp 51) (.seq (.region false [xm 53 11,
 xm 6 53,
 xi 7 (.move (.const (.int .i64 1)))])
 (.ret))
 (.seq (.region false [xi 55 (.bin .eql (.tmp 49) (.const (.int .i64 12))),
 xm 54 55])
 (.cond (.tmp 54) (.seq (.region false [xm 56 11,
 xm 6 56,
 xi 7 (.move (.const (.int .i64 2)))])
 (.ret))
 (.seq (.region false [xm 50 11,
 xm 6 50,
 xi 7 (.move (.const xz))])
 (.ret)))))))))))))),
 [.tmp 6, .tmp 7], .trunc, 57⟩

def ef194 : EFun := ⟨
 .seq (.region false [xm 8 1,
 xm 6 8])
 (.seq (.region false [xm 9 2,
 xi 10 (.bin .sub (.tmp 9) (.const (.int .i64 1))),
 xm 7 10])
 (.block 0 (.loop (some [0, 6, 7]) (
 .seq (.seq (.region false [xm 11 6,
 xm 12 7,
 xi 13 (.bin .lss (.tmp 11) (.tmp 12))])
 (.cond (.tmp 13) (.skip)
 (.exit 0)))
 (.block 1 (.seq (.region true [xm 14 0,
 xm 15 6,
 xm 16 0,
 xm 17 7,
 xm 18 0,
 xm 19 7,
 xi 20 (.indexAddr none 1 (.tmp 18) (.tmp 19)),
 xi 21 (.load false 1 (.tmp 20)),
 xm 22 0,
 xm 23 6,
 xi 24 (.indexAddr none 1 (.tmp 22) (.tmp 23)),
 xi 25 (.load false 1 (.tmp 24)),
 xi 26 (.indexAddr none 1 (.tmp 14) (.tmp 15)),
 ⟨none, .store 1 (.tmp 26) (.tmp 21), none, [], false, false⟩,
 xi 27 (.indexAddr none 1 (.tmp 16) (.tmp 17)),
 ⟨none, .store 1 (.tmp 27) (.tmp 25), none, [], false, false⟩])
 (.seq (.region false [xm 28 6,
 xi 29 (.bin .add (.tmp 28) (.const (.int .i64 1))),
 xm 6 29])
 (.region false [xm 30 7,
 xi 31 (.bin .sub (.tmp 30) (.const (.int .i64 1))),
 xm 7 31])))))))),
 [], .trunc, 32⟩

def ef195 : EFun := ⟨
 .seq (.region false [xi 6 (.move (.const (.bool false)))])
 (.seq (.region false [xm 11 1,
 xi 12 (.bin .add (.tmp 11) (.const (.int .i64 1))),
 xm 7 12])
 (.seq (.seq (.region false [xi 8 (.move (.const xz))])
 (.block 0 (.loop (some [0, 1, 2, 7, 8]) (
 .seq (.seq (.region false [xm 13 8,
 xi 14 (.bin .lss (.tmp 13) (.const (.int .i64 5)))])
 (.cond (.tmp 14) (.skip)
 (.exit 0)))
 (.seq (.block 1 (.seq (.block 2 (.loop (some [0, 1, 2, 7, 8]) (
 .seq (.seq (.region true [xm 17 7,
 xm 18 2,
 xi 19 (.bin .lss (.tmp 17) (.tmp 18)),
 xm 20 19,
 xg 21 (.move (.tmp 0)) 20 true,
 xg 22 (.move (.tmp 7)) 20 true,
 xg 23 (.indexAddr none 1 (.tmp 21) (.tmp 22)) 20 true,
 xg 24 (.load false 1 (.tmp 23)) 20 true,
 xg 25 (.move (.tmp 0)) 20 true,
 xg 26 (.move (.tmp 7)) 20 true,
 xg 27 (.bin .sub (.tmp 26) (.const (.int .i64 1))) 20 true,
 xg 28 (.indexAddr none 1 (.tmp 25) (.tmp 27)) 20 true,
 xg 29 (.load false 1 (.tmp 28)) 20 true,
 xg 30 (.call 159 [(.tmp 24), (.tmp 29)]) 20 true,
 xg 31 (.un .not (.tmp 30)) 20 true,
 xi 32 (.pick (.tmp 20) (.tmp 31) (.const (.bool false)))])
 (.cond (.tmp 32) (.skip)
 (.exit 2)))
 (.block 3 (.region false [xm 33 7,
 xi 34 (.bin .add (.tmp 33) (.const (.int .i64 1))),
 xm 7 34])))))
 (.seq (.seq (.region false [xm 35 7,
 xm 36 2,
 xi 37 (.bin .eql (.tmp 35) (.tmp 36))])
 (.cond (.tmp 37) (.seq (.region false [xi 6 (.move (.const (.bool true)))])
 (.ret))
 (.skip)))
 (.seq (.seq (.region false [xm 38 2,
 xm 39 1,
 xi 40 (.bin .sub (.tmp 38) (.tmp 39)),
 xi 41 (.bin .lss (.tmp 40) (.const (.int .i64 50)))])
 (.cond (.tmp 41) (.seq (.region false [xi 6 (.move (.const (.bool false)))])
 (.ret))
 (.skip)))
 (.seq (.region true [xm 42 0,
 xm 43 7,
 xm 44 0,
 xm 45 7,
 xi 46 (.bin .sub (.tmp 45) (.const (.int .i64 1))),
 xm 47 0,
 xm 48 7,
 xi 49 (.bin .sub (.tmp 48) (.const (.int .i64 1))),
 xi 50 (.indexAddr none 1 (.tmp 47) (.tmp 49)),
 xi 51 (.load false 1 (.tmp 50)),
 xm 52 0,
 xm 53 7,
 xi 54 (.indexAddr none 1 (.tmp 52) (.tmp 53)),
 xi 55 (.load false 1 (.tmp 54)),
 xi 56 (.indexAddr none 1 (.tmp 42) (.tmp 43)),
 ⟨none, .store 1 (.tmp 56) (.tmp 51), none, [], false, false⟩,
 xi 57 (.indexAddr none 1 (.tmp 44) (.tmp 46)),
 ⟨none, .store 1 (.tmp 57) (.tmp 55), none, [], false, false⟩])
 (.seq (.seq (.region false [xm 58 7,
 xm 59 1,
 xi 60 (.bin .sub (.tmp 58) (.tmp 59)),
 xi 61 (.bin .geq (.tmp 60) (.const (.int .i64 2)))])
 (.cond (.tmp 61) (.seq (.region false [xm 62 7,
 xi 63 (.bin .sub (.tmp 62) (.const (.int .i64 1))),
 xm 9 63])
 (.block 4 (.loop (some [0, 1, 2, 7, 8, 9]) (
 .seq (.seq (.region false [xm 64 9,
 xi 65 (.bin .geq (.tmp 64) (.const (.int .i64 1)))])
 (.cond (.tmp 65) (.skip)
 (.exit 4)))
 (.seq (.block 5 (.seq (.seq (.region true [xm 68 0,
 xm 69 9,
 xi 70 (.indexAddr none 1 (.tmp 68) (.tmp 69)),
 xi 71 (.load false 1 (.tmp 70)),
 xm 72 0,
 xm 73 9,
 xi 74 (.bin .sub (.tmp 73) (.const (.int .i64 1))),
 xi 75 (.indexAddr none 1 (.tmp 72) (.tmp 74)),
 xi 76 (.load false 1 (.tmp 75)),
 xi 77 (.call 159 [(.tmp 71), (.tmp 76)]),
 xi 78 (.un .not (.tmp 77))])
 (.cond (.tmp 78) (.exit 4)
 (.skip)))
 (.region true [xm 79 0,
 xm 80 9,
 xm 81 0,
 xm 82 9,
 xi 83 (.bin .sub (.tmp 82) (.const (.int .i64 1))),
 xm 84 0,
 xm 85 9,
 xi 86 (.bin .sub (.tmp 85) (.const (.int .i64 1))),
 xi 87 (.indexAddr none 1 (.tmp 84) (.tmp 86)),
 xi 88 (.load false 1 (.tmp 87)),
 xm 89 0,
 xm 90 9,
 xi 91 (.indexAddr none 1 (.tmp 89) (.tmp 90)),
 xi 92 (.load false 1 (.tmp 91)),
 xi 93 (.indexAddr none 1 (.tmp 79) (.tmp 80)),
 ⟨none, .store 1 (.tmp 93) (.tmp 88), none, [], false, false⟩,
 xi 94 (.indexAddr none 1 (.tmp 81) (.tmp 83)),
 ⟨none, .store 1 (.tmp 94) (.tmp 92), none, [], false, false⟩])))
 (.region false [xm 66 9,
 xi 67 (.bin .sub (.tmp 66) (.const (.int .i64 1))),
 xm 9 67]))))))
 (.skip)))
 (.seq (.region false [xm 95 2,
 xm 96 7,
 xi 97 (.bin .sub (.tmp 95) (.tmp 96)),
 xi 98 (.bin .geq (.tmp 97) (.const (.int .i64 2)))])
 (.cond (.tmp 98) (.seq (.region false [xm 99 7,
 xi 100 (.bin .add (.tmp 99) (.const (.int .i64 1))),
 xm 10 100])
 (.block 6 (.loop (some [0, 1, 2, 7, 8, 10]) (
 .seq (.seq (.region false [xm 101 10,
 xm 102 2,
 xi 103 (.bin .lss (.tmp 101) (.tmp 102))])
 (.cond (.tmp 103) (.skip)
 (.exit 6)))
 (.seq (.block 7 (.seq (.seq (.region true [xm 106 0,
 xm 107 10,
 xi 108 (.indexAddr none 1 (.tmp 106) (.tmp 107)),
 xi 109 (.load false 1 (.tmp 108)),
 xm 110 0,
 xm 111 10,
 xi 112 (.bin .sub (.tmp 111) (.const (.int .i64 1))),
 xi 113 (.indexAddr none 1 (.tmp 110) (.tmp 112)),
 xi 114 (.load false 1 (.tmp 113)),
 xi 115 (.call 159 [(.tmp 109), (.tmp 114)]),
 xi 116 (.un .not (.tmp 115))])
 (.cond (.tmp 116) (.exit 6)
 (.skip)))
 (.region true [xm 117 0,
 xm 118 10,
 xm 119 0,
 xm 120 10,
 xi 121 (.bin .sub (.tmp 120) (.const (.int .i64 1))),
 xm 122 0,
 xm 123 10,
 xi 124 (.bin .sub (.tmp 123) (.const (.int .i64 1))),
 xi 125 (.indexAddr none 1 (.tmp 122) (.tmp 124)),
 xi 126 (.load false 1 (.tmp 125)),
 xm 127 0,
 xm 128 10,
 xi 129 (.indexAddr none 1 (.tmp 127) (.tmp 128)),
 xi 130 (.load false 1 (.tmp 129)),
 xi 131 (.indexAddr none 1 (.tmp 117) (.tmp 118)),
 ⟨none, .store 1 (.tmp 131) (.tmp 126), none, [], false, false⟩,
 xi 132 (.indexAddr none 1 (.tmp 119) (.tmp 121)),
 ⟨none, .store 1 (.tmp 132) (.tmp 130), none, [], false, false⟩])))
 (.region false [xm 104 10,
 xi 105 (.bin .add (.tmp 104) (.const (.int .i64 1))),
 xm 10 105]))))))
 (.skip)))))))))
 (.region false [xm 15 8,
 xi 16 (.bin .add (.tmp 15) (.const (.int .i64 1))),
 xm 8 16]))))))
 (.seq (.region false [xi 6 (.move (.const (.bool false)))])
 (.ret)))),
 [.tmp 6], .trunc, 133⟩

def ef196 : EFun := ⟨
 .seq (.region false [xi 8 (.move (.const xz))])
 (.seq (.region true [xm 11 0,
 xm 12 1,
 xm 13 0,
 xm 14 3,
 xm 15 0,
 xm 16 3,
 xi 17 (.indexAddr none 1 (.tmp 15) (.tmp 16)),
 xi 18 (.load false 1 (.tmp 17)),
 xm 19 0,
 xm 20 1,
 xi 21 (.indexAddr none 1 (.tmp 19) (.tmp 20)),
 xi 22 (.load false 1 (.tmp 21)),
 xi 23 (.indexAddr none 1 (.tmp 11) (.tmp 12)),
 ⟨none, .store 1 (.tmp 23) (.tmp 18), none, [], false, false⟩,
 xi 24 (.indexAddr none 1 (.tmp 13) (.tmp 14)),
 ⟨none, .store 1 (.tmp 24) (.tmp 22), none, [], false, false⟩])
 (.seq (.region false [xm 25 1,
 xi 26 (.bin .add (.tmp 25) (.const (.int .i64 1))),
 xm 27 2,
 xi 28 (.bin .sub (.tmp 27) (.const (.int .i64 1))),
 xm 9 26,
 xm 10 28])
 (.seq (.block 0 (.loop (some [0, 1, 9, 10]) (
 .block 1 (.seq (.block 2 (.loop (some [0, 1, 9, 10]) (
 .seq (.seq (.region true [xm 29 9,
 xm 30 10,
 xi 31 (.bin .leq (.tmp 29) (.tmp 30)),
 xm 32 31,
 xg 33 (.move (.tmp 0)) 32 true,
 xg 34 (.move (.tmp 1)) 32 true,
 xg 35 (.indexAddr none 1 (.tmp 33) (.tmp 34)) 32 true,
 xg 36 (.load false 1 (.tmp 35)) 32 true,
 xg 37 (.move (.tmp 0)) 32 true,
 xg 38 (.move (.tmp 9)) 32 true,
 xg 39 (.indexAddr none 1 (.tmp 37) (.tmp 38)) 32 true,
 xg 40 (.load false 1 (.tmp 39)) 32 true,
 xg 41 (.call 159 [(.tmp 36), (.tmp 40)]) 32 true,
 xg 42 (.un .not (.tmp 41)) 32 true,
 xi 43 (.pick (.tmp 32) (.tmp 42) (.const (.bool false)))])
 (.cond (.tmp 43) (.skip)
 (.exit 2)))
 (.block 3 (.region false [xm 44 9,
 xi 45 (.bin .add (.tmp 44) (.const (.int .i64 1))),
 xm 9 45])))))
 (.seq (.block 4 (.loop (some [0, 1, 9, 10]) (
 .seq (.seq (.region true [xm 46 9,
 xm 47 10,
 xi 48 (.bin .leq (.tmp 46) (.tmp 47)),
 xm 49 48,
 xg 50 (.move (.tmp 0)) 49 true,
 xg 51 (.move (.tmp 1)) 49 true,
 xg 52 (.indexAddr none 1 (.tmp 50) (.tmp 51)) 49 true,
 xg 53 (.load false 1 (.tmp 52)) 49 true,
 xg 54 (.move (.tmp 0)) 49 true,
 xg 55 (.move (.tmp 10)) 49 true,
 xg 56 (.indexAddr none 1 (.tmp 54) (.tmp 55)) 49 true,
 xg 57 (.load false 1 (.tmp 56)) 49 true,
 xg 58 (.call 159 [(.tmp 53), (.tmp 57)]) 49 true,
 xi 59 (.pick (.tmp 49) (.tmp 58) (.const (.bool false)))])
 (.cond (.tmp 59) (.skip)
 (.exit 4)))
 (.block 5 (.region false [xm 60 10,
 xi 61 (.bin .sub (.tmp 60) (.const (.int .i64 1))),
 xm 10 61])))))
 (.seq (.seq (.region false [xm 62 9,
 xm 63 10,
 xi 64 (.bin .gtr (.tmp 62) (.tmp 63))])
 (.cond (.tmp 64) (.exit 0)
 (.skip)))
 (.seq (.region true [xm 65 0,
 xm 66 9,
 xm 67 0,
 xm 68 10,
 xm 69 0,
 xm 70 10,
 xi 71 (.indexAddr none 1 (.tmp 69) (.tmp 70)),
 xi 72 (.load false 1 (.tmp 71)),
 xm 73 0,
 xm 74 9,
 xi 75 (.indexAddr none 1 (.tmp 73) (.tmp 74)),
 xi 76 (.load false 1 (.tmp 75)),
 xi 77 (.indexAddr none 1 (.tmp 65) (.tmp 66)),
 ⟨none, .store 1 (.tmp 77) (.tmp 72), none, [], false, false⟩,
 xi 78 (.indexAddr none 1 (.tmp 67) (.tmp 68)),
 ⟨none, .store 1 (.tmp 78) (.tmp 76), none, [], false, false⟩])
 (.seq (.region false [xm 79 9,
 xi 80 (.bin .add (.tmp 79) (.const (.int .i64 1))),
 xm 9 80])
 (.region false [xm 81 10,
 xi 82 (.bin .sub (.tmp 81) (.const (.int .i64 1))),
 xm 10 82])))))))))
 (.seq (.region false [xm 83 9,
 xm 8 83])
 (.ret))))),
 [.tmp 8], .trunc, 84⟩

def ef197 : EFun := ⟨
 .seq (.region false [xi 8 (.move (.const xz)),
 xi 9 (.move (.const (.bool false)))])
 (.seq (.region true [xm 12 0,
 xm 13 1,
 xm 14 0,
 xm 15 3,
 xm 16 0,
 xm 17 3,
 xi 18 (.indexAddr none 1 (.tmp 16) (.tmp 17)),
 xi 19 (.load false 1 (.tmp 18)),
 xm 20 0,
 xm 21 1,
 xi 22 (.indexAddr none 1 (.tmp 20) (.tmp 21)),
 xi 23 (.load false 1 (.tmp 22)),
 xi 24 (.indexAddr none 1 (.tmp 12) (.tmp 13)),
 ⟨none, .store 1 (.tmp 24) (.tmp 19), none, [], false, false⟩,
 xi 25 (.indexAddr none 1 (.tmp 14) (.tmp 15)),
 ⟨none, .store 1 (.tmp 25) (.tmp 23), none, [], false, false⟩])
 (.seq (.region false [xm 26 1,
 xi 27 (.bin .add (.tmp 26) (.const (.int .i64 1))),
 xm 28 2,
 xi 29 (.bin .sub (.tmp 28) (.const (.int .i64 1))),
 xm 10 27,
 xm 11 29])
 (.seq (.block 0 (.loop (some [0, 1, 10, 11]) (
 .seq (.seq (.region true [xm 30 10,
 xm 31 11,
 xi 32 (.bin .leq (.tmp 30) (.tmp 31)),
 xm 33 32,
 xg 34 (.move (.tmp 0)) 33 true,
 xg 35 (.move (.tmp 10)) 33 true,
 xg 36 (.indexAddr none 1 (.tmp 34) (.tmp 35)) 33 true,
 xg 37 (.load false 1 (.tmp 36)) 33 true,
 xg 38 (.move (.tmp 0)) 33 true,
 xg 39 (.move (.tmp 1)) 33 true,
 xg 40 (.indexAddr none 1 (.tmp 38) (.tmp 39)) 33 true,
 xg 41 (.load false 1 (.tmp 40)) 33 true,
 xg 42 (.call 159 [(.tmp 37), (.tmp 41)]) 33 true,
 xi 43 (.pick (.tmp 33) (.tmp 42) (.const (.bool false)))])
 (.cond (.tmp 43) (.skip)
 (.exit 0)))
 (.block 1 (.region false [xm 44 10,
 xi 45 (.bin .add (.tmp 44) (.const (.int .i64 1))),
 xm 10 45])))))
 (.seq (.block 2 (.loop (some [0, 1, 10, 11]) (
 .seq (.seq (.region true [xm 46 10,
 xm 47 11,
 xi 48 (.bin .leq (.tmp 46) (.tmp 47)),
 xm 49 48,
 xg 50 (.move (.tmp 0)) 49 true,
 xg 51 (.move (.tmp 11)) 49 true,
 xg 52 (.indexAddr none 1 (.tmp 50) (.tmp 51)) 49 true,
 xg 53 (.load false 1 (.tmp 52)) 49 true,
 xg 54 (.move (.tmp 0)) 49 true,
 xg 55 (.move (.tmp 1)) 49 true,
 xg 56 (.indexAddr none 1 (.tmp 54) (.tmp 55)) 49 true,
 xg 57 (.load false 1 (.tmp 56)) 49 true,
 xg 58 (.call 159 [(.tmp 53), (.tmp 57)]) 49 true,
 xg 59 (.un .not (.tmp 58)) 49 true,
 xi 60 (.pick (.tmp 49) (.tmp 59) (.const (.bool false)))])
 (.cond (.tmp 60) (.skip)
 (.exit 2)))
 (.block 3 (.region false [xm 61 11,
 xi 62 (.bin .sub (.tmp 61) (.const (.int .i64 1))),
 xm 11 62])))))
 (.seq (.seq (.region false [xm 63 10,
 xm 64 11,
 xi 65 (.bin .gtr (.tmp 63) (.tmp 64))])
 (.cond (.tmp 65) (.seq (.region true [xm 66 0,
 xm 67 11,
 xm 68 0,
 xm 69 1,
 xm 70 0,
 xm 71 1,
 xi 72 (.indexAddr none 1 (.tmp 70) (.tmp 71)),
 xi 73 (.load false 1 (.tmp 72)),
 xm 74 0,
 xm 75 11,
 xi 76 (.indexAddr none 1 (.tmp 74) (.tmp 75)),
 xi 77 (.load false 1 (.tmp 76)),
 xi 78 (.indexAddr none 1 (.tmp 66) (.tmp 67)),
 ⟨none, .store 1 (.tmp 78) (.tmp 73), none, [], false, false⟩,
 xi 79 (.indexAddr none 1 (.tmp 68) (.tmp 69)),
 ⟨none, .store 1 (.tmp 79) (.tmp 77), none, [], false, false⟩])
 (.seq (.region false [xm 80 11,
 xm 8 80,
 xi 9 (.move (.const (.bool true)))])
 (.ret)))
 (.skip)))
 (.seq (.region true [xm 81 0,
 xm 82 10,
 xm 83 0,
 xm 84 11,
 xm 85 0,
 xm 86 11,
 xi 87 (.indexAddr none 1 (.tmp 85) (.tmp 86)),
 xi 88 (.load false 1 (.tmp 87)),
 xm 89 0,
 xm 90 10,
 xi 91 (.indexAddr none 1 (.tmp 89) (.tmp 90)),
 xi 92 (.load false 1 (.tmp 91)),
 xi 93 (.indexAddr none 1 (.tmp 81) (.tmp 82)),
 ⟨none, .store 1 (.tmp 93) (.tmp 88), none, [], false, false⟩,
 xi 94 (.indexAddr none 1 (.tmp 83) (.tmp 84)),
 ⟨none, .store 1 (.tmp 94) (.tmp 92), none, [], false, false⟩])
 (.seq (.region false [xm 95 10,
 xi 96 (.bin .add (.tmp 95) (.const (.int .i64 1))),
 xm 10 96])
 (.seq (.region false [xm 97 11,
 xi 98 (.bin .sub (.tmp 97) (.const (.int .i64 1))),
 xm 11 98])
 (.seq (.block 4 (.loop (some [0, 1, 10, 11]) (
 .block 5 (.seq (.block 6 (.loop (some [0, 1, 10, 11]) (
 .seq (.seq (.region true [xm 99 10,
 xm 100 11,
 xi 101 (.bin .leq (.tmp 99) (.tmp 100)),
 xm 102 101,
 xg 103 (.move (.tmp 0)) 102 true,
 xg 104 (.move (.tmp 10)) 102 true,
 xg 105 (.indexAddr none 1 (.tmp 103) (.tmp 104)) 102 true,
 xg 106 (.load false 1 (.tmp 105)) 102 true,
 xg 107 (.move (.tmp 0)) 102 true,
 xg 108 (.move (.tmp 1)) 102 true,
 xg 109 (.indexAddr none 1 (.tmp 107) (.tmp 108)) 102 true,
 xg 110 (.load false 1 (.tmp 109)) 102 true,
 xg 111 (.call 159 [(.tmp 106), (.tmp 110)]) 102 true,
 xi 112 (.pick (.tmp 102) (.tmp 111) (.const (.bool false)))])
 (.cond (.tmp 112) (.skip)
 (.exit 6)))
 (.block 7 (.region false [xm 113 10,
 xi 114 (.bin .add (.tmp 113) (.const (.int .i64 1))),
 xm 10 114])))))
 (.seq (.block 8 (.loop (some [0, 1, 10, 11]) (
 .seq (.seq (.region true [xm 115 10,
 xm 116 11,
 xi 117 (.bin .leq (.tmp 115) (.tmp 116)),
 xm 118 117,
 xg 119 (.move (.tmp 0)) 118 true,
 xg 120 (.move (.tmp 11)) 118 true,
 xg 121 (.indexAddr none 1 (.tmp 119) (.tmp 120)) 118 true,
 xg 122 (.load false 1 (.tmp 121)) 118 true,
 xg 123 (.move (.tmp 0)) 118 true,
 xg 124 (.move (.tmp 1)) 118 true,
 xg 125 (.indexAddr none 1 (.tmp 123) (.tmp 124)) 118 true,
 xg 126 (.load false 1 (.tmp 125)) 118 true,
 xg 127 (.call 159 [(.tmp 122), (.tmp 126)]) 118 true,
 xg 128 (.un .not (.tmp 127)) 118 true,
 xi 129 (.pick (.tmp 118) (.tmp 128) (.const (.bool false)))])
 (.cond (.tmp 129) (.skip)
 (.exit 8)))
 (.block 9 (.region false [xm 130 11,
 xi 131 (.bin .sub (.tmp 130) (.const (.int .i64 1))),
 xm 11 131])))))
 (.seq (.seq (.region false [xm 132 10,
 xm 133 11,
 xi 134 (.bin .gtr (.tmp 132) (.tmp 133))])
 (.cond (.tmp 134) (.exit 4)
 (.skip)))
 (.seq (.region true [xm 135 0,
 xm 136 10,
 xm 137 0,
 xm 138 11,
 xm 139 0,
 xm 140 11,
 xi 141 (.indexAddr none 1 (.tmp 139) (.tmp 140)),
 xi 142 (.load false 1 (.tmp 141)),
 xm 143 0,
 xm 144 10,
 xi 145 (.indexAddr none 1 (.tmp 143) (.tmp 144)),
 xi 146 (.load false 1 (.tmp 145)),
 xi 147 (.indexAddr none 1 (.tmp 135) (.tmp 136)),
 ⟨none, .store 1 (.tmp 147) (.tmp 142), none, [], false, false⟩,
 xi 148 (.indexAddr none 1 (.tmp 137) (.tmp 138)),
 ⟨none, .store 1 (.tmp 148) (.tmp 146), none, [], false, false⟩])
 (.seq (.region false [xm 149 10,
 xi 150 (.bin .add (.tmp 149) (.const (.int .i64 1))),
 xm 10 150])
 (.region false [xm 151 11,
 xi 152 (.bin .sub (.tmp 151) (.const (.int .i64 1))),
 xm 11 152])))))))))
 (.seq (.region true [xm 153 0,
 xm 154 11,
 xm 155 0,
 xm 156 1,
 xm 157 0,
 xm 158 1,
 xi 159 (.indexAddr none 1 (.tmp 157) (.tmp 158)),
 xi 160 (.load false 1 (.tmp 159)),
 xm 161 0,
 xm 162 11,
 xi 163 (.indexAddr none 1 (.tmp 161) (.tmp 162)),
 xi 164 (.load false 1 (.tmp 163)),
 xi 165 (.indexAddr none 1 (.tmp 153) (.tmp 154)),
 ⟨none, .store 1 (.tmp 165) (.tmp 160), none, [], false, false⟩,
 xi 166 (.indexAddr none 1 (.tmp 155) (.tmp 156)),
 ⟨none, .store 1 (.tmp 166) (.tmp 164), none, [], false, false⟩])
 (.seq (.region false [xm 167 11,
 xm 8 167,
 xi 9 (.move (.const (.bool false)))])
 (.ret)))))))))))),
 [.tmp 8, .tmp 9], .trunc, 168⟩

def ef198 : EFun := ⟨
 .seq (.region false [xi 2 (.move (.const xz))])
 (.seq (.seq (.region false [xm 3 0,
 xi 4 (.bin .geq (.tmp 3) (.const (.int .u32 65536)))])
 (.cond (.tmp 4) (.seq (.region false [xm 5 0,
 xi 6 (.bin .shr (.tmp 5) (.const (.int .u64 16))),
 xm 0 6])
 (.region false [xi 2 (.move (.const (.int .i64 16)))]))
 (.skip)))
 (.seq (.seq (.region false [xm 7 0,
 xi 8 (.bin .geq (.tmp 7) (.const (.int .u32 256)))])
 (.cond (.tmp 8) (.seq (.region false [xm 9 0,
 xi 10 (.bin .shr (.tmp 9) (.const (.int .u64 8))),
 xm 0 10])
 (.region false [xm 11 2,
 xi 12 (.bin .add (.tmp 11) (.const (.int .i64 8))),
 xm 2 12]))
 (.skip)))
 (.seq (.region false [xm 13 2,
 xm 14 0,
 xi 15 (.conv .u8 (.tmp 14)),
 xi 16 (.strIndex (.const (.string ⟨#[0, 1, 2, 2, 3, 3, 3, 3, 4, 4, 4, 4, 4, 4, 4, 4, 5, 5, 5, 5, 5, 5, 5, 5, 5, 5, 5, 5, 5, 5, 5, 5, 6, 6, 6, 6, 6, 6, 6, 6, 6, 6, 6, 6, 6, 6, 6, 6, 6, 6, 6, 6, 6, 6, 6, 6, 6, 6, 6, 6, 6, 6, 6, 6, 7, 7, 7, 7, 7, 7, 7, 7, 7, 7, 7, 7, 7, 7, 7, 7, 7, 7, 7, 7, 7, 7, 7, 7, 7, 7, 7, 7, 7, 7, 7, 7, 7, 7, 7, 7, 7, 7, 7, 7, 7, 7, 7, 7, 7, 7, 7, 7, 7, 7, 7, 7, 7, 7, 7, 7, 7, 7, 7, 7, 7, 7, 7, 7, 8, 8, 8, 8, 8, 8, 8, 8, 8, 8, 8, 8, 8, 8, 8, 8, 8, 8, 8, 8, 8, 8, 8, 8, 8, 8, 8, 8, 8, 8, 8, 8, 8, 8, 8, 8, 8, 8, 8, 8, 8, 8, 8, 8, 8, 8, 8, 8, 8, 8, 8, 8, 8, 8, 8, 8, 8, 8, 8, 8, 8, 8, 8, 8, 8, 8, 8, 8, 8, 8, 8, 8, 8, 8, 8, 8, 8, 8, 8, 8, 8, 8, 8, 8, 8, 8, 8, 8, 8, 8, 8, 8, 8, 8, 8, 8, 8, 8, 8, 8, 8, 8, 8, 8, 8, 8, 8, 8, 8, 8, 8, 8, 8, 8, 8, 8, 8, 8, 8, 8, 8, 8, 8, 8, 8, 8, 8, 8]⟩)) (.tmp 15)),
 xi 17 (.conv .i64 (.tmp 16)),
 xi 18 (.bin .add (.tmp 13) (.tmp 17)),
 xm 2 18])
 (.ret)))),
 [.tmp 2], .pure, 19⟩

def ef199 : EFun := ⟨
 .seq (.region false [xi 2 (.move (.const xz))])
 (.seq (.seq (.region false [xm 3 0,
 xi 4 (.bin .geq (.tmp 3) (.const (.int .u64 4294967296)))])
 (.cond (.tmp 4) (.seq (.region false [xm 5 0,
 xi 6 (.bin .shr (.tmp 5) (.const (.int .u64 32))),
 xm 0 6])
 (.region false [xi 2 (.move (.const (.int .i64 32)))]))
 (.skip)))
 (.seq (.seq (.region false [xm 7 0,
 xi 8 (.bin .geq (.tmp 7) (.const (.int .u64 65536)))])
 (.cond (.tmp 8) (.seq (.region false [xm 9 0,
 xi 10 (.bin .shr (.tmp 9) (.const (.int .u64 16))),
 xm 0 10])
 (.region false [xm 11 2,
 xi 12 (.bin .add (.tmp 11) (.const (.int .i64 16))),
 xm 2 12]))
 (.skip)))
 (.seq (.seq (.region false [xm 13 0,
 xi 14 (.bin .geq (.tmp 13) (.const (.int .u64 256)))])
 (.cond (.tmp 14) (.seq (.region false [xm 15 0,
 xi 16 (.bin .shr (.tmp 15) (.const (.int .u64 8))),
 xm 0 16])
 (.region false [xm 17 2,
 xi 18 (.bin .add (.tmp 17) (.const (.int .i64 8))),
 xm 2 18]))
 (.skip)))
 (.seq (.region false [xm 19 2,
 xm 20 0,
 xi 21 (.conv .u8 (.tmp 20)),
 xi 22 (.strIndex (.const (.string ⟨#[0, 1, 2, 2, 3, 3, 3, 3, 4, 4, 4, 4, 4, 4, 4, 4, 5, 5, 5, 5, 5, 5, 5, 5, 5, 5, 5, 5, 5, 5, 5, 5, 6, 6, 6, 6, 6, 6, 6, 6, 6, 6, 6, 6, 6, 6, 6, 6, 6, 6, 6, 6, 6, 6, 6, 6, 6, 6, 6, 6, 6, 6, 6, 6, 7, 7, 7, 7, 7, 7, 7, 7, 7, 7, 7, 7, 7, 7, 7, 7, 7, 7, 7, 7, 7, 7, 7, 7, 7, 7, 7, 7, 7, 7, 7, 7, 7, 7, 7, 7, 7, 7, 7, 7, 7, 7, 7, 7, 7, 7, 7, 7, 7, 7, 7, 7, 7, 7, 7, 7, 7, 7, 7, 7, 7, 7, 7, 7, 8, 8, 8, 8, 8, 8, 8, 8, 8, 8, 8, 8, 8, 8, 8, 8, 8, 8, 8, 8, 8, 8, 8, 8, 8, 8, 8, 8, 8, 8, 8, 8, 8, 8, 8, 8, 8, 8, 8, 8, 8, 8, 8, 8, 8, 8, 8, 8, 8, 8, 8, 8, 8, 8, 8, 8, 8, 8, 8, 8, 8, 8, 8, 8, 8, 8, 8, 8, 8, 8, 8, 8, 8, 8, 8, 8, 8, 8, 8, 8, 8, 8, 8, 8, 8, 8, 8, 8, 8, 8, 8, 8, 8, 8, 8, 8, 8, 8, 8, 8, 8, 8, 8, 8, 8, 8, 8, 8, 8, 8, 8, 8, 8, 8, 8, 8, 8, 8, 8, 8, 8, 8, 8, 8, 8, 8, 8, 8]⟩)) (.tmp 21)),
 xi 23 (.conv .i64 (.tmp 22)),
 xi 24 (.bin .add (.tmp 19) (.tmp 23)),
 xm 2 24])
 (.ret))))),
 [.tmp 2], .pure, 25⟩

def ef200 : EFun := ⟨
 .seq (.region false [xi 2 (.move (.const (.bool false)))])
 (.seq (.region false [xm 3 0,
 xm 4 0,
 xi 5 (.bin .neq (.tmp 3) (.tmp 4)),
 xm 2 5])
 (.ret)),
 [.tmp 2], .pure, 6⟩

def ef218 : EFun := ⟨
 .seq (.region false [xi 4 (.move (.const xz))])
 (.seq (.block 0 (.loop (some [0, 1]) (
 .seq (.seq (.region false [xm 5 1,
 xi 6 (.bin .neq (.tmp 5) (.const xz))])
 (.cond (.tmp 6) (.skip)
 (.exit 0)))
 (.block 1 (.region true [xm 7 1,
 xm 8 0,
 xm 9 1,
 xi 10 (.bin .rem (.tmp 8) (.tmp 9)),
 xm 0 7,
 xm 1 10])))))
 (.seq (.seq (.region false [xm 11 0,
 xi 12 (.bin .lss (.tmp 11) (.const xz))])
 (.cond (.tmp 12) (.seq (.region false [xm 13 0,
 xi 14 (.un .neg (.tmp 13)),
 xm 4 14])
 (.ret))
 (.skip)))
 (.seq (.region false [xm 15 0,
 xm 4 15])
 (.ret)))),
 [.tmp 4], .pure, 16⟩

def ef219 : EFun := ⟨
 .seq (.region false [xi 4 (.move (.const (.int .u64 0))),
 xi 5 (.move (.const (.int .u64 0)))])
 (.seq (.region false [xm 14 0,
 xi 15 (.bin .and (.tmp 14) (.const (.int .u64 4294967295))),
 xm 6 15])
 (.seq (.region false [xm 16 0,
 xi 17 (.bin .shr (.tmp 16) (.const (.int .u64 32))),
 xm 7 17])
 (.seq (.region false [xm 18 1,
 xi 19 (.bin .and (.tmp 18) (.const (.int .u64 4294967295))),
 xm 8 19])
 (.seq (.region false [xm 20 1,
 xi 21 (.bin .shr (.tmp 20) (.const (.int .u64 32))),
 xm 9 21])
 (.seq (.region false [xm 22 6,
 xm 23 8,
 xi 24 (.bin .mul (.tmp 22) (.tmp 23)),
 xm 10 24])
 (.seq (.region false [xm 25 7,
 xm 26 8,
 xi 27 (.bin .mul (.tmp 25) (.tmp 26)),
 xm 28 10,
 xi 29 (.bin .shr (.tmp 28) (.const (.int .u64 32))),
 xi 30 (.bin .add (.tmp 27) (.tmp 29)),
 xm 11 30])
 (.seq (.region false [xm 31 11,
 xi 32 (.bin .and (.tmp 31) (.const (.int .u64 4294967295))),
 xm 12 32])
 (.seq (.region false [xm 33 11,
 xi 34 (.bin .shr (.tmp 33) (.const (.int .u64 32))),
 xm 13 34])
 (.seq (.region false [xm 35 12,
 xm 36 6,
 xm 37 9,
 xi 38 (.bin .mul (.tmp 36) (.tmp 37)),
 xi 39 (.bin .add (.tmp 35) (.tmp 38)),
 xm 12 39])
 (.seq (.region false [xm 40 7,
 xm 41 9,
 xi 42 (.bin .mul (.tmp 40) (.tmp 41)),
 xm 43 13,
 xi 44 (.bin .add (.tmp 42) (.tmp 43)),
 xm 45 12,
 xi 46 (.bin .shr (.tmp 45) (.const (.int .u64 32))),
 xi 47 (.bin .add (.tmp 44) (.tmp 46)),
 xm 4 47])
 (.seq (.region false [xm 48 0,
 xm 49 1,
 xi 50 (.bin .mul (.tmp 48) (.tmp 49)),
 xm 5 50])
 (.ret)))))))))))),
 [.tmp 4, .tmp 5], .pure, 51⟩

def ef220 : EFun := ⟨
 .seq (.region false [xi 4 (.move (.const (.slice none 0 0)))])
 (.seq (.region false [xm 13 0,
 xi 14 (.len false (.tmp 13)),
 xi 15 (.bin .add (.tmp 14) (.const (.int .i64 1))),
 xi 16 (.makeSlice 1 8 [(.int .u64 0)] (.const xz) (.tmp 15)),
 xm 5 16])
 (.seq (.region false [xi 6 (.move (.const (.int .u64 0)))])
 (.seq (.seq (.region false [xm 17 0,
 xi 18 (.len false (.tmp 17)),
 xi 19 (.move (.const xz))])
 (.block 0 (.loop (some [1, 5, 6, 17, 18, 19]) (
 .seq (.region false [xi 20 (.bin .lss (.tmp 19) (.tmp 18))])
 (.seq (.cond (.tmp 20) (.skip)
 (.exit 0))
 (.seq (.block 1 (.seq (.region false [xi 21 (.indexAddr none 1 (.tmp 17) (.tmp 19)),
 xi 22 (.load false 1 (.tmp 21)),
 xm 8 22])
 (.seq (.region false [xm 24 8,
 xm 25 1,
 xi 26 (.call 219 [(.tmp 24), (.tmp 25)]),
 xm 23 26,
 xi 27 (.extract (.tmp 23) 0),
 xi 28 (.extract (.tmp 23) 1),
 xm 9 27,
 xm 10 28])
 (.seq (.region false [xm 30 10,
 xm 31 6,
 xi 32 (.add64 (.tmp 30) (.tmp 31) (.const (.int .u64 0))),
 xm 29 32,
 xi 33 (.extract (.tmp 29) 0),
 xi 34 (.extract (.tmp 29) 1),
 xm 11 33,
 xm 12 34])
 (.seq (.region false [xm 35 5,
 xm 36 11,
 xi 37 (.buildSlice 1 1 [(.int .u64 0)] [(0, 1, (.tmp 36))]),
 xi 38 (.append 1 8 (.tmp 35) (.tmp 37)),
 xm 5 38])
 (.region false [xm 39 9,
 xm 40 12,
 xi 41 (.bin .add (.tmp 39) (.tmp 40)),
 xm 6 41]))))))
 (.region false [xi 42 (.bin .add (.tmp 19) (.const (.int .i64 1))),
 xm 19 42])))))))
 (.seq (.seq (.region false [xm 43 6,
 xi 44 (.bin .gtr (.tmp 43) (.const (.int .u64 0)))])
 (.cond (.tmp 44) (.region false [xm 45 5,
 xm 46 6,
 xi 47 (.buildSlice 1 1 [(.int .u64 0)] [(0, 1, (.tmp 46))]),
 xi 48 (.append 1 8 (.tmp 45) (.tmp 47)),
 xm 5 48])
 (.skip)))
 (.seq (.region false [xm 49 5,
 xm 4 49])
 (.ret)))))),
 [.tmp 4], .pure, 50⟩

def ef221 : EFun := ⟨
 .seq (.region false [xi 1 (.box (.tmp 0)),
 xi 2 (.move (.const xz))])
 (.seq (.block 0 (.seq (.region false [xi 4 (.fieldAddr 0 (.tmp 1)),
 xi 5 (.load false 1 (.tmp 4)),
 xi 6 (.call 180 [(.tmp 5), (.const (.int .i64 (-1000000000000000))), (.const (.int .i64 1000000000000000))]),
 xi 7 (.un .not (.tmp 6)),
 xm 8 7,
 xg 9 (.fieldAddr 1 (.tmp 1)) 8 false,
 xg 10 (.load false 1 (.tmp 9)) 8 false,
 xg 11 (.call 180 [(.tmp 10), (.const (.int .i64 (-1000000000000000))), (.const (.int .i64 1000000000000000))]) 8 false,
 xg 12 (.un .not (.tmp 11)) 8 false,
 xi 13 (.pick (.tmp 8) (.const (.bool true)) (.tmp 12)),
 xm 3 13])
 (.cond (.tmp 3) (.seq (.region false [xi 2 (.move (.const (.int .i64 2)))])
 (.ret))
 (.seq (.region false [xi 15 (.fieldAddr 0 (.tmp 1)),
 xi 16 (.load false 1 (.tmp 15)),
 xi 17 (.fieldAddr 1 (.tmp 1)),
 xi 18 (.load false 1 (.tmp 17)),
 xi 19 (.bin .gtr (.tmp 16) (.tmp 18)),
 xm 14 19])
 (.cond (.tmp 14) (.seq (.region false [xi 2 (.move (.const (.int .i64 9)))])
 (.ret))
 (.skip))))))
 (.seq (.region false [xi 2 (.move (.const xz))])
 (.ret))),
 [.tmp 2], .pure, 20⟩

def ef222 : EFun := ⟨
 .seq (.region false [xi 2 (.move (.const xz)),
 xi 3 (.move (.const xz))])
 (.seq (.region false [xm 4 0,
 xi 5 (.bin .add (.tmp 4) (.const (.int .i64 9))),
 xi 6 (.bin .rem (.tmp 5) (.const (.int .i64 12))),
 xm 7 0,
 xi 8 (.bin .add (.tmp 7) (.const (.int .i64 9))),
 xi 9 (.bin .quo (.tmp 8) (.const (.int .i64 12))),
 xm 2 6,
 xm 3 9])
 (.ret)),
 [.tmp 2, .tmp 3], .pure, 10⟩

def ef223 : EFun := ⟨
 .seq (.region false [xm 10 1,
 xm 8 10])
 (.block 0 (.loop (some [0, 2, 3, 8]) (
 .block 1 (.seq (.region false [xm 11 8,
 xi 12 (.bin .mul (.const (.int .i64 2)) (.tmp 11)),
 xi 13 (.bin .add (.tmp 12) (.const (.int .i64 1))),
 xm 9 13])
 (.seq (.seq (.region false [xm 14 9,
 xm 15 2,
 xi 16 (.bin .geq (.tmp 14) (.tmp 15))])
 (.cond (.tmp 16) (.exit 0)
 (.skip)))
 (.seq (.seq (.region true [xm 17 9,
 xi 18 (.bin .add (.tmp 17) (.const (.int .i64 1))),
 xm 19 2,
 xi 20 (.bin .lss (.tmp 18) (.tmp 19)),
 xm 21 20,
 xg 22 (.move (.tmp 0)) 21 true,
 xg 23 (.move (.tmp 3)) 21 true,
 xg 24 (.move (.tmp 9)) 21 true,
 xg 25 (.bin .add (.tmp 23) (.tmp 24)) 21 true,
 xg 26 (.indexAddr none 1 (.tmp 22) (.tmp 25)) 21 true,
 xg 27 (.load false 1 (.tmp 26)) 21 true,
 xg 28 (.move (.tmp 0)) 21 true,
 xg 29 (.move (.tmp 3)) 21 true,
 xg 30 (.move (.tmp 9)) 21 true,
 xg 31 (.bin .add (.tmp 29) (.tmp 30)) 21 true,
 xg 32 (.bin .add (.tmp 31) (.const (.int .i64 1))) 21 true,
 xg 33 (.indexAddr none 1 (.tmp 28) (.tmp 32)) 21 true,
 xg 34 (.load false 1 (.tmp 33)) 21 true,
 xg 35 (.call 159 [(.tmp 27), (.tmp 34)]) 21 true,
 xi 36 (.pick (.tmp 21) (.tmp 35) (.const (.bool false)))])
 (.cond (.tmp 36) (.region false [xm 37 9,
 xi 38 (.bin .add (.tmp 37) (.const (.int .i64 1))),
 xm 9 38])
 (.skip)))
 (.seq (.seq (.region true [xm 39 0,
 xm 40 3,
 xm 41 8,
 xi 42 (.bin .add (.tmp 40) (.tmp 41)),
 xi 43 (.indexAddr none 1 (.tmp 39) (.tmp 42)),
 xi 44 (.load false 1 (.tmp 43)),
 xm 45 0,
 xm 46 3,
 xm 47 9,
 xi 48 (.bin .add (.tmp 46) (.tmp 47)),
 xi 49 (.indexAddr none 1 (.tmp 45) (.tmp 48)),
 xi 50 (.load false 1 (.tmp 49)),
 xi 51 (.call 159 [(.tmp 44), (.tmp 50)]),
 xi 52 (.un .not (.tmp 51))])
 (.cond (.tmp 52) (.ret)
 (.skip)))
 (.seq (.region true [xm 53 0,
 xm 54 3,
 xm 55 8,
 xi 56 (.bin .add (.tmp 54) (.tmp 55)),
 xm 57 0,
 xm 58 3,
 xm 59 9,
 xi 60 (.bin .add (.tmp 58) (.tmp 59)),
 xm 61 0,
 xm 62 3,
 xm 63 9,
 xi 64 (.bin .add (.tmp 62) (.tmp 63)),
 xi 65 (.indexAddr none 1 (.tmp 61) (.tmp 64)),
 xi 66 (.load false 1 (.tmp 65)),
 xm 67 0,
 xm 68 3,
 xm 69 8,
 xi 70 (.bin .add (.tmp 68) (.tmp 69)),
 xi 71 (.indexAddr none 1 (.tmp 67) (.tmp 70)),
 xi 72 (.load false 1 (.tmp 71)),
 xi 73 (.indexAddr none 1 (.tmp 53) (.tmp 56)),
 ⟨none, .store 1 (.tmp 73) (.tmp 66), none, [], false, false⟩,
 xi 74 (.indexAddr none 1 (.tmp 57) (.tmp 60)),
 ⟨none, .store 1 (.tmp 74) (.tmp 72), none, [], false, false⟩])
 (.region false [xm 75 9,
 xm 8 75]))))))))),
 [], .trunc, 76⟩

def ef224 : EFun := ⟨
 .seq (.region false [xi 2 (.move (.const (.int .u64 0)))])
 (.seq (.region false [xm 3 0,
 xi 4 (.conv .u64 (.tmp 3)),
 xi 5 (.call 157 [(.tmp 4)]),
 xi 6 (.bin .shl (.const (.int .u64 1)) (.tmp 5)),
 xm 2 6])
 (.ret)),
 [.tmp 2], .pure, 7⟩

def ef225 : EFun := ⟨
 .seq (.region false [xi 2 (.move (.const (.int .u64 0)))])
 (.seq (.region true [xm 3 0,
 xi 4 (.nilCheck (.tmp 3)),
 xi 5 (.load false 1 (.tmp 4)),
 xm 6 0,
 xi 7 (.nilCheck (.tmp 6)),
 xi 8 (.load false 1 (.tmp 7)),
 xi 9 (.bin .shl (.tmp 8) (.const (.int .u64 13))),
 xi 10 (.bin .xor (.tmp 5) (.tmp 9)),
 xi 11 (.nilCheck (.tmp 3)),
 ⟨none, .store 1 (.tmp 11) (.tmp 10), none, [], false, false⟩])
 (.seq (.region true [xm 12 0,
 xi 13 (.nilCheck (.tmp 12)),
 xi 14 (.load false 1 (.tmp 13)),
 xm 15 0,
 xi 16 (.nilCheck (.tmp 15)),
 xi 17 (.load false 1 (.tmp 16)),
 xi 18 (.bin .shr (.tmp 17) (.const (.int .u64 7))),
 xi 19 (.bin .xor (.tmp 14) (.tmp 18)),
 xi 20 (.nilCheck (.tmp 12)),
 ⟨none, .store 1 (.tmp 20) (.tmp 19), none, [], false, false⟩])
 (.seq (.region true [xm 21 0,
 xi 22 (.nilCheck (.tmp 21)),
 xi 23 (.load false 1 (.tmp 22)),
 xm 24 0,
 xi 25 (.nilCheck (.tmp 24)),
 xi 26 (.load false 1 (.tmp 25)),
 xi 27 (.bin .shl (.tmp 26) (.const (.int .u64 17))),
 xi 28 (.bin .xor (.tmp 23) (.tmp 27)),
 xi 29 (.nilCheck (.tmp 21)),
 ⟨none, .store 1 (.tmp 29) (.tmp 28), none, [], false, false⟩])
 (.seq (.region false [xm 30 0,
 xi 31 (.nilCheck (.tmp 30)),
 xi 32 (.load false 1 (.tmp 31)),
 xm 2 32])
 (.ret))))),
 [.tmp 2], .trunc, 33⟩

def ef226 : EFun := ⟨
 .seq (.region false [xi 6 (.move (.const xz))])
 (.seq (.region false [xm 7 0,
 xm 8 1,
 xi 9 (.bin .sub (.tmp 8) (.const (.int .i64 1))),
 xm 10 1,
 xm 11 1,
 xi 12 (.bin .add (.tmp 11) (.const (.int .i64 1))),
 xm 13 2,
 xi 14 (.call 227 [(.tmp 7), (.tmp 9), (.tmp 10), (.tmp 12), (.tmp 13)]),
 xm 6 14])
 (.ret)),
 [.tmp 6], .trunc, 15⟩

end Go.Abs.Z
