/- The functions, compiled for the abstract evaluator. Written by wip/abs/Print.lean. -/
import Derived.Test.YtoloaempiiedgaaGreatDoorAbsQ0
set_option linter.unusedSimpArgs false
set_option linter.unusedVariables false
set_option maxRecDepth 100000
set_option maxHeartbeats 0
namespace Go.Abs.Q
open Go Go.Abs
def ef125 : EFun := ⟨
 .seq (.region false [xi 1 (.box (.tmp 0)),
 xi 2 (.push [xz, xz]),
 xi 3 (.move (.const xz))])
 (.seq (.seq (.region false [xi 7 (.fieldAddr 11 (.tmp 1)),
 xi 8 (.fieldAddr 0 (.tmp 7)),
 xi 9 (.load false 1 (.tmp 8)),
 xi 10 (.bin .eql (.tmp 9) (.const xz))])
 (.cond (.tmp 10) (.seq (.region false [xi 11 (.build [xz, xz] []),
 ⟨none, .store 2 (.tmp 2) (.tmp 11), none, [], false, false⟩,
 xi 3 (.move (.const (.int .i64 11)))])
 (.ret))
 (.skip)))
 (.seq (.region false [xi 12 (.fieldAddr 4 (.tmp 1)),
 xi 13 (.fieldAddr 1 (.tmp 12)),
 xi 14 (.load false 1 (.tmp 13)),
 xi 15 (.bin .mul (.const (.int .i64 1000)) (.tmp 14)),
 xi 16 (.fieldAddr 4 (.tmp 1)),
 xi 17 (.fieldAddr 1 (.tmp 16)),
 xi 18 (.load false 1 (.tmp 17)),
 xi 19 (.bin .mul (.tmp 15) (.tmp 18)),
 xm 4 19])
 (.seq (.region false [xm 20 4,
 xm 21 4,
 xi 22 (.fieldAddr 4 (.tmp 1)),
 xi 23 (.fieldAddr 0 (.tmp 22)),
 xi 24 (.load false 1 (.tmp 23)),
 xi 25 (.call 187 [(.tmp 20), (.tmp 21), (.tmp 24)]),
 xi 5 (.push [xz, xz]),
 ⟨none, .store 2 (.tmp 5) (.tmp 25), none, [], false, false⟩])
 (.seq (.region false [xi 26 (.fieldAddr 0 (.tmp 5)),
 xi 27 (.load false 1 (.tmp 26)),
 xi 28 (.fieldAddr 0 (.tmp 5)),
 xi 29 (.load false 1 (.tmp 28)),
 xi 30 (.bin .mul (.tmp 27) (.tmp 29)),
 xi 31 (.fieldAddr 1 (.tmp 5)),
 xi 32 (.load false 1 (.tmp 31)),
 xi 33 (.fieldAddr 1 (.tmp 5)),
 xi 34 (.load false 1 (.tmp 33)),
 xi 35 (.bin .mul (.tmp 32) (.tmp 34)),
 xi 36 (.call 187 [(.tmp 30), (.tmp 35), (.const (.int .i64 1000))]),
 xi 6 (.push [xz, xz]),
 ⟨none, .store 2 (.tmp 6) (.tmp 36), none, [], false, false⟩])
 (.seq (.region false [xi 37 (.fieldAddr 0 (.tmp 1)),
 xi 38 (.fieldAddr 3 (.tmp 37)),
 xi 39 (.load false 1 (.tmp 38)),
 xi 40 (.fieldAddr 0 (.tmp 6)),
 xi 41 (.load false 1 (.tmp 40)),
 xi 42 (.bin .mul (.tmp 39) (.tmp 41)),
 xi 43 (.fieldAddr 11 (.tmp 1)),
 xi 44 (.fieldAddr 1 (.tmp 43)),
 xi 45 (.load false 1 (.tmp 44)),
 xi 46 (.bin .mul (.const (.int .i64 1000)) (.tmp 45)),
 xi 47 (.fieldAddr 0 (.tmp 1)),
 xi 48 (.fieldAddr 3 (.tmp 47)),
 xi 49 (.load false 1 (.tmp 48)),
 xi 50 (.fieldAddr 1 (.tmp 6)),
 xi 51 (.load false 1 (.tmp 50)),
 xi 52 (.bin .mul (.tmp 49) (.tmp 51)),
 xi 53 (.fieldAddr 11 (.tmp 1)),
 xi 54 (.fieldAddr 0 (.tmp 53)),
 xi 55 (.load false 1 (.tmp 54)),
 xi 56 (.bin .mul (.const (.int .i64 1000)) (.tmp 55)),
 xi 57 (.call 188 [(.tmp 42), (.tmp 46), (.tmp 52), (.tmp 56)]),
 ⟨none, .store 2 (.tmp 2) (.tmp 57), none, [], false, false⟩,
 xi 3 (.move (.const xz))])
 (.ret)))))),
 [.cell 2 true 2, .tmp 3], .pure, 58⟩

def ef126 : EFun := ⟨
 .seq (.region false [xi 3 (.box (.tmp 1)),
 xi 4 (.move (.const (.slice none 0 0))),
 xi 5 (.move (.const xz))])
 (.seq (.seq (.region false [xm 13 0,
 xi 14 (.len false (.tmp 13)),
 xi 15 (.bin .gtr (.tmp 14) (.const (.int .i64 50)))])
 (.cond (.tmp 15) (.seq (.region false [xi 4 (.move (.const (.slice none 0 0))),
 xi 5 (.move (.const (.int .i64 8)))])
 (.ret))
 (.skip)))
 (.seq (.seq (.region false [xm 16 0,
 xi 17 (.len false (.tmp 16)),
 xi 18 (.move (.const xz))])
 (.block 0 (.loop (some [0, 3, 16, 17, 18]) (
 .seq (.region false [xi 19 (.bin .lss (.tmp 18) (.tmp 17))])
 (.seq (.cond (.tmp 19) (.skip)
 (.exit 0))
 (.seq (.block 1 (.seq (.region false [xi 20 (.indexAddr none 2 (.tmp 16) (.tmp 18)),
 xi 21 (.load true 2 (.tmp 20)),
 xi 7 (.push [xz, xz]),
 ⟨none, .store 2 (.tmp 7) (.tmp 21), none, [], false, false⟩])
 (.seq (.region false [xi 22 (.fieldAddr 0 (.tmp 7)),
 xi 23 (.load false 1 (.tmp 22)),
 xi 24 (.bin .lss (.tmp 23) (.const (.int .i64 1000))),
 xm 25 24,
 xg 26 (.fieldAddr 0 (.tmp 7)) 25 false,
 xg 27 (.load false 1 (.tmp 26)) 25 false,
 xg 28 (.fieldAddr 1 (.tmp 7)) 25 false,
 xg 29 (.load false 1 (.tmp 28)) 25 false,
 xg 30 (.bin .gtr (.tmp 27) (.tmp 29)) 25 false,
 xi 31 (.pick (.tmp 25) (.const (.bool true)) (.tmp 30)),
 xm 32 31,
 xg 33 (.fieldAddr 1 (.tmp 7)) 32 false,
 xg 34 (.load false 1 (.tmp 33)) 32 false,
 xg 35 (.bin .gtr (.tmp 34) (.const (.int .i64 300000))) 32 false,
 xi 36 (.pick (.tmp 32) (.const (.bool true)) (.tmp 35))])
 (.cond (.tmp 36) (.seq (.region false [xi 4 (.move (.const (.slice none 0 0))),
 xi 5 (.move (.const (.int .i64 2)))])
 (.ret))
 (.skip)))))
 (.region false [xi 37 (.bin .add (.tmp 18) (.const (.int .i64 1))),
 xm 18 37])))))))
 (.seq (.seq (.region false [xi 38 (.fieldAddr 0 (.tmp 3)),
 xi 39 (.load false 1 (.tmp 38)),
 xi 40 (.bin .lss (.tmp 39) (.const (.int .i64 (-300000)))),
 xm 41 40,
 xg 42 (.fieldAddr 0 (.tmp 3)) 41 false,
 xg 43 (.load false 1 (.tmp 42)) 41 false,
 xg 44 (.fieldAddr 1 (.tmp 3)) 41 false,
 xg 45 (.load false 1 (.tmp 44)) 41 false,
 xg 46 (.bin .gtr (.tmp 43) (.tmp 45)) 41 false,
 xi 47 (.pick (.tmp 41) (.const (.bool true)) (.tmp 46)),
 xm 48 47,
 xg 49 (.fieldAddr 1 (.tmp 3)) 48 false,
 xg 50 (.load false 1 (.tmp 49)) 48 false,
 xg 51 (.bin .gtr (.tmp 50) (.const (.int .i64 300000))) 48 false,
 xi 52 (.pick (.tmp 48) (.const (.bool true)) (.tmp 51))])
 (.cond (.tmp 52) (.seq (.region false [xi 4 (.move (.const (.slice none 0 0))),
 xi 5 (.move (.const (.int .i64 2)))])
 (.ret))
 (.skip)))
 (.seq (.region false [xm 53 0,
 xi 54 (.len false (.tmp 53)),
 xm 8 54])
 (.seq (.region false [xi 9 (.move (.const (.slice none 0 0)))])
 (.seq (.seq (.region false [xm 55 0,
 xi 56 (.len false (.tmp 55)),
 xi 57 (.move (.const xz))])
 (.block 2 (.loop (some [3, 8, 9, 55, 56, 57]) (
 .seq (.region false [xi 58 (.bin .lss (.tmp 57) (.tmp 56))])
 (.seq (.cond (.tmp 58) (.skip)
 (.exit 2))
 (.seq (.block 3 (.seq (.region false [xm 59 57,
 xi 60 (.indexAddr none 2 (.tmp 55) (.tmp 57)),
 xi 61 (.load true 2 (.tmp 60)),
 xi 11 (.push [xz, xz]),
 xm 10 59,
 ⟨none, .store 2 (.tmp 11) (.tmp 61), none, [], false, false⟩])
 (.region false [xm 62 9,
 xm 63 8,
 xm 64 10,
 xi 65 (.fieldAddr 1 (.tmp 11)),
 xi 66 (.load false 1 (.tmp 65)),
 xi 67 (.build [xz, xz, xz] [(0, 1, (.tmp 63)), (1, 1, (.tmp 64)), (2, 1, (.tmp 66))]),
 xm 68 10,
 xm 69 8,
 xi 70 (.fieldAddr 0 (.tmp 11)),
 xi 71 (.load false 1 (.tmp 70)),
 xi 72 (.un .neg (.tmp 71)),
 xi 73 (.build [xz, xz, xz] [(0, 1, (.tmp 68)), (1, 1, (.tmp 69)), (2, 1, (.tmp 72))]),
 xi 74 (.buildSlice 3 2 [xz, xz, xz, xz, xz, xz] [(0, 3, (.tmp 67)), (3, 3, (.tmp 73))]),
 xi 75 (.append 3 24 (.tmp 62) (.tmp 74)),
 xm 9 75])))
 (.region false [xi 76 (.bin .add (.tmp 57) (.const (.int .i64 1))),
 xm 57 76])))))))
 (.seq (.seq (.region false [xi 12 (.move (.const (.int .i64 1)))])
 (.block 4 (.loop (some [3, 8, 9, 12]) (
 .seq (.seq (.region false [xm 77 12,
 xm 78 8,
 xi 79 (.bin .lss (.tmp 77) (.tmp 78))])
 (.cond (.tmp 79) (.skip)
 (.exit 4)))
 (.seq (.block 5 (.region false [xm 82 9,
 xm 83 12,
 xi 84 (.bin .sub (.tmp 83) (.const (.int .i64 1))),
 xm 85 12,
 xi 86 (.fieldAddr 0 (.tmp 3)),
 xi 87 (.load false 1 (.tmp 86)),
 xi 88 (.un .neg (.tmp 87)),
 xi 89 (.build [xz, xz, xz] [(0, 1, (.tmp 84)), (1, 1, (.tmp 85)), (2, 1, (.tmp 88))]),
 xm 90 12,
 xm 91 12,
 xi 92 (.bin .sub (.tmp 91) (.const (.int .i64 1))),
 xi 93 (.fieldAddr 1 (.tmp 3)),
 xi 94 (.load false 1 (.tmp 93)),
 xi 95 (.build [xz, xz, xz] [(0, 1, (.tmp 90)), (1, 1, (.tmp 92)), (2, 1, (.tmp 94))]),
 xi 96 (.buildSlice 3 2 [xz, xz, xz, xz, xz, xz] [(0, 3, (.tmp 89)), (3, 3, (.tmp 95))]),
 xi 97 (.append 3 24 (.tmp 82) (.tmp 96)),
 xm 9 97]))
 (.region false [xm 80 12,
 xi 81 (.bin .add (.tmp 80) (.const (.int .i64 1))),
 xm 12 81]))))))
 (.seq (.region false [xm 98 9,
 xm 4 98,
 xi 5 (.move (.const xz))])
 (.ret))))))))),
 [.tmp 4, .tmp 5], .pure, 99⟩

def ef127 : EFun := ⟨
 .seq (.region false [xi 4 (.move (.const (.slice none 0 0))),
 xi 5 (.move (.const (.slice none 0 0))),
 xi 6 (.move (.const xz))])
 (.seq (.seq (.region false [xm 13 0,
 xm 14 1,
 xi 15 (.call 189 [(.tmp 13), (.tmp 14)]),
 xm 7 15])
 (.seq (.region false [xm 16 7,
 xi 17 (.bin .neq (.tmp 16) (.const xz))])
 (.cond (.tmp 17) (.seq (.region false [xm 18 7,
 xi 4 (.move (.const (.slice none 0 0))),
 xi 5 (.move (.const (.slice none 0 0))),
 xm 6 18])
 (.ret))
 (.skip))))
 (.seq (.region true [xm 19 0,
 xi 20 (.makeSlice 1 8 [xz] (.tmp 19) (.tmp 19)),
 xm 21 0,
 xi 22 (.makeSlice 1 8 [xz] (.tmp 21) (.tmp 21)),
 xm 8 20,
 xm 9 22])
 (.seq (.region false [xi 10 (.move (.const xz))])
 (.seq (.seq (.region false [xm 23 0,
 xi 24 (.move (.const xz))])
 (.block 0 (.loop (some [0, 1, 8, 9, 10, 23, 24]) (
 .seq (.region false [xi 25 (.bin .lss (.tmp 24) (.tmp 23))])
 (.seq (.cond (.tmp 25) (.skip)
 (.exit 0))
 (.seq (.block 1 (.seq (.region false [xm 26 1,
 xm 27 8,
 xm 28 9,
 xi 29 (.call 190 [(.tmp 26), (.tmp 27), (.tmp 28)]),
 xm 10 29])
 (.seq (.region false [xm 30 10,
 xi 31 (.bin .lss (.tmp 30) (.const xz))])
 (.cond (.tmp 31) (.seq (.region false [xm 32 8,
 xm 4 32,
 xi 5 (.move (.const (.slice none 0 0))),
 xi 6 (.move (.const xz))])
 (.ret))
 (.skip)))))
 (.region false [xi 33 (.bin .add (.tmp 24) (.const (.int .i64 1))),
 xm 24 33])))))))
 (.seq (.seq (.region false [xm 34 0,
 xi 35 (.move (.const xz))])
 (.block 2 (.loop (some [1, 9, 10, 34, 35]) (
 .seq (.region false [xi 36 (.bin .lss (.tmp 35) (.tmp 34))])
 (.seq (.cond (.tmp 36) (.skip)
 (.exit 2))
 (.seq (.block 3 (.region false [xm 37 1,
 xm 38 9,
 xm 39 10,
 xi 40 (.indexAddr none 1 (.tmp 38) (.tmp 39)),
 xi 41 (.load false 1 (.tmp 40)),
 xi 42 (.indexAddr none 3 (.tmp 37) (.tmp 41)),
 xi 43 (.fieldAddr 0 (.tmp 42)),
 xi 44 (.load false 1 (.tmp 43)),
 xm 10 44]))
 (.region false [xi 45 (.bin .add (.tmp 35) (.const (.int .i64 1))),
 xm 35 45])))))))
 (.seq (.region false [xi 11 (.move (.const (.slice none 0 0)))])
 (.seq (.seq (.region false [xm 46 10,
 xm 12 46])
 (.block 4 (.loop (some [1, 9, 10, 11, 12]) (
 .seq (.seq (.region false [xm 47 11,
 xi 48 (.len false (.tmp 47)),
 xi 49 (.bin .eql (.tmp 48) (.const xz)),
 xm 50 49,
 xg 51 (.move (.tmp 12)) 50 false,
 xg 52 (.move (.tmp 10)) 50 false,
 xg 53 (.bin .neq (.tmp 51) (.tmp 52)) 50 false,
 xi 54 (.pick (.tmp 50) (.const (.bool true)) (.tmp 53))])
 (.cond (.tmp 54) (.skip)
 (.exit 4)))
 (.seq (.block 5 (.region false [xm 63 11,
 xm 64 9,
 xm 65 12,
 xi 66 (.indexAddr none 1 (.tmp 64) (.tmp 65)),
 xi 67 (.load false 1 (.tmp 66)),
 xi 68 (.buildSlice 1 1 [xz] [(0, 1, (.tmp 67))]),
 xi 69 (.append 1 8 (.tmp 63) (.tmp 68)),
 xm 11 69]))
 (.region false [xm 55 1,
 xm 56 9,
 xm 57 12,
 xi 58 (.indexAddr none 1 (.tmp 56) (.tmp 57)),
 xi 59 (.load false 1 (.tmp 58)),
 xi 60 (.indexAddr none 3 (.tmp 55) (.tmp 59)),
 xi 61 (.fieldAddr 0 (.tmp 60)),
 xi 62 (.load false 1 (.tmp 61)),
 xm 12 62]))))))
 (.seq (.region false [xm 70 11,
 xi 71 (.call 191 [(.tmp 70)])])
 (.seq (.region false [xm 72 11,
 xi 4 (.move (.const (.slice none 0 0))),
 xm 5 72,
 xi 6 (.move (.const (.int .i64 21)))])
 (.ret)))))))))),
 [.tmp 4, .tmp 5, .tmp 6], .pure, 73⟩

def ef128 : EFun := ⟨
 .seq (.region false [xi 1 (.box (.tmp 0)),
 xi 2 (.move (.const xz))])
 (.seq (.block 0 (.seq (.region false [xi 4 (.fieldAddr 0 (.tmp 1)),
 xi 5 (.load false 1 (.tmp 4)),
 xi 6 (.call 71 [(.tmp 5), (.const xz), (.const (.int .i64 1000000000000000))]),
 xi 7 (.un .not (.tmp 6)),
 xm 8 7,
 xg 9 (.fieldAddr 1 (.tmp 1)) 8 false,
 xg 10 (.load false 1 (.tmp 9)) 8 false,
 xg 11 (.call 71 [(.tmp 10), (.const xz), (.const (.int .i64 1000000000000000))]) 8 false,
 xg 12 (.un .not (.tmp 11)) 8 false,
 xi 13 (.pick (.tmp 8) (.const (.bool true)) (.tmp 12)),
 xm 14 13,
 xg 15 (.fieldAddr 3 (.tmp 1)) 14 false,
 xg 16 (.load false 1 (.tmp 15)) 14 false,
 xg 17 (.call 71 [(.tmp 16), (.const xz), (.const (.int .i64 1000000000000000))]) 14 false,
 xg 18 (.un .not (.tmp 17)) 14 false,
 xi 19 (.pick (.tmp 14) (.const (.bool true)) (.tmp 18)),
 xm 20 19,
 xg 21 (.fieldAddr 2 (.tmp 1)) 20 false,
 xg 22 (.load false 1 (.tmp 21)) 20 false,
 xg 23 (.call 71 [(.tmp 22), (.const xz), (.const (.int .i64 1000000))]) 20 false,
 xg 24 (.un .not (.tmp 23)) 20 false,
 xi 25 (.pick (.tmp 20) (.const (.bool true)) (.tmp 24)),
 xm 3 25])
 (.cond (.tmp 3) (.seq (.region false [xi 2 (.move (.const (.int .i64 2)))])
 (.ret))
 (.seq (.region false [xi 27 (.fieldAddr 0 (.tmp 1)),
 xi 28 (.load false 1 (.tmp 27)),
 xi 29 (.fieldAddr 1 (.tmp 1)),
 xi 30 (.load false 1 (.tmp 29)),
 xi 31 (.bin .gtr (.tmp 28) (.tmp 30)),
 xm 26 31])
 (.cond (.tmp 26) (.seq (.region false [xi 2 (.move (.const (.int .i64 9)))])
 (.ret))
 (.skip))))))
 (.seq (.region false [xi 2 (.move (.const xz))])
 (.ret))),
 [.tmp 2], .pure, 32⟩

def ef129 : EFun := ⟨
 .seq (.region false [xi 2 (.move (.const xz))])
 (.seq (.seq (.region false [xm 5 0,
 xi 6 (.len false (.tmp 5)),
 xi 7 (.bin .eql (.tmp 6) (.const xz)),
 xm 8 7,
 xg 9 (.move (.tmp 0)) 8 false,
 xg 10 (.len false (.tmp 9)) 8 false,
 xg 11 (.bin .gtr (.tmp 10) (.const (.int .i64 20))) 8 false,
 xi 12 (.pick (.tmp 8) (.const (.bool true)) (.tmp 11))])
 (.cond (.tmp 12) (.seq (.region false [xi 2 (.move (.const (.int .i64 8)))])
 (.ret))
 (.skip)))
 (.seq (.seq (.region false [xm 13 0,
 xi 14 (.len false (.tmp 13)),
 xi 15 (.move (.const xz))])
 (.block 0 (.loop (some [0, 13, 14, 15]) (
 .seq (.region false [xi 16 (.bin .lss (.tmp 15) (.tmp 14))])
 (.seq (.cond (.tmp 16) (.skip)
 (.exit 0))
 (.seq (.block 1 (.seq (.region false [xm 17 15,
 xi 18 (.indexAddr none 1 (.tmp 13) (.tmp 15)),
 xi 19 (.load false 1 (.tmp 18)),
 xm 3 17,
 xm 4 19])
 (.block 2 (.seq (.region false [xm 21 4,
 xi 22 (.call 71 [(.tmp 21), (.const (.int .i64 100)), (.const (.int .i64 3000))]),
 xi 23 (.un .not (.tmp 22)),
 xm 20 23])
 (.cond (.tmp 20) (.seq (.region false [xi 2 (.move (.const (.int .i64 2)))])
 (.ret))
 (.seq (.region false [xm 25 3,
 xi 26 (.bin .gtr (.tmp 25) (.const xz)),
 xm 27 26,
 xg 28 (.move (.tmp 4)) 27 true,
 xg 29 (.move (.tmp 0)) 27 true,
 xg 30 (.move (.tmp 3)) 27 true,
 xg 31 (.bin .sub (.tmp 30) (.const (.int .i64 1))) 27 true,
 xg 32 (.indexAddr none 1 (.tmp 29) (.tmp 31)) 27 true,
 xg 33 (.load false 1 (.tmp 32)) 27 true,
 xg 34 (.bin .leq (.tmp 28) (.tmp 33)) 27 true,
 xi 35 (.pick (.tmp 27) (.tmp 34) (.const (.bool false))),
 xm 24 35])
 (.cond (.tmp 24) (.seq (.region false [xi 2 (.move (.const (.int .i64 9)))])
 (.ret))
 (.skip))))))))
 (.region false [xi 36 (.bin .add (.tmp 15) (.const (.int .i64 1))),
 xm 15 36])))))))
 (.seq (.region false [xi 2 (.move (.const xz))])
 (.ret)))),
 [.tmp 2], .pure, 37⟩

def ef130 : EFun := ⟨
 .seq (.region false [xi 2 (.box (.tmp 0)),
 xi 4 (.push [xz, xz])])
 (.seq (.region true [xi 8 (.fieldAddr 2 (.tmp 2)),
 xi 9 (.load false 1 (.tmp 8)),
 xm 10 1,
 xi 11 (.indexAddr none 10 (.tmp 9) (.tmp 10)),
 xi 12 (.fieldAddr 0 (.tmp 11)),
 xi 13 (.load true 4 (.tmp 12)),
 xi 14 (.fieldAddr 0 (.tmp 2)),
 xi 15 (.load false 1 (.tmp 14)),
 ⟨(some 16), .call 192 [(.tmp 13), (.tmp 15)], none, [], false, true⟩,
 xm 7 16,
 xi 17 (.extract (.tmp 7) 0),
 xi 18 (.extract (.tmp 7) 1),
 xi 5 (.push [xz, xz]),
 ⟨none, .store 2 (.tmp 5) (.tmp 17), none, [], false, false⟩,
 xm 6 18])
 (.seq (.region false [xi 19 (.load true 2 (.tmp 5)),
 ⟨none, .store 2 (.tmp 4) (.tmp 19), none, [], false, false⟩])
 (.ret))),
 [.cell 4 true 2], .pure, 20⟩

def ef131 : EFun := ⟨
 .seq (.region false [xi 3 (.box (.tmp 1)),
 xi 4 (.move (.const xz))])
 (.seq (.seq (.region false [xm 10 0,
 xi 11 (.call 164 [(.tmp 10)]),
 xm 5 11])
 (.seq (.region false [xm 12 5,
 xi 13 (.bin .neq (.tmp 12) (.const xz))])
 (.cond (.tmp 13) (.seq (.region false [xm 14 5,
 xm 4 14])
 (.ret))
 (.skip))))
 (.seq (.region false [xm 16 0,
 xi 17 (.fieldAddr 3 (.tmp 3)),
 xi 18 (.load false 1 (.tmp 17)),
 xi 19 (.call 193 [(.tmp 16), (.tmp 18)]),
 xm 15 19,
 xi 20 (.extract (.tmp 15) 0),
 xi 21 (.extract (.tmp 15) 1),
 xi 6 (.push [(.string ⟨#[]⟩), xz, xz, xz]),
 ⟨none, .store 4 (.tmp 6) (.tmp 20), none, [], false, false⟩,
 xm 7 21])
 (.seq (.region false [xm 23 0,
 xi 24 (.fieldAddr 4 (.tmp 3)),
 xi 25 (.load false 1 (.tmp 24)),
 xi 26 (.call 193 [(.tmp 23), (.tmp 25)]),
 xm 22 26,
 xi 27 (.extract (.tmp 22) 0),
 xi 28 (.extract (.tmp 22) 1),
 xi 8 (.push [(.string ⟨#[]⟩), xz, xz, xz]),
 ⟨none, .store 4 (.tmp 8) (.tmp 27), none, [], false, false⟩,
 xm 9 28])
 (.seq (.block 0 (.seq (.region false [xi 30 (.fieldAddr 0 (.tmp 3)),
 xi 31 (.load false 1 (.tmp 30)),
 xi 32 (.call 71 [(.tmp 31), (.const (.int .i64 1000)), (.const (.int .i64 300000))]),
 xi 33 (.un .not (.tmp 32)),
 xm 34 33,
 xg 35 (.fieldAddr 1 (.tmp 3)) 34 false,
 xg 36 (.load false 1 (.tmp 35)) 34 false,
 xg 37 (.call 71 [(.tmp 36), (.const (.int .i64 100)), (.const (.int .i64 3000))]) 34 false,
 xg 38 (.un .not (.tmp 37)) 34 false,
 xi 39 (.pick (.tmp 34) (.const (.bool true)) (.tmp 38)),
 xm 40 39,
 xg 41 (.fieldAddr 2 (.tmp 3)) 40 false,
 xg 42 (.load false 1 (.tmp 41)) 40 false,
 xg 43 (.call 71 [(.tmp 42), (.const xz), (.const (.int .i64 10000))]) 40 false,
 xg 44 (.un .not (.tmp 43)) 40 false,
 xi 45 (.pick (.tmp 40) (.const (.bool true)) (.tmp 44)),
 xm 29 45])
 (.cond (.tmp 29) (.seq (.region false [xi 4 (.move (.const (.int .i64 2)))])
 (.ret))
 (.seq (.region false [xi 47 (.fieldAddr 2 (.tmp 3)),
 xi 48 (.load false 1 (.tmp 47)),
 xi 49 (.bin .neq (.tmp 48) (.const xz)),
 xm 50 49,
 xg 51 (.fieldAddr 2 (.tmp 3)) 50 true,
 xg 52 (.load false 1 (.tmp 51)) 50 true,
 xg 53 (.fieldAddr 1 (.tmp 3)) 50 true,
 xg 54 (.load false 1 (.tmp 53)) 50 true,
 xg 55 (.bin .leq (.tmp 52) (.tmp 54)) 50 true,
 xi 56 (.pick (.tmp 50) (.tmp 55) (.const (.bool false))),
 xm 57 56,
 xg 58 (.fieldAddr 2 (.tmp 3)) 57 false,
 xg 59 (.load false 1 (.tmp 58)) 57 false,
 xg 60 (.bin .eql (.tmp 59) (.const xz)) 57 false,
 xg 61 (.fieldAddr 4 (.tmp 3)) 57 false,
 xg 62 (.load false 1 (.tmp 61)) 57 false,
 xg 63 (.bin .eql (.tmp 62) (.const (.string ⟨#[]⟩))) 57 false,
 xg 64 (.eqBool true (.tmp 60) (.tmp 63)) 57 false,
 xi 65 (.pick (.tmp 57) (.const (.bool true)) (.tmp 64)),
 xm 46 65])
 (.cond (.tmp 46) (.seq (.region false [xi 4 (.move (.const (.int .i64 3)))])
 (.ret))
 (.seq (.region false [xm 67 7,
 xi 68 (.un .not (.tmp 67)),
 xm 69 68,
 xg 70 (.fieldAddr 2 (.tmp 3)) 69 false,
 xg 71 (.load false 1 (.tmp 70)) 69 false,
 xg 72 (.bin .neq (.tmp 71) (.const xz)) 69 false,
 xg 73 (.move (.tmp 72)) 69 false,
 xg 74 (.move (.tmp 9)) 73 true,
 xg 75 (.un .not (.tmp 74)) 73 true,
 xg 76 (.pick (.tmp 73) (.tmp 75) (.const (.bool false))) 69 false,
 xi 77 (.pick (.tmp 69) (.const (.bool true)) (.tmp 76)),
 xm 66 77])
 (.cond (.tmp 66) (.seq (.region false [xi 4 (.move (.const (.int .i64 6)))])
 (.ret))
 (.seq (.region false [xi 79 (.fieldAddr 2 (.tmp 6)),
 xi 80 (.load false 1 (.tmp 79)),
 xi 81 (.fieldAddr 1 (.tmp 3)),
 xi 82 (.load false 1 (.tmp 81)),
 xi 83 (.bin .mul (.tmp 80) (.tmp 82)),
 xi 84 (.fieldAddr 1 (.tmp 3)),
 xi 85 (.load false 1 (.tmp 84)),
 xi 86 (.bin .mul (.tmp 83) (.tmp 85)),
 xi 87 (.bin .lss (.tmp 86) (.const (.int .i64 1000000))),
 xm 78 87])
 (.cond (.tmp 78) (.seq (.region false [xi 4 (.move (.const (.int .i64 11)))])
 (.ret))
 (.skip))))))))))
 (.seq (.region false [xi 4 (.move (.const xz))])
 (.ret)))))),
 [.tmp 4], .pure, 88⟩

def ef132 : EFun := ⟨
 .seq (.region false [xi 4 (.box (.tmp 1)),
 xi 5 (.box (.tmp 2)),
 xi 6 (.push [(.string ⟨#[]⟩), xz, xz, xz, xz, xz, xz, (.string ⟨#[]⟩), (.string ⟨#[]⟩), xz, xz, xz, xz])])
 (.seq (.region false [xm 14 0,
 xi 15 (.fieldAddr 3 (.tmp 4)),
 xi 16 (.load false 1 (.tmp 15)),
 xi 17 (.call 193 [(.tmp 14), (.tmp 16)]),
 xm 13 17,
 xi 18 (.extract (.tmp 13) 0),
 xi 19 (.extract (.tmp 13) 1),
 xi 7 (.push [(.string ⟨#[]⟩), xz, xz, xz]),
 ⟨none, .store 4 (.tmp 7) (.tmp 18), none, [], false, false⟩,
 xm 8 19])
 (.seq (.region false [xi 20 (.fieldAddr 0 (.tmp 5)),
 xi 21 (.load false 1 (.tmp 20)),
 xi 22 (.fieldAddr 0 (.tmp 4)),
 xi 23 (.load false 1 (.tmp 22)),
 xi 24 (.bin .mul (.tmp 21) (.tmp 23)),
 xi 25 (.fieldAddr 1 (.tmp 5)),
 xi 26 (.load false 1 (.tmp 25)),
 xi 27 (.fieldAddr 0 (.tmp 4)),
 xi 28 (.load false 1 (.tmp 27)),
 xi 29 (.bin .mul (.tmp 26) (.tmp 28)),
 xi 30 (.call 187 [(.tmp 24), (.tmp 29), (.const (.int .i64 1000000))]),
 xi 9 (.push [xz, xz]),
 ⟨none, .store 2 (.tmp 9) (.tmp 30), none, [], false, false⟩])
 (.seq (.region false [xi 31 (.fieldAddr 0 (.tmp 9)),
 xi 32 (.load false 1 (.tmp 31)),
 xi 33 (.fieldAddr 0 (.tmp 9)),
 xi 34 (.load false 1 (.tmp 33)),
 xi 35 (.bin .mul (.tmp 32) (.tmp 34)),
 xi 36 (.fieldAddr 1 (.tmp 9)),
 xi 37 (.load false 1 (.tmp 36)),
 xi 38 (.fieldAddr 1 (.tmp 9)),
 xi 39 (.load false 1 (.tmp 38)),
 xi 40 (.bin .mul (.tmp 37) (.tmp 39)),
 xi 41 (.call 187 [(.tmp 35), (.tmp 40), (.const (.int .i64 10000))]),
 xi 10 (.push [xz, xz]),
 ⟨none, .store 2 (.tmp 10) (.tmp 41), none, [], false, false⟩])
 (.seq (.region false [xm 42 0,
 xi 43 (.load true 5 (.tmp 4)),
 xi 44 (.call 194 [(.tmp 42), (.tmp 43)]),
 xm 11 44])
 (.seq (.region false [xm 45 11,
 xm 46 11,
 xi 47 (.call 187 [(.tmp 45), (.tmp 46), (.const (.int .i64 10000))]),
 xi 12 (.push [xz, xz]),
 ⟨none, .store 2 (.tmp 12) (.tmp 47), none, [], false, false⟩])
 (.seq (.region true [xi 48 (.load true 4 (.tmp 7)),
 xi 49 (.load true 5 (.tmp 4)),
 xi 50 (.load true 2 (.tmp 9)),
 xi 51 (.fieldAddr 0 (.tmp 12)),
 xi 52 (.load false 1 (.tmp 51)),
 xi 53 (.fieldAddr 0 (.tmp 10)),
 xi 54 (.load false 1 (.tmp 53)),
 xi 55 (.bin .mul (.tmp 52) (.tmp 54)),
 xi 56 (.fieldAddr 1 (.tmp 12)),
 xi 57 (.load false 1 (.tmp 56)),
 xi 58 (.fieldAddr 1 (.tmp 10)),
 xi 59 (.load false 1 (.tmp 58)),
 xi 60 (.bin .mul (.tmp 57) (.tmp 59)),
 ⟨(some 61), .call 187 [(.tmp 55), (.tmp 60), (.const (.int .i64 1000000))], none, [], false, true⟩,
 xi 62 (.build [(.string ⟨#[]⟩), xz, xz, xz, xz, xz, xz, (.string ⟨#[]⟩), (.string ⟨#[]⟩), xz, xz, xz, xz] [(0, 4, (.tmp 48)), (4, 5, (.tmp 49)), (9, 2, (.tmp 50)), (11, 2, (.tmp 61))]),
 ⟨none, .store 13 (.tmp 6) (.tmp 62), none, [], false, false⟩])
 (.ret))))))),
 [.cell 6 true 13], .pure, 63⟩

def ef133 : EFun := ⟨
 .seq (.region false [xi 2 (.box (.tmp 0)),
 xi 3 (.box (.tmp 1)),
 xi 4 (.move (.const (.bool false)))])
 (.seq (.region true [xi 5 (.fieldAddr 11 (.tmp 2)),
 xi 6 (.fieldAddr 0 (.tmp 5)),
 xi 7 (.load false 1 (.tmp 6)),
 xi 8 (.fieldAddr 0 (.tmp 3)),
 xi 9 (.load false 1 (.tmp 8)),
 xi 10 (.bin .geq (.tmp 7) (.tmp 9)),
 xm 11 10,
 xg 12 (.fieldAddr 11 (.tmp 2)) 11 true,
 xg 13 (.fieldAddr 1 (.tmp 12)) 11 true,
 xg 14 (.load false 1 (.tmp 13)) 11 true,
 xg 15 (.fieldAddr 1 (.tmp 3)) 11 true,
 xg 16 (.load false 1 (.tmp 15)) 11 true,
 xg 17 (.bin .leq (.tmp 14) (.tmp 16)) 11 true,
 xi 18 (.pick (.tmp 11) (.tmp 17) (.const (.bool false))),
 xm 19 18,
 xg 20 (.load true 13 (.tmp 2)) 19 true,
 ⟨(some 21), .call 195 [(.tmp 20)], (some (19, true)), [], false, true⟩,
 xg 22 (.field false 1 1 (.tmp 21)) 19 true,
 xg 23 (.fieldAddr 2 (.tmp 3)) 19 true,
 xg 24 (.load false 1 (.tmp 23)) 19 true,
 xg 25 (.bin .leq (.tmp 22) (.tmp 24)) 19 true,
 xi 26 (.pick (.tmp 19) (.tmp 25) (.const (.bool false))),
 xm 4 26])
 (.ret)),
 [.tmp 4], .pure, 27⟩

def ef134 : EFun := ⟨
 .seq (.region false [xi 3 (.box (.tmp 0)),
 xi 6 (.push [xz, xz, xz, (.string ⟨#[]⟩), (.string ⟨#[]⟩)])])
 (.seq (.region false [xi 8 (.fieldAddr 0 (.tmp 3)),
 xi 9 (.fieldAddr 2 (.tmp 8)),
 xi 10 (.load false 1 (.tmp 9)),
 xm 11 1,
 xi 12 (.indexAddr none 10 (.tmp 10) (.tmp 11)),
 xi 13 (.fieldAddr 5 (.tmp 12)),
 xi 14 (.load true 5 (.tmp 13)),
 xi 7 (.push [xz, xz, xz, (.string ⟨#[]⟩), (.string ⟨#[]⟩)]),
 ⟨none, .store 5 (.tmp 7) (.tmp 14), none, [], false, false⟩])
 (.seq (.region false [xm 15 2,
 xi 16 (.fieldAddr 1 (.tmp 7)),
 ⟨none, .store 1 (.tmp 16) (.tmp 15), none, [], false, false⟩])
 (.seq (.region false [xi 17 (.load true 5 (.tmp 7)),
 ⟨none, .store 5 (.tmp 6) (.tmp 17), none, [], false, false⟩])
 (.ret)))),
 [.cell 6 true 5], .pure, 18⟩

def ef135 : EFun := ⟨
 .seq (.region false [xi 3 (.box (.tmp 1)),
 xi 4 (.move (.const xz))])
 (.seq (.seq (.region false [xi 6 (.fieldAddr 0 (.tmp 3)),
 xi 7 (.load false 1 (.tmp 6)),
 xi 8 (.call 74 [(.tmp 7), (.const (.int .i64 1000)), (.const (.int .i64 300000))]),
 xi 9 (.un .not (.tmp 8)),
 xm 10 9,
 xg 11 (.fieldAddr 1 (.tmp 3)) 10 false,
 xg 12 (.load false 1 (.tmp 11)) 10 false,
 xg 13 (.call 74 [(.tmp 12), (.const (.int .i64 100)), (.const (.int .i64 3000))]) 10 false,
 xg 14 (.un .not (.tmp 13)) 10 false,
 xi 15 (.pick (.tmp 10) (.const (.bool true)) (.tmp 14)),
 xm 16 15,
 xg 17 (.fieldAddr 2 (.tmp 3)) 16 false,
 xg 18 (.load false 1 (.tmp 17)) 16 false,
 xg 19 (.call 74 [(.tmp 18), (.const xz), (.const (.int .i64 10000))]) 16 false,
 xg 20 (.un .not (.tmp 19)) 16 false,
 xi 21 (.pick (.tmp 16) (.const (.bool true)) (.tmp 20))])
 (.cond (.tmp 21) (.seq (.region false [xi 4 (.move (.const (.int .i64 2)))])
 (.ret))
 (.skip)))
 (.seq (.seq (.region false [xi 22 (.fieldAddr 2 (.tmp 3)),
 xi 23 (.load false 1 (.tmp 22)),
 xi 24 (.bin .neq (.tmp 23) (.const xz)),
 xm 25 24,
 xg 26 (.fieldAddr 2 (.tmp 3)) 25 true,
 xg 27 (.load false 1 (.tmp 26)) 25 true,
 xg 28 (.fieldAddr 1 (.tmp 3)) 25 true,
 xg 29 (.load false 1 (.tmp 28)) 25 true,
 xg 30 (.bin .leq (.tmp 27) (.tmp 29)) 25 true,
 xi 31 (.pick (.tmp 25) (.tmp 30) (.const (.bool false))),
 xm 32 31,
 xg 33 (.fieldAddr 2 (.tmp 3)) 32 false,
 xg 34 (.load false 1 (.tmp 33)) 32 false,
 xg 35 (.bin .neq (.tmp 34) (.const xz)) 32 false,
 xg 36 (.fieldAddr 4 (.tmp 3)) 32 false,
 xg 37 (.load false 1 (.tmp 36)) 32 false,
 xg 38 (.bin .neq (.tmp 37) (.const (.string ⟨#[]⟩))) 32 false,
 xg 39 (.eqBool true (.tmp 35) (.tmp 38)) 32 false,
 xi 40 (.pick (.tmp 32) (.const (.bool true)) (.tmp 39))])
 (.cond (.tmp 40) (.seq (.region false [xi 4 (.move (.const (.int .i64 3)))])
 (.ret))
 (.skip)))
 (.seq (.region false [xm 41 0,
 xi 42 (.fieldAddr 3 (.tmp 3)),
 xi 43 (.load false 1 (.tmp 42)),
 xi 44 (.call 167 [(.tmp 41), (.tmp 43)]),
 xm 5 44])
 (.seq (.seq (.region false [xm 45 5,
 xi 46 (.bin .lss (.tmp 45) (.const xz)),
 xm 47 46,
 xg 48 (.fieldAddr 2 (.tmp 3)) 47 false,
 xg 49 (.load false 1 (.tmp 48)) 47 false,
 xg 50 (.bin .neq (.tmp 49) (.const xz)) 47 false,
 xg 51 (.move (.tmp 50)) 47 false,
 xg 52 (.move (.tmp 0)) 51 true,
 xg 53 (.fieldAddr 4 (.tmp 3)) 51 true,
 xg 54 (.load false 1 (.tmp 53)) 51 true,
 xg 55 (.call 167 [(.tmp 52), (.tmp 54)]) 51 true,
 xg 56 (.bin .lss (.tmp 55) (.const xz)) 51 true,
 xg 57 (.pick (.tmp 51) (.tmp 56) (.const (.bool false))) 47 false,
 xi 58 (.pick (.tmp 47) (.const (.bool true)) (.tmp 57))])
 (.cond (.tmp 58) (.seq (.region false [xi 4 (.move (.const (.int .i64 6)))])
 (.ret))
 (.skip)))
 (.seq (.seq (.region true [xm 59 0,
 xm 60 5,
 xi 61 (.indexAddr none 4 (.tmp 59) (.tmp 60)),
 xi 62 (.fieldAddr 2 (.tmp 61)),
 xi 63 (.load false 1 (.tmp 62)),
 xi 64 (.fieldAddr 1 (.tmp 3)),
 xi 65 (.load false 1 (.tmp 64)),
 xi 66 (.bin .mul (.tmp 63) (.tmp 65)),
 xi 67 (.fieldAddr 1 (.tmp 3)),
 xi 68 (.load false 1 (.tmp 67)),
 xi 69 (.bin .mul (.tmp 66) (.tmp 68)),
 xi 70 (.bin .lss (.tmp 69) (.const (.int .i64 1000000)))])
 (.cond (.tmp 70) (.seq (.region false [xi 4 (.move (.const (.int .i64 11)))])
 (.ret))
 (.skip)))
 (.seq (.region false [xi 4 (.move (.const xz))])
 (.ret))))))),
 [.tmp 4], .pure, 71⟩

def ef136 : EFun := ⟨
 .seq (.region false [xi 4 (.box (.tmp 0)),
 xi 6 (.box (.tmp 2)),
 xi 7 (.box (.tmp 3)),
 xi 8 (.move (.const (.bool false)))])
 (.seq (.region false [xi 10 (.load true 4 (.tmp 4)),
 xm 11 1,
 xi 12 (.load true 5 (.tmp 6)),
 xi 13 (.call 147 [(.tmp 10), (.tmp 11), (.tmp 12)]),
 xi 9 (.push [xz, xz]),
 ⟨none, .store 2 (.tmp 9) (.tmp 13), none, [], false, false⟩])
 (.seq (.region true [xi 14 (.fieldAddr 0 (.tmp 9)),
 xi 15 (.load false 1 (.tmp 14)),
 xi 16 (.fieldAddr 0 (.tmp 7)),
 xi 17 (.load false 1 (.tmp 16)),
 xi 18 (.bin .geq (.tmp 15) (.tmp 17)),
 xm 19 18,
 xg 20 (.fieldAddr 1 (.tmp 9)) 19 true,
 xg 21 (.load false 1 (.tmp 20)) 19 true,
 xg 22 (.fieldAddr 1 (.tmp 7)) 19 true,
 xg 23 (.load false 1 (.tmp 22)) 19 true,
 xg 24 (.bin .leq (.tmp 21) (.tmp 23)) 19 true,
 xi 25 (.pick (.tmp 19) (.tmp 24) (.const (.bool false))),
 xm 26 25,
 xg 27 (.fieldAddr 0 (.tmp 4)) 26 true,
 xg 28 (.fieldAddr 1 (.tmp 27)) 26 true,
 xg 29 (.load false 1 (.tmp 28)) 26 true,
 xg 30 (.load true 5 (.tmp 6)) 26 true,
 xg 31 (.fieldAddr 3 (.tmp 4)) 26 true,
 xg 32 (.load false 1 (.tmp 31)) 26 true,
 xg 33 (.move (.tmp 1)) 26 true,
 xg 34 (.indexAddr none 2 (.tmp 32) (.tmp 33)) 26 true,
 xg 35 (.load true 2 (.tmp 34)) 26 true,
 ⟨(some 36), .call 196 [(.tmp 29), (.tmp 30), (.tmp 35)], (some (26, true)), [], false, true⟩,
 xg 37 (.field false 1 1 (.tmp 36)) 26 true,
 xg 38 (.fieldAddr 2 (.tmp 7)) 26 true,
 xg 39 (.load false 1 (.tmp 38)) 26 true,
 xg 40 (.bin .leq (.tmp 37) (.tmp 39)) 26 true,
 xi 41 (.pick (.tmp 26) (.tmp 40) (.const (.bool false))),
 xm 8 41])
 (.ret))),
 [.tmp 8], .pure, 42⟩

def ef137 : EFun := ⟨
 .seq (.region false [xi 6 (.move (.const (.slice none 0 0))),
 xi 7 (.move (.const (.slice none 0 0)))])
 (.seq (.region false [xi 13 (.buildSlice 1 1 [xz] [(0, 1, (.const (.int .i64 1)))]),
 xi 14 (.buildSlice 1 1 [xz] [(0, 1, (.const (.int .i64 1)))]),
 xm 8 13,
 xm 9 14])
 (.seq (.seq (.region false [xm 15 0,
 xm 16 1,
 xm 17 2,
 xi 18 (.build [xz, xz, xz] [(0, 1, (.tmp 15)), (1, 1, (.tmp 16)), (2, 1, (.tmp 17))]),
 xi 19 (.move (.const xz))])
 (.block 0 (.loop (some [8, 9, 18, 19]) (
 .seq (.region false [xi 20 (.bin .lss (.tmp 19) (.const (.int .i64 3)))])
 (.seq (.cond (.tmp 20) (.skip)
 (.exit 0))
 (.seq (.block 1 (.seq (.region false [xm 21 19,
 xi 22 (.index 3 1 false (.tmp 18) (.tmp 19)),
 xm 10 21,
 xm 11 22])
 (.seq (.region false [xi 23 (.build [xz, xz, xz] [(0, 1, (.const (.int .i64 2))), (1, 1, (.const (.int .i64 3))), (2, 1, (.const (.int .i64 5)))]),
 xm 24 10,
 xi 25 (.index 3 1 false (.tmp 23) (.tmp 24)),
 xi 26 (.call 140 [(.tmp 25)]),
 xm 12 26])
 (.seq (.region false [xm 27 11,
 xi 28 (.bin .gtr (.tmp 27) (.const xz))])
 (.cond (.tmp 28) (.region false [xm 29 8,
 xm 30 12,
 xm 31 11,
 xi 32 (.call 139 [(.tmp 30), (.tmp 31)]),
 xi 33 (.call 138 [(.tmp 29), (.tmp 32)]),
 xm 8 33])
 (.region false [xm 34 9,
 xm 35 12,
 xm 36 11,
 xi 37 (.un .neg (.tmp 36)),
 xi 38 (.call 139 [(.tmp 35), (.tmp 37)]),
 xi 39 (.call 138 [(.tmp 34), (.tmp 38)]),
 xm 9 39]))))))
 (.region false [xi 40 (.bin .add (.tmp 19) (.const (.int .i64 1))),
 xm 19 40])))))))
 (.seq (.region false [xm 41 8,
 xm 42 9,
 xm 6 41,
 xm 7 42])
 (.ret)))),
 [.tmp 6, .tmp 7], .pure, 43⟩

def ef138 : EFun := ⟨
 .seq (.region false [xi 4 (.move (.const (.slice none 0 0)))])
 (.seq (.region false [xm 10 0,
 xi 11 (.len false (.tmp 10)),
 xm 12 1,
 xi 13 (.len false (.tmp 12)),
 xi 14 (.bin .add (.tmp 11) (.tmp 13)),
 xi 15 (.bin .add (.tmp 14) (.const (.int .i64 1))),
 xi 16 (.makeSlice 1 8 [xz] (.tmp 15) (.tmp 15)),
 xm 5 16])
 (.seq (.seq (.region false [xi 6 (.move (.const xz))])
 (.block 0 (.loop (some [0, 1, 5, 6]) (
 .seq (.seq (.region false [xm 17 6,
 xm 18 0,
 xi 19 (.len false (.tmp 18)),
 xi 20 (.bin .lss (.tmp 17) (.tmp 19))])
 (.cond (.tmp 20) (.skip)
 (.exit 0)))
 (.seq (.block 1 (.seq (.region false [xi 7 (.move (.const xz))])
 (.seq (.region false [xi 8 (.move (.const xz))])
 (.block 2 (.loop (some [0, 1, 5, 6, 7, 8]) (
 .seq (.seq (.region false [xm 23 8,
 xm 24 1,
 xi 25 (.len false (.tmp 24)),
 xi 26 (.bin .lss (.tmp 23) (.tmp 25)),
 xm 27 26,
 xg 28 (.move (.tmp 7)) 27 false,
 xg 29 (.bin .gtr (.tmp 28) (.const xz)) 27 false,
 xi 30 (.pick (.tmp 27) (.const (.bool true)) (.tmp 29))])
 (.cond (.tmp 30) (.skip)
 (.exit 2)))
 (.seq (.block 3 (.seq (.region false [xm 33 5,
 xm 34 6,
 xm 35 8,
 xi 36 (.bin .add (.tmp 34) (.tmp 35)),
 xi 37 (.indexAddr none 1 (.tmp 33) (.tmp 36)),
 xi 38 (.load false 1 (.tmp 37)),
 xm 39 7,
 xi 40 (.bin .add (.tmp 38) (.tmp 39)),
 xm 9 40])
 (.seq (.seq (.region false [xm 41 8,
 xm 42 1,
 xi 43 (.len false (.tmp 42)),
 xi 44 (.bin .lss (.tmp 41) (.tmp 43))])
 (.cond (.tmp 44) (.region true [xm 45 9,
 xm 46 0,
 xm 47 6,
 xi 48 (.indexAddr none 1 (.tmp 46) (.tmp 47)),
 xi 49 (.load false 1 (.tmp 48)),
 xm 50 1,
 xm 51 8,
 xi 52 (.indexAddr none 1 (.tmp 50) (.tmp 51)),
 xi 53 (.load false 1 (.tmp 52)),
 xi 54 (.bin .mul (.tmp 49) (.tmp 53)),
 xi 55 (.bin .add (.tmp 45) (.tmp 54)),
 xm 9 55])
 (.skip)))
 (.region false [xm 56 5,
 xm 57 6,
 xm 58 8,
 xi 59 (.bin .add (.tmp 57) (.tmp 58)),
 xm 60 9,
 xi 61 (.bin .rem (.tmp 60) (.const (.int .i64 10000))),
 xm 62 9,
 xi 63 (.bin .quo (.tmp 62) (.const (.int .i64 10000))),
 xi 64 (.indexAddr none 1 (.tmp 56) (.tmp 59)),
 ⟨none, .store 1 (.tmp 64) (.tmp 61), none, [], false, false⟩,
 xm 7 63]))))
 (.region false [xm 31 8,
 xi 32 (.bin .add (.tmp 31) (.const (.int .i64 1))),
 xm 8 32]))))))))
 (.region false [xm 21 6,
 xi 22 (.bin .add (.tmp 21) (.const (.int .i64 1))),
 xm 6 22]))))))
 (.seq (.block 4 (.loop (some [5]) (
 .seq (.seq (.region false [xm 65 5,
 xi 66 (.len false (.tmp 65)),
 xi 67 (.bin .gtr (.tmp 66) (.const xz)),
 xm 68 67,
 xg 69 (.move (.tmp 5)) 68 true,
 xg 70 (.move (.tmp 5)) 68 true,
 xg 71 (.len false (.tmp 70)) 68 true,
 xg 72 (.bin .sub (.tmp 71) (.const (.int .i64 1))) 68 true,
 xg 73 (.indexAddr none 1 (.tmp 69) (.tmp 72)) 68 true,
 xg 74 (.load false 1 (.tmp 73)) 68 true,
 xg 75 (.bin .eql (.tmp 74) (.const xz)) 68 true,
 xi 76 (.pick (.tmp 68) (.tmp 75) (.const (.bool false)))])
 (.cond (.tmp 76) (.skip)
 (.exit 4)))
 (.block 5 (.region false [xm 77 5,
 xm 78 5,
 xi 79 (.len false (.tmp 78)),
 xi 80 (.bin .sub (.tmp 79) (.const (.int .i64 1))),
 xi 81 (.slice 1 (.tmp 77) none (some (.tmp 80))),
 xm 5 81])))))
 (.seq (.region false [xm 82 5,
 xm 4 82])
 (.ret))))),
 [.tmp 4], .pure, 83⟩

def ef139 : EFun := ⟨
 .seq (.region false [xi 4 (.move (.const (.slice none 0 0)))])
 (.seq (.region false [xi 6 (.buildSlice 1 1 [xz] [(0, 1, (.const (.int .i64 1)))]),
 xm 5 6])
 (.seq (.block 0 (.loop (some [0, 1, 5]) (
 .seq (.seq (.region false [xm 7 1,
 xi 8 (.bin .gtr (.tmp 7) (.const xz))])
 (.cond (.tmp 8) (.skip)
 (.exit 0)))
 (.block 1 (.seq (.seq (.region false [xm 9 1,
 xi 10 (.bin .rem (.tmp 9) (.const (.int .i64 2))),
 xi 11 (.bin .eql (.tmp 10) (.const (.int .i64 1)))])
 (.cond (.tmp 11) (.region false [xm 12 5,
 xm 13 0,
 xi 14 (.call 138 [(.tmp 12), (.tmp 13)]),
 xm 5 14])
 (.skip)))
 (.region false [xm 15 0,
 xm 16 0,
 xi 17 (.call 138 [(.tmp 15), (.tmp 16)]),
 xm 18 1,
 xi 19 (.bin .quo (.tmp 18) (.const (.int .i64 2))),
 xm 0 17,
 xm 1 19]))))))
 (.seq (.region false [xm 20 5,
 xm 4 20])
 (.ret)))),
 [.tmp 4], .pure, 21⟩

def ef140 : EFun := ⟨
 .seq (.region false [xi 2 (.move (.const (.slice none 0 0)))])
 (.seq (.region false [xi 3 (.move (.const (.slice none 0 0)))])
 (.seq (.block 0 (.loop (some [0, 3]) (
 .seq (.seq (.region false [xm 4 0,
 xi 5 (.bin .gtr (.tmp 4) (.const xz))])
 (.cond (.tmp 5) (.skip)
 (.exit 0)))
 (.block 1 (.seq (.region false [xm 6 3,
 xm 7 0,
 xi 8 (.bin .rem (.tmp 7) (.const (.int .i64 10000))),
 xi 9 (.buildSlice 1 1 [xz] [(0, 1, (.tmp 8))]),
 xi 10 (.append 1 8 (.tmp 6) (.tmp 9)),
 xm 3 10])
 (.region false [xm 11 0,
 xi 12 (.bin .quo (.tmp 11) (.const (.int .i64 10000))),
 xm 0 12]))))))
 (.seq (.region false [xm 13 3,
 xm 2 13])
 (.ret)))),
 [.tmp 2], .pure, 14⟩

def ef141 : EFun := ⟨
 .seq (.region false [xi 4 (.move (.const xz))])
 (.seq (.seq (.region false [xm 6 0,
 xi 7 (.len false (.tmp 6)),
 xm 8 1,
 xi 9 (.len false (.tmp 8)),
 xi 10 (.bin .neq (.tmp 7) (.tmp 9))])
 (.cond (.tmp 10) (.seq (.seq (.region false [xm 11 0,
 xi 12 (.len false (.tmp 11)),
 xm 13 1,
 xi 14 (.len false (.tmp 13)),
 xi 15 (.bin .lss (.tmp 12) (.tmp 14))])
 (.cond (.tmp 15) (.seq (.region false [xi 4 (.move (.const (.int .i64 (-1))))])
 (.ret))
 (.skip)))
 (.seq (.region false [xi 4 (.move (.const (.int .i64 1)))])
 (.ret)))
 (.skip)))
 (.seq (.seq (.region false [xm 16 0,
 xi 17 (.len false (.tmp 16)),
 xi 18 (.bin .sub (.tmp 17) (.const (.int .i64 1))),
 xm 5 18])
 (.block 0 (.loop (some [0, 1, 5]) (
 .seq (.seq (.region false [xm 19 5,
 xi 20 (.bin .geq (.tmp 19) (.const xz))])
 (.cond (.tmp 20) (.skip)
 (.exit 0)))
 (.seq (.block 1 (.seq (.seq (.region true [xm 23 0,
 xm 24 5,
 xi 25 (.indexAddr none 1 (.tmp 23) (.tmp 24)),
 xi 26 (.load false 1 (.tmp 25)),
 xm 27 1,
 xm 28 5,
 xi 29 (.indexAddr none 1 (.tmp 27) (.tmp 28)),
 xi 30 (.load false 1 (.tmp 29)),
 xi 31 (.bin .lss (.tmp 26) (.tmp 30))])
 (.cond (.tmp 31) (.seq (.region false [xi 4 (.move (.const (.int .i64 (-1))))])
 (.ret))
 (.skip)))
 (.seq (.region true [xm 32 0,
 xm 33 5,
 xi 34 (.indexAddr none 1 (.tmp 32) (.tmp 33)),
 xi 35 (.load false 1 (.tmp 34)),
 xm 36 1,
 xm 37 5,
 xi 38 (.indexAddr none 1 (.tmp 36) (.tmp 37)),
 xi 39 (.load false 1 (.tmp 38)),
 xi 40 (.bin .gtr (.tmp 35) (.tmp 39))])
 (.cond (.tmp 40) (.seq (.region false [xi 4 (.move (.const (.int .i64 1)))])
 (.ret))
 (.skip)))))
 (.region false [xm 21 5,
 xi 22 (.bin .sub (.tmp 21) (.const (.int .i64 1))),
 xm 5 22]))))))
 (.seq (.region false [xi 4 (.move (.const xz))])
 (.ret)))),
 [.tmp 4], .pure, 41⟩

def ef147 : EFun := ⟨
 .seq (.region false [xi 3 (.box (.tmp 0)),
 xi 5 (.box (.tmp 2)),
 xi 6 (.push [xz, xz])])
 (.seq (.region true [xi 7 (.fieldAddr 0 (.tmp 3)),
 xi 8 (.fieldAddr 1 (.tmp 7)),
 xi 9 (.load false 1 (.tmp 8)),
 xi 10 (.load true 5 (.tmp 5)),
 xi 11 (.fieldAddr 3 (.tmp 3)),
 xi 12 (.load false 1 (.tmp 11)),
 xm 13 1,
 xi 14 (.indexAddr none 2 (.tmp 12) (.tmp 13)),
 xi 15 (.load true 2 (.tmp 14)),
 xi 16 (.call 198 [(.tmp 9), (.tmp 10), (.tmp 15)]),
 ⟨none, .store 2 (.tmp 6) (.tmp 16), none, [], false, false⟩])
 (.ret)),
 [.cell 6 true 2], .pure, 17⟩

def ef156 : EFun := ⟨
 .seq (.region false [xi 2 (.move (.const (.bool false)))])
 (.seq (.region false [xm 3 0,
 xi 4 (.bin .geq (.tmp 3) (.const (.int .u8 48))),
 xm 5 4,
 xg 6 (.move (.tmp 0)) 5 true,
 xg 7 (.bin .leq (.tmp 6) (.const (.int .u8 57))) 5 true,
 xi 8 (.pick (.tmp 5) (.tmp 7) (.const (.bool false))),
 xm 2 8])
 (.ret)),
 [.tmp 2], .pure, 9⟩

def ef159 : EFun := ⟨
 .seq (.region false [xi 2 (.move (.const (.bool false)))])
 (.seq (.region false [xm 3 0,
 xi 4 (.bin .geq (.tmp 3) (.const (.int .u8 97))),
 xm 5 4,
 xg 6 (.move (.tmp 0)) 5 true,
 xg 7 (.bin .leq (.tmp 6) (.const (.int .u8 122))) 5 true,
 xi 8 (.pick (.tmp 5) (.tmp 7) (.const (.bool false))),
 xm 9 8,
 xg 10 (.move (.tmp 0)) 9 false,
 xg 11 (.bin .geq (.tmp 10) (.const (.int .u8 65))) 9 false,
 xg 12 (.move (.tmp 11)) 9 false,
 xg 13 (.move (.tmp 0)) 12 true,
 xg 14 (.bin .leq (.tmp 13) (.const (.int .u8 90))) 12 true,
 xg 15 (.pick (.tmp 12) (.tmp 14) (.const (.bool false))) 9 false,
 xi 16 (.pick (.tmp 9) (.const (.bool true)) (.tmp 15)),
 xm 2 16])
 (.ret)),
 [.tmp 2], .pure, 17⟩

def ef164 : EFun := ⟨
 .seq (.region false [xi 2 (.move (.const xz))])
 (.seq (.seq (.region false [xm 6 0,
 xi 7 (.len false (.tmp 6)),
 xi 8 (.bin .gtr (.tmp 7) (.const (.int .i64 20)))])
 (.cond (.tmp 8) (.seq (.region false [xi 2 (.move (.const (.int .i64 8)))])
 (.ret))
 (.skip)))
 (.seq (.region false [xi 9 (.makeMap),
 xm 3 9])
 (.seq (.seq (.region false [xm 10 0,
 xi 11 (.len false (.tmp 10)),
 xi 12 (.move (.const xz))])
 (.block 0 (.loop (some [3, 10, 11, 12]) (
 .seq (.region false [xi 13 (.bin .lss (.tmp 12) (.tmp 11))])
 (.seq (.cond (.tmp 13) (.skip)
 (.exit 0))
 (.seq (.block 1 (.seq (.region false [xi 14 (.indexAddr none 4 (.tmp 10) (.tmp 12)),
 xi 15 (.load true 4 (.tmp 14)),
 xi 5 (.push [(.string ⟨#[]⟩), xz, xz, xz]),
 ⟨none, .store 4 (.tmp 5) (.tmp 15), none, [], false, false⟩])
 (.seq (.block 2 (.seq (.region false [xi 17 (.fieldAddr 0 (.tmp 5)),
 xi 18 (.load false 1 (.tmp 17)),
 xi 19 (.call 217 [(.tmp 18)]),
 xi 20 (.un .not (.tmp 19)),
 xm 16 20])
 (.cond (.tmp 16) (.seq (.region false [xi 2 (.move (.const (.int .i64 4)))])
 (.ret))
 (.seq (.region false [xm 22 3,
 xi 23 (.fieldAddr 0 (.tmp 5)),
 xi 24 (.load false 1 (.tmp 23)),
 xi 25 (.mapGet .str (.bool false) false (.tmp 22) (.tmp 24)),
 xm 21 25])
 (.cond (.tmp 21) (.seq (.region false [xi 2 (.move (.const (.int .i64 5)))])
 (.ret))
 (.seq (.region false [xi 27 (.fieldAddr 1 (.tmp 5)),
 xi 28 (.load false 1 (.tmp 27)),
 xi 29 (.call 71 [(.tmp 28), (.const (.int .i64 1)), (.const (.int .i64 200000))]),
 xi 30 (.un .not (.tmp 29)),
 xm 31 30,
 xg 32 (.fieldAddr 2 (.tmp 5)) 31 false,
 xg 33 (.load false 1 (.tmp 32)) 31 false,
 xg 34 (.call 71 [(.tmp 33), (.const (.int .i64 1)), (.const (.int .i64 1000000))]) 31 false,
 xg 35 (.un .not (.tmp 34)) 31 false,
 xi 36 (.pick (.tmp 31) (.const (.bool true)) (.tmp 35)),
 xm 37 36,
 xg 38 (.fieldAddr 3 (.tmp 5)) 37 false,
 xg 39 (.load false 1 (.tmp 38)) 37 false,
 xg 40 (.call 71 [(.tmp 39), (.const xz), (.const (.int .i64 100000000))]) 37 false,
 xg 41 (.un .not (.tmp 40)) 37 false,
 xi 42 (.pick (.tmp 37) (.const (.bool true)) (.tmp 41)),
 xm 26 42])
 (.cond (.tmp 26) (.seq (.region false [xi 2 (.move (.const (.int .i64 2)))])
 (.ret))
 (.skip))))))))
 (.region false [xm 43 3,
 xi 44 (.fieldAddr 0 (.tmp 5)),
 xi 45 (.load false 1 (.tmp 44)),
 ⟨none, .mapSet .str (.tmp 43) (.tmp 45) (.const (.bool true)), none, [], false, false⟩]))))
 (.region false [xi 46 (.bin .add (.tmp 12) (.const (.int .i64 1))),
 xm 12 46])))))))
 (.seq (.region false [xi 2 (.move (.const xz))])
 (.ret))))),
 [.tmp 2], .pure, 47⟩

def ef165 : EFun := ⟨
 .seq (.region false [xi 2 (.box (.tmp 0)),
 xi 4 (.move (.const xz))])
 (.seq (.region false [xi 13 (.fieldAddr 2 (.tmp 2)),
 xi 14 (.load false 1 (.tmp 13)),
 xm 15 1,
 xi 16 (.indexAddr none 10 (.tmp 14) (.tmp 15)),
 xi 17 (.load true 10 (.tmp 16)),
 xi 5 (.push [xz, xz, xz, xz, xz, xz, xz, xz, (.string ⟨#[]⟩), (.string ⟨#[]⟩)]),
 ⟨none, .store 10 (.tmp 5) (.tmp 17), none, [], false, false⟩])
 (.seq (.seq (.region false [xi 18 (.fieldAddr 0 (.tmp 5)),
 xi 19 (.load true 4 (.tmp 18)),
 xi 20 (.call 218 [(.tmp 19)]),
 xm 6 20])
 (.seq (.region false [xm 21 6,
 xi 22 (.bin .neq (.tmp 21) (.const xz))])
 (.cond (.tmp 22) (.seq (.region false [xm 23 6,
 xm 4 23])
 (.ret))
 (.skip))))
 (.seq (.seq (.region false [xi 24 (.fieldAddr 4 (.tmp 5)),
 xi 25 (.load false 1 (.tmp 24)),
 xi 26 (.call 71 [(.tmp 25), (.const (.int .i64 1)), (.const (.int .i64 4))]),
 xi 27 (.un .not (.tmp 26))])
 (.cond (.tmp 27) (.seq (.region false [xi 4 (.move (.const (.int .i64 2)))])
 (.ret))
 (.skip)))
 (.seq (.seq (.region false [xi 28 (.fieldAddr 1 (.tmp 2)),
 xi 29 (.load false 1 (.tmp 28)),
 xi 30 (.fieldAddr 5 (.tmp 5)),
 xi 31 (.load true 5 (.tmp 30)),
 xi 32 (.call 131 [(.tmp 29), (.tmp 31)]),
 xm 7 32])
 (.seq (.region false [xm 33 7,
 xi 34 (.bin .neq (.tmp 33) (.const xz))])
 (.cond (.tmp 34) (.seq (.region false [xm 35 7,
 xm 4 35])
 (.ret))
 (.skip))))
 (.seq (.region false [xi 37 (.fieldAddr 0 (.tmp 5)),
 xi 38 (.load true 4 (.tmp 37)),
 xi 39 (.fieldAddr 0 (.tmp 2)),
 xi 40 (.load false 1 (.tmp 39)),
 xi 41 (.call 192 [(.tmp 38), (.tmp 40)]),
 xm 36 41,
 xi 42 (.extract (.tmp 36) 0),
 xi 43 (.extract (.tmp 36) 1),
 xi 8 (.push [xz, xz]),
 ⟨none, .store 2 (.tmp 8) (.tmp 42), none, [], false, false⟩,
 xm 9 43])
 (.seq (.seq (.region false [xm 44 9,
 xi 45 (.bin .neq (.tmp 44) (.const xz))])
 (.cond (.tmp 45) (.seq (.region false [xm 46 9,
 xm 4 46])
 (.ret))
 (.skip)))
 (.seq (.seq (.region false [xi 47 (.load true 2 (.tmp 8)),
 xi 48 (.call 186 [(.tmp 47)]),
 xm 10 48])
 (.seq (.region false [xm 49 10,
 xi 50 (.bin .neq (.tmp 49) (.const xz)),
 xm 51 50,
 xg 52 (.move (.tmp 1)) 51 false,
 xg 53 (.bin .eql (.tmp 52) (.const xz)) 51 false,
 xi 54 (.pick (.tmp 51) (.const (.bool true)) (.tmp 53))])
 (.cond (.tmp 54) (.seq (.region false [xm 55 10,
 xm 4 55])
 (.ret))
 (.skip))))
 (.seq (.seq (.region true [xi 57 (.fieldAddr 0 (.tmp 5)),
 xi 58 (.load true 4 (.tmp 57)),
 xi 59 (.fieldAddr 2 (.tmp 2)),
 xi 60 (.load false 1 (.tmp 59)),
 xm 61 1,
 xi 62 (.bin .sub (.tmp 61) (.const (.int .i64 1))),
 xi 63 (.indexAddr none 10 (.tmp 60) (.tmp 62)),
 xi 64 (.fieldAddr 0 (.tmp 63)),
 xi 65 (.load true 4 (.tmp 64)),
 xi 66 (.call 219 [(.tmp 58), (.tmp 65)]),
 xm 56 66,
 xi 67 (.extract (.tmp 56) 0),
 xi 68 (.extract (.tmp 56) 1),
 xm 11 67,
 xm 12 68])
 (.block 0 (.seq (.region false [xm 70 12,
 xi 71 (.bin .neq (.tmp 70) (.const xz)),
 xm 69 71])
 (.cond (.tmp 69) (.seq (.region false [xm 72 12,
 xm 4 72])
 (.ret))
 (.seq (.region false [xm 74 11,
 xi 75 (.bin .leq (.tmp 74) (.const xz)),
 xm 73 75])
 (.cond (.tmp 73) (.seq (.region false [xi 4 (.move (.const (.int .i64 9)))])
 (.ret))
 (.skip)))))))
 (.seq (.region false [xi 4 (.move (.const xz))])
 (.ret)))))))))),
 [.tmp 4], .pure, 76⟩

def ef167 : EFun := ⟨
 .seq (.region false [xi 4 (.move (.const xz))])
 (.seq (.seq (.region false [xi 5 (.move (.const xz))])
 (.block 0 (.loop (some [0, 1, 5]) (
 .seq (.seq (.region false [xm 6 5,
 xm 7 0,
 xi 8 (.len false (.tmp 7)),
 xi 9 (.bin .lss (.tmp 6) (.tmp 8))])
 (.cond (.tmp 9) (.skip)
 (.exit 0)))
 (.seq (.block 1 (.seq (.region false [xm 12 0,
 xm 13 5,
 xi 14 (.indexAddr none 4 (.tmp 12) (.tmp 13)),
 xi 15 (.fieldAddr 0 (.tmp 14)),
 xi 16 (.load false 1 (.tmp 15)),
 xm 17 1,
 xi 18 (.bin .eql (.tmp 16) (.tmp 17))])
 (.cond (.tmp 18) (.seq (.region false [xm 19 5,
 xm 4 19])
 (.ret))
 (.skip))))
 (.region false [xm 10 5,
 xi 11 (.bin .add (.tmp 10) (.const (.int .i64 1))),
 xm 5 11]))))))
 (.seq (.region false [xi 4 (.move (.const (.int .i64 (-1))))])
 (.ret))),
 [.tmp 4], .pure, 20⟩

def ef168 : EFun := ⟨
 .seq (.region false [xi 1 (.box (.tmp 0)),
 xi 2 (.move (.const (.bool false)))])
 (.seq (.seq (.region false [xi 5 (.fieldAddr 0 (.tmp 1)),
 xi 6 (.load false 1 (.tmp 5)),
 xi 7 (.fieldAddr 1 (.tmp 1)),
 xi 8 (.load false 1 (.tmp 7)),
 xi 9 (.fieldAddr 2 (.tmp 1)),
 xi 10 (.load false 1 (.tmp 9)),
 xi 11 (.build [xz, xz, xz] [(0, 1, (.tmp 6)), (1, 1, (.tmp 8)), (2, 1, (.tmp 10))]),
 xi 12 (.move (.const xz))])
 (.block 0 (.loop (some [1, 11, 12]) (
 .seq (.region false [xi 13 (.bin .lss (.tmp 12) (.const (.int .i64 3)))])
 (.seq (.cond (.tmp 13) (.skip)
 (.exit 0))
 (.seq (.block 1 (.seq (.region false [xi 14 (.index 3 1 false (.tmp 11) (.tmp 12)),
 xm 4 14])
 (.seq (.region false [xm 15 4,
 xi 16 (.call 74 [(.tmp 15), (.const (.int .i64 (-400))), (.const (.int .i64 400))]),
 xi 17 (.un .not (.tmp 16))])
 (.cond (.tmp 17) (.seq (.region false [xi 2 (.move (.const (.bool false)))])
 (.ret))
 (.skip)))))
 (.region false [xi 18 (.bin .add (.tmp 12) (.const (.int .i64 1))),
 xm 12 18])))))))
 (.seq (.region false [xi 19 (.fieldAddr 3 (.tmp 1)),
 xi 20 (.load false 1 (.tmp 19)),
 xi 21 (.call 74 [(.tmp 20), (.const (.int .i64 1)), (.const (.int .i64 12))]),
 xm 2 21])
 (.ret))),
 [.tmp 2], .pure, 22⟩

def ef169 : EFun := ⟨
 .seq (.region false [xi 1 (.box (.tmp 0)),
 xi 2 (.move (.const (.bool false)))])
 (.seq (.region false [xi 3 (.fieldAddr 0 (.tmp 1)),
 xi 4 (.load false 1 (.tmp 3)),
 xi 5 (.fieldAddr 1 (.tmp 1)),
 xi 6 (.load false 1 (.tmp 5)),
 xi 7 (.call 74 [(.tmp 4), (.const (.int .i64 1)), (.tmp 6)]),
 xm 8 7,
 xg 9 (.fieldAddr 1 (.tmp 1)) 8 true,
 xg 10 (.load false 1 (.tmp 9)) 8 true,
 xg 11 (.bin .leq (.tmp 10) (.const (.int .i64 10000000))) 8 true,
 xi 12 (.pick (.tmp 8) (.tmp 11) (.const (.bool false))),
 xm 2 12])
 (.ret)),
 [.tmp 2], .pure, 13⟩

def ef170 : EFun := ⟨
 .seq (.region false [xi 2 (.box (.tmp 0)),
 xi 3 (.box (.tmp 1)),
 xi 4 (.move (.const xz))])
 (.seq (.region false [xi 8 (.load true 4 (.tmp 2)),
 xi 9 (.load true 4 (.tmp 3)),
 xi 10 (.call 222 [(.tmp 8), (.tmp 9), (.const (.int .i64 (-1)))]),
 xi 11 (.call 221 [(.tmp 10)]),
 xi 5 (.push [xz, xz, xz, xz]),
 ⟨none, .store 4 (.tmp 5) (.tmp 11), none, [], false, false⟩])
 (.seq (.region false [xi 13 (.fieldAddr 0 (.tmp 5)),
 xi 14 (.load false 1 (.tmp 13)),
 xi 15 (.fieldAddr 1 (.tmp 5)),
 xi 16 (.load false 1 (.tmp 15)),
 xi 17 (.fieldAddr 2 (.tmp 5)),
 xi 18 (.load false 1 (.tmp 17)),
 xi 19 (.call 137 [(.tmp 14), (.tmp 16), (.tmp 18)]),
 xm 12 19,
 xi 20 (.extract (.tmp 12) 0),
 xi 21 (.extract (.tmp 12) 1),
 xm 6 20,
 xm 7 21])
 (.seq (.region false [xm 22 6,
 xm 23 7,
 xi 24 (.call 141 [(.tmp 22), (.tmp 23)]),
 xm 4 24])
 (.ret)))),
 [.tmp 4], .pure, 25⟩

def ef186 : EFun := ⟨
 .seq (.region false [xi 1 (.box (.tmp 0)),
 xi 2 (.move (.const xz))])
 (.seq (.seq (.region false [xi 3 (.fieldAddr 0 (.tmp 1)),
 xi 4 (.load false 1 (.tmp 3)),
 xi 5 (.bin .lss (.tmp 4) (.const (.int .i64 1))),
 xm 6 5,
 xg 7 (.fieldAddr 0 (.tmp 1)) 6 false,
 xg 8 (.load false 1 (.tmp 7)) 6 false,
 xg 9 (.fieldAddr 1 (.tmp 1)) 6 false,
 xg 10 (.load false 1 (.tmp 9)) 6 false,
 xg 11 (.bin .gtr (.tmp 8) (.tmp 10)) 6 false,
 xi 12 (.pick (.tmp 6) (.const (.bool true)) (.tmp 11)),
 xm 13 12,
 xg 14 (.fieldAddr 1 (.tmp 1)) 13 false,
 xg 15 (.load false 1 (.tmp 14)) 13 false,
 xg 16 (.bin .gtr (.tmp 15) (.const (.int .i64 10000000))) 13 false,
 xi 17 (.pick (.tmp 13) (.const (.bool true)) (.tmp 16))])
 (.cond (.tmp 17) (.seq (.region false [xi 2 (.move (.const (.int .i64 2)))])
 (.ret))
 (.skip)))
 (.seq (.region false [xi 2 (.move (.const xz))])
 (.ret))),
 [.tmp 2], .pure, 18⟩

def ef187 : EFun := ⟨
 .seq (.region false [xi 6 (.push [xz, xz])])
 (.seq (.region false [xm 7 0,
 xm 8 2,
 xm 9 1,
 xm 10 2,
 xi 11 (.call 188 [(.tmp 7), (.tmp 8), (.tmp 9), (.tmp 10)]),
 ⟨none, .store 2 (.tmp 6) (.tmp 11), none, [], false, false⟩])
 (.ret)),
 [.cell 6 true 2], .pure, 12⟩

def ef188 : EFun := ⟨
 .seq (.region false [xi 8 (.push [xz, xz])])
 (.seq (.region true [xm 9 0,
 xm 10 1,
 xi 11 (.bin .quo (.tmp 9) (.tmp 10)),
 xm 12 2,
 xm 13 3,
 xi 14 (.bin .add (.tmp 12) (.tmp 13)),
 xi 15 (.bin .sub (.tmp 14) (.const (.int .i64 1))),
 xm 16 3,
 xi 17 (.bin .quo (.tmp 15) (.tmp 16)),
 xi 18 (.build [xz, xz] [(0, 1, (.tmp 11)), (1, 1, (.tmp 17))]),
 ⟨none, .store 2 (.tmp 8) (.tmp 18), none, [], false, false⟩])
 (.ret)),
 [.cell 8 true 2], .pure, 19⟩

def ef189 : EFun := ⟨
 .seq (.region false [xi 4 (.move (.const xz))])
 (.seq (.block 0 (.seq (.region false [xm 8 0,
 xi 9 (.call 241 [(.tmp 8), (.const (.int .i64 1)), (.const (.int .i64 60))]),
 xi 10 (.un .not (.tmp 9)),
 xm 7 10])
 (.cond (.tmp 7) (.seq (.region false [xi 4 (.move (.const (.int .i64 2)))])
 (.ret))
 (.seq (.region false [xm 12 1,
 xi 13 (.len false (.tmp 12)),
 xi 14 (.bin .gtr (.tmp 13) (.const (.int .i64 200))),
 xm 11 14])
 (.cond (.tmp 11) (.seq (.region false [xi 4 (.move (.const (.int .i64 8)))])
 (.ret))
 (.skip))))))
 (.seq (.seq (.region false [xm 15 1,
 xi 16 (.len false (.tmp 15)),
 xi 17 (.move (.const xz))])
 (.block 1 (.loop (some [0, 15, 16, 17]) (
 .seq (.region false [xi 18 (.bin .lss (.tmp 17) (.tmp 16))])
 (.seq (.cond (.tmp 18) (.skip)
 (.exit 1))
 (.seq (.block 2 (.seq (.region false [xi 19 (.indexAddr none 3 (.tmp 15) (.tmp 17)),
 xi 20 (.load true 3 (.tmp 19)),
 xi 6 (.push [xz, xz, xz]),
 ⟨none, .store 3 (.tmp 6) (.tmp 20), none, [], false, false⟩])
 (.block 3 (.seq (.region false [xi 22 (.fieldAddr 0 (.tmp 6)),
 xi 23 (.load false 1 (.tmp 22)),
 xm 24 0,
 xi 25 (.bin .sub (.tmp 24) (.const (.int .i64 1))),
 xi 26 (.call 241 [(.tmp 23), (.const xz), (.tmp 25)]),
 xi 27 (.un .not (.tmp 26)),
 xm 28 27,
 xg 29 (.fieldAddr 1 (.tmp 6)) 28 false,
 xg 30 (.load false 1 (.tmp 29)) 28 false,
 xg 31 (.move (.tmp 0)) 28 false,
 xg 32 (.bin .sub (.tmp 31) (.const (.int .i64 1))) 28 false,
 xg 33 (.call 241 [(.tmp 30), (.const xz), (.tmp 32)]) 28 false,
 xg 34 (.un .not (.tmp 33)) 28 false,
 xi 35 (.pick (.tmp 28) (.const (.bool true)) (.tmp 34)),
 xm 21 35])
 (.cond (.tmp 21) (.seq (.region false [xi 4 (.move (.const (.int .i64 6)))])
 (.ret))
 (.seq (.region false [xi 37 (.fieldAddr 2 (.tmp 6)),
 xi 38 (.load false 1 (.tmp 37)),
 xi 39 (.call 241 [(.tmp 38), (.const (.int .i64 (-1000000000))), (.const (.int .i64 1000000000))]),
 xi 40 (.un .not (.tmp 39)),
 xm 36 40])
 (.cond (.tmp 36) (.seq (.region false [xi 4 (.move (.const (.int .i64 2)))])
 (.ret))
 (.skip))))))))
 (.region false [xi 41 (.bin .add (.tmp 17) (.const (.int .i64 1))),
 xm 17 41])))))))
 (.seq (.region false [xi 4 (.move (.const xz))])
 (.ret)))),
 [.tmp 4], .pure, 42⟩

def ef190 : EFun := ⟨
 .seq (.region false [xi 6 (.move (.const xz))])
 (.seq (.region false [xi 7 (.move (.const (.int .i64 (-1))))])
 (.seq (.seq (.region false [xm 11 0,
 xi 12 (.len false (.tmp 11)),
 xi 13 (.move (.const xz))])
 (.block 0 (.loop (some [1, 2, 7, 11, 12, 13]) (
 .seq (.region false [xi 14 (.bin .lss (.tmp 13) (.tmp 12))])
 (.seq (.cond (.tmp 14) (.skip)
 (.exit 0))
 (.seq (.block 1 (.seq (.region false [xm 15 13,
 xi 16 (.indexAddr none 3 (.tmp 11) (.tmp 13)),
 xi 17 (.load true 3 (.tmp 16)),
 xi 9 (.push [xz, xz, xz]),
 xm 8 15,
 ⟨none, .store 3 (.tmp 9) (.tmp 17), none, [], false, false⟩])
 (.seq (.region true [xm 18 1,
 xi 19 (.fieldAddr 0 (.tmp 9)),
 xi 20 (.load false 1 (.tmp 19)),
 xi 21 (.indexAddr none 1 (.tmp 18) (.tmp 20)),
 xi 22 (.load false 1 (.tmp 21)),
 xi 23 (.fieldAddr 2 (.tmp 9)),
 xi 24 (.load false 1 (.tmp 23)),
 xi 25 (.bin .add (.tmp 22) (.tmp 24)),
 xm 10 25])
 (.seq (.region false [xm 26 10,
 xm 27 1,
 xi 28 (.fieldAddr 1 (.tmp 9)),
 xi 29 (.load false 1 (.tmp 28)),
 xi 30 (.indexAddr none 1 (.tmp 27) (.tmp 29)),
 xi 31 (.load false 1 (.tmp 30)),
 xi 32 (.bin .lss (.tmp 26) (.tmp 31))])
 (.cond (.tmp 32) (.seq (.region true [xm 33 1,
 xi 34 (.fieldAddr 1 (.tmp 9)),
 xi 35 (.load false 1 (.tmp 34)),
 xm 36 2,
 xi 37 (.fieldAddr 1 (.tmp 9)),
 ⟨(some 38), .load false 1 (.tmp 37), none, [], true, false⟩,
 xm 39 10,
 xm 40 8,
 xi 41 (.indexAddr none 1 (.tmp 33) (.tmp 35)),
 ⟨none, .store 1 (.tmp 41) (.tmp 39), none, [5], false, false⟩,
 xi 42 (.indexAddr none 1 (.tmp 36) (.tmp 38)),
 ⟨none, .store 1 (.tmp 42) (.tmp 40), none, [], false, false⟩])
 (.region false [xi 43 (.fieldAddr 1 (.tmp 9)),
 xi 44 (.load false 1 (.tmp 43)),
 xm 7 44]))
 (.skip))))))
 (.region false [xi 45 (.bin .add (.tmp 13) (.const (.int .i64 1))),
 xm 13 45])))))))
 (.seq (.region false [xm 46 7,
 xm 6 46])
 (.ret)))),
 [.tmp 6], .trunc, 47⟩

def ef191 : EFun := ⟨
 .seq (.region false [xm 4 0,
 xi 5 (.len false (.tmp 4)),
 xi 6 (.bin .sub (.tmp 5) (.const (.int .i64 1))),
 xi 2 (.move (.const xz)),
 xm 3 6])
 (.block 0 (.loop (some [0, 2, 3]) (
 .seq (.seq (.region false [xm 7 2,
 xm 8 3,
 xi 9 (.bin .lss (.tmp 7) (.tmp 8))])
 (.cond (.tmp 9) (.skip)
 (.exit 0)))
 (.seq (.block 1 (.region true [xm 14 0,
 xm 15 2,
 xm 16 0,
 xm 17 3,
 xm 18 0,
 xm 19 3,
 xi 20 (.indexAddr none 1 (.tmp 18) (.tmp 19)),
 xi 21 (.load false 1 (.tmp 20)),
 xm 22 0,
 xm 23 2,
 xi 24 (.indexAddr none 1 (.tmp 22) (.tmp 23)),
 xi 25 (.load false 1 (.tmp 24)),
 xi 26 (.indexAddr none 1 (.tmp 14) (.tmp 15)),
 ⟨none, .store 1 (.tmp 26) (.tmp 21), none, [], false, false⟩,
 xi 27 (.indexAddr none 1 (.tmp 16) (.tmp 17)),
 ⟨none, .store 1 (.tmp 27) (.tmp 25), none, [], false, false⟩]))
 (.region false [xm 10 2,
 xi 11 (.bin .add (.tmp 10) (.const (.int .i64 1))),
 xm 12 3,
 xi 13 (.bin .sub (.tmp 12) (.const (.int .i64 1))),
 xm 2 11,
 xm 3 13]))))),
 [], .trunc, 28⟩

def ef192 : EFun := ⟨
 .seq (.region false [xi 2 (.box (.tmp 0)),
 xi 4 (.push [xz, xz]),
 xi 5 (.move (.const xz))])
 (.seq (.seq (.region false [xi 13 (.load true 4 (.tmp 2)),
 xi 14 (.call 218 [(.tmp 13)]),
 xm 6 14])
 (.seq (.region false [xm 15 6,
 xi 16 (.bin .neq (.tmp 15) (.const xz))])
 (.cond (.tmp 16) (.seq (.region false [xi 17 (.build [xz, xz] []),
 xm 18 6,
 ⟨none, .store 2 (.tmp 4) (.tmp 17), none, [], false, false⟩,
 xm 5 18])
 (.ret))
 (.skip))))
 (.seq (.seq (.region false [xm 19 1,
 xi 20 (.call 241 [(.tmp 19), (.const (.int .i64 1)), (.const (.int .i64 1000000000))]),
 xi 21 (.un .not (.tmp 20))])
 (.cond (.tmp 21) (.seq (.region false [xi 22 (.build [xz, xz] []),
 ⟨none, .store 2 (.tmp 4) (.tmp 22), none, [], false, false⟩,
 xi 5 (.move (.const (.int .i64 2)))])
 (.ret))
 (.skip)))
 (.seq (.region false [xi 23 (.load true 4 (.tmp 2)),
 xi 24 (.call 242 [(.tmp 23)]),
 ⟨none, .store 4 (.tmp 2) (.tmp 24), none, [], false, false⟩])
 (.seq (.region false [xi 25 (.load true 4 (.tmp 2)),
 xi 26 (.call 244 [(.tmp 25)]),
 xi 27 (.call 243 [(.tmp 26)]),
 xi 7 (.push [(.slice none 0 0), (.slice none 0 0)]),
 ⟨none, .store 2 (.tmp 7) (.tmp 27), none, [], false, false⟩])
 (.seq (.region false [xm 28 1,
 xi 29 (.conv .u64 (.tmp 28)),
 xi 30 (.fieldAddr 3 (.tmp 2)),
 xi 31 (.load false 1 (.tmp 30)),
 xi 32 (.fieldAddr 0 (.tmp 7)),
 xi 33 (.load false 1 (.tmp 32)),
 xi 34 (.call 245 [(.tmp 29), (.tmp 31), (.tmp 33)]),
 xi 35 (.fieldAddr 0 (.tmp 7)),
 ⟨none, .store 1 (.tmp 35) (.tmp 34), none, [], false, false⟩])
 (.seq (.region false [xi 36 (.makeFunc (.func 246) [(.tmp 2), (.tmp 7)]),
 xm 8 36])
 (.seq (.region false [xi 9 (.move (.const xz)),
 xi 10 (.move (.const (.int .i64 1000000000000001)))])
 (.seq (.block 0 (.loop (some [4, 8, 9, 10]) (
 .seq (.seq (.region false [xm 37 9,
 xm 38 10,
 xi 39 (.bin .lss (.tmp 37) (.tmp 38))])
 (.cond (.tmp 39) (.skip)
 (.exit 0)))
 (.block 1 (.seq (.region false [xm 40 10,
 xm 41 10,
 xm 42 9,
 xi 43 (.bin .sub (.tmp 41) (.tmp 42)),
 xi 44 (.bin .quo (.tmp 43) (.const (.int .i64 2))),
 xi 45 (.bin .sub (.tmp 40) (.tmp 44)),
 xm 11 45])
 (.seq (.region false [xm 46 8,
 xm 47 11,
 xi 48 (.callVal (.tmp 46) [(.tmp 47)]),
 xi 49 (.bin .leq (.tmp 48) (.const xz))])
 (.cond (.tmp 49) (.region false [xm 50 11,
 xm 9 50])
 (.region false [xm 51 11,
 xi 52 (.bin .sub (.tmp 51) (.const (.int .i64 1))),
 xm 10 52]))))))))
 (.seq (.region false [xm 53 9,
 xm 54 9,
 xi 55 (.build [xz, xz] [(0, 1, (.tmp 53)), (1, 1, (.tmp 54))]),
 xi 12 (.push [xz, xz]),
 ⟨none, .store 2 (.tmp 12) (.tmp 55), none, [], false, false⟩])
 (.seq (.seq (.region false [xm 56 9,
 xi 57 (.bin .eql (.tmp 56) (.const xz)),
 xm 58 57,
 xg 59 (.move (.tmp 8)) 58 false,
 xg 60 (.move (.tmp 9)) 58 false,
 xg 61 (.callVal (.tmp 59) [(.tmp 60)]) 58 false,
 xg 62 (.bin .neq (.tmp 61) (.const xz)) 58 false,
 xi 63 (.pick (.tmp 58) (.const (.bool true)) (.tmp 62))])
 (.cond (.tmp 63) (.region false [xi 64 (.fieldAddr 1 (.tmp 12)),
 xi 65 (.load false 1 (.tmp 64)),
 xi 66 (.bin .add (.tmp 65) (.const (.int .i64 1))),
 xi 67 (.fieldAddr 1 (.tmp 12)),
 ⟨none, .store 1 (.tmp 67) (.tmp 66), none, [], false, false⟩])
 (.skip)))
 (.seq (.region false [xi 68 (.load true 2 (.tmp 12)),
 xi 69 (.call 248 [(.tmp 68)]),
 xi 70 (.extract (.tmp 69) 0),
 xi 71 (.extract (.tmp 69) 1),
 ⟨none, .store 2 (.tmp 4) (.tmp 70), none, [], false, false⟩,
 xm 5 71])
 (.ret)))))))))))),
 [.cell 4 true 2, .tmp 5], .pure, 72⟩

def ef193 : EFun := ⟨
 .seq (.region false [xi 3 (.box (.tmp 1)),
 xi 4 (.push [(.string ⟨#[]⟩), xz, xz, xz]),
 xi 5 (.move (.const (.bool false)))])
 (.seq (.region false [xm 7 0,
 xi 8 (.makeFunc (.func 250) [(.tmp 3)]),
 xi 9 (.call 249 [(.tmp 7), (.tmp 8)]),
 xm 6 9])
 (.seq (.seq (.region false [xm 10 6,
 xi 11 (.bin .lss (.tmp 10) (.const xz))])
 (.cond (.tmp 11) (.seq (.region false [xi 12 (.build [(.string ⟨#[]⟩), xz, xz, xz] []),
 ⟨none, .store 4 (.tmp 4) (.tmp 12), none, [], false, false⟩,
 xi 5 (.move (.const (.bool false)))])
 (.ret))
 (.skip)))
 (.seq (.region false [xm 13 0,
 xm 14 6,
 xi 15 (.indexAddr none 4 (.tmp 13) (.tmp 14)),
 xi 16 (.load true 4 (.tmp 15)),
 ⟨none, .store 4 (.tmp 4) (.tmp 16), none, [], false, false⟩,
 xi 5 (.move (.const (.bool true)))])
 (.ret)))),
 [.cell 4 true 4, .tmp 5], .pure, 17⟩

def ef194 : EFun := ⟨
 .seq (.region false [xi 3 (.box (.tmp 1)),
 xi 4 (.move (.const xz))])
 (.seq (.region false [xm 11 0,
 xi 12 (.fieldAddr 3 (.tmp 3)),
 xi 13 (.load false 1 (.tmp 12)),
 xi 14 (.call 193 [(.tmp 11), (.tmp 13)]),
 xm 10 14,
 xi 15 (.extract (.tmp 10) 0),
 xi 16 (.extract (.tmp 10) 1),
 xi 5 (.push [(.string ⟨#[]⟩), xz, xz, xz]),
 ⟨none, .store 4 (.tmp 5) (.tmp 15), none, [], false, false⟩,
 xm 6 16])
 (.seq (.region false [xi 17 (.fieldAddr 1 (.tmp 5)),
 xi 18 (.load false 1 (.tmp 17)),
 xi 19 (.fieldAddr 1 (.tmp 3)),
 xi 20 (.load false 1 (.tmp 19)),
 xi 21 (.bin .mul (.tmp 18) (.tmp 20)),
 xi 22 (.fieldAddr 1 (.tmp 3)),
 xi 23 (.load false 1 (.tmp 22)),
 xi 24 (.bin .mul (.tmp 21) (.tmp 23)),
 xm 7 24])
 (.seq (.seq (.region false [xi 25 (.fieldAddr 2 (.tmp 3)),
 xi 26 (.load false 1 (.tmp 25)),
 xi 27 (.bin .neq (.tmp 26) (.const xz))])
 (.cond (.tmp 27) (.seq (.region false [xm 29 0,
 xi 30 (.fieldAddr 4 (.tmp 3)),
 xi 31 (.load false 1 (.tmp 30)),
 xi 32 (.call 193 [(.tmp 29), (.tmp 31)]),
 xm 28 32,
 xi 33 (.extract (.tmp 28) 0),
 xi 34 (.extract (.tmp 28) 1),
 xi 8 (.push [(.string ⟨#[]⟩), xz, xz, xz]),
 ⟨none, .store 4 (.tmp 8) (.tmp 33), none, [], false, false⟩,
 xm 9 34])
 (.region false [xm 35 7,
 xi 36 (.fieldAddr 1 (.tmp 8)),
 xi 37 (.load false 1 (.tmp 36)),
 xi 38 (.fieldAddr 2 (.tmp 3)),
 xi 39 (.load false 1 (.tmp 38)),
 xi 40 (.fieldAddr 2 (.tmp 3)),
 xi 41 (.load false 1 (.tmp 40)),
 xi 42 (.bin .mul (.tmp 39) (.tmp 41)),
 xi 43 (.fieldAddr 1 (.tmp 3)),
 xi 44 (.load false 1 (.tmp 43)),
 xi 45 (.fieldAddr 1 (.tmp 3)),
 xi 46 (.load false 1 (.tmp 45)),
 xi 47 (.bin .mul (.tmp 44) (.tmp 46)),
 xi 48 (.bin .sub (.tmp 42) (.tmp 47)),
 xi 49 (.bin .mul (.tmp 37) (.tmp 48)),
 xi 50 (.bin .add (.tmp 35) (.tmp 49)),
 xm 7 50]))
 (.skip)))
 (.seq (.region false [xm 51 7,
 xm 4 51])
 (.ret))))),
 [.tmp 4], .pure, 52⟩

def ef195 : EFun := ⟨
 .seq (.region false [xi 1 (.box (.tmp 0)),
 xi 2 (.push [xz, xz])])
 (.seq (.region false [xi 5 (.fieldAddr 0 (.tmp 1)),
 xi 6 (.fieldAddr 2 (.tmp 5)),
 xi 7 (.load false 1 (.tmp 6)),
 xi 8 (.fieldAddr 4 (.tmp 1)),
 xi 9 (.fieldAddr 1 (.tmp 8)),
 xi 10 (.load false 1 (.tmp 9)),
 xi 11 (.bin .mul (.tmp 7) (.tmp 10)),
 xi 12 (.fieldAddr 4 (.tmp 1)),
 xi 13 (.fieldAddr 1 (.tmp 12)),
 xi 14 (.load false 1 (.tmp 13)),
 xi 15 (.bin .mul (.tmp 11) (.tmp 14)),
 xm 3 15])
 (.seq (.region false [xm 16 3,
 xm 17 3,
 xi 18 (.call 187 [(.tmp 16), (.tmp 17), (.const (.int .i64 1000000))]),
 xi 4 (.push [xz, xz]),
 ⟨none, .store 2 (.tmp 4) (.tmp 18), none, [], false, false⟩])
 (.seq (.region false [xi 19 (.fieldAddr 11 (.tmp 1)),
 xi 20 (.fieldAddr 0 (.tmp 19)),
 xi 21 (.load false 1 (.tmp 20)),
 xi 22 (.bin .mul (.const (.int .i64 1000)) (.tmp 21)),
 xi 23 (.fieldAddr 1 (.tmp 4)),
 xi 24 (.load false 1 (.tmp 23)),
 xi 25 (.fieldAddr 11 (.tmp 1)),
 xi 26 (.fieldAddr 1 (.tmp 25)),
 xi 27 (.load false 1 (.tmp 26)),
 xi 28 (.bin .mul (.const (.int .i64 1000)) (.tmp 27)),
 xi 29 (.fieldAddr 0 (.tmp 4)),
 xi 30 (.load false 1 (.tmp 29)),
 xi 31 (.call 188 [(.tmp 22), (.tmp 24), (.tmp 28), (.tmp 30)]),
 ⟨none, .store 2 (.tmp 2) (.tmp 31), none, [], false, false⟩])
 (.ret)))),
 [.cell 2 true 2], .pure, 32⟩

def ef196 : EFun := ⟨
 .seq (.region false [xi 4 (.box (.tmp 1)),
 xi 5 (.box (.tmp 2)),
 xi 6 (.push [xz, xz])])
 (.seq (.region true [xm 8 0,
 xm 9 0,
 xi 10 (.fieldAddr 3 (.tmp 4)),
 xi 11 (.load false 1 (.tmp 10)),
 ⟨(some 12), .call 167 [(.tmp 9), (.tmp 11)], none, [], false, true⟩,
 xi 13 (.indexAddr none 4 (.tmp 8) (.tmp 12)),
 xi 14 (.fieldAddr 2 (.tmp 13)),
 xi 15 (.load false 1 (.tmp 14)),
 xi 16 (.fieldAddr 1 (.tmp 4)),
 xi 17 (.load false 1 (.tmp 16)),
 xi 18 (.bin .mul (.tmp 15) (.tmp 17)),
 xi 19 (.fieldAddr 1 (.tmp 4)),
 xi 20 (.load false 1 (.tmp 19)),
 xi 21 (.bin .mul (.tmp 18) (.tmp 20)),
 ⟨(some 22), .call 252 [(.tmp 21)], none, [], false, true⟩,
 ⟨(some 23), .call 252 [(.const (.int .i64 1000000))], none, [], false, true⟩,
 ⟨(some 24), .call 251 [(.tmp 22), (.tmp 23)], none, [], false, true⟩,
 xi 7 (.push [xz, xz]),
 ⟨none, .store 2 (.tmp 7) (.tmp 24), none, [], false, false⟩])
 (.seq (.region true [⟨(some 25), .call 252 [(.const (.int .i64 1000))], none, [], false, true⟩,
 xm 26 0,
 xi 27 (.load true 5 (.tmp 4)),
 xi 28 (.load true 2 (.tmp 5)),
 ⟨(some 29), .call 198 [(.tmp 26), (.tmp 27), (.tmp 28)], none, [], false, true⟩,
 ⟨(some 30), .call 253 [(.tmp 25), (.tmp 29)], none, [], false, true⟩,
 xi 31 (.load true 2 (.tmp 7)),
 xi 32 (.call 251 [(.tmp 30), (.tmp 31)]),
 ⟨none, .store 2 (.tmp 6) (.tmp 32), none, [], false, false⟩])
 (.ret))),
 [.cell 6 true 2], .pure, 33⟩

def ef198 : EFun := ⟨
 .seq (.region false [xi 4 (.box (.tmp 1)),
 xi 5 (.box (.tmp 2)),
 xi 6 (.push [xz, xz])])
 (.seq (.region false [xi 10 (.load true 5 (.tmp 4)),
 xi 11 (.load true 2 (.tmp 5)),
 xi 12 (.call 254 [(.tmp 10), (.tmp 11)]),
 xi 7 (.push [xz, xz]),
 ⟨none, .store 2 (.tmp 7) (.tmp 12), none, [], false, false⟩])
 (.seq (.region false [xi 13 (.load true 2 (.tmp 7)),
 xi 14 (.load true 2 (.tmp 7)),
 xi 15 (.call 253 [(.tmp 13), (.tmp 14)]),
 xi 16 (.call 252 [(.const (.int .i64 10000))]),
 xi 17 (.call 251 [(.tmp 15), (.tmp 16)]),
 xi 8 (.push [xz, xz]),
 ⟨none, .store 2 (.tmp 8) (.tmp 17), none, [], false, false⟩])
 (.seq (.region false [xm 18 0,
 xi 19 (.load true 5 (.tmp 4)),
 xi 20 (.call 255 [(.tmp 18), (.tmp 19)]),
 xi 21 (.call 252 [(.tmp 20)]),
 xi 22 (.call 252 [(.const (.int .i64 10000))]),
 xi 23 (.call 251 [(.tmp 21), (.tmp 22)]),
 xi 9 (.push [xz, xz]),
 ⟨none, .store 2 (.tmp 9) (.tmp 23), none, [], false, false⟩])
 (.seq (.region false [xi 24 (.load true 2 (.tmp 9)),
 xi 25 (.load true 2 (.tmp 8)),
 xi 26 (.call 253 [(.tmp 24), (.tmp 25)]),
 xi 27 (.call 252 [(.const (.int .i64 1000000))]),
 xi 28 (.call 251 [(.tmp 26), (.tmp 27)]),
 ⟨none, .store 2 (.tmp 6) (.tmp 28), none, [], false, false⟩])
 (.ret))))),
 [.cell 6 true 2], .pure, 29⟩

def ef217 : EFun := ⟨
 .seq (.region false [xi 2 (.move (.const (.bool false)))])
 (.seq (.seq (.region false [xm 6 0,
 xi 7 (.bytesOf (.tmp 6)),
 xi 8 (.len false (.tmp 7)),
 xi 9 (.move (.const xz))])
 (.block 0 (.loop (some [0, 7, 8, 9]) (
 .seq (.region false [xi 10 (.bin .lss (.tmp 9) (.tmp 8))])
 (.seq (.cond (.tmp 10) (.skip)
 (.exit 0))
 (.seq (.block 1 (.seq (.region false [xm 11 9,
 xi 12 (.indexAddr none 1 (.tmp 7) (.tmp 9)),
 xi 13 (.load false 1 (.tmp 12)),
 xm 3 11,
 xm 4 13])
 (.seq (.region false [xm 14 4,
 xi 15 (.bin .geq (.tmp 14) (.const (.int .u8 97))),
 xm 16 15,
 xg 17 (.move (.tmp 4)) 16 true,
 xg 18 (.bin .leq (.tmp 17) (.const (.int .u8 122))) 16 true,
 xi 19 (.pick (.tmp 16) (.tmp 18) (.const (.bool false))),
 xm 20 19,
 xg 21 (.move (.tmp 4)) 20 false,
 xg 22 (.bin .geq (.tmp 21) (.const (.int .u8 65))) 20 false,
 xg 23 (.move (.tmp 22)) 20 false,
 xg 24 (.move (.tmp 4)) 23 true,
 xg 25 (.bin .leq (.tmp 24) (.const (.int .u8 90))) 23 true,
 xg 26 (.pick (.tmp 23) (.tmp 25) (.const (.bool false))) 20 false,
 xi 27 (.pick (.tmp 20) (.const (.bool true)) (.tmp 26)),
 xm 5 27])
 (.seq (.region false [xm 28 5,
 xi 29 (.un .not (.tmp 28)),
 xm 30 29,
 xg 31 (.move (.tmp 3)) 30 true,
 xg 32 (.bin .eql (.tmp 31) (.const xz)) 30 true,
 xg 33 (.move (.tmp 32)) 30 true,
 xg 34 (.move (.tmp 4)) 33 false,
 xg 35 (.bin .neq (.tmp 34) (.const (.int .u8 45))) 33 false,
 xg 36 (.move (.tmp 35)) 33 false,
 xg 37 (.move (.tmp 4)) 36 true,
 xg 38 (.bin .lss (.tmp 37) (.const (.int .u8 48))) 36 true,
 xg 39 (.move (.tmp 38)) 36 true,
 xg 40 (.move (.tmp 4)) 39 false,
 xg 41 (.bin .gtr (.tmp 40) (.const (.int .u8 57))) 39 false,
 xg 42 (.pick (.tmp 39) (.const (.bool true)) (.tmp 41)) 36 true,
 xg 43 (.pick (.tmp 36) (.tmp 42) (.const (.bool false))) 33 false,
 xg 44 (.pick (.tmp 33) (.const (.bool true)) (.tmp 43)) 30 true,
 xi 45 (.pick (.tmp 30) (.tmp 44) (.const (.bool false)))])
 (.cond (.tmp 45) (.seq (.region false [xi 2 (.move (.const (.bool false)))])
 (.ret))
 (.skip))))))
 (.region false [xi 46 (.bin .add (.tmp 9) (.const (.int .i64 1))),
 xm 9 46])))))))
 (.seq (.region false [xm 47 0,
 xi 48 (.bin .neq (.tmp 47) (.const (.string ⟨#[]⟩))),
 xm 49 48,
 xg 50 (.move (.tmp 0)) 49 true,
 xg 51 (.len true (.tmp 50)) 49 true,
 xg 52 (.bin .leq (.tmp 51) (.const (.int .i64 12))) 49 true,
 xi 53 (.pick (.tmp 49) (.tmp 52) (.const (.bool false))),
 xm 2 53])
 (.ret))),
 [.tmp 2], .pure, 54⟩

def ef218 : EFun := ⟨
 .seq (.region false [xi 1 (.box (.tmp 0)),
 xi 2 (.move (.const xz))])
 (.seq (.seq (.region false [xi 5 (.load true 4 (.tmp 1)),
 xi 6 (.call 244 [(.tmp 5)]),
 xi 7 (.move (.const xz))])
 (.block 0 (.loop (some [1, 6, 7]) (
 .seq (.region false [xi 8 (.bin .lss (.tmp 7) (.const (.int .i64 3)))])
 (.seq (.cond (.tmp 8) (.skip)
 (.exit 0))
 (.seq (.block 1 (.seq (.region false [xi 9 (.index 3 1 false (.tmp 6) (.tmp 7)),
 xm 4 9])
 (.seq (.region false [xm 10 4,
 xi 11 (.call 241 [(.tmp 10), (.const (.int .i64 (-400))), (.const (.int .i64 400))]),
 xi 12 (.un .not (.tmp 11))])
 (.cond (.tmp 12) (.seq (.region false [xi 2 (.move (.const (.int .i64 2)))])
 (.ret))
 (.skip)))))
 (.region false [xi 13 (.bin .add (.tmp 7) (.const (.int .i64 1))),
 xm 7 13])))))))
 (.seq (.seq (.region false [xi 14 (.fieldAddr 3 (.tmp 1)),
 xi 15 (.load false 1 (.tmp 14)),
 xi 16 (.call 241 [(.tmp 15), (.const (.int .i64 1)), (.const (.int .i64 12))]),
 xi 17 (.un .not (.tmp 16))])
 (.cond (.tmp 17) (.seq (.region false [xi 2 (.move (.const (.int .i64 2)))])
 (.ret))
 (.skip)))
 (.seq (.region false [xi 2 (.move (.const xz))])
 (.ret)))),
 [.tmp 2], .pure, 18⟩

def ef219 : EFun := ⟨
 .seq (.region false [xi 2 (.box (.tmp 0)),
 xi 3 (.box (.tmp 1)),
 xi 4 (.move (.const xz)),
 xi 5 (.move (.const xz))])
 (.seq (.seq (.region false [xi 7 (.load true 4 (.tmp 2)),
 xi 8 (.load true 4 (.tmp 3)),
 xi 9 (.call 274 [(.tmp 7), (.tmp 8)]),
 xm 6 9])
 (.seq (.region false [xm 10 6,
 xi 11 (.bin .neq (.tmp 10) (.const xz))])
 (.cond (.tmp 11) (.seq (.region false [xm 12 6,
 xi 4 (.move (.const xz)),
 xm 5 12])
 (.ret))
 (.skip))))
 (.seq (.region false [xi 13 (.load true 4 (.tmp 2)),
 xi 14 (.load true 4 (.tmp 3)),
 xi 15 (.call 275 [(.tmp 13), (.tmp 14)]),
 xm 4 15,
 xi 5 (.move (.const xz))])
 (.ret))),
 [.tmp 4, .tmp 5], .pure, 16⟩

def ef221 : EFun := ⟨
 .seq (.region false [xi 1 (.box (.tmp 0)),
 xi 2 (.push [xz, xz, xz, xz])])
 (.seq (.region true [xi 4 (.fieldAddr 0 (.tmp 1)),
 xi 5 (.load false 1 (.tmp 4)),
 xi 6 (.fieldAddr 1 (.tmp 1)),
 xi 7 (.load false 1 (.tmp 6)),
 ⟨(some 8), .call 276 [(.tmp 5), (.tmp 7)], none, [], false, true⟩,
 xi 9 (.fieldAddr 2 (.tmp 1)),
 xi 10 (.load false 1 (.tmp 9)),
 xi 11 (.fieldAddr 3 (.tmp 1)),
 xi 12 (.load false 1 (.tmp 11)),
 xi 13 (.call 276 [(.tmp 10), (.tmp 12)]),
 xi 14 (.call 276 [(.tmp 8), (.tmp 13)]),
 xm 3 14])
 (.seq (.region true [xi 15 (.fieldAddr 0 (.tmp 1)),
 xi 16 (.load false 1 (.tmp 15)),
 xm 17 3,
 xi 18 (.bin .quo (.tmp 16) (.tmp 17)),
 xi 19 (.fieldAddr 1 (.tmp 1)),
 xi 20 (.load false 1 (.tmp 19)),
 xm 21 3,
 xi 22 (.bin .quo (.tmp 20) (.tmp 21)),
 xi 23 (.fieldAddr 2 (.tmp 1)),
 xi 24 (.load false 1 (.tmp 23)),
 xm 25 3,
 xi 26 (.bin .quo (.tmp 24) (.tmp 25)),
 xi 27 (.fieldAddr 3 (.tmp 1)),
 xi 28 (.load false 1 (.tmp 27)),
 xm 29 3,
 xi 30 (.bin .quo (.tmp 28) (.tmp 29)),
 xi 31 (.build [xz, xz, xz, xz] [(0, 1, (.tmp 18)), (1, 1, (.tmp 22)), (2, 1, (.tmp 26)), (3, 1, (.tmp 30))]),
 ⟨none, .store 4 (.tmp 2) (.tmp 31), none, [], false, false⟩])
 (.ret))),
 [.cell 2 true 4], .pure, 32⟩

def ef222 : EFun := ⟨
 .seq (.region false [xi 3 (.box (.tmp 0)),
 xi 4 (.box (.tmp 1)),
 xi 6 (.push [xz, xz, xz, xz])])
 (.seq (.region false [xi 7 (.fieldAddr 0 (.tmp 3)),
 xi 8 (.load false 1 (.tmp 7)),
 xi 9 (.fieldAddr 3 (.tmp 4)),
 xi 10 (.load false 1 (.tmp 9)),
 xi 11 (.bin .mul (.tmp 8) (.tmp 10)),
 xm 12 2,
 xi 13 (.fieldAddr 0 (.tmp 4)),
 xi 14 (.load false 1 (.tmp 13)),
 xi 15 (.bin .mul (.tmp 12) (.tmp 14)),
 xi 16 (.fieldAddr 3 (.tmp 3)),
 xi 17 (.load false 1 (.tmp 16)),
 xi 18 (.bin .mul (.tmp 15) (.tmp 17)),
 xi 19 (.bin .add (.tmp 11) (.tmp 18)),
 xi 20 (.fieldAddr 1 (.tmp 3)),
 xi 21 (.load false 1 (.tmp 20)),
 xi 22 (.fieldAddr 3 (.tmp 4)),
 xi 23 (.load false 1 (.tmp 22)),
 xi 24 (.bin .mul (.tmp 21) (.tmp 23)),
 xm 25 2,
 xi 26 (.fieldAddr 1 (.tmp 4)),
 xi 27 (.load false 1 (.tmp 26)),
 xi 28 (.bin .mul (.tmp 25) (.tmp 27)),
 xi 29 (.fieldAddr 3 (.tmp 3)),
 xi 30 (.load false 1 (.tmp 29)),
 xi 31 (.bin .mul (.tmp 28) (.tmp 30)),
 xi 32 (.bin .add (.tmp 24) (.tmp 31)),
 xi 33 (.fieldAddr 2 (.tmp 3)),
 xi 34 (.load false 1 (.tmp 33)),
 xi 35 (.fieldAddr 3 (.tmp 4)),
 xi 36 (.load false 1 (.tmp 35)),
 xi 37 (.bin .mul (.tmp 34) (.tmp 36)),
 xm 38 2,
 xi 39 (.fieldAddr 2 (.tmp 4)),
 xi 40 (.load false 1 (.tmp 39)),
 xi 41 (.bin .mul (.tmp 38) (.tmp 40)),
 xi 42 (.fieldAddr 3 (.tmp 3)),
 xi 43 (.load false 1 (.tmp 42)),
 xi 44 (.bin .mul (.tmp 41) (.tmp 43)),
 xi 45 (.bin .add (.tmp 37) (.tmp 44)),
 xi 46 (.fieldAddr 3 (.tmp 3)),
 xi 47 (.load false 1 (.tmp 46)),
 xi 48 (.fieldAddr 3 (.tmp 4)),
 xi 49 (.load false 1 (.tmp 48)),
 xi 50 (.bin .mul (.tmp 47) (.tmp 49)),
 xi 51 (.build [xz, xz, xz, xz] [(0, 1, (.tmp 19)), (1, 1, (.tmp 32)), (2, 1, (.tmp 45)), (3, 1, (.tmp 50))]),
 ⟨none, .store 4 (.tmp 6) (.tmp 51), none, [], false, false⟩])
 (.ret)),
 [.cell 6 true 4], .pure, 52⟩

def ef241 : EFun := ⟨
 .seq (.region false [xi 6 (.move (.const (.bool false)))])
 (.seq (.region false [xm 7 0,
 xm 8 1,
 xi 9 (.bin .geq (.tmp 7) (.tmp 8)),
 xm 10 9,
 xg 11 (.move (.tmp 0)) 10 true,
 xg 12 (.move (.tmp 2)) 10 true,
 xg 13 (.bin .leq (.tmp 11) (.tmp 12)) 10 true,
 xi 14 (.pick (.tmp 10) (.tmp 13) (.const (.bool false))),
 xm 6 14])
 (.ret)),
 [.tmp 6], .pure, 15⟩

def ef242 : EFun := ⟨
 .seq (.region false [xi 1 (.box (.tmp 0)),
 xi 2 (.push [xz, xz, xz, xz])])
 (.seq (.region true [xi 4 (.fieldAddr 0 (.tmp 1)),
 xi 5 (.load false 1 (.tmp 4)),
 xi 6 (.fieldAddr 1 (.tmp 1)),
 xi 7 (.load false 1 (.tmp 6)),
 ⟨(some 8), .call 288 [(.tmp 5), (.tmp 7)], none, [], false, true⟩,
 xi 9 (.fieldAddr 2 (.tmp 1)),
 xi 10 (.load false 1 (.tmp 9)),
 xi 11 (.fieldAddr 3 (.tmp 1)),
 xi 12 (.load false 1 (.tmp 11)),
 xi 13 (.call 288 [(.tmp 10), (.tmp 12)]),
 xi 14 (.call 288 [(.tmp 8), (.tmp 13)]),
 xm 3 14])
 (.seq (.region true [xi 15 (.fieldAddr 0 (.tmp 1)),
 xi 16 (.load false 1 (.tmp 15)),
 xm 17 3,
 xi 18 (.bin .quo (.tmp 16) (.tmp 17)),
 xi 19 (.fieldAddr 1 (.tmp 1)),
 xi 20 (.load false 1 (.tmp 19)),
 xm 21 3,
 xi 22 (.bin .quo (.tmp 20) (.tmp 21)),
 xi 23 (.fieldAddr 2 (.tmp 1)),
 xi 24 (.load false 1 (.tmp 23)),
 xm 25 3,
 xi 26 (.bin .quo (.tmp 24) (.tmp 25)),
 xi 27 (.fieldAddr 3 (.tmp 1)),
 xi 28 (.load false 1 (.tmp 27)),
 xm 29 3,
 xi 30 (.bin .quo (.tmp 28) (.tmp 29)),
 xi 31 (.build [xz, xz, xz, xz] [(0, 1, (.tmp 18)), (1, 1, (.tmp 22)), (2, 1, (.tmp 26)), (3, 1, (.tmp 30))]),
 ⟨none, .store 4 (.tmp 2) (.tmp 31), none, [], false, false⟩])
 (.ret))),
 [.cell 2 true 4], .pure, 32⟩

def ef243 : EFun := ⟨
 .seq (.region false [xi 1 (.box (.tmp 0)),
 xi 2 (.push [(.slice none 0 0), (.slice none 0 0)])])
 (.seq (.region false [xi 6 (.buildSlice 1 1 [(.int .u64 0)] [(0, 1, (.const (.int .u64 1)))]),
 xi 7 (.buildSlice 1 1 [(.int .u64 0)] [(0, 1, (.const (.int .u64 1)))]),
 xi 8 (.build [(.slice none 0 0), (.slice none 0 0)] [(0, 1, (.tmp 6)), (1, 1, (.tmp 7))]),
 xi 3 (.push [(.slice none 0 0), (.slice none 0 0)]),
 ⟨none, .store 2 (.tmp 3) (.tmp 8), none, [], false, false⟩])
 (.seq (.seq (.region false [xi 9 (.load true 3 (.tmp 1)),
 xi 10 (.move (.const xz))])
 (.block 0 (.loop (some [2, 3, 9, 10]) (
 .seq (.region false [xi 11 (.bin .lss (.tmp 10) (.const (.int .i64 3)))])
 (.seq (.cond (.tmp 11) (.skip)
 (.exit 0))
 (.seq (.block 1 (.seq (.region false [xm 12 10,
 xi 13 (.index 3 1 false (.tmp 9) (.tmp 10)),
 xm 4 12,
 xm 5 13])
 (.seq (.region true [xm 14 4,
 xi 15 (.indexAddr (some 3) 1 (.global 0) (.tmp 14)),
 xi 16 (.load false 1 (.tmp 15)),
 xm 17 5,
 xi 18 (.max [(.tmp 17), (.const xz)]),
 xi 19 (.fieldAddr 0 (.tmp 3)),
 xi 20 (.load false 1 (.tmp 19)),
 xi 21 (.call 245 [(.tmp 16), (.tmp 18), (.tmp 20)]),
 xi 22 (.fieldAddr 0 (.tmp 3)),
 ⟨none, .store 1 (.tmp 22) (.tmp 21), none, [], false, false⟩])
 (.region true [xm 23 4,
 xi 24 (.indexAddr (some 3) 1 (.global 0) (.tmp 23)),
 xi 25 (.load false 1 (.tmp 24)),
 xm 26 5,
 xi 27 (.un .neg (.tmp 26)),
 xi 28 (.max [(.tmp 27), (.const xz)]),
 xi 29 (.fieldAddr 1 (.tmp 3)),
 xi 30 (.load false 1 (.tmp 29)),
 xi 31 (.call 245 [(.tmp 25), (.tmp 28), (.tmp 30)]),
 xi 32 (.fieldAddr 1 (.tmp 3)),
 ⟨none, .store 1 (.tmp 32) (.tmp 31), none, [], false, false⟩]))))
 (.region false [xi 33 (.bin .add (.tmp 10) (.const (.int .i64 1))),
 xm 10 33])))))))
 (.seq (.region false [xi 34 (.load true 2 (.tmp 3)),
 ⟨none, .store 2 (.tmp 2) (.tmp 34), none, [], false, false⟩])
 (.ret)))),
 [.cell 2 true 2], .pure, 35⟩

def ef244 : EFun := ⟨
 .seq (.region false [xi 1 (.box (.tmp 0)),
 xi 2 (.push [xz, xz, xz])])
 (.seq (.region false [xi 3 (.fieldAddr 0 (.tmp 1)),
 xi 4 (.load false 1 (.tmp 3)),
 xi 5 (.fieldAddr 1 (.tmp 1)),
 xi 6 (.load false 1 (.tmp 5)),
 xi 7 (.fieldAddr 2 (.tmp 1)),
 xi 8 (.load false 1 (.tmp 7)),
 xi 9 (.build [xz, xz, xz] [(0, 1, (.tmp 4)), (1, 1, (.tmp 6)), (2, 1, (.tmp 8))]),
 ⟨none, .store 3 (.tmp 2) (.tmp 9), none, [], false, false⟩])
 (.ret)),
 [.cell 2 true 3], .pure, 10⟩

def ef245 : EFun := ⟨
 .seq (.region false [xi 6 (.move (.const (.slice none 0 0)))])
 (.seq (.block 0 (.loop (some [0, 1, 2]) (
 .seq (.seq (.region false [xm 10 1,
 xi 11 (.bin .gtr (.tmp 10) (.const xz))])
 (.cond (.tmp 11) (.skip)
 (.exit 0)))
 (.block 1 (.seq (.region false [xi 7 (.move (.const (.int .u64 1)))])
 (.seq (.block 2 (.loop (some [0, 1, 2, 7]) (
 .seq (.seq (.region false [xm 12 1,
 xi 13 (.bin .gtr (.tmp 12) (.const xz))])
 (.cond (.tmp 13) (.skip)
 (.exit 2)))
 (.block 3 (.seq (.region false [xm 15 7,
 xm 16 0,
 xi 17 (.call 289 [(.tmp 15), (.tmp 16)]),
 xm 14 17,
 xi 18 (.extract (.tmp 14) 0),
 xi 19 (.extract (.tmp 14) 1),
 xm 8 18,
 xm 9 19])
 (.seq (.seq (.region false [xm 20 8,
 xi 21 (.bin .neq (.tmp 20) (.const (.int .u64 0)))])
 (.cond (.tmp 21) (.exit 2)
 (.skip)))
 (.region false [xm 22 9,
 xm 23 1,
 xi 24 (.bin .sub (.tmp 23) (.const (.int .i64 1))),
 xm 7 22,
 xm 1 24])))))))
 (.region false [xm 25 2,
 xm 26 7,
 xi 27 (.call 290 [(.tmp 25), (.tmp 26)]),
 xm 2 27])))))))
 (.seq (.region false [xm 28 2,
 xm 6 28])
 (.ret))),
 [.tmp 6], .pure, 29⟩

def ef246 : EFun := ⟨
 .seq (.region false [xi 4 (.move (.const xz))])
 (.seq (.region true [xm 5 0,
 xi 6 (.conv .u64 (.tmp 5)),
 xi 7 (.fieldAddr 3 (.tmp 1)),
 xi 8 (.load false 1 (.tmp 7)),
 xi 9 (.fieldAddr 1 (.tmp 2)),
 xi 10 (.load false 1 (.tmp 9)),
 ⟨(some 11), .call 245 [(.tmp 6), (.tmp 8), (.tmp 10)], none, [], false, true⟩,
 xi 12 (.fieldAddr 0 (.tmp 2)),
 xi 13 (.load false 1 (.tmp 12)),
 xi 14 (.call 247 [(.tmp 11), (.tmp 13)]),
 xm 4 14])
 (.ret)),
 [.tmp 4], .pure, 15⟩

def ef247 : EFun := ⟨
 .seq (.region false [xi 4 (.move (.const xz))])
 (.seq (.seq (.region false [xm 6 0,
 xi 7 (.len false (.tmp 6)),
 xm 8 1,
 xi 9 (.len false (.tmp 8)),
 xi 10 (.bin .neq (.tmp 7) (.tmp 9))])
 (.cond (.tmp 10) (.seq (.seq (.region false [xm 11 0,
 xi 12 (.len false (.tmp 11)),
 xm 13 1,
 xi 14 (.len false (.tmp 13)),
 xi 15 (.bin .lss (.tmp 12) (.tmp 14))])
 (.cond (.tmp 15) (.seq (.region false [xi 4 (.move (.const (.int .i64 (-1))))])
 (.ret))
 (.skip)))
 (.seq (.region false [xi 4 (.move (.const (.int .i64 1)))])
 (.ret)))
 (.skip)))
 (.seq (.seq (.region false [xm 16 0,
 xi 17 (.len false (.tmp 16)),
 xi 18 (.bin .sub (.tmp 17) (.const (.int .i64 1))),
 xm 5 18])
 (.block 0 (.loop (some [0, 1, 5]) (
 .seq (.seq (.region false [xm 19 5,
 xi 20 (.bin .geq (.tmp 19) (.const xz))])
 (.cond (.tmp 20) (.skip)
 (.exit 0)))
 (.seq (.block 1 (.block 2 (.seq (.region true [xm 24 0,
 xm 25 5,
 xi 26 (.indexAddr none 1 (.tmp 24) (.tmp 25)),
 xi 27 (.load false 1 (.tmp 26)),
 xm 28 1,
 xm 29 5,
 xi 30 (.indexAddr none 1 (.tmp 28) (.tmp 29)),
 xi 31 (.load false 1 (.tmp 30)),
 xi 32 (.bin .lss (.tmp 27) (.tmp 31)),
 xm 23 32])
 (.cond (.tmp 23) (.seq (.region false [xi 4 (.move (.const (.int .i64 (-1))))])
 (.ret))
 (.seq (.region true [xm 34 0,
 xm 35 5,
 xi 36 (.indexAddr none 1 (.tmp 34) (.tmp 35)),
 xi 37 (.load false 1 (.tmp 36)),
 xm 38 1,
 xm 39 5,
 xi 40 (.indexAddr none 1 (.tmp 38) (.tmp 39)),
 xi 41 (.load false 1 (.tmp 40)),
 xi 42 (.bin .gtr (.tmp 37) (.tmp 41)),
 xm 33 42])
 (.cond (.tmp 33) (.seq (.region false [xi 4 (.move (.const (.int .i64 1)))])
 (.ret))
 (.skip)))))))
 (.region false [xm 21 5,
 xi 22 (.bin .sub (.tmp 21) (.const (.int .i64 1))),
 xm 5 22]))))))
 (.seq (.region false [xi 4 (.move (.const xz))])
 (.ret)))),
 [.tmp 4], .pure, 43⟩

def ef248 : EFun := ⟨
 .seq (.region false [xi 1 (.box (.tmp 0)),
 xi 2 (.push [xz, xz]),
 xi 3 (.move (.const xz))])
 (.seq (.seq (.region false [xi 4 (.load true 2 (.tmp 1)),
 xi 5 (.call 291 [(.tmp 4)]),
 xi 6 (.bin .neq (.tmp 5) (.const xz))])
 (.cond (.tmp 6) (.seq (.region false [xi 7 (.build [xz, xz] []),
 ⟨none, .store 2 (.tmp 2) (.tmp 7), none, [], false, false⟩,
 xi 3 (.move (.const (.int .i64 8)))])
 (.ret))
 (.skip)))
 (.seq (.region false [xi 8 (.load true 2 (.tmp 1)),
 ⟨none, .store 2 (.tmp 2) (.tmp 8), none, [], false, false⟩,
 xi 3 (.move (.const xz))])
 (.ret))),
 [.cell 2 true 2, .tmp 3], .pure, 9⟩

def ef249 : EFun := ⟨
 .seq (.region false [xi 4 (.move (.const xz))])
 (.seq (.seq (.region false [xm 6 0,
 xi 7 (.len false (.tmp 6)),
 xi 8 (.move (.const xz))])
 (.block 0 (.loop (some [0, 1, 7, 8]) (
 .seq (.region false [xi 9 (.bin .lss (.tmp 8) (.tmp 7))])
 (.seq (.cond (.tmp 9) (.skip)
 (.exit 0))
 (.seq (.block 1 (.seq (.region false [xm 10 8,
 xm 5 10])
 (.seq (.region false [xm 11 1,
 xm 12 0,
 xm 13 5,
 xi 14 (.indexAddr none 4 (.tmp 12) (.tmp 13)),
 xi 15 (.load true 4 (.tmp 14)),
 xi 16 (.callVal (.tmp 11) [(.tmp 15)])])
 (.cond (.tmp 16) (.seq (.region false [xm 17 5,
 xm 4 17])
 (.ret))
 (.skip)))))
 (.region false [xi 18 (.bin .add (.tmp 8) (.const (.int .i64 1))),
 xm 8 18])))))))
 (.seq (.region false [xi 4 (.move (.const (.int .i64 (-1))))])
 (.ret))),
 [.tmp 4], .pure, 19⟩

def ef250 : EFun := ⟨
 .seq (.region false [xi 2 (.box (.tmp 0)),
 xi 3 (.move (.const (.bool false)))])
 (.seq (.region false [xi 4 (.fieldAddr 0 (.tmp 2)),
 xi 5 (.load false 1 (.tmp 4)),
 xi 6 (.load false 1 (.tmp 1)),
 xi 7 (.bin .eql (.tmp 5) (.tmp 6)),
 xm 3 7])
 (.ret)),
 [.tmp 3], .pure, 8⟩

def ef251 : EFun := ⟨
 .seq (.region false [xi 2 (.box (.tmp 0)),
 xi 3 (.box (.tmp 1)),
 xi 4 (.push [xz, xz])])
 (.seq (.region true [xi 5 (.fieldAddr 0 (.tmp 2)),
 xi 6 (.load false 1 (.tmp 5)),
 xi 7 (.fieldAddr 1 (.tmp 3)),
 xi 8 (.load false 1 (.tmp 7)),
 ⟨(some 9), .call 292 [(.tmp 6), (.tmp 8)], none, [], false, true⟩,
 xi 10 (.fieldAddr 1 (.tmp 2)),
 xi 11 (.load false 1 (.tmp 10)),
 xi 12 (.fieldAddr 0 (.tmp 3)),
 xi 13 (.load false 1 (.tmp 12)),
 xi 14 (.call 293 [(.tmp 11), (.tmp 13)]),
 xi 15 (.build [xz, xz] [(0, 1, (.tmp 9)), (1, 1, (.tmp 14))]),
 ⟨none, .store 2 (.tmp 4) (.tmp 15), none, [], false, false⟩])
 (.ret)),
 [.cell 4 true 2], .pure, 16⟩

def ef252 : EFun := ⟨
 .seq (.region false [xi 2 (.push [xz, xz])])
 (.seq (.region false [xm 3 0,
 xm 4 0,
 xi 5 (.build [xz, xz] [(0, 1, (.tmp 3)), (1, 1, (.tmp 4))]),
 ⟨none, .store 2 (.tmp 2) (.tmp 5), none, [], false, false⟩])
 (.ret)),
 [.cell 2 true 2], .pure, 6⟩

def ef253 : EFun := ⟨
 .seq (.region false [xi 2 (.box (.tmp 0)),
 xi 3 (.box (.tmp 1)),
 xi 4 (.push [xz, xz])])
 (.seq (.region false [xi 5 (.fieldAddr 0 (.tmp 2)),
 xi 6 (.load false 1 (.tmp 5)),
 xi 7 (.fieldAddr 0 (.tmp 3)),
 xi 8 (.load false 1 (.tmp 7)),
 xi 9 (.bin .mul (.tmp 6) (.tmp 8)),
 xi 10 (.fieldAddr 1 (.tmp 2)),
 xi 11 (.load false 1 (.tmp 10)),
 xi 12 (.fieldAddr 1 (.tmp 3)),
 xi 13 (.load false 1 (.tmp 12)),
 xi 14 (.bin .mul (.tmp 11) (.tmp 13)),
 xi 15 (.build [xz, xz] [(0, 1, (.tmp 9)), (1, 1, (.tmp 14))]),
 ⟨none, .store 2 (.tmp 4) (.tmp 15), none, [], false, false⟩])
 (.ret)),
 [.cell 4 true 2], .pure, 16⟩

def ef254 : EFun := ⟨
 .seq (.region false [xi 2 (.box (.tmp 0)),
 xi 3 (.box (.tmp 1)),
 xi 4 (.push [xz, xz])])
 (.seq (.region true [xi 5 (.load true 2 (.tmp 3)),
 xi 6 (.fieldAddr 0 (.tmp 2)),
 xi 7 (.load false 1 (.tmp 6)),
 ⟨(some 8), .call 252 [(.tmp 7)], none, [], false, true⟩,
 xi 9 (.call 253 [(.tmp 5), (.tmp 8)]),
 xi 10 (.call 252 [(.const (.int .i64 1000000))]),
 xi 11 (.call 251 [(.tmp 9), (.tmp 10)]),
 ⟨none, .store 2 (.tmp 4) (.tmp 11), none, [], false, false⟩])
 (.ret)),
 [.cell 4 true 2], .pure, 12⟩

def ef255 : EFun := ⟨
 .seq (.region false [xi 3 (.box (.tmp 1)),
 xi 4 (.move (.const xz))])
 (.seq (.region true [xm 6 0,
 xm 7 0,
 xi 8 (.fieldAddr 3 (.tmp 3)),
 xi 9 (.load false 1 (.tmp 8)),
 ⟨(some 10), .call 167 [(.tmp 7), (.tmp 9)], none, [], false, true⟩,
 xi 11 (.indexAddr none 4 (.tmp 6) (.tmp 10)),
 xi 12 (.fieldAddr 1 (.tmp 11)),
 xi 13 (.load false 1 (.tmp 12)),
 xi 14 (.fieldAddr 1 (.tmp 3)),
 xi 15 (.load false 1 (.tmp 14)),
 xi 16 (.bin .mul (.tmp 13) (.tmp 15)),
 xi 17 (.fieldAddr 1 (.tmp 3)),
 xi 18 (.load false 1 (.tmp 17)),
 xi 19 (.bin .mul (.tmp 16) (.tmp 18)),
 xm 5 19])
 (.seq (.seq (.region false [xi 20 (.fieldAddr 2 (.tmp 3)),
 xi 21 (.load false 1 (.tmp 20)),
 xi 22 (.bin .neq (.tmp 21) (.const xz))])
 (.cond (.tmp 22) (.region true [xm 23 5,
 xm 24 0,
 xm 25 0,
 xi 26 (.fieldAddr 4 (.tmp 3)),
 xi 27 (.load false 1 (.tmp 26)),
 ⟨(some 28), .call 167 [(.tmp 25), (.tmp 27)], none, [], false, true⟩,
 xi 29 (.indexAddr none 4 (.tmp 24) (.tmp 28)),
 xi 30 (.fieldAddr 1 (.tmp 29)),
 xi 31 (.load false 1 (.tmp 30)),
 xi 32 (.fieldAddr 2 (.tmp 3)),
 xi 33 (.load false 1 (.tmp 32)),
 xi 34 (.fieldAddr 2 (.tmp 3)),
 xi 35 (.load false 1 (.tmp 34)),
 xi 36 (.bin .mul (.tmp 33) (.tmp 35)),
 xi 37 (.fieldAddr 1 (.tmp 3)),
 xi 38 (.load false 1 (.tmp 37)),
 xi 39 (.fieldAddr 1 (.tmp 3)),
 xi 40 (.load false 1 (.tmp 39)),
 xi 41 (.bin .mul (.tmp 38) (.tmp 40)),
 xi 42 (.bin .sub (.tmp 36) (.tmp 41)),
 xi 43 (.bin .mul (.tmp 31) (.tmp 42)),
 xi 44 (.bin .add (.tmp 23) (.tmp 43)),
 xm 5 44])
 (.skip)))
 (.seq (.region false [xm 45 5,
 xm 4 45])
 (.ret)))),
 [.tmp 4], .pure, 46⟩

def ef274 : EFun := ⟨
 .seq (.region false [xi 2 (.box (.tmp 0)),
 xi 3 (.box (.tmp 1)),
 xi 4 (.move (.const xz))])
 (.seq (.seq (.region false [xi 6 (.load true 4 (.tmp 2)),
 xi 7 (.call 218 [(.tmp 6)]),
 xm 5 7])
 (.seq (.region false [xm 8 5,
 xi 9 (.bin .neq (.tmp 8) (.const xz))])
 (.cond (.tmp 9) (.seq (.region false [xm 10 5,
 xm 4 10])
 (.ret))
 (.skip))))
 (.seq (.region false [xi 11 (.load true 4 (.tmp 3)),
 xi 12 (.call 218 [(.tmp 11)]),
 xm 4 12])
 (.ret))),
 [.tmp 4], .pure, 13⟩

def ef275 : EFun := ⟨
 .seq (.region false [xi 2 (.box (.tmp 0)),
 xi 3 (.box (.tmp 1)),
 xi 4 (.move (.const xz))])
 (.seq (.region false [xi 6 (.load true 4 (.tmp 2)),
 xi 7 (.load true 4 (.tmp 3)),
 xi 8 (.call 307 [(.tmp 6), (.tmp 7), (.const (.int .i64 (-1)))]),
 xi 9 (.call 242 [(.tmp 8)]),
 xi 10 (.call 244 [(.tmp 9)]),
 xi 11 (.call 243 [(.tmp 10)]),
 xi 5 (.push [(.slice none 0 0), (.slice none 0 0)]),
 ⟨none, .store 2 (.tmp 5) (.tmp 11), none, [], false, false⟩])
 (.seq (.region false [xi 12 (.fieldAddr 0 (.tmp 5)),
 xi 13 (.load false 1 (.tmp 12)),
 xi 14 (.fieldAddr 1 (.tmp 5)),
 xi 15 (.load false 1 (.tmp 14)),
 xi 16 (.call 247 [(.tmp 13), (.tmp 15)]),
 xm 4 16])
 (.ret))),
 [.tmp 4], .pure, 17⟩

def ef276 : EFun := ⟨
 .seq (.region false [xi 4 (.move (.const xz))])
 (.seq (.block 0 (.loop (some [0, 1]) (
 .seq (.seq (.region false [xm 5 1,
 xi 6 (.bin .neq (.tmp 5) (.const xz))])
 (.cond (.tmp 6) (.skip)
 (.exit 0)))
 (.block 1 (.region true [xm 7 1,
 xm 8 0,
 xm 9 1,
 xi 10 (.bin .rem (.tmp 8) (.tmp 9)),
 xm 0 7,
 xm 1 10])))))
 (.seq (.region false [xm 11 0,
 xi 12 (.call 82 [(.tmp 11)]),
 xm 4 12])
 (.ret))),
 [.tmp 4], .pure, 13⟩

def ef288 : EFun := ⟨
 .seq (.region false [xi 4 (.move (.const xz))])
 (.seq (.block 0 (.loop (some [0, 1]) (
 .seq (.seq (.region false [xm 5 1,
 xi 6 (.bin .neq (.tmp 5) (.const xz))])
 (.cond (.tmp 6) (.skip)
 (.exit 0)))
 (.block 1 (.region true [xm 7 1,
 xm 8 0,
 xm 9 1,
 xi 10 (.bin .rem (.tmp 8) (.tmp 9)),
 xm 0 7,
 xm 1 10])))))
 (.seq (.seq (.region false [xm 11 0,
 xi 12 (.bin .lss (.tmp 11) (.const xz))])
 (.cond (.tmp 12) (.seq (.region false [xm 13 0,
 xi 14 (.un .neg (.tmp 13)),
 xm 4 14])
 (.ret))
 (.skip)))
 (.seq (.region false [xm 15 0,
 xm 4 15])
 (.ret)))),
 [.tmp 4], .pure, 16⟩

def ef289 : EFun := ⟨
 .seq (.region false [xi 4 (.move (.const (.int .u64 0))),
 xi 5 (.move (.const (.int .u64 0)))])
 (.seq (.region false [xm 14 0,
 xi 15 (.bin .and (.tmp 14) (.const (.int .u64 4294967295))),
 xm 6 15])
 (.seq (.region false [xm 16 0,
 xi 17 (.bin .shr (.tmp 16) (.const (.int .u64 32))),
 xm 7 17])
 (.seq (.region false [xm 18 1,
 xi 19 (.bin .and (.tmp 18) (.const (.int .u64 4294967295))),
 xm 8 19])
 (.seq (.region false [xm 20 1,
 xi 21 (.bin .shr (.tmp 20) (.const (.int .u64 32))),
 xm 9 21])
 (.seq (.region false [xm 22 6,
 xm 23 8,
 xi 24 (.bin .mul (.tmp 22) (.tmp 23)),
 xm 10 24])
 (.seq (.region false [xm 25 7,
 xm 26 8,
 xi 27 (.bin .mul (.tmp 25) (.tmp 26)),
 xm 28 10,
 xi 29 (.bin .shr (.tmp 28) (.const (.int .u64 32))),
 xi 30 (.bin .add (.tmp 27) (.tmp 29)),
 xm 11 30])
 (.seq (.region false [xm 31 11,
 xi 32 (.bin .and (.tmp 31) (.const (.int .u64 4294967295))),
 xm 12 32])
 (.seq (.region false [xm 33 11,
 xi 34 (.bin .shr (.tmp 33) (.const (.int .u64 32))),
 xm 13 34])
 (.seq (.region false [xm 35 12,
 xm 36 6,
 xm 37 9,
 xi 38 (.bin .mul (.tmp 36) (.tmp 37)),
 xi 39 (.bin .add (.tmp 35) (.tmp 38)),
 xm 12 39])
 (.seq (.region false [xm 40 7,
 xm 41 9,
 xi 42 (.bin .mul (.tmp 40) (.tmp 41)),
 xm 43 13,
 xi 44 (.bin .add (.tmp 42) (.tmp 43)),
 xm 45 12,
 xi 46 (.bin .shr (.tmp 45) (.const (.int .u64 32))),
 xi 47 (.bin .add (.tmp 44) (.tmp 46)),
 xm 4 47])
 (.seq (.region false [xm 48 0,
 xm 49 1,
 xi 50 (.bin .mul (.tmp 48) (.tmp 49)),
 xm 5 50])
 (.ret)))))))))))),
 [.tmp 4, .tmp 5], .pure, 51⟩

def ef290 : EFun := ⟨
 .seq (.region false [xi 4 (.move (.const (.slice none 0 0)))])
 (.seq (.region false [xm 13 0,
 xi 14 (.len false (.tmp 13)),
 xi 15 (.bin .add (.tmp 14) (.const (.int .i64 1))),
 xi 16 (.makeSlice 1 8 [(.int .u64 0)] (.const xz) (.tmp 15)),
 xm 5 16])
 (.seq (.region false [xi 6 (.move (.const (.int .u64 0)))])
 (.seq (.seq (.region false [xm 17 0,
 xi 18 (.len false (.tmp 17)),
 xi 19 (.move (.const xz))])
 (.block 0 (.loop (some [1, 5, 6, 17, 18, 19]) (
 .seq (.region false [xi 20 (.bin .lss (.tmp 19) (.tmp 18))])
 (.seq (.cond (.tmp 20) (.skip)
 (.exit 0))
 (.seq (.block 1 (.seq (.region false [xi 21 (.indexAddr none 1 (.tmp 17) (.tmp 19)),
 xi 22 (.load false 1 (.tmp 21)),
 xm 8 22])
 (.seq (.region false [xm 24 8,
 xm 25 1,
 xi 26 (.call 289 [(.tmp 24), (.tmp 25)]),
 xm 23 26,
 xi 27 (.extract (.tmp 23) 0),
 xi 28 (.extract (.tmp 23) 1),
 xm 9 27,
 xm 10 28])
 (.seq (.region false [xm 30 10,
 xm 31 6,
 xi 32 (.add64 (.tmp 30) (.tmp 31) (.const (.int .u64 0))),
 xm 29 32,
 xi 33 (.extract (.tmp 29) 0),
 xi 34 (.extract (.tmp 29) 1),
 xm 11 33,
 xm 12 34])
 (.seq (.region false [xm 35 5,
 xm 36 11,
 xi 37 (.buildSlice 1 1 [(.int .u64 0)] [(0, 1, (.tmp 36))]),
 xi 38 (.append 1 8 (.tmp 35) (.tmp 37)),
 xm 5 38])
 (.region false [xm 39 9,
 xm 40 12,
 xi 41 (.bin .add (.tmp 39) (.tmp 40)),
 xm 6 41]))))))
 (.region false [xi 42 (.bin .add (.tmp 19) (.const (.int .i64 1))),
 xm 19 42])))))))
 (.seq (.seq (.region false [xm 43 6,
 xi 44 (.bin .gtr (.tmp 43) (.const (.int .u64 0)))])
 (.cond (.tmp 44) (.region false [xm 45 5,
 xm 46 6,
 xi 47 (.buildSlice 1 1 [(.int .u64 0)] [(0, 1, (.tmp 46))]),
 xi 48 (.append 1 8 (.tmp 45) (.tmp 47)),
 xm 5 48])
 (.skip)))
 (.seq (.region false [xm 49 5,
 xm 4 49])
 (.ret)))))),
 [.tmp 4], .pure, 50⟩

def ef291 : EFun := ⟨
 .seq (.region false [xi 1 (.box (.tmp 0)),
 xi 2 (.move (.const xz))])
 (.seq (.block 0 (.seq (.region false [xi 4 (.fieldAddr 0 (.tmp 1)),
 xi 5 (.load false 1 (.tmp 4)),
 xi 6 (.call 241 [(.tmp 5), (.const (.int .i64 (-1000000000000000))), (.const (.int .i64 1000000000000000))]),
 xi 7 (.un .not (.tmp 6)),
 xm 8 7,
 xg 9 (.fieldAddr 1 (.tmp 1)) 8 false,
 xg 10 (.load false 1 (.tmp 9)) 8 false,
 xg 11 (.call 241 [(.tmp 10), (.const (.int .i64 (-1000000000000000))), (.const (.int .i64 1000000000000000))]) 8 false,
 xg 12 (.un .not (.tmp 11)) 8 false,
 xi 13 (.pick (.tmp 8) (.const (.bool true)) (.tmp 12)),
 xm 3 13])
 (.cond (.tmp 3) (.seq (.region false [xi 2 (.move (.const (.int .i64 2)))])
 (.ret))
 (.seq (.region false [xi 15 (.fieldAddr 0 (.tmp 1)),
 xi 16 (.load false 1 (.tmp 15)),
 xi 17 (.fieldAddr 1 (.tmp 1)),
 xi 18 (.load false 1 (.tmp 17)),
 xi 19 (.bin .gtr (.tmp 16) (.tmp 18)),
 xm 14 19])
 (.cond (.tmp 14) (.seq (.region false [xi 2 (.move (.const (.int .i64 9)))])
 (.ret))
 (.skip))))))
 (.seq (.region false [xi 2 (.move (.const xz))])
 (.ret))),
 [.tmp 2], .pure, 20⟩

def ef292 : EFun := ⟨
 .seq (.region false [xi 4 (.move (.const xz))])
 (.seq (.region false [xm 6 0,
 xm 7 1,
 xi 8 (.bin .quo (.tmp 6) (.tmp 7)),
 xm 5 8])
 (.seq (.seq (.region false [xm 9 0,
 xm 10 1,
 xi 11 (.bin .rem (.tmp 9) (.tmp 10)),
 xi 12 (.bin .lss (.tmp 11) (.const xz))])
 (.cond (.tmp 12) (.region false [xm 13 5,
 xi 14 (.bin .sub (.tmp 13) (.const (.int .i64 1))),
 xm 5 14])
 (.skip)))
 (.seq (.region false [xm 15 5,
 xm 4 15])
 (.ret)))),
 [.tmp 4], .pure, 16⟩

def ef293 : EFun := ⟨
 .seq (.region false [xi 4 (.move (.const xz))])
 (.seq (.region false [xm 5 0,
 xi 6 (.un .neg (.tmp 5)),
 xm 7 1,
 xi 8 (.call 292 [(.tmp 6), (.tmp 7)]),
 xi 9 (.un .neg (.tmp 8)),
 xm 4 9])
 (.ret)),
 [.tmp 4], .pure, 10⟩

def ef307 : EFun := ⟨
 .seq (.region false [xi 3 (.box (.tmp 0)),
 xi 4 (.box (.tmp 1)),
 xi 6 (.push [xz, xz, xz, xz])])
 (.seq (.region false [xi 7 (.fieldAddr 0 (.tmp 3)),
 xi 8 (.load false 1 (.tmp 7)),
 xi 9 (.fieldAddr 3 (.tmp 4)),
 xi 10 (.load false 1 (.tmp 9)),
 xi 11 (.bin .mul (.tmp 8) (.tmp 10)),
 xm 12 2,
 xi 13 (.fieldAddr 0 (.tmp 4)),
 xi 14 (.load false 1 (.tmp 13)),
 xi 15 (.bin .mul (.tmp 12) (.tmp 14)),
 xi 16 (.fieldAddr 3 (.tmp 3)),
 xi 17 (.load false 1 (.tmp 16)),
 xi 18 (.bin .mul (.tmp 15) (.tmp 17)),
 xi 19 (.bin .add (.tmp 11) (.tmp 18)),
 xi 20 (.fieldAddr 1 (.tmp 3)),
 xi 21 (.load false 1 (.tmp 20)),
 xi 22 (.fieldAddr 3 (.tmp 4)),
 xi 23 (.load false 1 (.tmp 22)),
 xi 24 (.bin .mul (.tmp 21) (.tmp 23)),
 xm 25 2,
 xi 26 (.fieldAddr 1 (.tmp 4)),
 xi 27 (.load false 1 (.tmp 26)),
 xi 28 (.bin .mul (.tmp 25) (.tmp 27)),
 xi 29 (.fieldAddr 3 (.tmp 3)),
 xi 30 (.load false 1 (.tmp 29)),
 xi 31 (.bin .mul (.tmp 28) (.tmp 30)),
 xi 32 (.bin .add (.tmp 24) (.tmp 31)),
 xi 33 (.fieldAddr 2 (.tmp 3)),
 xi 34 (.load false 1 (.tmp 33)),
 xi 35 (.fieldAddr 3 (.tmp 4)),
 xi 36 (.load false 1 (.tmp 35)),
 xi 37 (.bin .mul (.tmp 34) (.tmp 36)),
 xm 38 2,
 xi 39 (.fieldAddr 2 (.tmp 4)),
 xi 40 (.load false 1 (.tmp 39)),
 xi 41 (.bin .mul (.tmp 38) (.tmp 40)),
 xi 42 (.fieldAddr 3 (.tmp 3)),
 xi 43 (.load false 1 (.tmp 42)),
 xi 44 (.bin .mul (.tmp 41) (.tmp 43)),
 xi 45 (.bin .add (.tmp 37) (.tmp 44)),
 xi 46 (.fieldAddr 3 (.tmp 3)),
 xi 47 (.load false 1 (.tmp 46)),
 xi 48 (.fieldAddr 3 (.tmp 4)),
 xi 49 (.load false 1 (.tmp 48)),
 xi 50 (.bin .mul (.tmp 47) (.tmp 49)),
 xi 51 (.build [xz, xz, xz, xz] [(0, 1, (.tmp 19)), (1, 1, (.tmp 32)), (2, 1, (.tmp 45)), (3, 1, (.tmp 50))]),
 ⟨none, .store 4 (.tmp 6) (.tmp 51), none, [], false, false⟩])
 (.ret)),
 [.cell 6 true 4], .pure, 52⟩

end Go.Abs.Q
