/- The functions, compiled for the abstract evaluator. Written by wip/abs/Print.lean. -/
import Derived.Test.YtllhkifkiabkbaaGreatDoorAbsH0
set_option linter.unusedSimpArgs false
set_option linter.unusedVariables false
set_option maxRecDepth 100000
set_option maxHeartbeats 0
namespace Go.Abs.H
open Go Go.Abs
def ef4 : EFun := ⟨
 .seq (.region false [xi 4 (.box (.tmp 1)),
 xi 6 (.move (.const (.bool false)))])
 (.seq (.seq (.region false [xi 26 (.call 14 []),
 xi 27 (.un .not (.tmp 26))])
 (.cond (.tmp 27) (.seq (.region false [xi 6 (.move (.const (.bool false)))])
 (.ret))
 (.skip)))
 (.seq (.seq (.region false [xm 28 0,
 xi 29 (.call 16 [(.tmp 28)]),
 xi 30 (.call 15 [(.tmp 29), (.const (.int .i64 6))]),
 xi 31 (.un .not (.tmp 30)),
 xm 32 31,
 xg 33 (.move (.tmp 2)) 32 false,
 xg 34 (.len true (.tmp 33)) 32 false,
 xg 35 (.bin .gtr (.tmp 34) (.const (.int .i64 300))) 32 false,
 xg 36 (.move (.tmp 35)) 32 false,
 xg 37 (.move (.tmp 2)) 36 true,
 xg 38 (.len true (.tmp 37)) 36 true,
 xg 39 (.bin .leq (.tmp 38) (.const (.int .i64 60000))) 36 true,
 xg 40 (.pick (.tmp 36) (.tmp 39) (.const (.bool false))) 32 false,
 xi 41 (.pick (.tmp 32) (.const (.bool true)) (.tmp 40)),
 xm 42 41,
 xg 43 (.move (.tmp 2)) 42 false,
 xg 44 (.len true (.tmp 43)) 42 false,
 xg 45 (.bin .gtr (.tmp 44) (.const (.int .i64 60005))) 42 false,
 xi 46 (.pick (.tmp 42) (.const (.bool true)) (.tmp 45))])
 (.cond (.tmp 46) (.seq (.region false [xi 6 (.move (.const (.bool true)))])
 (.ret))
 (.skip)))
 (.seq (.region false [xm 48 2,
 xi 49 (.call 17 [(.tmp 48)]),
 xm 47 49,
 xi 50 (.extract (.tmp 47) 0),
 xi 51 (.extract (.tmp 47) 1),
 xi 7 (.push [xz, xz]),
 ⟨none, .store 2 (.tmp 7) (.tmp 50), none, [], false, false⟩,
 xm 8 51])
 (.seq (.region false [xm 53 2,
 xi 54 (.call 18 [(.tmp 53)]),
 xm 52 54,
 xi 55 (.extract (.tmp 52) 0),
 xi 56 (.extract (.tmp 52) 1),
 xi 9 (.push [xz, xz]),
 ⟨none, .store 2 (.tmp 9) (.tmp 55), none, [], false, false⟩,
 xm 10 56])
 (.seq (.seq (.region false [xm 57 8,
 xm 58 10,
 xi 59 (.bin .neq (.tmp 57) (.tmp 58)),
 xm 60 59,
 xg 61 (.load true 2 (.tmp 7)) 60 false,
 xg 62 (.load true 2 (.tmp 9)) 60 false,
 xg 63 (.eqAgg true [(.int .i64), (.int .i64)] (.tmp 61) (.tmp 62)) 60 false,
 xi 64 (.pick (.tmp 60) (.const (.bool true)) (.tmp 63))])
 (.cond (.tmp 64) (.seq (.region false [xi 6 (.move (.const (.bool false)))])
 (.ret))
 (.skip)))
 (.seq (.region false [xi 65 (.load true 2 (.tmp 4)),
 xi 66 (.call 19 [(.tmp 65)]),
 xm 11 66])
 (.seq (.region false [xm 68 11,
 xi 69 (.call 17 [(.tmp 68)]),
 xm 67 69,
 xi 70 (.extract (.tmp 67) 0),
 xi 71 (.extract (.tmp 67) 1),
 xi 12 (.push [xz, xz]),
 ⟨none, .store 2 (.tmp 12) (.tmp 70), none, [], false, false⟩,
 xm 13 71])
 (.seq (.seq (.region false [xm 72 11,
 xi 73 (.load true 2 (.tmp 4)),
 xi 74 (.call 20 [(.tmp 73)]),
 xi 75 (.bin .neq (.tmp 72) (.tmp 74)),
 xm 76 75,
 xg 77 (.load true 2 (.tmp 4)) 76 false,
 xg 78 (.buildSlice 2 1 [xz, xz] [(0, 2, (.tmp 77))]) 76 false,
 xg 79 (.call 21 [(.tmp 78)]) 76 false,
 xg 80 (.bin .eql (.tmp 79) (.const xz)) 76 false,
 xg 81 (.move (.tmp 80)) 76 false,
 xg 82 (.move (.tmp 13)) 81 true,
 xg 83 (.bin .neq (.tmp 82) (.const xz)) 81 true,
 xg 84 (.move (.tmp 83)) 81 true,
 xg 85 (.load true 2 (.tmp 12)) 84 false,
 xg 86 (.load true 2 (.tmp 4)) 84 false,
 xg 87 (.eqAgg true [(.int .i64), (.int .i64)] (.tmp 85) (.tmp 86)) 84 false,
 xg 88 (.pick (.tmp 84) (.const (.bool true)) (.tmp 87)) 81 true,
 xg 89 (.pick (.tmp 81) (.tmp 88) (.const (.bool false))) 76 false,
 xi 90 (.pick (.tmp 76) (.const (.bool true)) (.tmp 89))])
 (.cond (.tmp 90) (.seq (.region false [xi 6 (.move (.const (.bool false)))])
 (.ret))
 (.skip)))
 (.seq (.region false [xm 92 2,
 xi 93 (.call 22 [(.tmp 92)]),
 xm 91 93,
 xi 94 (.extract (.tmp 91) 0),
 xi 95 (.extract (.tmp 91) 1),
 xi 96 (.extract (.tmp 91) 2),
 xm 14 94,
 xm 15 95,
 xm 16 96])
 (.seq (.region false [xm 98 2,
 xi 99 (.call 23 [(.tmp 98)]),
 xm 97 99,
 xi 100 (.extract (.tmp 97) 0),
 xi 101 (.extract (.tmp 97) 1),
 xi 102 (.extract (.tmp 97) 2),
 xm 17 100,
 xm 18 101,
 xm 19 102])
 (.seq (.seq (.region false [xm 103 16,
 xm 104 19,
 xi 105 (.bin .neq (.tmp 103) (.tmp 104)),
 xm 106 105,
 xg 107 (.move (.tmp 15)) 106 false,
 xg 108 (.move (.tmp 18)) 106 false,
 xg 109 (.bin .neq (.tmp 107) (.tmp 108)) 106 false,
 xi 110 (.pick (.tmp 106) (.const (.bool true)) (.tmp 109)),
 xm 111 110,
 xg 112 (.move (.tmp 14)) 111 false,
 xg 113 (.move (.tmp 17)) 111 false,
 xg 114 (.call 24 [(.tmp 112), (.tmp 113)]) 111 false,
 xg 115 (.un .not (.tmp 114)) 111 false,
 xi 116 (.pick (.tmp 111) (.const (.bool true)) (.tmp 115))])
 (.cond (.tmp 116) (.seq (.region false [xi 6 (.move (.const (.bool false)))])
 (.ret))
 (.skip)))
 (.seq (.region false [xm 118 0,
 xi 119 (.call 26 [(.tmp 118)]),
 xi 120 (.call 25 [(.tmp 119)]),
 xm 117 120,
 xi 121 (.extract (.tmp 117) 0),
 xi 122 (.extract (.tmp 117) 1),
 xm 20 121,
 xm 21 122])
 (.seq (.seq (.region false [xm 123 0,
 xi 124 (.call 27 [(.tmp 123)]),
 xm 22 124])
 (.seq (.region false [xm 125 22,
 xi 126 (.bin .neq (.tmp 125) (.const xz))])
 (.cond (.tmp 126) (.seq (.region false [xm 127 21,
 xm 128 22,
 xi 129 (.bin .eql (.tmp 127) (.tmp 128)),
 xm 130 129,
 xg 131 (.move (.tmp 20)) 130 true,
 xg 132 (.bin .eql (.tmp 131) (.const (.string ⟨#[]⟩))) 130 true,
 xi 133 (.pick (.tmp 130) (.tmp 132) (.const (.bool false))),
 xm 6 133])
 (.ret))
 (.skip))))
 (.seq (.region false [xm 135 20,
 xi 136 (.call 22 [(.tmp 135)]),
 xm 134 136,
 xi 137 (.extract (.tmp 134) 0),
 xi 138 (.extract (.tmp 134) 1),
 xi 139 (.extract (.tmp 134) 2),
 xm 23 137,
 xm 24 138,
 xm 25 139])
 (.seq (.region false [xm 140 21,
 xi 141 (.bin .eql (.tmp 140) (.const xz)),
 xm 142 141,
 xg 143 (.move (.tmp 20)) 142 true,
 xg 144 (.move (.tmp 0)) 142 true,
 xg 145 (.call 28 [(.tmp 144)]) 142 true,
 xg 146 (.bin .eql (.tmp 143) (.tmp 145)) 142 true,
 xi 147 (.pick (.tmp 142) (.tmp 146) (.const (.bool false))),
 xm 148 147,
 xg 149 (.move (.tmp 25)) 148 true,
 xg 150 (.bin .eql (.tmp 149) (.const xz)) 148 true,
 xi 151 (.pick (.tmp 148) (.tmp 150) (.const (.bool false))),
 xm 152 151,
 xg 153 (.move (.tmp 24)) 152 true,
 xg 154 (.bin .eql (.tmp 153) (.const xz)) 152 true,
 xi 155 (.pick (.tmp 152) (.tmp 154) (.const (.bool false))),
 xm 156 155,
 xg 157 (.move (.tmp 23)) 156 true,
 xg 158 (.move (.tmp 0)) 156 true,
 xg 159 (.call 24 [(.tmp 157), (.tmp 158)]) 156 true,
 xi 160 (.pick (.tmp 156) (.tmp 159) (.const (.bool false))),
 xm 6 160])
 (.ret)))))))))))))))),
 [.tmp 6], .pure, 161⟩

def ef14 : EFun := ⟨
 .seq (.region false [xi 0 (.move (.const (.bool false)))])
 (.seq (.region false [xi 8 (.call 52 []),
 xi 9 (.buildSlice 1 2 [xz, xz] [(0, 1, (.const xz)), (1, 1, (.const (.int .i64 1)))]),
 xi 10 (.call 51 [(.tmp 8), (.tmp 9)]),
 xm 7 10,
 xi 11 (.extract (.tmp 7) 0),
 xi 12 (.extract (.tmp 7) 1),
 xm 1 11,
 xm 2 12])
 (.seq (.region false [xi 14 (.call 53 [(.const (.int .i64 10000)), (.const (.int .i64 200)), (.const (.int .i64 500))]),
 xm 13 14,
 xi 15 (.extract (.tmp 13) 0),
 xi 16 (.extract (.tmp 13) 1),
 xm 3 15,
 xm 4 16])
 (.seq (.region false [xi 18 (.build [xz, xz, xz, xz] [(0, 1, (.const (.int .i64 400))), (1, 1, (.const (.int .i64 10))), (2, 1, (.const (.int .i64 50))), (3, 1, (.const (.int .i64 400)))]),
 xi 19 (.build [xz, xz] [(1, 1, (.const (.int .i64 500)))]),
 xi 20 (.buildSlice 2 1 [xz, xz] [(0, 2, (.tmp 19))]),
 xi 21 (.call 54 [(.tmp 18), (.tmp 20), (.const (.int .i64 2))]),
 xm 17 21,
 xi 22 (.extract (.tmp 17) 0),
 xi 23 (.extract (.tmp 17) 1),
 xm 5 22,
 xm 6 23])
 (.seq (.region false [xm 24 2,
 xi 25 (.bin .eql (.tmp 24) (.const xz)),
 xm 26 25,
 xg 27 (.move (.tmp 1)) 26 true,
 xg 28 (.len false (.tmp 27)) 26 true,
 xg 29 (.bin .eql (.tmp 28) (.const (.int .i64 1))) 26 true,
 xi 30 (.pick (.tmp 26) (.tmp 29) (.const (.bool false))),
 xm 31 30,
 xg 32 (.move (.tmp 1)) 31 true,
 xg 33 (.indexAddr none 1 (.tmp 32) (.const xz)) 31 true,
 xg 34 (.load false 1 (.tmp 33)) 31 true,
 xg 35 (.buildSlice 1 1 [xz] [(0, 1, (.const (.int .i64 36)))]) 31 true,
 xg 36 (.call 34 [(.tmp 34), (.tmp 35)]) 31 true,
 xi 37 (.pick (.tmp 31) (.tmp 36) (.const (.bool false))),
 xm 38 37,
 xg 39 (.move (.tmp 4)) 38 true,
 xg 40 (.bin .eql (.tmp 39) (.const xz)) 38 true,
 xi 41 (.pick (.tmp 38) (.tmp 40) (.const (.bool false))),
 xm 42 41,
 xg 43 (.move (.tmp 3)) 42 true,
 xg 44 (.bin .eql (.tmp 43) (.const (.int .i64 2))) 42 true,
 xi 45 (.pick (.tmp 42) (.tmp 44) (.const (.bool false))),
 xm 46 45,
 xg 47 (.move (.tmp 6)) 46 true,
 xg 48 (.bin .eql (.tmp 47) (.const xz)) 46 true,
 xi 49 (.pick (.tmp 46) (.tmp 48) (.const (.bool false))),
 xm 50 49,
 xg 51 (.move (.tmp 5)) 50 true,
 xg 52 (.bin .eql (.tmp 51) (.const (.int .i64 419000))) 50 true,
 xi 53 (.pick (.tmp 50) (.tmp 52) (.const (.bool false))),
 xm 0 53])
 (.ret))))),
 [.tmp 0], .pure, 54⟩

def ef15 : EFun := ⟨
 .seq (.region false [xi 4 (.move (.const (.bool false)))])
 (.seq (.region false [xm 5 0,
 xi 6 (.len false (.tmp 5)),
 xm 7 1,
 xi 8 (.bin .leq (.tmp 6) (.tmp 7)),
 xm 9 8,
 xg 10 (.move (.tmp 0)) 9 false,
 xg 11 (.len false (.tmp 10)) 9 false,
 xg 12 (.bin .gtr (.tmp 11) (.const (.int .i64 60))) 9 false,
 xg 13 (.move (.tmp 12)) 9 false,
 xg 14 (.move (.tmp 0)) 13 true,
 xg 15 (.len false (.tmp 14)) 13 true,
 xg 16 (.bin .leq (.tmp 15) (.const (.int .i64 63))) 13 true,
 xg 17 (.pick (.tmp 13) (.tmp 16) (.const (.bool false))) 9 false,
 xi 18 (.pick (.tmp 9) (.const (.bool true)) (.tmp 17)),
 xm 4 18])
 (.ret)),
 [.tmp 4], .pure, 19⟩

def ef16 : EFun := ⟨
 .seq (.region false [xi 2 (.move (.const (.slice none 0 0)))])
 (.seq (.region false [xi 3 (.move (.const (.slice none 0 0)))])
 (.seq (.seq (.region false [xi 4 (.move (.const xz))])
 (.block 0 (.loop (some [0, 3, 4]) (
 .seq (.seq (.region false [xm 5 4,
 xm 6 0,
 xi 7 (.len false (.tmp 6)),
 xi 8 (.bin .lss (.tmp 5) (.tmp 7))])
 (.cond (.tmp 8) (.skip)
 (.exit 0)))
 (.seq (.block 1 (.region false [xm 11 3,
 xm 12 0,
 xm 13 4,
 xi 14 (.indexAddr none 6 (.tmp 12) (.tmp 13)),
 xi 15 (.fieldAddr 0 (.tmp 14)),
 xi 16 (.load true 4 (.tmp 15)),
 xi 17 (.buildSlice 4 1 [xz, xz, xz, xz] [(0, 4, (.tmp 16))]),
 xi 18 (.append 4 32 (.tmp 11) (.tmp 17)),
 xm 3 18]))
 (.region false [xm 9 4,
 xi 10 (.bin .add (.tmp 9) (.const (.int .i64 1))),
 xm 4 10]))))))
 (.seq (.region false [xm 19 3,
 xm 2 19])
 (.ret)))),
 [.tmp 2], .pure, 20⟩

def ef17 : EFun := ⟨
 .seq (.region false [xi 2 (.push [xz, xz]),
 xi 3 (.move (.const xz))])
 (.seq (.region false [xm 9 0,
 xi 10 (.call 55 [(.tmp 9), (.const (.int .i64 2)), (.const (.int .i64 7))]),
 xm 8 10,
 xi 11 (.extract (.tmp 8) 0),
 xi 12 (.extract (.tmp 8) 1),
 xm 4 11,
 xm 5 12])
 (.seq (.seq (.region false [xm 13 5,
 xi 14 (.un .not (.tmp 13))])
 (.cond (.tmp 14) (.seq (.region false [xi 15 (.build [xz, xz] []),
 ⟨none, .store 2 (.tmp 2) (.tmp 15), none, [], false, false⟩,
 xi 3 (.move (.const (.int .i64 7)))])
 (.ret))
 (.skip)))
 (.seq (.region true [xm 16 4,
 xi 17 (.indexAddr none 1 (.tmp 16) (.const xz)),
 xi 18 (.load false 1 (.tmp 17)),
 xm 19 4,
 xi 20 (.indexAddr none 1 (.tmp 19) (.const (.int .i64 1))),
 xi 21 (.load false 1 (.tmp 20)),
 xi 22 (.build [xz, xz] [(0, 1, (.tmp 18)), (1, 1, (.tmp 21))]),
 xi 6 (.push [xz, xz]),
 ⟨none, .store 2 (.tmp 6) (.tmp 22), none, [], false, false⟩])
 (.seq (.seq (.region false [xi 23 (.load true 2 (.tmp 6)),
 xi 24 (.call 56 [(.tmp 23)]),
 xm 7 24])
 (.seq (.region false [xm 25 7,
 xi 26 (.bin .neq (.tmp 25) (.const xz))])
 (.cond (.tmp 26) (.seq (.region false [xi 27 (.build [xz, xz] []),
 xm 28 7,
 ⟨none, .store 2 (.tmp 2) (.tmp 27), none, [], false, false⟩,
 xm 3 28])
 (.ret))
 (.skip))))
 (.seq (.region false [xi 29 (.load true 2 (.tmp 6)),
 ⟨none, .store 2 (.tmp 2) (.tmp 29), none, [], false, false⟩,
 xi 3 (.move (.const xz))])
 (.ret)))))),
 [.cell 2 true 2, .tmp 3], .pure, 30⟩

def ef18 : EFun := ⟨
 .seq (.region false [xi 2 (.push [xz, xz]),
 xi 3 (.move (.const xz))])
 (.seq (.region false [xm 8 0,
 xi 9 (.call 57 [(.tmp 8), (.const (.int .i64 2)), (.const (.int .i64 7))]),
 xm 7 9,
 xi 10 (.extract (.tmp 7) 0),
 xi 11 (.extract (.tmp 7) 1),
 xm 4 10,
 xm 5 11])
 (.seq (.seq (.region false [xm 12 5,
 xi 13 (.un .not (.tmp 12))])
 (.cond (.tmp 13) (.seq (.region false [xi 14 (.build [xz, xz] []),
 ⟨none, .store 2 (.tmp 2) (.tmp 14), none, [], false, false⟩,
 xi 3 (.move (.const (.int .i64 7)))])
 (.ret))
 (.skip)))
 (.seq (.region true [xm 15 4,
 xi 16 (.indexAddr none 1 (.tmp 15) (.const xz)),
 xi 17 (.load false 1 (.tmp 16)),
 xm 18 4,
 xi 19 (.indexAddr none 1 (.tmp 18) (.const (.int .i64 1))),
 xi 20 (.load false 1 (.tmp 19)),
 xi 21 (.build [xz, xz] [(0, 1, (.tmp 17)), (1, 1, (.tmp 20))]),
 xi 6 (.push [xz, xz]),
 ⟨none, .store 2 (.tmp 6) (.tmp 21), none, [], false, false⟩])
 (.seq (.seq (.region false [xi 22 (.fieldAddr 0 (.tmp 6)),
 xi 23 (.load false 1 (.tmp 22)),
 xi 24 (.call 58 [(.tmp 23)]),
 xi 25 (.un .not (.tmp 24)),
 xm 26 25,
 xg 27 (.fieldAddr 1 (.tmp 6)) 26 false,
 xg 28 (.load false 1 (.tmp 27)) 26 false,
 xg 29 (.call 41 [(.tmp 28), (.const xz), (.const (.int .i64 1000))]) 26 false,
 xg 30 (.un .not (.tmp 29)) 26 false,
 xi 31 (.pick (.tmp 26) (.const (.bool true)) (.tmp 30))])
 (.cond (.tmp 31) (.seq (.region false [xi 32 (.build [xz, xz] []),
 ⟨none, .store 2 (.tmp 2) (.tmp 32), none, [], false, false⟩,
 xi 3 (.move (.const (.int .i64 2)))])
 (.ret))
 (.skip)))
 (.seq (.region false [xi 33 (.load true 2 (.tmp 6)),
 ⟨none, .store 2 (.tmp 2) (.tmp 33), none, [], false, false⟩,
 xi 3 (.move (.const xz))])
 (.ret)))))),
 [.cell 2 true 2, .tmp 3], .pure, 34⟩

def ef19 : EFun := ⟨
 .seq (.region false [xi 1 (.box (.tmp 0)),
 xi 2 (.move (.const (.string ⟨#[]⟩)))])
 (.seq (.region false [xi 3 (.fieldAddr 0 (.tmp 1)),
 xi 4 (.load false 1 (.tmp 3)),
 xi 5 (.fieldAddr 1 (.tmp 1)),
 xi 6 (.load false 1 (.tmp 5)),
 xi 7 (.buildSlice 1 2 [xz, xz] [(0, 1, (.tmp 4)), (1, 1, (.tmp 6))]),
 xi 8 (.call 59 [(.tmp 7)]),
 xm 2 8])
 (.ret)),
 [.tmp 2], .pure, 9⟩

def ef20 : EFun := ⟨
 .seq (.region false [xi 1 (.box (.tmp 0)),
 xi 2 (.move (.const (.string ⟨#[]⟩)))])
 (.seq (.region true [xi 3 (.fieldAddr 0 (.tmp 1)),
 xi 4 (.load false 1 (.tmp 3)),
 ⟨(some 5), .call 60 [(.tmp 4)], none, [], false, true⟩,
 xi 6 (.bin .add (.tmp 5) (.const (.string ⟨#[32]⟩))),
 xi 7 (.fieldAddr 1 (.tmp 1)),
 xi 8 (.load false 1 (.tmp 7)),
 xi 9 (.call 60 [(.tmp 8)]),
 xi 10 (.bin .add (.tmp 6) (.tmp 9)),
 xm 2 10])
 (.ret)),
 [.tmp 2], .pure, 11⟩

def ef21 : EFun := ⟨
 .seq (.region false [xi 2 (.move (.const xz))])
 (.seq (.seq (.region false [xm 4 0,
 xi 5 (.len false (.tmp 4)),
 xi 6 (.bin .eql (.tmp 5) (.const xz))])
 (.cond (.tmp 6) (.seq (.region false [xi 2 (.move (.const (.int .i64 12)))])
 (.ret))
 (.skip)))
 (.seq (.seq (.region false [xm 7 0,
 xi 8 (.len false (.tmp 7)),
 xi 9 (.bin .gtr (.tmp 8) (.const (.int .i64 200)))])
 (.cond (.tmp 9) (.seq (.region false [xi 2 (.move (.const (.int .i64 8)))])
 (.ret))
 (.skip)))
 (.seq (.seq (.region false [xi 3 (.move (.const xz))])
 (.block 0 (.loop (some [0, 3]) (
 .seq (.seq (.region false [xm 10 3,
 xm 11 0,
 xi 12 (.len false (.tmp 11)),
 xi 13 (.bin .lss (.tmp 10) (.tmp 12))])
 (.cond (.tmp 13) (.skip)
 (.exit 0)))
 (.seq (.block 1 (.seq (.seq (.region false [xm 16 0,
 xm 17 3,
 xi 18 (.indexAddr none 2 (.tmp 16) (.tmp 17)),
 xi 19 (.fieldAddr 0 (.tmp 18)),
 xi 20 (.load false 1 (.tmp 19)),
 xi 21 (.call 58 [(.tmp 20)]),
 xi 22 (.un .not (.tmp 21)),
 xm 23 22,
 xg 24 (.move (.tmp 0)) 23 false,
 xg 25 (.move (.tmp 3)) 23 false,
 xg 26 (.indexAddr none 2 (.tmp 24) (.tmp 25)) 23 false,
 xg 27 (.fieldAddr 1 (.tmp 26)) 23 false,
 xg 28 (.load false 1 (.tmp 27)) 23 false,
 xg 29 (.call 41 [(.tmp 28), (.const xz), (.const (.int .i64 1000))]) 23 false,
 xg 30 (.un .not (.tmp 29)) 23 false,
 xi 31 (.pick (.tmp 23) (.const (.bool true)) (.tmp 30))])
 (.cond (.tmp 31) (.seq (.region false [xi 2 (.move (.const (.int .i64 2)))])
 (.ret))
 (.skip)))
 (.seq (.region true [xm 32 3,
 xi 33 (.bin .gtr (.tmp 32) (.const xz)),
 xm 34 33,
 xg 35 (.move (.tmp 0)) 34 true,
 xg 36 (.move (.tmp 3)) 34 true,
 xg 37 (.indexAddr none 2 (.tmp 35) (.tmp 36)) 34 true,
 xg 38 (.fieldAddr 0 (.tmp 37)) 34 true,
 xg 39 (.load false 1 (.tmp 38)) 34 true,
 xg 40 (.move (.tmp 0)) 34 true,
 xg 41 (.move (.tmp 3)) 34 true,
 xg 42 (.bin .sub (.tmp 41) (.const (.int .i64 1))) 34 true,
 xg 43 (.indexAddr none 2 (.tmp 40) (.tmp 42)) 34 true,
 xg 44 (.fieldAddr 0 (.tmp 43)) 34 true,
 xg 45 (.load false 1 (.tmp 44)) 34 true,
 xg 46 (.bin .leq (.tmp 39) (.tmp 45)) 34 true,
 xi 47 (.pick (.tmp 34) (.tmp 46) (.const (.bool false)))])
 (.cond (.tmp 47) (.seq (.region false [xi 2 (.move (.const (.int .i64 9)))])
 (.ret))
 (.skip)))))
 (.region false [xm 14 3,
 xi 15 (.bin .add (.tmp 14) (.const (.int .i64 1))),
 xm 3 15]))))))
 (.seq (.region false [xi 2 (.move (.const xz))])
 (.ret))))),
 [.tmp 2], .pure, 48⟩

def ef22 : EFun := ⟨
 .seq (.region false [xi 2 (.push [(.slice none 0 0)]),
 xi 3 (.push [xz]),
 xi 4 (.push [xz])])
 (.seq (.seq (.region false [xm 12 0,
 xi 13 (.len true (.tmp 12)),
 xi 14 (.bin .gtr (.tmp 13) (.const (.int .i64 60000)))])
 (.cond (.tmp 14) (.seq (.region false [⟨none, .store 1 (.tmp 2) (.const (.slice none 0 0)), none, [], false, false⟩,
 ⟨none, .store 1 (.tmp 3) (.const xz), none, [], false, false⟩,
 ⟨none, .store 1 (.tmp 4) (.const (.int .i64 8)), none, [], false, false⟩])
 (.ret))
 (.skip)))
 (.seq (.region false [xi 5 (.push [(.slice none 0 0)])])
 (.seq (.seq (.region false [xm 15 0,
 xi 16 (.call 44 [(.tmp 15)])])
 (.block 0 (.rangeF (.tmp 16) 22 0 true [2, 3, 4, 5] [17]
 (.region false [xm 6 17])
 (.block 1 (.seq (.region false [xm 19 6,
 xi 20 (.call 45 [(.tmp 19), (.const (.string ⟨#[10]⟩))]),
 xm 18 20,
 xi 21 (.extract (.tmp 18) 0),
 xi 22 (.extract (.tmp 18) 1),
 xm 7 21,
 xm 8 22])
 (.seq (.region false [xm 24 7,
 xi 25 (.call 55 [(.tmp 24), (.const (.int .i64 6)), (.const (.int .i64 10))]),
 xm 23 25,
 xi 26 (.extract (.tmp 23) 0),
 xi 27 (.extract (.tmp 23) 1),
 xm 9 26,
 xm 10 27])
 (.seq (.seq (.region false [xm 28 8,
 xi 29 (.un .not (.tmp 28)),
 xm 30 29,
 xg 31 (.move (.tmp 10)) 30 false,
 xg 32 (.un .not (.tmp 31)) 30 false,
 xi 33 (.pick (.tmp 30) (.const (.bool true)) (.tmp 32))])
 (.cond (.tmp 33) (.seq (.region true [⟨(some 34), .load false 1 (.tmp 5), none, [], true, false⟩,
 xi 35 (.len false (.tmp 34)),
 xi 36 (.bin .add (.tmp 35) (.const (.int .i64 1))),
 ⟨none, .store 1 (.tmp 2) (.const (.slice none 0 0)), none, [0], false, false⟩,
 ⟨none, .store 1 (.tmp 3) (.tmp 36), none, [], false, false⟩,
 ⟨none, .store 1 (.tmp 4) (.const (.int .i64 7)), none, [], false, false⟩])
 (.ret))
 (.skip)))
 (.region true [xi 37 (.load false 1 (.tmp 5)),
 xm 38 9,
 xi 39 (.indexAddr none 1 (.tmp 38) (.const xz)),
 xi 40 (.load false 1 (.tmp 39)),
 xm 41 9,
 xi 42 (.indexAddr none 1 (.tmp 41) (.const (.int .i64 1))),
 xi 43 (.load false 1 (.tmp 42)),
 xm 44 9,
 xi 45 (.indexAddr none 1 (.tmp 44) (.const (.int .i64 2))),
 xi 46 (.load false 1 (.tmp 45)),
 xm 47 9,
 xi 48 (.indexAddr none 1 (.tmp 47) (.const (.int .i64 3))),
 xi 49 (.load false 1 (.tmp 48)),
 xi 50 (.build [xz, xz, xz, xz] [(0, 1, (.tmp 40)), (1, 1, (.tmp 43)), (2, 1, (.tmp 46)), (3, 1, (.tmp 49))]),
 xm 51 9,
 xi 52 (.indexAddr none 1 (.tmp 51) (.const (.int .i64 4))),
 xi 53 (.load false 1 (.tmp 52)),
 xm 54 9,
 xi 55 (.indexAddr none 1 (.tmp 54) (.const (.int .i64 5))),
 xi 56 (.load false 1 (.tmp 55)),
 xi 57 (.build [xz, xz] [(0, 1, (.tmp 53)), (1, 1, (.tmp 56))]),
 xi 58 (.build [xz, xz, xz, xz, xz, xz] [(0, 4, (.tmp 50)), (4, 2, (.tmp 57))]),
 xi 59 (.buildSlice 6 1 [xz, xz, xz, xz, xz, xz] [(0, 6, (.tmp 58))]),
 xi 60 (.append 6 48 (.tmp 37) (.tmp 59)),
 ⟨none, .store 1 (.tmp 5) (.tmp 60), none, [], false, false⟩]))))))))
 (.seq (.seq (.region false [xi 61 (.load false 1 (.tmp 5)),
 xi 62 (.call 61 [(.tmp 61)]),
 xm 11 62])
 (.seq (.region false [xm 63 11,
 xi 64 (.bin .neq (.tmp 63) (.const xz))])
 (.cond (.tmp 64) (.seq (.region false [xm 65 11,
 ⟨none, .store 1 (.tmp 2) (.const (.slice none 0 0)), none, [], false, false⟩,
 ⟨none, .store 1 (.tmp 3) (.const xz), none, [], false, false⟩,
 ⟨none, .store 1 (.tmp 4) (.tmp 65), none, [], false, false⟩])
 (.ret))
 (.skip))))
 (.seq (.region false [xi 66 (.load false 1 (.tmp 5)),
 ⟨none, .store 1 (.tmp 2) (.tmp 66), none, [], false, false⟩,
 ⟨none, .store 1 (.tmp 3) (.const xz), none, [], false, false⟩,
 ⟨none, .store 1 (.tmp 4) (.const xz), none, [], false, false⟩])
 (.ret)))))),
 [.cell 2 false 1, .cell 3 false 1, .cell 4 false 1], .pure, 67⟩

def ef23 : EFun := ⟨
 .seq (.region false [xi 2 (.move (.const (.slice none 0 0))),
 xi 3 (.move (.const xz)),
 xi 4 (.move (.const xz))])
 (.seq (.seq (.region false [xm 12 0,
 xi 13 (.len true (.tmp 12)),
 xi 14 (.bin .gtr (.tmp 13) (.const (.int .i64 60000)))])
 (.cond (.tmp 14) (.seq (.region false [xi 2 (.move (.const (.slice none 0 0))),
 xi 3 (.move (.const xz)),
 xi 4 (.move (.const (.int .i64 8)))])
 (.ret))
 (.skip)))
 (.seq (.region false [xm 15 0,
 xi 16 (.call 49 [(.tmp 15), (.const (.int .u8 10))]),
 xm 5 16])
 (.seq (.region false [xm 17 5,
 xi 18 (.len false (.tmp 17)),
 xi 19 (.bin .sub (.tmp 18) (.const (.int .i64 1))),
 xm 6 19])
 (.seq (.region false [xi 7 (.move (.const (.slice none 0 0)))])
 (.seq (.seq (.region false [xi 8 (.move (.const xz))])
 (.block 0 (.loop (some [5, 6, 7, 8]) (
 .seq (.seq (.region false [xm 20 8,
 xm 21 6,
 xi 22 (.bin .lss (.tmp 20) (.tmp 21))])
 (.cond (.tmp 22) (.skip)
 (.exit 0)))
 (.seq (.block 1 (.seq (.region false [xm 26 5,
 xm 27 8,
 xi 28 (.indexAddr none 1 (.tmp 26) (.tmp 27)),
 xi 29 (.load false 1 (.tmp 28)),
 xi 30 (.call 57 [(.tmp 29), (.const (.int .i64 6)), (.const (.int .i64 10))]),
 xm 25 30,
 xi 31 (.extract (.tmp 25) 0),
 xi 32 (.extract (.tmp 25) 1),
 xm 9 31,
 xm 10 32])
 (.seq (.seq (.region false [xm 33 10,
 xi 34 (.un .not (.tmp 33))])
 (.cond (.tmp 34) (.seq (.region false [xm 35 8,
 xi 36 (.bin .add (.tmp 35) (.const (.int .i64 1))),
 xi 2 (.move (.const (.slice none 0 0))),
 xm 3 36,
 xi 4 (.move (.const (.int .i64 7)))])
 (.ret))
 (.skip)))
 (.region true [xm 37 7,
 xm 38 9,
 xi 39 (.indexAddr none 1 (.tmp 38) (.const xz)),
 xi 40 (.load false 1 (.tmp 39)),
 xm 41 9,
 xi 42 (.indexAddr none 1 (.tmp 41) (.const (.int .i64 1))),
 xi 43 (.load false 1 (.tmp 42)),
 xm 44 9,
 xi 45 (.indexAddr none 1 (.tmp 44) (.const (.int .i64 2))),
 xi 46 (.load false 1 (.tmp 45)),
 xm 47 9,
 xi 48 (.indexAddr none 1 (.tmp 47) (.const (.int .i64 3))),
 xi 49 (.load false 1 (.tmp 48)),
 xi 50 (.build [xz, xz, xz, xz] [(0, 1, (.tmp 40)), (1, 1, (.tmp 43)), (2, 1, (.tmp 46)), (3, 1, (.tmp 49))]),
 xm 51 9,
 xi 52 (.indexAddr none 1 (.tmp 51) (.const (.int .i64 4))),
 xi 53 (.load false 1 (.tmp 52)),
 xm 54 9,
 xi 55 (.indexAddr none 1 (.tmp 54) (.const (.int .i64 5))),
 xi 56 (.load false 1 (.tmp 55)),
 xi 57 (.build [xz, xz] [(0, 1, (.tmp 53)), (1, 1, (.tmp 56))]),
 xi 58 (.build [xz, xz, xz, xz, xz, xz] [(0, 4, (.tmp 50)), (4, 2, (.tmp 57))]),
 xi 59 (.buildSlice 6 1 [xz, xz, xz, xz, xz, xz] [(0, 6, (.tmp 58))]),
 xi 60 (.append 6 48 (.tmp 37) (.tmp 59)),
 xm 7 60]))))
 (.region false [xm 23 8,
 xi 24 (.bin .add (.tmp 23) (.const (.int .i64 1))),
 xm 8 24]))))))
 (.seq (.seq (.region false [xm 61 5,
 xm 62 6,
 xi 63 (.indexAddr none 1 (.tmp 61) (.tmp 62)),
 xi 64 (.load false 1 (.tmp 63)),
 xi 65 (.bin .neq (.tmp 64) (.const (.string ⟨#[]⟩)))])
 (.cond (.tmp 65) (.seq (.region false [xm 66 6,
 xi 67 (.bin .add (.tmp 66) (.const (.int .i64 1))),
 xi 2 (.move (.const (.slice none 0 0))),
 xm 3 67,
 xi 4 (.move (.const (.int .i64 7)))])
 (.ret))
 (.skip)))
 (.seq (.seq (.region false [xm 68 7,
 xi 69 (.call 27 [(.tmp 68)]),
 xm 11 69])
 (.seq (.region false [xm 70 11,
 xi 71 (.bin .neq (.tmp 70) (.const xz))])
 (.cond (.tmp 71) (.seq (.region false [xm 72 11,
 xi 2 (.move (.const (.slice none 0 0))),
 xi 3 (.move (.const xz)),
 xm 4 72])
 (.ret))
 (.skip))))
 (.seq (.region false [xm 73 7,
 xm 2 73,
 xi 3 (.move (.const xz)),
 xi 4 (.move (.const xz))])
 (.ret))))))))),
 [.tmp 2, .tmp 3, .tmp 4], .pure, 74⟩

def ef24 : EFun := ⟨
 .seq (.region false [xi 4 (.move (.const (.bool false)))])
 (.seq (.seq (.region false [xm 6 0,
 xi 7 (.len false (.tmp 6)),
 xm 8 1,
 xi 9 (.len false (.tmp 8)),
 xi 10 (.bin .neq (.tmp 7) (.tmp 9))])
 (.cond (.tmp 10) (.seq (.region false [xi 4 (.move (.const (.bool false)))])
 (.ret))
 (.skip)))
 (.seq (.seq (.region false [xi 5 (.move (.const xz))])
 (.block 0 (.loop (some [0, 1, 5]) (
 .seq (.seq (.region false [xm 11 5,
 xm 12 0,
 xi 13 (.len false (.tmp 12)),
 xi 14 (.bin .lss (.tmp 11) (.tmp 13))])
 (.cond (.tmp 14) (.skip)
 (.exit 0)))
 (.seq (.block 1 (.seq (.region true [xm 17 0,
 xm 18 5,
 xi 19 (.indexAddr none 6 (.tmp 17) (.tmp 18)),
 xi 20 (.load true 6 (.tmp 19)),
 xm 21 1,
 xm 22 5,
 xi 23 (.indexAddr none 6 (.tmp 21) (.tmp 22)),
 xi 24 (.load true 6 (.tmp 23)),
 xi 25 (.eqAgg true [(.int .i64), (.int .i64), (.int .i64), (.int .i64), (.int .i64), (.int .i64)] (.tmp 20) (.tmp 24))])
 (.cond (.tmp 25) (.seq (.region false [xi 4 (.move (.const (.bool false)))])
 (.ret))
 (.skip))))
 (.region false [xm 15 5,
 xi 16 (.bin .add (.tmp 15) (.const (.int .i64 1))),
 xm 5 16]))))))
 (.seq (.region false [xi 4 (.move (.const (.bool true)))])
 (.ret)))),
 [.tmp 4], .pure, 26⟩

def ef26 : EFun := ⟨
 .seq (.region false [xi 2 (.move (.const (.slice none 0 0)))])
 (.seq (.region false [xi 3 (.buildSlice 6 0 [] []),
 xm 4 0,
 xi 5 (.append 6 48 (.tmp 3) (.tmp 4)),
 xm 2 5])
 (.ret)),
 [.tmp 2], .pure, 6⟩

def ef27 : EFun := ⟨
 .seq (.region false [xi 2 (.move (.const xz))])
 (.seq (.seq (.region false [xm 6 0,
 xi 7 (.len false (.tmp 6)),
 xi 8 (.bin .gtr (.tmp 7) (.const (.int .i64 60)))])
 (.cond (.tmp 8) (.seq (.region false [xi 2 (.move (.const (.int .i64 8)))])
 (.ret))
 (.skip)))
 (.seq (.seq (.region false [xi 3 (.move (.const xz))])
 (.block 0 (.loop (some [0, 3]) (
 .seq (.seq (.region false [xm 9 3,
 xm 10 0,
 xi 11 (.len false (.tmp 10)),
 xi 12 (.bin .lss (.tmp 9) (.tmp 11))])
 (.cond (.tmp 12) (.skip)
 (.exit 0)))
 (.seq (.block 1 (.seq (.seq (.region false [xm 15 0,
 xm 16 3,
 xi 17 (.bin .add (.tmp 16) (.const (.int .i64 1))),
 xi 18 (.slice 6 (.tmp 15) none (some (.tmp 17))),
 xi 19 (.call 16 [(.tmp 18)]),
 xi 20 (.call 62 [(.tmp 19)]),
 xm 4 20])
 (.seq (.region false [xm 21 4,
 xi 22 (.bin .neq (.tmp 21) (.const xz))])
 (.cond (.tmp 22) (.seq (.region false [xm 23 4,
 xm 2 23])
 (.ret))
 (.skip))))
 (.seq (.region false [xm 24 0,
 xm 25 3,
 xi 26 (.indexAddr none 6 (.tmp 24) (.tmp 25)),
 xi 27 (.fieldAddr 4 (.tmp 26)),
 xi 28 (.load true 2 (.tmp 27)),
 xi 5 (.push [xz, xz]),
 ⟨none, .store 2 (.tmp 5) (.tmp 28), none, [], false, false⟩])
 (.seq (.seq (.region false [xi 29 (.fieldAddr 0 (.tmp 5)),
 xi 30 (.load false 1 (.tmp 29)),
 xi 31 (.call 41 [(.tmp 30), (.const (.int .i64 (-1000000000))), (.const (.int .i64 1000000000))]),
 xi 32 (.un .not (.tmp 31)),
 xm 33 32,
 xg 34 (.fieldAddr 1 (.tmp 5)) 33 false,
 xg 35 (.load false 1 (.tmp 34)) 33 false,
 xg 36 (.call 41 [(.tmp 35), (.const (.int .i64 (-1000000000))), (.const (.int .i64 1000000000))]) 33 false,
 xg 37 (.un .not (.tmp 36)) 33 false,
 xi 38 (.pick (.tmp 33) (.const (.bool true)) (.tmp 37))])
 (.cond (.tmp 38) (.seq (.region false [xi 2 (.move (.const (.int .i64 2)))])
 (.ret))
 (.skip)))
 (.seq (.region false [xi 39 (.fieldAddr 0 (.tmp 5)),
 xi 40 (.load false 1 (.tmp 39)),
 xi 41 (.fieldAddr 1 (.tmp 5)),
 xi 42 (.load false 1 (.tmp 41)),
 xi 43 (.bin .gtr (.tmp 40) (.tmp 42))])
 (.cond (.tmp 43) (.seq (.region false [xi 2 (.move (.const (.int .i64 9)))])
 (.ret))
 (.skip)))))))
 (.region false [xm 13 3,
 xi 14 (.bin .add (.tmp 13) (.const (.int .i64 1))),
 xm 3 14]))))))
 (.seq (.region false [xi 2 (.move (.const xz))])
 (.ret)))),
 [.tmp 2], .pure, 44⟩

def ef28 : EFun := ⟨
 .seq (.region false [xi 2 (.move (.const (.string ⟨#[]⟩)))])
 (.seq (.region false [xi 3 (.move (.const (.string ⟨#[]⟩)))])
 (.seq (.seq (.region false [xi 4 (.move (.const xz))])
 (.block 0 (.loop (some [0, 3, 4]) (
 .seq (.seq (.region false [xm 8 4,
 xm 9 0,
 xi 10 (.len false (.tmp 9)),
 xi 11 (.bin .lss (.tmp 8) (.tmp 10))])
 (.cond (.tmp 11) (.skip)
 (.exit 0)))
 (.seq (.block 1 (.seq (.region false [xm 14 0,
 xm 15 4,
 xi 16 (.indexAddr none 6 (.tmp 14) (.tmp 15)),
 xi 17 (.load true 6 (.tmp 16)),
 xi 5 (.push [xz, xz, xz, xz, xz, xz]),
 ⟨none, .store 6 (.tmp 5) (.tmp 17), none, [], false, false⟩])
 (.seq (.region false [xi 18 (.fieldAddr 0 (.tmp 5)),
 xi 19 (.fieldAddr 0 (.tmp 18)),
 xi 20 (.load false 1 (.tmp 19)),
 xi 21 (.fieldAddr 0 (.tmp 5)),
 xi 22 (.fieldAddr 1 (.tmp 21)),
 xi 23 (.load false 1 (.tmp 22)),
 xi 24 (.fieldAddr 0 (.tmp 5)),
 xi 25 (.fieldAddr 2 (.tmp 24)),
 xi 26 (.load false 1 (.tmp 25)),
 xi 27 (.fieldAddr 0 (.tmp 5)),
 xi 28 (.fieldAddr 3 (.tmp 27)),
 xi 29 (.load false 1 (.tmp 28)),
 xi 30 (.fieldAddr 4 (.tmp 5)),
 xi 31 (.fieldAddr 0 (.tmp 30)),
 xi 32 (.load false 1 (.tmp 31)),
 xi 33 (.fieldAddr 4 (.tmp 5)),
 xi 34 (.fieldAddr 1 (.tmp 33)),
 xi 35 (.load false 1 (.tmp 34)),
 xi 36 (.build [xz, xz, xz, xz, xz, xz] [(0, 1, (.tmp 20)), (1, 1, (.tmp 23)), (2, 1, (.tmp 26)), (3, 1, (.tmp 29)), (4, 1, (.tmp 32)), (5, 1, (.tmp 35))]),
 xi 6 (.push [xz, xz, xz, xz, xz, xz]),
 ⟨none, .store 6 (.tmp 6) (.tmp 36), none, [], false, false⟩])
 (.seq (.seq (.region false [xi 7 (.move (.const xz))])
 (.block 2 (.loop (some [0, 3, 4, 6, 7]) (
 .seq (.seq (.region false [xm 37 7,
 xi 38 (.bin .lss (.tmp 37) (.const (.int .i64 6)))])
 (.cond (.tmp 38) (.skip)
 (.exit 2)))
 (.seq (.block 3 (.seq (.seq (.region false [xm 41 7,
 xi 42 (.bin .gtr (.tmp 41) (.const xz))])
 (.cond (.tmp 42) (.region false [xm 43 3,
 xi 44 (.bin .add (.tmp 43) (.const (.string ⟨#[32]⟩))),
 xm 3 44])
 (.skip)))
 (.region false [xm 45 3,
 xm 46 7,
 xi 47 (.indexAddr (some 6) 1 (.tmp 6) (.tmp 46)),
 xi 48 (.load false 1 (.tmp 47)),
 xi 49 (.call 60 [(.tmp 48)]),
 xi 50 (.bin .add (.tmp 45) (.tmp 49)),
 xm 3 50])))
 (.region false [xm 39 7,
 xi 40 (.bin .add (.tmp 39) (.const (.int .i64 1))),
 xm 7 40]))))))
 (.region false [xm 51 3,
 xi 52 (.bin .add (.tmp 51) (.const (.string ⟨#[10]⟩))),
 xm 3 52])))))
 (.region false [xm 12 4,
 xi 13 (.bin .add (.tmp 12) (.const (.int .i64 1))),
 xm 4 13]))))))
 (.seq (.region false [xm 53 3,
 xm 2 53])
 (.ret)))),
 [.tmp 2], .pure, 54⟩

def ef34 : EFun := ⟨
 .seq (.region false [xi 4 (.move (.const (.bool false)))])
 (.seq (.seq (.region false [xm 6 0,
 xi 7 (.len false (.tmp 6)),
 xm 8 1,
 xi 9 (.len false (.tmp 8)),
 xi 10 (.bin .neq (.tmp 7) (.tmp 9))])
 (.cond (.tmp 10) (.seq (.region false [xi 4 (.move (.const (.bool false)))])
 (.ret))
 (.skip)))
 (.seq (.seq (.region false [xi 5 (.move (.const xz))])
 (.block 0 (.loop (some [0, 1, 5]) (
 .seq (.seq (.region false [xm 11 5,
 xm 12 0,
 xi 13 (.len false (.tmp 12)),
 xi 14 (.bin .lss (.tmp 11) (.tmp 13))])
 (.cond (.tmp 14) (.skip)
 (.exit 0)))
 (.seq (.block 1 (.seq (.region true [xm 17 0,
 xm 18 5,
 xi 19 (.indexAddr none 1 (.tmp 17) (.tmp 18)),
 xi 20 (.load false 1 (.tmp 19)),
 xm 21 1,
 xm 22 5,
 xi 23 (.indexAddr none 1 (.tmp 21) (.tmp 22)),
 xi 24 (.load false 1 (.tmp 23)),
 xi 25 (.bin .neq (.tmp 20) (.tmp 24))])
 (.cond (.tmp 25) (.seq (.region false [xi 4 (.move (.const (.bool false)))])
 (.ret))
 (.skip))))
 (.region false [xm 15 5,
 xi 16 (.bin .add (.tmp 15) (.const (.int .i64 1))),
 xm 5 16]))))))
 (.seq (.region false [xi 4 (.move (.const (.bool true)))])
 (.ret)))),
 [.tmp 4], .pure, 26⟩

def ef41 : EFun := ⟨
 .seq (.region false [xi 6 (.move (.const (.bool false)))])
 (.seq (.region false [xm 7 0,
 xm 8 1,
 xi 9 (.bin .geq (.tmp 7) (.tmp 8)),
 xm 10 9,
 xg 11 (.move (.tmp 0)) 10 true,
 xg 12 (.move (.tmp 2)) 10 true,
 xg 13 (.bin .leq (.tmp 11) (.tmp 12)) 10 true,
 xi 14 (.pick (.tmp 10) (.tmp 13) (.const (.bool false))),
 xm 6 14])
 (.ret)),
 [.tmp 6], .pure, 15⟩

def ef44 : EFun := ⟨
 .seq (.region false [xi 1 (.box (.tmp 0)),
 xi 2 (.move (.const .nilFunc))])
 (.seq (.region false [xi 3 (.makeFunc (.func 80) [(.tmp 1)]),
 xm 2 3])
 (.ret)),
 [.tmp 2], .pure, 4⟩

def ef45 : EFun := ⟨
 .seq (.region false [xi 4 (.move (.const (.string ⟨#[]⟩))),
 xi 5 (.move (.const (.bool false)))])
 (.seq (.region false [xm 6 0,
 xm 7 1,
 xi 8 (.call 82 [(.tmp 6), (.tmp 7)]),
 xi 9 (.extract (.tmp 8) 0),
 xi 10 (.extract (.tmp 8) 1),
 xm 4 9,
 xm 5 10])
 (.ret)),
 [.tmp 4, .tmp 5], .pure, 11⟩

def ef47 : EFun := ⟨
 .seq (.region false [xi 4 (.move (.const (.slice none 0 0)))])
 (.seq (.region false [xm 5 0,
 xm 6 1,
 xi 7 (.call 84 [(.tmp 5), (.tmp 6), (.const xz), (.const (.int .i64 (-1)))]),
 xm 4 7])
 (.ret)),
 [.tmp 4], .pure, 8⟩

def ef49 : EFun := ⟨
 .seq (.region false [xi 4 (.move (.const (.slice none 0 0)))])
 (.seq (.region false [xi 5 (.move (.const (.slice none 0 0)))])
 (.seq (.region false [xi 6 (.move (.const xz))])
 (.seq (.seq (.region false [xi 7 (.move (.const xz))])
 (.block 0 (.loop (some [0, 1, 5, 6, 7]) (
 .seq (.seq (.region false [xm 8 7,
 xm 9 0,
 xi 10 (.len true (.tmp 9)),
 xi 11 (.bin .leq (.tmp 8) (.tmp 10))])
 (.cond (.tmp 11) (.skip)
 (.exit 0)))
 (.seq (.block 1 (.seq (.region false [xm 14 7,
 xm 15 0,
 xi 16 (.len true (.tmp 15)),
 xi 17 (.bin .eql (.tmp 14) (.tmp 16)),
 xm 18 17,
 xg 19 (.move (.tmp 0)) 18 false,
 xg 20 (.move (.tmp 7)) 18 false,
 xg 21 (.strIndex (.tmp 19) (.tmp 20)) 18 false,
 xg 22 (.move (.tmp 1)) 18 false,
 xg 23 (.bin .eql (.tmp 21) (.tmp 22)) 18 false,
 xi 24 (.pick (.tmp 18) (.const (.bool true)) (.tmp 23))])
 (.cond (.tmp 24) (.seq (.region false [xm 25 5,
 xm 26 0,
 xm 27 6,
 xm 28 7,
 xi 29 (.strSlice (.tmp 26) (some (.tmp 27)) (some (.tmp 28))),
 xi 30 (.buildSlice 1 1 [(.string ⟨#[]⟩)] [(0, 1, (.tmp 29))]),
 xi 31 (.append 1 16 (.tmp 25) (.tmp 30)),
 xm 5 31])
 (.region false [xm 32 7,
 xi 33 (.bin .add (.tmp 32) (.const (.int .i64 1))),
 xm 6 33]))
 (.skip))))
 (.region false [xm 12 7,
 xi 13 (.bin .add (.tmp 12) (.const (.int .i64 1))),
 xm 7 13]))))))
 (.seq (.region false [xm 34 5,
 xm 4 34])
 (.ret))))),
 [.tmp 4], .pure, 35⟩

def ef51 : EFun := ⟨
 .seq (.region false [xi 2 (.box (.tmp 0)),
 xi 3 (.box (.tmp 1)),
 xi 4 (.move (.const (.slice none 0 0))),
 xi 5 (.move (.const xz))])
 (.seq (.seq (.region false [xi 11 (.load false 1 (.tmp 2)),
 xi 12 (.load false 1 (.tmp 3)),
 xi 13 (.call 86 [(.tmp 11), (.tmp 12)]),
 xm 6 13])
 (.seq (.region false [xm 14 6,
 xi 15 (.bin .neq (.tmp 14) (.const xz))])
 (.cond (.tmp 15) (.seq (.region false [xm 16 6,
 xi 4 (.move (.const (.slice none 0 0))),
 xm 5 16])
 (.ret))
 (.skip))))
 (.seq (.region false [xi 17 (.load false 1 (.tmp 2)),
 xi 18 (.call 87 [(.tmp 17)]),
 xm 7 18])
 (.seq (.seq (.region false [xm 19 7,
 xi 20 (.len false (.tmp 19)),
 xi 21 (.bin .gtr (.tmp 20) (.const (.int .i64 12)))])
 (.cond (.tmp 21) (.seq (.region false [xi 4 (.move (.const (.slice none 0 0))),
 xi 5 (.move (.const (.int .i64 8)))])
 (.ret))
 (.skip)))
 (.seq (.seq (.region false [xm 22 7,
 xi 23 (.len false (.tmp 22)),
 xi 24 (.bin .add (.tmp 23) (.const (.int .i64 1))),
 xi 25 (.move (.const xz))])
 (.block 0 (.loop (some [2, 3, 7, 24, 25]) (
 .seq (.region false [xi 26 (.bin .lss (.tmp 25) (.tmp 24))])
 (.seq (.cond (.tmp 26) (.skip)
 (.exit 0))
 (.seq (.block 1 (.seq (.region false [xm 27 25,
 xm 8 27])
 (.seq (.region false [xi 9 (.push [(.slice none 0 0)])])
 (.seq (.seq (.region false [xm 28 7,
 xm 29 8,
 xi 30 (.call 88 [(.tmp 28), (.tmp 29)])])
 (.block 2 (.rangeF (.tmp 30) 51 0 true [2, 3, 9] [31]
 (.region false [xm 10 31])
 (.block 3 (.seq (.region false [xi 32 (.load false 1 (.tmp 2)),
 xi 33 (.load false 1 (.tmp 3)),
 xm 34 10,
 xi 35 (.call 89 [(.tmp 32), (.tmp 33), (.tmp 34)]),
 xi 36 (.bin .eql (.tmp 35) (.const xz))])
 (.cond (.tmp 36) (.region false [xi 37 (.load false 1 (.tmp 9)),
 xm 38 10,
 xi 39 (.buildSlice 1 1 [(.slice none 0 0)] [(0, 1, (.tmp 38))]),
 xi 40 (.append 1 24 (.tmp 37) (.tmp 39)),
 ⟨none, .store 1 (.tmp 9) (.tmp 40), none, [], false, false⟩])
 (.skip)))))))
 (.seq (.region false [xi 41 (.load false 1 (.tmp 9)),
 xi 42 (.len false (.tmp 41)),
 xi 43 (.bin .gtr (.tmp 42) (.const xz))])
 (.cond (.tmp 43) (.seq (.region false [xi 44 (.load false 1 (.tmp 9)),
 xm 4 44,
 xi 5 (.move (.const xz))])
 (.ret))
 (.skip)))))))
 (.region false [xi 45 (.bin .add (.tmp 25) (.const (.int .i64 1))),
 xm 25 45])))))))
 (.seq (.region false [xi 4 (.move (.const (.slice none 0 0))),
 xi 5 (.move (.const (.int .i64 12)))])
 (.ret)))))),
 [.tmp 4, .tmp 5], .pure, 46⟩

def ef52 : EFun := ⟨
 .seq (.region false [xi 0 (.move (.const (.slice none 0 0)))])
 (.seq (.region false [xi 1 (.build [xz, xz, xz, xz] [(0, 1, (.const (.int .i64 36))), (1, 1, (.const (.int .i64 43))), (2, 1, (.const (.int .i64 3))), (3, 1, (.const (.int .i64 2)))]),
 xi 2 (.build [xz, xz, xz, xz] [(0, 1, (.const (.int .i64 36))), (1, 1, (.const (.int .i64 40))), (2, 1, (.const (.int .i64 5))), (3, 1, (.const (.int .i64 4)))]),
 xi 3 (.build [xz, xz, xz, xz] [(0, 1, (.const (.int .i64 40))), (1, 1, (.const (.int .i64 43))), (2, 1, (.const (.int .i64 6))), (3, 1, (.const (.int .i64 5)))]),
 xi 4 (.buildSlice 4 3 (List.replicate 12 xz) [(0, 4, (.tmp 1)), (4, 4, (.tmp 2)), (8, 4, (.tmp 3))]),
 xm 0 4])
 (.ret)),
 [.tmp 0], .pure, 5⟩

def ef53 : EFun := ⟨
 .seq (.region false [xi 6 (.move (.const xz)),
 xi 7 (.move (.const xz))])
 (.seq (.seq (.region false [xm 10 0,
 xi 11 (.call 90 [(.tmp 10), (.const xz), (.const (.int .i64 200000))]),
 xi 12 (.un .not (.tmp 11)),
 xm 13 12,
 xg 14 (.move (.tmp 1)) 13 false,
 xg 15 (.call 90 [(.tmp 14), (.const xz), (.const (.int .i64 999))]) 13 false,
 xg 16 (.un .not (.tmp 15)) 13 false,
 xi 17 (.pick (.tmp 13) (.const (.bool true)) (.tmp 16)),
 xm 18 17,
 xg 19 (.move (.tmp 2)) 18 false,
 xg 20 (.call 90 [(.tmp 19), (.const xz), (.const (.int .i64 200000))]) 18 false,
 xg 21 (.un .not (.tmp 20)) 18 false,
 xi 22 (.pick (.tmp 18) (.const (.bool true)) (.tmp 21))])
 (.cond (.tmp 22) (.seq (.region false [xi 6 (.move (.const xz)),
 xi 7 (.move (.const (.int .i64 2)))])
 (.ret))
 (.skip)))
 (.seq (.region false [xi 8 (.move (.const xz))])
 (.seq (.block 0 (.loop (some [0, 1, 2, 8]) (
 .seq (.seq (.region false [xm 23 0,
 xm 24 2,
 xi 25 (.bin .gtr (.tmp 23) (.tmp 24))])
 (.cond (.tmp 25) (.skip)
 (.exit 0)))
 (.seq (.block 1 (.seq (.region false [xm 28 0,
 xm 29 1,
 xi 30 (.bin .mul (.tmp 28) (.tmp 29)),
 xi 31 (.bin .add (.tmp 30) (.const (.int .i64 1000))),
 xi 32 (.bin .sub (.tmp 31) (.const (.int .i64 1))),
 xi 33 (.bin .quo (.tmp 32) (.const (.int .i64 1000))),
 xm 9 33])
 (.seq (.seq (.region false [xm 34 9,
 xm 35 0,
 xi 36 (.bin .eql (.tmp 34) (.tmp 35))])
 (.cond (.tmp 36) (.seq (.region false [xi 6 (.move (.const xz)),
 xi 7 (.move (.const (.int .i64 12)))])
 (.ret))
 (.skip)))
 (.region false [xm 37 9,
 xm 0 37]))))
 (.region false [xm 26 8,
 xi 27 (.bin .add (.tmp 26) (.const (.int .i64 1))),
 xm 8 27])))))
 (.seq (.region false [xm 38 8,
 xm 6 38,
 xi 7 (.move (.const xz))])
 (.ret))))),
 [.tmp 6, .tmp 7], .pure, 39⟩

def ef54 : EFun := ⟨
 .seq (.region false [xi 3 (.box (.tmp 0)),
 xi 6 (.move (.const xz)),
 xi 7 (.move (.const xz))])
 (.seq (.seq (.region false [xi 9 (.load true 4 (.tmp 3)),
 xm 10 1,
 xm 11 2,
 xi 12 (.call 91 [(.tmp 9), (.tmp 10), (.tmp 11), (.const xz)]),
 xm 8 12])
 (.seq (.region false [xm 13 8,
 xi 14 (.bin .neq (.tmp 13) (.const xz))])
 (.cond (.tmp 14) (.seq (.region false [xm 15 8,
 xi 6 (.move (.const xz)),
 xm 7 15])
 (.ret))
 (.skip))))
 (.seq (.region false [xi 16 (.load true 4 (.tmp 3)),
 xm 17 1,
 xm 18 2,
 xi 19 (.call 92 [(.tmp 16), (.tmp 17), (.tmp 18)]),
 xm 6 19,
 xi 7 (.move (.const xz))])
 (.ret))),
 [.tmp 6, .tmp 7], .pure, 20⟩

def ef55 : EFun := ⟨
 .seq (.region false [xi 6 (.move (.const (.slice none 0 0))),
 xi 7 (.move (.const (.bool false)))])
 (.seq (.region false [xm 14 0,
 xi 15 (.call 47 [(.tmp 14), (.const (.string ⟨#[32]⟩))]),
 xm 8 15])
 (.seq (.region false [xi 9 (.move (.const (.slice none 0 0)))])
 (.seq (.seq (.region false [xm 16 8,
 xi 17 (.len false (.tmp 16)),
 xi 18 (.move (.const xz))])
 (.block 0 (.loop (some [1, 2, 9, 16, 17, 18]) (
 .seq (.region false [xi 19 (.bin .lss (.tmp 18) (.tmp 17))])
 (.seq (.cond (.tmp 19) (.skip)
 (.exit 0))
 (.seq (.block 1 (.seq (.region false [xi 20 (.indexAddr none 1 (.tmp 16) (.tmp 18)),
 xi 21 (.load false 1 (.tmp 20)),
 xm 11 21])
 (.seq (.region false [xm 23 11,
 xm 24 2,
 xi 25 (.call 93 [(.tmp 23), (.tmp 24)]),
 xm 22 25,
 xi 26 (.extract (.tmp 22) 0),
 xi 27 (.extract (.tmp 22) 1),
 xm 12 26,
 xm 13 27])
 (.seq (.seq (.region false [xm 28 13,
 xi 29 (.un .not (.tmp 28))])
 (.cond (.tmp 29) (.seq (.region false [xi 6 (.move (.const (.slice none 0 0))),
 xi 7 (.move (.const (.bool false)))])
 (.ret))
 (.skip)))
 (.region false [xm 30 9,
 xm 31 12,
 xi 32 (.buildSlice 1 1 [xz] [(0, 1, (.tmp 31))]),
 xi 33 (.append 1 8 (.tmp 30) (.tmp 32)),
 xm 9 33])))))
 (.region false [xi 34 (.bin .add (.tmp 18) (.const (.int .i64 1))),
 xm 18 34])))))))
 (.seq (.region false [xm 35 9,
 xm 36 9,
 xi 37 (.len false (.tmp 36)),
 xm 38 1,
 xi 39 (.bin .eql (.tmp 37) (.tmp 38)),
 xm 6 35,
 xm 7 39])
 (.ret))))),
 [.tmp 6, .tmp 7], .pure, 40⟩

def ef56 : EFun := ⟨
 .seq (.region false [xi 1 (.box (.tmp 0)),
 xi 2 (.move (.const xz))])
 (.seq (.seq (.region false [xi 3 (.fieldAddr 0 (.tmp 1)),
 xi 4 (.load false 1 (.tmp 3)),
 xi 5 (.call 94 [(.tmp 4)]),
 xi 6 (.un .not (.tmp 5)),
 xm 7 6,
 xg 8 (.fieldAddr 1 (.tmp 1)) 7 false,
 xg 9 (.load false 1 (.tmp 8)) 7 false,
 xg 10 (.call 90 [(.tmp 9), (.const xz), (.const (.int .i64 1000))]) 7 false,
 xg 11 (.un .not (.tmp 10)) 7 false,
 xi 12 (.pick (.tmp 7) (.const (.bool true)) (.tmp 11))])
 (.cond (.tmp 12) (.seq (.region false [xi 2 (.move (.const (.int .i64 2)))])
 (.ret))
 (.skip)))
 (.seq (.region false [xi 2 (.move (.const xz))])
 (.ret))),
 [.tmp 2], .pure, 13⟩

def ef57 : EFun := ⟨
 .seq (.region false [xi 6 (.move (.const (.slice none 0 0))),
 xi 7 (.move (.const (.bool false)))])
 (.seq (.region false [xm 13 0,
 xi 14 (.call 49 [(.tmp 13), (.const (.int .u8 32))]),
 xm 8 14])
 (.seq (.region false [xi 9 (.move (.const (.slice none 0 0)))])
 (.seq (.seq (.region false [xi 10 (.move (.const xz))])
 (.block 0 (.loop (some [1, 2, 8, 9, 10]) (
 .seq (.seq (.region false [xm 15 10,
 xm 16 8,
 xi 17 (.len false (.tmp 16)),
 xi 18 (.bin .lss (.tmp 15) (.tmp 17))])
 (.cond (.tmp 18) (.skip)
 (.exit 0)))
 (.seq (.block 1 (.seq (.region false [xm 22 8,
 xm 23 10,
 xi 24 (.indexAddr none 1 (.tmp 22) (.tmp 23)),
 xi 25 (.load false 1 (.tmp 24)),
 xm 26 2,
 xi 27 (.call 95 [(.tmp 25), (.tmp 26)]),
 xm 21 27,
 xi 28 (.extract (.tmp 21) 0),
 xi 29 (.extract (.tmp 21) 1),
 xm 11 28,
 xm 12 29])
 (.seq (.seq (.region false [xm 30 12,
 xi 31 (.un .not (.tmp 30))])
 (.cond (.tmp 31) (.seq (.region false [xi 6 (.move (.const (.slice none 0 0))),
 xi 7 (.move (.const (.bool false)))])
 (.ret))
 (.skip)))
 (.region false [xm 32 9,
 xm 33 11,
 xi 34 (.buildSlice 1 1 [xz] [(0, 1, (.tmp 33))]),
 xi 35 (.append 1 8 (.tmp 32) (.tmp 34)),
 xm 9 35]))))
 (.region false [xm 19 10,
 xi 20 (.bin .add (.tmp 19) (.const (.int .i64 1))),
 xm 10 20]))))))
 (.seq (.region false [xm 36 9,
 xm 37 9,
 xi 38 (.len false (.tmp 37)),
 xm 39 1,
 xi 40 (.bin .eql (.tmp 38) (.tmp 39)),
 xm 6 36,
 xm 7 40])
 (.ret))))),
 [.tmp 6, .tmp 7], .pure, 41⟩

def ef58 : EFun := ⟨
 .seq (.region false [xi 2 (.move (.const (.bool false)))])
 (.seq (.region false [xm 3 0,
 xi 4 (.call 41 [(.tmp 3), (.const xz), (.const (.int .i64 100000))]),
 xm 2 4])
 (.ret)),
 [.tmp 2], .pure, 5⟩

def ef59 : EFun := ⟨
 .seq (.region false [xi 2 (.move (.const (.string ⟨#[]⟩)))])
 (.seq (.region false [xi 3 (.move (.const (.slice none 0 0)))])
 (.seq (.seq (.region false [xm 6 0,
 xi 7 (.len false (.tmp 6)),
 xi 8 (.move (.const xz))])
 (.block 0 (.loop (some [3, 6, 7, 8]) (
 .seq (.region false [xi 9 (.bin .lss (.tmp 8) (.tmp 7))])
 (.seq (.cond (.tmp 9) (.skip)
 (.exit 0))
 (.seq (.block 1 (.seq (.region false [xi 10 (.indexAddr none 1 (.tmp 6) (.tmp 8)),
 xi 11 (.load false 1 (.tmp 10)),
 xm 5 11])
 (.region false [xm 12 3,
 xm 13 5,
 xi 14 (.call 71 [(.tmp 13)]),
 xi 15 (.buildSlice 1 1 [(.string ⟨#[]⟩)] [(0, 1, (.tmp 14))]),
 xi 16 (.append 1 16 (.tmp 12) (.tmp 15)),
 xm 3 16])))
 (.region false [xi 17 (.bin .add (.tmp 8) (.const (.int .i64 1))),
 xm 8 17])))))))
 (.seq (.region false [xm 18 3,
 xi 19 (.call 72 [(.tmp 18), (.const (.string ⟨#[32]⟩))]),
 xm 2 19])
 (.ret)))),
 [.tmp 2], .pure, 20⟩

def ef60 : EFun := ⟨
 .seq (.region false [xi 2 (.move (.const (.string ⟨#[]⟩)))])
 (.seq (.seq (.region false [xm 5 0,
 xi 6 (.bin .eql (.tmp 5) (.const xz))])
 (.cond (.tmp 6) (.seq (.region false [xi 2 (.move (.const (.string ⟨#[48]⟩)))])
 (.ret))
 (.skip)))
 (.seq (.region false [xi 3 (.move (.const (.string ⟨#[]⟩)))])
 (.seq (.seq (.region false [xm 7 0,
 xm 4 7])
 (.block 0 (.loop (some [0, 3, 4]) (
 .seq (.seq (.region false [xm 8 4,
 xi 9 (.bin .neq (.tmp 8) (.const xz))])
 (.cond (.tmp 9) (.skip)
 (.exit 0)))
 (.seq (.block 1 (.region false [xm 12 4,
 xi 13 (.bin .rem (.tmp 12) (.const (.int .i64 10))),
 xi 14 (.call 96 [(.tmp 13)]),
 xi 15 (.bin .add (.const (.int .i64 48)) (.tmp 14)),
 xi 16 (.conv .u8 (.tmp 15)),
 xi 17 (.buildSlice 1 1 [(.int .u8 0)] [(0, 1, (.tmp 16))]),
 xi 18 (.strOf (.tmp 17)),
 xm 19 3,
 xi 20 (.bin .add (.tmp 18) (.tmp 19)),
 xm 3 20]))
 (.region false [xm 10 4,
 xi 11 (.bin .quo (.tmp 10) (.const (.int .i64 10))),
 xm 4 11]))))))
 (.seq (.seq (.region false [xm 21 0,
 xi 22 (.bin .lss (.tmp 21) (.const xz))])
 (.cond (.tmp 22) (.seq (.region false [xm 23 3,
 xi 24 (.bin .add (.const (.string ⟨#[45]⟩)) (.tmp 23)),
 xm 2 24])
 (.ret))
 (.skip)))
 (.seq (.region false [xm 25 3,
 xm 2 25])
 (.ret)))))),
 [.tmp 2], .pure, 26⟩

def ef61 : EFun := ⟨
 .seq (.region false [xi 2 (.move (.const xz))])
 (.seq (.seq (.region false [xm 7 0,
 xi 8 (.len false (.tmp 7)),
 xi 9 (.bin .gtr (.tmp 8) (.const (.int .i64 60)))])
 (.cond (.tmp 9) (.seq (.region false [xi 2 (.move (.const (.int .i64 8)))])
 (.ret))
 (.skip)))
 (.seq (.region false [xi 10 (.makeMap),
 xm 3 10])
 (.seq (.seq (.region false [xm 11 0,
 xi 12 (.len false (.tmp 11)),
 xi 13 (.move (.const xz))])
 (.block 0 (.loop (some [3, 11, 12, 13]) (
 .seq (.region false [xi 14 (.bin .lss (.tmp 13) (.tmp 12))])
 (.seq (.cond (.tmp 14) (.skip)
 (.exit 0))
 (.seq (.block 1 (.seq (.region false [xi 15 (.indexAddr none 6 (.tmp 11) (.tmp 13)),
 xi 16 (.load true 6 (.tmp 15)),
 xi 5 (.push [xz, xz, xz, xz, xz, xz]),
 ⟨none, .store 6 (.tmp 5) (.tmp 16), none, [], false, false⟩])
 (.seq (.seq (.region false [xi 17 (.fieldAddr 0 (.tmp 5)),
 xi 18 (.load true 4 (.tmp 17)),
 xi 19 (.call 97 [(.tmp 18)]),
 xm 6 19])
 (.seq (.region false [xm 20 6,
 xi 21 (.bin .neq (.tmp 20) (.const xz))])
 (.cond (.tmp 21) (.seq (.region false [xm 22 6,
 xm 2 22])
 (.ret))
 (.skip))))
 (.seq (.block 2 (.seq (.region false [xm 24 3,
 xi 25 (.fieldAddr 0 (.tmp 5)),
 xi 26 (.load true 4 (.tmp 25)),
 xi 27 (.mapGet (.agg [(.int .i64), (.int .i64), (.int .i64), (.int .i64)]) (.bool false) false (.tmp 24) (.tmp 26)),
 xm 23 27])
 (.cond (.tmp 23) (.seq (.region false [xi 2 (.move (.const (.int .i64 5)))])
 (.ret))
 (.seq (.region false [xi 29 (.fieldAddr 4 (.tmp 5)),
 xi 30 (.fieldAddr 0 (.tmp 29)),
 xi 31 (.load false 1 (.tmp 30)),
 xi 32 (.call 90 [(.tmp 31), (.const (.int .i64 (-1000000000))), (.const (.int .i64 1000000000))]),
 xi 33 (.un .not (.tmp 32)),
 xm 34 33,
 xg 35 (.fieldAddr 4 (.tmp 5)) 34 false,
 xg 36 (.fieldAddr 1 (.tmp 35)) 34 false,
 xg 37 (.load false 1 (.tmp 36)) 34 false,
 xg 38 (.call 90 [(.tmp 37), (.const (.int .i64 (-1000000000))), (.const (.int .i64 1000000000))]) 34 false,
 xg 39 (.un .not (.tmp 38)) 34 false,
 xi 40 (.pick (.tmp 34) (.const (.bool true)) (.tmp 39)),
 xm 28 40])
 (.cond (.tmp 28) (.seq (.region false [xi 2 (.move (.const (.int .i64 2)))])
 (.ret))
 (.seq (.region false [xi 42 (.fieldAddr 4 (.tmp 5)),
 xi 43 (.fieldAddr 0 (.tmp 42)),
 xi 44 (.load false 1 (.tmp 43)),
 xi 45 (.fieldAddr 4 (.tmp 5)),
 xi 46 (.fieldAddr 1 (.tmp 45)),
 xi 47 (.load false 1 (.tmp 46)),
 xi 48 (.bin .gtr (.tmp 44) (.tmp 47)),
 xm 41 48])
 (.cond (.tmp 41) (.seq (.region false [xi 2 (.move (.const (.int .i64 9)))])
 (.ret))
 (.skip))))))))
 (.region false [xm 49 3,
 xi 50 (.fieldAddr 0 (.tmp 5)),
 xi 51 (.load true 4 (.tmp 50)),
 ⟨none, .mapSet (.agg [(.int .i64), (.int .i64), (.int .i64), (.int .i64)]) (.tmp 49) (.tmp 51) (.const (.bool true)), none, [], false, false⟩])))))
 (.region false [xi 52 (.bin .add (.tmp 13) (.const (.int .i64 1))),
 xm 13 52])))))))
 (.seq (.region false [xi 2 (.move (.const xz))])
 (.ret))))),
 [.tmp 2], .pure, 53⟩

def ef62 : EFun := ⟨
 .seq (.region false [xi 2 (.move (.const xz))])
 (.seq (.seq (.region false [xm 6 0,
 xi 7 (.len false (.tmp 6)),
 xi 8 (.bin .gtr (.tmp 7) (.const (.int .i64 60)))])
 (.cond (.tmp 8) (.seq (.region false [xi 2 (.move (.const (.int .i64 8)))])
 (.ret))
 (.skip)))
 (.seq (.seq (.region false [xi 3 (.move (.const xz))])
 (.block 0 (.loop (some [0, 3]) (
 .seq (.seq (.region false [xm 9 3,
 xm 10 0,
 xi 11 (.len false (.tmp 10)),
 xi 12 (.bin .lss (.tmp 9) (.tmp 11))])
 (.cond (.tmp 12) (.skip)
 (.exit 0)))
 (.seq (.block 1 (.seq (.seq (.region false [xm 15 0,
 xm 16 3,
 xi 17 (.indexAddr none 4 (.tmp 15) (.tmp 16)),
 xi 18 (.load true 4 (.tmp 17)),
 xi 19 (.call 98 [(.tmp 18)]),
 xm 4 19])
 (.seq (.region false [xm 20 4,
 xi 21 (.bin .neq (.tmp 20) (.const xz))])
 (.cond (.tmp 21) (.seq (.region false [xm 22 4,
 xm 2 22])
 (.ret))
 (.skip))))
 (.seq (.region false [xi 5 (.move (.const xz))])
 (.block 2 (.loop (some [0, 3, 5]) (
 .seq (.seq (.region false [xm 23 5,
 xm 24 3,
 xi 25 (.bin .lss (.tmp 23) (.tmp 24))])
 (.cond (.tmp 25) (.skip)
 (.exit 2)))
 (.seq (.block 3 (.seq (.region true [xm 28 0,
 xm 29 5,
 xi 30 (.indexAddr none 4 (.tmp 28) (.tmp 29)),
 xi 31 (.load true 4 (.tmp 30)),
 xm 32 0,
 xm 33 3,
 xi 34 (.indexAddr none 4 (.tmp 32) (.tmp 33)),
 xi 35 (.load true 4 (.tmp 34)),
 xi 36 (.eqAgg false [(.int .i64), (.int .i64), (.int .i64), (.int .i64)] (.tmp 31) (.tmp 35))])
 (.cond (.tmp 36) (.seq (.region false [xi 2 (.move (.const (.int .i64 5)))])
 (.ret))
 (.skip))))
 (.region false [xm 26 5,
 xi 27 (.bin .add (.tmp 26) (.const (.int .i64 1))),
 xm 5 27]))))))))
 (.region false [xm 13 3,
 xi 14 (.bin .add (.tmp 13) (.const (.int .i64 1))),
 xm 3 14]))))))
 (.seq (.region false [xi 2 (.move (.const xz))])
 (.ret)))),
 [.tmp 2], .pure, 37⟩

def ef71 : EFun := ⟨
 .skip,
 [], .nat natItoa, 0⟩

def ef72 : EFun := ⟨
 .skip,
 [], .nat natJoin, 0⟩

def ef80 : EFun := ⟨
 .block 0 (.loop (some [0, 1]) (
 .seq (.seq (.region false [xi 5 (.load false 1 (.tmp 1)),
 xi 6 (.len true (.tmp 5)),
 xi 7 (.bin .gtr (.tmp 6) (.const xz))])
 (.cond (.tmp 7) (.skip)
 (.exit 0)))
 (.block 1 (.seq (.region false [xi 3 (.move (.const (.string ⟨#[]⟩)))])
 (.seq (.seq (.region false [xi 8 (.load false 1 (.tmp 1)),
 xi 9 (.call 81 [(.tmp 8), (.const (.int .u8 10))]),
 xm 4 9])
 (.seq (.region false [xm 10 4,
 xi 11 (.bin .geq (.tmp 10) (.const xz))])
 (.cond (.tmp 11) (.region true [xi 12 (.load false 1 (.tmp 1)),
 xm 13 4,
 xi 14 (.bin .add (.tmp 13) (.const (.int .i64 1))),
 xi 15 (.strSlice (.tmp 12) none (some (.tmp 14))),
 xi 16 (.load false 1 (.tmp 1)),
 xm 17 4,
 xi 18 (.bin .add (.tmp 17) (.const (.int .i64 1))),
 xi 19 (.strSlice (.tmp 16) (some (.tmp 18)) none),
 xm 3 15,
 ⟨none, .store 1 (.tmp 1) (.tmp 19), none, [], false, false⟩])
 (.region false [xi 20 (.load false 1 (.tmp 1)),
 xm 3 20,
 ⟨none, .store 1 (.tmp 1) (.const (.string ⟨#[]⟩)), none, [], false, false⟩]))))
 (.seq (.region false [xm 21 0,
 xm 22 3,
 xi 23 (.callVal (.tmp 21) [(.tmp 22)]),
 xi 24 (.un .not (.tmp 23))])
 (.cond (.tmp 24) (.ret)
 (.skip)))))))),
 [], .full, 25⟩

def ef81 : EFun := ⟨
 .seq (.region false [xi 4 (.move (.const xz))])
 (.seq (.region false [xm 5 0,
 xm 6 1,
 xi 7 (.call 123 [(.tmp 5), (.tmp 6)]),
 xm 4 7])
 (.ret)),
 [.tmp 4], .pure, 8⟩

def ef82 : EFun := ⟨
 .seq (.region false [xi 4 (.move (.const (.string ⟨#[]⟩))),
 xi 5 (.move (.const (.bool false)))])
 (.seq (.seq (.region false [xm 6 0,
 xm 7 1,
 xi 8 (.call 124 [(.tmp 6), (.tmp 7)]),
 xi 9 (.un .not (.tmp 8))])
 (.cond (.tmp 9) (.seq (.region false [xm 10 0,
 xm 4 10,
 xi 5 (.move (.const (.bool false)))])
 (.ret))
 (.skip)))
 (.seq (.region false [xm 11 0,
 xm 12 0,
 xi 13 (.len true (.tmp 12)),
 xm 14 1,
 xi 15 (.len true (.tmp 14)),
 xi 16 (.bin .sub (.tmp 13) (.tmp 15)),
 xi 17 (.strSlice (.tmp 11) none (some (.tmp 16))),
 xm 4 17,
 xi 5 (.move (.const (.bool true)))])
 (.ret))),
 [.tmp 4, .tmp 5], .pure, 18⟩

def ef84 : EFun := ⟨
 .seq (.region false [xi 8 (.move (.const (.slice none 0 0)))])
 (.seq (.seq (.region false [xm 12 3,
 xi 13 (.bin .eql (.tmp 12) (.const xz))])
 (.cond (.tmp 13) (.seq (.region false [xi 8 (.move (.const (.slice none 0 0)))])
 (.ret))
 (.skip)))
 (.seq (.seq (.region false [xm 14 1,
 xi 15 (.bin .eql (.tmp 14) (.const (.string ⟨#[]⟩)))])
 (.cond (.tmp 15) (.seq (.region false [xm 16 0,
 xm 17 3,
 xi 18 (.call 127 [(.tmp 16), (.tmp 17)]),
 xm 8 18])
 (.ret))
 (.skip)))
 (.seq (.seq (.region false [xm 19 3,
 xi 20 (.bin .lss (.tmp 19) (.const xz))])
 (.cond (.tmp 20) (.region false [xm 21 0,
 xm 22 1,
 xi 23 (.call 128 [(.tmp 21), (.tmp 22)]),
 xi 24 (.bin .add (.tmp 23) (.const (.int .i64 1))),
 xm 3 24])
 (.skip)))
 (.seq (.region false [xm 25 3,
 xm 26 0,
 xi 27 (.len true (.tmp 26)),
 xi 28 (.bin .add (.tmp 27) (.const (.int .i64 1))),
 xi 29 (.min [(.tmp 25), (.tmp 28)]),
 xm 3 29])
 (.seq (.region false [xm 30 3,
 xi 31 (.makeSlice 1 16 [(.string ⟨#[]⟩)] (.tmp 30) (.tmp 30)),
 xm 9 31])
 (.seq (.region false [xm 32 3,
 xi 33 (.bin .sub (.tmp 32) (.const (.int .i64 1))),
 xm 3 33])
 (.seq (.region false [xi 10 (.move (.const xz))])
 (.seq (.block 0 (.loop (some [0, 1, 2, 3, 9, 10]) (
 .seq (.seq (.region false [xm 34 10,
 xm 35 3,
 xi 36 (.bin .lss (.tmp 34) (.tmp 35))])
 (.cond (.tmp 36) (.skip)
 (.exit 0)))
 (.block 1 (.seq (.region false [xm 37 0,
 xm 38 1,
 xi 39 (.call 129 [(.tmp 37), (.tmp 38)]),
 xm 11 39])
 (.seq (.seq (.region false [xm 40 11,
 xi 41 (.bin .lss (.tmp 40) (.const xz))])
 (.cond (.tmp 41) (.exit 0)
 (.skip)))
 (.seq (.region false [xm 42 9,
 xm 43 10,
 xm 44 0,
 xm 45 11,
 xm 46 2,
 xi 47 (.bin .add (.tmp 45) (.tmp 46)),
 xi 48 (.strSlice (.tmp 44) none (some (.tmp 47))),
 xi 49 (.indexAddr none 1 (.tmp 42) (.tmp 43)),
 ⟨none, .store 1 (.tmp 49) (.tmp 48), none, [], false, false⟩])
 (.seq (.region false [xm 50 0,
 xm 51 11,
 xm 52 1,
 xi 53 (.len true (.tmp 52)),
 xi 54 (.bin .add (.tmp 51) (.tmp 53)),
 xi 55 (.strSlice (.tmp 50) (some (.tmp 54)) none),
 xm 0 55])
 (.region false [xm 56 10,
 xi 57 (.bin .add (.tmp 56) (.const (.int .i64 1))),
 xm 10 57])))))))))
 (.seq (.region false [xm 58 9,
 xm 59 10,
 xm 60 0,
 xi 61 (.indexAddr none 1 (.tmp 58) (.tmp 59)),
 ⟨none, .store 1 (.tmp 61) (.tmp 60), none, [], false, false⟩])
 (.seq (.region false [xm 62 9,
 xm 63 10,
 xi 64 (.bin .add (.tmp 63) (.const (.int .i64 1))),
 xi 65 (.slice 1 (.tmp 62) none (some (.tmp 64))),
 xm 8 65])
 (.ret))))))))))),
 [.tmp 8], .pure, 66⟩

def ef86 : EFun := ⟨
 .seq (.region false [xi 2 (.box (.tmp 0)),
 xi 4 (.move (.const xz))])
 (.seq (.seq (.region false [xi 6 (.load false 1 (.tmp 2)),
 xi 7 (.call 130 [(.tmp 6)]),
 xm 5 7])
 (.seq (.region false [xm 8 5,
 xi 9 (.bin .neq (.tmp 8) (.const xz))])
 (.cond (.tmp 9) (.seq (.region false [xm 10 5,
 xm 4 10])
 (.ret))
 (.skip))))
 (.seq (.seq (.region false [xm 11 1,
 xi 12 (.makeFunc (.func 132) [(.tmp 2)]),
 xi 13 (.call 131 [(.tmp 11), (.tmp 12)])])
 (.cond (.tmp 13) (.seq (.region false [xi 4 (.move (.const (.int .i64 6)))])
 (.ret))
 (.skip)))
 (.seq (.seq (.region false [xm 14 1,
 xi 15 (.call 133 [(.tmp 14)]),
 xi 16 (.un .not (.tmp 15))])
 (.cond (.tmp 16) (.seq (.region false [xi 4 (.move (.const (.int .i64 9)))])
 (.ret))
 (.skip)))
 (.seq (.region false [xi 4 (.move (.const xz))])
 (.ret))))),
 [.tmp 4], .pure, 17⟩

def ef87 : EFun := ⟨
 .seq (.region false [xi 2 (.move (.const (.slice none 0 0)))])
 (.seq (.region false [xi 3 (.move (.const (.slice none 0 0)))])
 (.seq (.seq (.region false [xm 6 0,
 xi 7 (.len false (.tmp 6)),
 xi 8 (.move (.const xz))])
 (.block 0 (.loop (some [3, 6, 7, 8]) (
 .seq (.region false [xi 9 (.bin .lss (.tmp 8) (.tmp 7))])
 (.seq (.cond (.tmp 9) (.skip)
 (.exit 0))
 (.seq (.block 1 (.seq (.region false [xi 10 (.indexAddr none 4 (.tmp 6) (.tmp 8)),
 xi 11 (.load true 4 (.tmp 10)),
 xi 5 (.push [xz, xz, xz, xz]),
 ⟨none, .store 4 (.tmp 5) (.tmp 11), none, [], false, false⟩])
 (.region false [xm 12 3,
 xi 13 (.fieldAddr 0 (.tmp 5)),
 xi 14 (.load false 1 (.tmp 13)),
 xi 15 (.fieldAddr 1 (.tmp 5)),
 xi 16 (.load false 1 (.tmp 15)),
 xi 17 (.buildSlice 1 2 [xz, xz] [(0, 1, (.tmp 14)), (1, 1, (.tmp 16))]),
 xi 18 (.append 1 8 (.tmp 12) (.tmp 17)),
 xm 3 18])))
 (.region false [xi 19 (.bin .add (.tmp 8) (.const (.int .i64 1))),
 xm 8 19])))))))
 (.seq (.region false [xm 20 3,
 xi 21 (.call 134 [(.tmp 20)])])
 (.seq (.region false [xm 22 3,
 xi 23 (.call 135 [(.tmp 22)]),
 xm 2 23])
 (.ret))))),
 [.tmp 2], .pure, 24⟩

def ef88 : EFun := ⟨
 .seq (.region false [xi 2 (.box (.tmp 0)),
 xi 3 (.box (.tmp 1)),
 xi 4 (.move (.const .nilFunc))])
 (.seq (.region false [xi 5 (.makeFunc (.func 136) [(.tmp 3), (.tmp 2)]),
 xm 4 5])
 (.ret)),
 [.tmp 4], .pure, 6⟩

def ef89 : EFun := ⟨
 .seq (.region false [xi 6 (.move (.const xz))])
 (.seq (.region false [xi 7 (.move (.const (.bool false)))])
 (.seq (.seq (.region false [xm 14 0,
 xi 15 (.len false (.tmp 14)),
 xi 16 (.move (.const xz))])
 (.block 0 (.loop (some [1, 2, 7, 14, 15, 16]) (
 .seq (.region false [xi 17 (.bin .lss (.tmp 16) (.tmp 15))])
 (.seq (.cond (.tmp 17) (.skip)
 (.exit 0))
 (.seq (.block 1 (.seq (.region false [xm 18 16,
 xi 19 (.indexAddr none 4 (.tmp 14) (.tmp 16)),
 xi 20 (.load true 4 (.tmp 19)),
 xi 9 (.push [xz, xz, xz, xz]),
 xm 8 18,
 ⟨none, .store 4 (.tmp 9) (.tmp 20), none, [], false, false⟩])
 (.seq (.region true [xm 21 2,
 xi 22 (.fieldAddr 0 (.tmp 9)),
 xi 23 (.load false 1 (.tmp 22)),
 ⟨(some 24), .call 139 [(.tmp 21), (.tmp 23)], none, [], false, true⟩,
 xm 25 2,
 xi 26 (.fieldAddr 1 (.tmp 9)),
 xi 27 (.load false 1 (.tmp 26)),
 xi 28 (.call 139 [(.tmp 25), (.tmp 27)]),
 xm 10 24,
 xm 11 28])
 (.seq (.region false [xm 30 1,
 xm 31 8,
 xi 32 (.call 140 [(.tmp 30), (.tmp 31)]),
 xm 29 32,
 xi 33 (.extract (.tmp 29) 0),
 xi 34 (.extract (.tmp 29) 1),
 xm 12 33,
 xm 13 34])
 (.seq (.region false [xm 35 13,
 xi 36 (.un .not (.tmp 35))])
 (.cond (.tmp 36) (.region false [xm 37 7,
 xm 38 37,
 xg 39 (.move (.tmp 10)) 38 false,
 xg 40 (.move (.tmp 11)) 38 false,
 xg 41 (.eqBool true (.tmp 39) (.tmp 40)) 38 false,
 xi 42 (.pick (.tmp 38) (.const (.bool true)) (.tmp 41)),
 xm 7 42])
 (.seq (.region false [xm 43 10,
 xi 44 (.un .not (.tmp 43)),
 xm 45 44,
 xg 46 (.move (.tmp 11)) 45 true,
 xg 47 (.un .not (.tmp 46)) 45 true,
 xi 48 (.pick (.tmp 45) (.tmp 47) (.const (.bool false)))])
 (.cond (.tmp 48) (.seq (.region false [xi 6 (.move (.const (.int .i64 14)))])
 (.ret))
 (.skip)))))))))
 (.region false [xi 49 (.bin .add (.tmp 16) (.const (.int .i64 1))),
 xm 16 49])))))))
 (.seq (.seq (.region false [xm 50 7])
 (.cond (.tmp 50) (.seq (.region false [xi 6 (.move (.const (.int .i64 13)))])
 (.ret))
 (.skip)))
 (.seq (.region false [xi 6 (.move (.const xz))])
 (.ret))))),
 [.tmp 6], .pure, 51⟩

def ef90 : EFun := ⟨
 .seq (.region false [xi 6 (.move (.const (.bool false)))])
 (.seq (.region false [xm 7 0,
 xm 8 1,
 xi 9 (.bin .geq (.tmp 7) (.tmp 8)),
 xm 10 9,
 xg 11 (.move (.tmp 0)) 10 true,
 xg 12 (.move (.tmp 2)) 10 true,
 xg 13 (.bin .leq (.tmp 11) (.tmp 12)) 10 true,
 xi 14 (.pick (.tmp 10) (.tmp 13) (.const (.bool false))),
 xm 6 14])
 (.ret)),
 [.tmp 6], .pure, 15⟩

def ef91 : EFun := ⟨
 .seq (.region false [xi 4 (.box (.tmp 0)),
 xi 8 (.move (.const xz))])
 (.seq (.seq (.region false [xi 11 (.load true 4 (.tmp 4)),
 xi 12 (.call 141 [(.tmp 11)]),
 xm 9 12])
 (.seq (.region false [xm 13 9,
 xi 14 (.bin .neq (.tmp 13) (.const xz))])
 (.cond (.tmp 14) (.seq (.region false [xm 15 9,
 xm 8 15])
 (.ret))
 (.skip))))
 (.seq (.seq (.region false [xm 16 1,
 xi 17 (.call 142 [(.tmp 16)]),
 xm 10 17])
 (.seq (.region false [xm 18 10,
 xi 19 (.bin .neq (.tmp 18) (.const xz))])
 (.cond (.tmp 19) (.seq (.region false [xm 20 10,
 xm 8 20])
 (.ret))
 (.skip))))
 (.seq (.seq (.region false [xm 21 2,
 xm 22 3,
 xi 23 (.call 90 [(.tmp 21), (.tmp 22), (.const (.int .i64 4000))]),
 xi 24 (.un .not (.tmp 23))])
 (.cond (.tmp 24) (.seq (.region false [xi 8 (.move (.const (.int .i64 2)))])
 (.ret))
 (.skip)))
 (.seq (.region false [xi 8 (.move (.const xz))])
 (.ret))))),
 [.tmp 8], .pure, 25⟩

def ef92 : EFun := ⟨
 .seq (.region false [xi 3 (.box (.tmp 0)),
 xi 5 (.box (.tmp 2)),
 xi 6 (.push [xz])])
 (.seq (.seq (.region false [xi 9 (.load true 4 (.tmp 3)),
 xm 10 1,
 xi 11 (.call 143 [(.tmp 9), (.tmp 10)])])
 (.block 0 (.rangeF (.tmp 11) 92 0 false [5, 6] [12, 13]
 (.seq (.region false [xm 7 12])
 (.region false [xm 8 13]))
 (.block 1 (.seq (.region false [xm 14 7,
 xi 15 (.load false 1 (.tmp 5)),
 xi 16 (.bin .eql (.tmp 14) (.tmp 15))])
 (.cond (.tmp 16) (.seq (.region false [xm 17 8,
 ⟨none, .store 1 (.tmp 6) (.tmp 17), none, [], false, false⟩])
 (.ret))
 (.skip)))))))
 (.seq (.region false [⟨none, .store 1 (.tmp 6) (.const xz), none, [], false, false⟩])
 (.ret))),
 [.cell 6 false 1], .pure, 18⟩

def ef93 : EFun := ⟨
 .seq (.region false [xi 4 (.move (.const xz)),
 xi 5 (.move (.const (.bool false)))])
 (.seq (.region false [xm 9 0,
 xi 10 (.call 125 [(.tmp 9)]),
 xm 8 10,
 xi 11 (.extract (.tmp 8) 0),
 xi 12 (.extract (.tmp 8) 1),
 xm 6 11,
 xm 7 12])
 (.seq (.region false [xm 13 6,
 xm 14 7,
 xi 15 (.eqNil false (.tmp 14)),
 xm 16 15,
 xg 17 (.move (.tmp 6)) 16 true,
 xg 18 (.call 71 [(.tmp 17)]) 16 true,
 xg 19 (.move (.tmp 0)) 16 true,
 xg 20 (.bin .eql (.tmp 18) (.tmp 19)) 16 true,
 xi 21 (.pick (.tmp 16) (.tmp 20) (.const (.bool false))),
 xm 22 21,
 xg 23 (.move (.tmp 0)) 22 true,
 xg 24 (.call 126 [(.tmp 23), (.const (.string ⟨#[45]⟩))]) 22 true,
 xg 25 (.len true (.tmp 24)) 22 true,
 xg 26 (.move (.tmp 1)) 22 true,
 xg 27 (.bin .leq (.tmp 25) (.tmp 26)) 22 true,
 xi 28 (.pick (.tmp 22) (.tmp 27) (.const (.bool false))),
 xm 4 13,
 xm 5 28])
 (.ret))),
 [.tmp 4, .tmp 5], .pure, 29⟩

def ef94 : EFun := ⟨
 .seq (.region false [xi 2 (.move (.const (.bool false)))])
 (.seq (.region false [xm 3 0,
 xi 4 (.call 90 [(.tmp 3), (.const xz), (.const (.int .i64 100000))]),
 xm 2 4])
 (.ret)),
 [.tmp 2], .pure, 5⟩

def ef95 : EFun := ⟨
 .seq (.region false [xi 4 (.move (.const xz)),
 xi 5 (.move (.const (.bool false)))])
 (.seq (.region false [xi 6 (.move (.const xz)),
 xi 7 (.move (.const xz))])
 (.seq (.seq (.region false [xm 9 0,
 xi 10 (.len true (.tmp 9)),
 xi 11 (.bin .gtr (.tmp 10) (.const xz)),
 xm 12 11,
 xg 13 (.move (.tmp 0)) 12 true,
 xg 14 (.strIndex (.tmp 13) (.const xz)) 12 true,
 xg 15 (.bin .eql (.tmp 14) (.const (.int .u8 45))) 12 true,
 xi 16 (.pick (.tmp 12) (.tmp 15) (.const (.bool false)))])
 (.cond (.tmp 16) (.region false [xi 7 (.move (.const (.int .i64 1)))])
 (.skip)))
 (.seq (.seq (.region false [xm 17 0,
 xi 18 (.len true (.tmp 17)),
 xm 19 7,
 xi 20 (.bin .eql (.tmp 18) (.tmp 19)),
 xm 21 20,
 xg 22 (.move (.tmp 0)) 21 false,
 xg 23 (.len true (.tmp 22)) 21 false,
 xg 24 (.move (.tmp 7)) 21 false,
 xg 25 (.move (.tmp 1)) 21 false,
 xg 26 (.bin .add (.tmp 24) (.tmp 25)) 21 false,
 xg 27 (.bin .gtr (.tmp 23) (.tmp 26)) 21 false,
 xi 28 (.pick (.tmp 21) (.const (.bool true)) (.tmp 27)),
 xm 29 28,
 xg 30 (.move (.tmp 1)) 29 false,
 xg 31 (.bin .gtr (.tmp 30) (.const (.int .i64 18))) 29 false,
 xi 32 (.pick (.tmp 29) (.const (.bool true)) (.tmp 31))])
 (.cond (.tmp 32) (.seq (.region false [xi 4 (.move (.const xz)),
 xi 5 (.move (.const (.bool false)))])
 (.ret))
 (.skip)))
 (.seq (.seq (.region false [xm 33 7,
 xm 8 33])
 (.block 0 (.loop (some [0, 6, 7, 8]) (
 .seq (.seq (.region false [xm 34 8,
 xm 35 0,
 xi 36 (.len true (.tmp 35)),
 xi 37 (.bin .lss (.tmp 34) (.tmp 36))])
 (.cond (.tmp 37) (.skip)
 (.exit 0)))
 (.seq (.block 1 (.seq (.seq (.region false [xm 40 0,
 xm 41 8,
 xi 42 (.strIndex (.tmp 40) (.tmp 41)),
 xi 43 (.call 115 [(.tmp 42)]),
 xi 44 (.un .not (.tmp 43))])
 (.cond (.tmp 44) (.seq (.region false [xi 4 (.move (.const xz)),
 xi 5 (.move (.const (.bool false)))])
 (.ret))
 (.skip)))
 (.region false [xm 45 6,
 xi 46 (.bin .mul (.const (.int .i64 10)) (.tmp 45)),
 xm 47 0,
 xm 48 8,
 xi 49 (.strIndex (.tmp 47) (.tmp 48)),
 xi 50 (.bin .sub (.tmp 49) (.const (.int .u8 48))),
 xi 51 (.conv .i64 (.tmp 50)),
 xi 52 (.bin .add (.tmp 46) (.tmp 51)),
 xm 6 52])))
 (.region false [xm 38 8,
 xi 39 (.bin .add (.tmp 38) (.const (.int .i64 1))),
 xm 8 39]))))))
 (.seq (.seq (.region false [xm 53 7,
 xi 54 (.bin .eql (.tmp 53) (.const (.int .i64 1)))])
 (.cond (.tmp 54) (.region false [xm 55 6,
 xi 56 (.un .neg (.tmp 55)),
 xm 6 56])
 (.skip)))
 (.seq (.region false [xm 57 6,
 xm 58 6,
 xi 59 (.call 60 [(.tmp 58)]),
 xm 60 0,
 xi 61 (.bin .eql (.tmp 59) (.tmp 60)),
 xm 4 57,
 xm 5 61])
 (.ret))))))),
 [.tmp 4, .tmp 5], .pure, 62⟩

def ef96 : EFun := ⟨
 .seq (.region false [xi 2 (.move (.const xz))])
 (.seq (.seq (.region false [xm 3 0,
 xi 4 (.bin .lss (.tmp 3) (.const xz))])
 (.cond (.tmp 4) (.seq (.region false [xm 5 0,
 xi 6 (.un .neg (.tmp 5)),
 xm 2 6])
 (.ret))
 (.skip)))
 (.seq (.region false [xm 7 0,
 xm 2 7])
 (.ret))),
 [.tmp 2], .pure, 8⟩

def ef97 : EFun := ⟨
 .seq (.region false [xi 1 (.box (.tmp 0)),
 xi 2 (.move (.const xz))])
 (.seq (.seq (.region false [xi 7 (.fieldAddr 0 (.tmp 1)),
 xi 8 (.load false 1 (.tmp 7)),
 xi 9 (.call 144 [(.tmp 8)]),
 xi 10 (.un .not (.tmp 9)),
 xm 11 10,
 xg 12 (.fieldAddr 1 (.tmp 1)) 11 false,
 xg 13 (.load false 1 (.tmp 12)) 11 false,
 xg 14 (.call 144 [(.tmp 13)]) 11 false,
 xg 15 (.un .not (.tmp 14)) 11 false,
 xi 16 (.pick (.tmp 11) (.const (.bool true)) (.tmp 15)),
 xm 17 16,
 xg 18 (.fieldAddr 2 (.tmp 1)) 17 false,
 xg 19 (.load false 1 (.tmp 18)) 17 false,
 xg 20 (.call 145 [(.tmp 19)]) 17 false,
 xg 21 (.un .not (.tmp 20)) 17 false,
 xi 22 (.pick (.tmp 17) (.const (.bool true)) (.tmp 21)),
 xm 23 22,
 xg 24 (.fieldAddr 3 (.tmp 1)) 23 false,
 xg 25 (.load false 1 (.tmp 24)) 23 false,
 xg 26 (.call 145 [(.tmp 25)]) 23 false,
 xg 27 (.un .not (.tmp 26)) 23 false,
 xi 28 (.pick (.tmp 23) (.const (.bool true)) (.tmp 27))])
 (.cond (.tmp 28) (.seq (.region false [xi 2 (.move (.const (.int .i64 2)))])
 (.ret))
 (.skip)))
 (.seq (.seq (.region false [xi 29 (.fieldAddr 1 (.tmp 1)),
 xi 30 (.load false 1 (.tmp 29)),
 xi 31 (.fieldAddr 0 (.tmp 1)),
 xi 32 (.load false 1 (.tmp 31)),
 xi 33 (.bin .leq (.tmp 30) (.tmp 32))])
 (.cond (.tmp 33) (.seq (.region false [xi 2 (.move (.const (.int .i64 9)))])
 (.ret))
 (.skip)))
 (.seq (.seq (.region false [xi 34 (.fieldAddr 2 (.tmp 1)),
 xi 35 (.load false 1 (.tmp 34)),
 xi 36 (.fieldAddr 3 (.tmp 1)),
 xi 37 (.load false 1 (.tmp 36)),
 xi 38 (.build [xz, xz] [(0, 1, (.tmp 35)), (1, 1, (.tmp 37))]),
 xi 39 (.move (.const xz))])
 (.block 0 (.loop (some [38, 39]) (
 .seq (.region false [xi 40 (.bin .lss (.tmp 39) (.const (.int .i64 2)))])
 (.seq (.cond (.tmp 40) (.skip)
 (.exit 0))
 (.seq (.block 1 (.seq (.region false [xi 41 (.index 2 1 false (.tmp 38) (.tmp 39)),
 xm 4 41])
 (.seq (.region false [xm 43 4,
 xi 44 (.call 146 [(.tmp 43)]),
 xm 42 44,
 xi 45 (.extract (.tmp 42) 0),
 xi 46 (.extract (.tmp 42) 1),
 xi 5 (.push [xz, xz, xz]),
 ⟨none, .store 3 (.tmp 5) (.tmp 45), none, [], false, false⟩,
 xm 6 46])
 (.seq (.region false [xm 47 6,
 xi 48 (.un .not (.tmp 47))])
 (.cond (.tmp 48) (.seq (.region false [xi 2 (.move (.const (.int .i64 15)))])
 (.ret))
 (.skip))))))
 (.region false [xi 49 (.bin .add (.tmp 39) (.const (.int .i64 1))),
 xm 39 49])))))))
 (.seq (.region false [xi 2 (.move (.const xz))])
 (.ret))))),
 [.tmp 2], .pure, 50⟩

def ef98 : EFun := ⟨
 .seq (.region false [xi 1 (.box (.tmp 0)),
 xi 2 (.move (.const xz))])
 (.seq (.seq (.region false [xi 7 (.fieldAddr 0 (.tmp 1)),
 xi 8 (.load false 1 (.tmp 7)),
 xi 9 (.call 147 [(.tmp 8)]),
 xi 10 (.un .not (.tmp 9)),
 xm 11 10,
 xg 12 (.fieldAddr 1 (.tmp 1)) 11 false,
 xg 13 (.load false 1 (.tmp 12)) 11 false,
 xg 14 (.call 147 [(.tmp 13)]) 11 false,
 xg 15 (.un .not (.tmp 14)) 11 false,
 xi 16 (.pick (.tmp 11) (.const (.bool true)) (.tmp 15)),
 xm 17 16,
 xg 18 (.fieldAddr 2 (.tmp 1)) 17 false,
 xg 19 (.load false 1 (.tmp 18)) 17 false,
 xg 20 (.call 41 [(.tmp 19), (.const (.int .i64 1)), (.const (.int .i64 16))]) 17 false,
 xg 21 (.un .not (.tmp 20)) 17 false,
 xi 22 (.pick (.tmp 17) (.const (.bool true)) (.tmp 21)),
 xm 23 22,
 xg 24 (.fieldAddr 3 (.tmp 1)) 23 false,
 xg 25 (.load false 1 (.tmp 24)) 23 false,
 xg 26 (.call 41 [(.tmp 25), (.const (.int .i64 1)), (.const (.int .i64 16))]) 23 false,
 xg 27 (.un .not (.tmp 26)) 23 false,
 xi 28 (.pick (.tmp 23) (.const (.bool true)) (.tmp 27))])
 (.cond (.tmp 28) (.seq (.region false [xi 2 (.move (.const (.int .i64 2)))])
 (.ret))
 (.skip)))
 (.seq (.seq (.region false [xi 29 (.fieldAddr 1 (.tmp 1)),
 xi 30 (.load false 1 (.tmp 29)),
 xi 31 (.fieldAddr 0 (.tmp 1)),
 xi 32 (.load false 1 (.tmp 31)),
 xi 33 (.bin .leq (.tmp 30) (.tmp 32))])
 (.cond (.tmp 33) (.seq (.region false [xi 2 (.move (.const (.int .i64 9)))])
 (.ret))
 (.skip)))
 (.seq (.region false [xi 35 (.fieldAddr 2 (.tmp 1)),
 xi 36 (.load false 1 (.tmp 35)),
 xi 37 (.call 148 [(.tmp 36)]),
 xm 34 37,
 xi 38 (.extract (.tmp 34) 0),
 xi 39 (.extract (.tmp 34) 1),
 xi 3 (.push [xz, xz, xz]),
 ⟨none, .store 3 (.tmp 3) (.tmp 38), none, [], false, false⟩,
 xm 4 39])
 (.seq (.region false [xi 41 (.fieldAddr 3 (.tmp 1)),
 xi 42 (.load false 1 (.tmp 41)),
 xi 43 (.call 148 [(.tmp 42)]),
 xm 40 43,
 xi 44 (.extract (.tmp 40) 0),
 xi 45 (.extract (.tmp 40) 1),
 xi 5 (.push [xz, xz, xz]),
 ⟨none, .store 3 (.tmp 5) (.tmp 44), none, [], false, false⟩,
 xm 6 45])
 (.seq (.seq (.region false [xm 46 4,
 xi 47 (.un .not (.tmp 46)),
 xm 48 47,
 xg 49 (.move (.tmp 6)) 48 false,
 xg 50 (.un .not (.tmp 49)) 48 false,
 xi 51 (.pick (.tmp 48) (.const (.bool true)) (.tmp 50))])
 (.cond (.tmp 51) (.seq (.region false [xi 2 (.move (.const (.int .i64 15)))])
 (.ret))
 (.skip)))
 (.seq (.region false [xi 2 (.move (.const xz))])
 (.ret))))))),
 [.tmp 2], .pure, 52⟩

def ef115 : EFun := ⟨
 .seq (.region false [xi 2 (.move (.const (.bool false)))])
 (.seq (.region false [xm 3 0,
 xi 4 (.bin .geq (.tmp 3) (.const (.int .u8 48))),
 xm 5 4,
 xg 6 (.move (.tmp 0)) 5 true,
 xg 7 (.bin .leq (.tmp 6) (.const (.int .u8 57))) 5 true,
 xi 8 (.pick (.tmp 5) (.tmp 7) (.const (.bool false))),
 xm 2 8])
 (.ret)),
 [.tmp 2], .pure, 9⟩

def ef123 : EFun := ⟨
 .skip,
 [], .nat natIndexByte, 0⟩

def ef124 : EFun := ⟨
 .seq (.region false [xi 4 (.move (.const (.bool false)))])
 (.seq (.region false [xm 5 0,
 xi 6 (.len true (.tmp 5)),
 xm 7 1,
 xi 8 (.len true (.tmp 7)),
 xi 9 (.bin .geq (.tmp 6) (.tmp 8)),
 xm 10 9,
 xg 11 (.move (.tmp 0)) 10 true,
 xg 12 (.move (.tmp 0)) 10 true,
 xg 13 (.len true (.tmp 12)) 10 true,
 xg 14 (.move (.tmp 1)) 10 true,
 xg 15 (.len true (.tmp 14)) 10 true,
 xg 16 (.bin .sub (.tmp 13) (.tmp 15)) 10 true,
 xg 17 (.strSlice (.tmp 11) (some (.tmp 16)) none) 10 true,
 xg 18 (.move (.tmp 1)) 10 true,
 xg 19 (.bin .eql (.tmp 17) (.tmp 18)) 10 true,
 xi 20 (.pick (.tmp 10) (.tmp 19) (.const (.bool false))),
 xm 4 20])
 (.ret)),
 [.tmp 4], .pure, 21⟩

def ef125 : EFun := ⟨
 .skip,
 [], .nat (natAtoi 262 1 2), 0⟩

def ef126 : EFun := ⟨
 .seq (.region false [xi 4 (.move (.const (.string ⟨#[]⟩)))])
 (.seq (.region false [xm 5 0,
 xm 6 1,
 xi 7 (.call 167 [(.tmp 5), (.tmp 6)]),
 xm 4 7])
 (.ret)),
 [.tmp 4], .pure, 8⟩

def ef127 : EFun := ⟨
 .seq (.region false [xi 4 (.move (.const (.slice none 0 0)))])
 (.seq (.region false [xm 10 0,
 xi 11 (.call 168 [(.tmp 10)]),
 xm 5 11])
 (.seq (.seq (.region false [xm 12 1,
 xi 13 (.bin .lss (.tmp 12) (.const xz)),
 xm 14 13,
 xg 15 (.move (.tmp 1)) 14 false,
 xg 16 (.move (.tmp 5)) 14 false,
 xg 17 (.bin .gtr (.tmp 15) (.tmp 16)) 14 false,
 xi 18 (.pick (.tmp 14) (.const (.bool true)) (.tmp 17))])
 (.cond (.tmp 18) (.region false [xm 19 5,
 xm 1 19])
 (.skip)))
 (.seq (.region false [xm 20 1,
 xi 21 (.makeSlice 1 16 [(.string ⟨#[]⟩)] (.tmp 20) (.tmp 20)),
 xm 6 21])
 (.seq (.seq (.region false [xi 7 (.move (.const xz))])
 (.block 0 (.loop (some [0, 1, 6, 7]) (
 .seq (.seq (.region false [xm 22 7,
 xm 23 1,
 xi 24 (.bin .sub (.tmp 23) (.const (.int .i64 1))),
 xi 25 (.bin .lss (.tmp 22) (.tmp 24))])
 (.cond (.tmp 25) (.skip)
 (.exit 0)))
 (.seq (.block 1 (.seq (.region false [xm 29 0,
 xi 30 (.call 169 [(.tmp 29)]),
 xm 28 30,
 xi 31 (.extract (.tmp 28) 0),
 xi 32 (.extract (.tmp 28) 1),
 xm 8 31,
 xm 9 32])
 (.seq (.region false [xm 33 6,
 xm 34 7,
 xm 35 0,
 xm 36 9,
 xi 37 (.strSlice (.tmp 35) none (some (.tmp 36))),
 xi 38 (.indexAddr none 1 (.tmp 33) (.tmp 34)),
 ⟨none, .store 1 (.tmp 38) (.tmp 37), none, [], false, false⟩])
 (.region false [xm 39 0,
 xm 40 9,
 xi 41 (.strSlice (.tmp 39) (some (.tmp 40)) none),
 xm 0 41]))))
 (.region false [xm 26 7,
 xi 27 (.bin .add (.tmp 26) (.const (.int .i64 1))),
 xm 7 27]))))))
 (.seq (.seq (.region false [xm 42 1,
 xi 43 (.bin .gtr (.tmp 42) (.const xz))])
 (.cond (.tmp 43) (.region false [xm 44 6,
 xm 45 1,
 xi 46 (.bin .sub (.tmp 45) (.const (.int .i64 1))),
 xm 47 0,
 xi 48 (.indexAddr none 1 (.tmp 44) (.tmp 46)),
 ⟨none, .store 1 (.tmp 48) (.tmp 47), none, [], false, false⟩])
 (.skip)))
 (.seq (.region false [xm 49 6,
 xm 4 49])
 (.ret))))))),
 [.tmp 4], .pure, 50⟩

def ef128 : EFun := ⟨
 .skip,
 [], .nat natCount1, 0⟩

def ef129 : EFun := ⟨
 .seq (.region false [xi 4 (.move (.const xz))])
 (.seq (.region false [xm 5 0,
 xm 6 1,
 xi 7 (.call 171 [(.tmp 5), (.tmp 6)]),
 xm 4 7])
 (.ret)),
 [.tmp 4], .pure, 8⟩

def ef130 : EFun := ⟨
 .seq (.region false [xi 2 (.move (.const xz))])
 (.seq (.seq (.region false [xm 6 0,
 xi 7 (.len false (.tmp 6)),
 xi 8 (.bin .gtr (.tmp 7) (.const (.int .i64 60)))])
 (.cond (.tmp 8) (.seq (.region false [xi 2 (.move (.const (.int .i64 8)))])
 (.ret))
 (.skip)))
 (.seq (.seq (.region false [xm 9 0,
 xi 10 (.len false (.tmp 9)),
 xi 11 (.move (.const xz))])
 (.block 0 (.loop (some [0, 9, 10, 11]) (
 .seq (.region false [xi 12 (.bin .lss (.tmp 11) (.tmp 10))])
 (.seq (.cond (.tmp 12) (.skip)
 (.exit 0))
 (.seq (.block 1 (.seq (.region false [xm 13 11,
 xi 14 (.indexAddr none 4 (.tmp 9) (.tmp 11)),
 xi 15 (.load true 4 (.tmp 14)),
 xi 4 (.push [xz, xz, xz, xz]),
 xm 3 13,
 ⟨none, .store 4 (.tmp 4) (.tmp 15), none, [], false, false⟩])
 (.seq (.seq (.region false [xi 16 (.load true 4 (.tmp 4)),
 xi 17 (.call 97 [(.tmp 16)]),
 xm 5 17])
 (.seq (.region false [xm 18 5,
 xi 19 (.bin .neq (.tmp 18) (.const xz))])
 (.cond (.tmp 19) (.seq (.region false [xm 20 5,
 xm 2 20])
 (.ret))
 (.skip))))
 (.seq (.region true [xm 21 0,
 xm 22 3,
 xi 23 (.slice 4 (.tmp 21) none (some (.tmp 22))),
 xi 24 (.load true 4 (.tmp 4)),
 xi 25 (.call 172 [(.tmp 23), (.tmp 24)])])
 (.cond (.tmp 25) (.seq (.region false [xi 2 (.move (.const (.int .i64 5)))])
 (.ret))
 (.skip))))))
 (.region false [xi 26 (.bin .add (.tmp 11) (.const (.int .i64 1))),
 xm 11 26])))))))
 (.seq (.region false [xi 2 (.move (.const xz))])
 (.ret)))),
 [.tmp 2], .pure, 27⟩

def ef131 : EFun := ⟨
 .seq (.region false [xi 4 (.move (.const (.bool false)))])
 (.seq (.region false [xm 5 0,
 xm 6 1,
 xi 7 (.call 173 [(.tmp 5), (.tmp 6)]),
 xi 8 (.bin .geq (.tmp 7) (.const xz)),
 xm 4 8])
 (.ret)),
 [.tmp 4], .pure, 9⟩

def ef132 : EFun := ⟨
 .seq (.region false [xi 3 (.move (.const (.bool false)))])
 (.seq (.region false [xm 4 0,
 xi 5 (.load false 1 (.tmp 1)),
 xi 6 (.len false (.tmp 5)),
 xi 7 (.bin .sub (.tmp 6) (.const (.int .i64 1))),
 xi 8 (.call 90 [(.tmp 4), (.const xz), (.tmp 7)]),
 xi 9 (.un .not (.tmp 8)),
 xm 3 9])
 (.ret)),
 [.tmp 3], .pure, 10⟩

def ef133 : EFun := ⟨
 .seq (.region false [xi 2 (.move (.const (.bool false)))])
 (.seq (.seq (.region false [xi 3 (.move (.const (.int .i64 1)))])
 (.block 0 (.loop (some [0, 3]) (
 .seq (.seq (.region false [xm 4 3,
 xm 5 0,
 xi 6 (.len false (.tmp 5)),
 xi 7 (.bin .lss (.tmp 4) (.tmp 6))])
 (.cond (.tmp 7) (.skip)
 (.exit 0)))
 (.seq (.block 1 (.seq (.region true [xm 10 0,
 xm 11 3,
 xi 12 (.indexAddr none 1 (.tmp 10) (.tmp 11)),
 xi 13 (.load false 1 (.tmp 12)),
 xm 14 0,
 xm 15 3,
 xi 16 (.bin .sub (.tmp 15) (.const (.int .i64 1))),
 xi 17 (.indexAddr none 1 (.tmp 14) (.tmp 16)),
 xi 18 (.load false 1 (.tmp 17)),
 xi 19 (.bin .leq (.tmp 13) (.tmp 18))])
 (.cond (.tmp 19) (.seq (.region false [xi 2 (.move (.const (.bool false)))])
 (.ret))
 (.skip))))
 (.region false [xm 8 3,
 xi 9 (.bin .add (.tmp 8) (.const (.int .i64 1))),
 xm 3 9]))))))
 (.seq (.region false [xi 2 (.move (.const (.bool true)))])
 (.ret))),
 [.tmp 2], .pure, 20⟩

def ef134 : EFun := ⟨
 .seq (.region false [xm 3 0,
 xi 4 (.len false (.tmp 3)),
 xm 2 4])
 (.region false [xm 5 0,
 xm 6 2,
 xm 7 2,
 xi 8 (.conv .u64 (.tmp 7)),
 xi 9 (.call 175 [(.tmp 8)]),
 xi 10 (.call 174 [(.tmp 5), (.const xz), (.tmp 6), (.tmp 9)])]),
 [], .trunc, 11⟩

def ef135 : EFun := ⟨
 .seq (.region false [xi 2 (.move (.const (.slice none 0 0)))])
 (.seq (.seq (.region false [xm 6 0,
 xi 7 (.len false (.tmp 6)),
 xi 8 (.bin .lss (.tmp 7) (.const (.int .i64 2)))])
 (.cond (.tmp 8) (.seq (.region false [xm 9 0,
 xm 2 9])
 (.ret))
 (.skip)))
 (.seq (.seq (.region false [xi 3 (.move (.const (.int .i64 1)))])
 (.block 0 (.loop (some [0, 3]) (
 .seq (.seq (.region false [xm 10 3,
 xm 11 0,
 xi 12 (.len false (.tmp 11)),
 xi 13 (.bin .lss (.tmp 10) (.tmp 12))])
 (.cond (.tmp 13) (.skip)
 (.exit 0)))
 (.seq (.block 1 (.seq (.region true [xm 16 0,
 xm 17 3,
 xi 18 (.indexAddr none 1 (.tmp 16) (.tmp 17)),
 xi 19 (.load false 1 (.tmp 18)),
 xm 20 0,
 xm 21 3,
 xi 22 (.bin .sub (.tmp 21) (.const (.int .i64 1))),
 xi 23 (.indexAddr none 1 (.tmp 20) (.tmp 22)),
 xi 24 (.load false 1 (.tmp 23)),
 xi 25 (.bin .eql (.tmp 19) (.tmp 24))])
 (.cond (.tmp 25) (.seq (.region false [xm 26 0,
 xm 27 3,
 xi 28 (.slice 1 (.tmp 26) (some (.tmp 27)) none),
 xm 4 28])
 (.seq (.seq (.region false [xi 5 (.move (.const (.int .i64 1)))])
 (.block 2 (.loop (some [0, 3, 4, 5]) (
 .seq (.seq (.region false [xm 29 5,
 xm 30 4,
 xi 31 (.len false (.tmp 30)),
 xi 32 (.bin .lss (.tmp 29) (.tmp 31))])
 (.cond (.tmp 32) (.skip)
 (.exit 2)))
 (.seq (.block 3 (.seq (.region true [xm 35 4,
 xm 36 5,
 xi 37 (.indexAddr none 1 (.tmp 35) (.tmp 36)),
 xi 38 (.load false 1 (.tmp 37)),
 xm 39 4,
 xm 40 5,
 xi 41 (.bin .sub (.tmp 40) (.const (.int .i64 1))),
 xi 42 (.indexAddr none 1 (.tmp 39) (.tmp 41)),
 xi 43 (.load false 1 (.tmp 42)),
 xi 44 (.bin .neq (.tmp 38) (.tmp 43))])
 (.cond (.tmp 44) (.seq (.region false [xm 45 0,
 xm 46 3,
 xm 47 4,
 xm 48 5,
 xi 49 (.indexAddr none 1 (.tmp 47) (.tmp 48)),
 xi 50 (.load false 1 (.tmp 49)),
 xi 51 (.indexAddr none 1 (.tmp 45) (.tmp 46)),
 ⟨none, .store 1 (.tmp 51) (.tmp 50), none, [], false, false⟩])
 (.region false [xm 52 3,
 xi 53 (.bin .add (.tmp 52) (.const (.int .i64 1))),
 xm 3 53]))
 (.skip))))
 (.region false [xm 33 5,
 xi 34 (.bin .add (.tmp 33) (.const (.int .i64 1))),
 xm 5 34]))))))
 (.seq (.region false [xm 54 0,
 xm 55 3,
 xi 56 (.slice 1 (.tmp 54) (some (.tmp 55)) none),
 ⟨none, .clear 1 [xz] (.tmp 56), none, [], false, false⟩])
 (.seq (.region false [xm 57 0,
 xm 58 3,
 xi 59 (.slice 1 (.tmp 57) none (some (.tmp 58))),
 xm 2 59])
 (.ret)))))
 (.skip))))
 (.region false [xm 14 3,
 xi 15 (.bin .add (.tmp 14) (.const (.int .i64 1))),
 xm 3 15]))))))
 (.seq (.region false [xm 60 0,
 xm 2 60])
 (.ret)))),
 [.tmp 2], .trunc, 61⟩

def ef136 : EFun := ⟨
 .seq (.region false [xi 3 (.box (.tmp 0))])
 (.seq (.region false [xi 6 (.load false 1 (.tmp 1)),
 xi 7 (.makeSlice 1 8 [xz] (.const xz) (.tmp 6)),
 xi 4 (.push [(.slice none 0 0)]),
 ⟨none, .store 1 (.tmp 4) (.tmp 7), none, [], false, false⟩])
 (.seq (.region false [xi 5 (.push [.nilFunc])])
 (.seq (.region false [xi 8 (.makeFunc (.func 137) [(.tmp 4), (.tmp 1), (.tmp 3), (.tmp 2), (.tmp 5)]),
 ⟨none, .store 1 (.tmp 5) (.tmp 8), none, [], false, false⟩])
 (.region false [xi 9 (.load false 1 (.tmp 5)),
 xi 10 (.callVal (.tmp 9) [(.const xz)])])))),
 [], .full, 11⟩

def ef137 : EFun := ⟨
 .seq (.region false [xi 7 (.move (.const (.bool false)))])
 (.seq (.seq (.region false [xi 9 (.load false 1 (.tmp 1)),
 xi 10 (.len false (.tmp 9)),
 xi 11 (.load false 1 (.tmp 2)),
 xi 12 (.bin .eql (.tmp 10) (.tmp 11))])
 (.cond (.tmp 12) (.seq (.region true [xi 13 (.load false 1 (.tmp 3)),
 xi 14 (.load false 1 (.tmp 1)),
 ⟨(some 15), .call 138 [(.tmp 14)], none, [], false, true⟩,
 xi 16 (.callVal (.tmp 13) [(.tmp 15)]),
 xm 7 16])
 (.ret))
 (.skip)))
 (.seq (.seq (.region false [xm 17 0,
 xm 8 17])
 (.block 0 (.loop (some [1, 4, 5, 8]) (
 .seq (.seq (.region false [xm 18 8,
 xi 19 (.load false 1 (.tmp 4)),
 xi 20 (.len false (.tmp 19)),
 xi 21 (.bin .lss (.tmp 18) (.tmp 20))])
 (.cond (.tmp 21) (.skip)
 (.exit 0)))
 (.seq (.block 1 (.seq (.region true [xi 24 (.load false 1 (.tmp 1)),
 xi 25 (.load false 1 (.tmp 4)),
 xm 26 8,
 xi 27 (.indexAddr none 1 (.tmp 25) (.tmp 26)),
 xi 28 (.load false 1 (.tmp 27)),
 xi 29 (.buildSlice 1 1 [xz] [(0, 1, (.tmp 28))]),
 xi 30 (.appendT 1 8 (.tmp 24) (.tmp 29)),
 ⟨none, .store 1 (.tmp 1) (.tmp 30), none, [], false, false⟩])
 (.seq (.seq (.region false [xi 31 (.load false 1 (.tmp 5)),
 xm 32 8,
 xi 33 (.bin .add (.tmp 32) (.const (.int .i64 1))),
 xi 34 (.callVal (.tmp 31) [(.tmp 33)]),
 xi 35 (.un .not (.tmp 34))])
 (.cond (.tmp 35) (.seq (.region false [xi 7 (.move (.const (.bool false)))])
 (.ret))
 (.skip)))
 (.region false [xi 36 (.load false 1 (.tmp 1)),
 xi 37 (.load false 1 (.tmp 1)),
 xi 38 (.len false (.tmp 37)),
 xi 39 (.bin .sub (.tmp 38) (.const (.int .i64 1))),
 xi 40 (.slice 1 (.tmp 36) none (some (.tmp 39))),
 ⟨none, .store 1 (.tmp 1) (.tmp 40), none, [], false, false⟩]))))
 (.region false [xm 22 8,
 xi 23 (.bin .add (.tmp 22) (.const (.int .i64 1))),
 xm 8 23]))))))
 (.seq (.region false [xi 7 (.move (.const (.bool true)))])
 (.ret)))),
 [.tmp 7], .full, 41⟩

def ef138 : EFun := ⟨
 .seq (.region false [xi 2 (.move (.const (.slice none 0 0)))])
 (.seq (.seq (.region false [xm 3 0,
 xi 4 (.eqNilS false (.tmp 3))])
 (.cond (.tmp 4) (.seq (.region false [xi 2 (.move (.const (.slice none 0 0)))])
 (.ret))
 (.skip)))
 (.seq (.region false [xi 5 (.buildSlice 1 0 [] []),
 xm 6 0,
 xi 7 (.append 1 8 (.tmp 5) (.tmp 6)),
 xm 2 7])
 (.ret))),
 [.tmp 2], .pure, 8⟩

def ef139 : EFun := ⟨
 .seq (.region false [xi 4 (.move (.const (.bool false)))])
 (.seq (.region false [xm 5 0,
 xm 6 1,
 xi 7 (.call 176 [(.tmp 5), (.tmp 6)]),
 xi 8 (.bin .geq (.tmp 7) (.const xz)),
 xm 4 8])
 (.ret)),
 [.tmp 4], .pure, 9⟩

def ef140 : EFun := ⟨
 .seq (.region false [xi 4 (.move (.const xz)),
 xi 5 (.move (.const (.bool false)))])
 (.seq (.region false [xm 10 0,
 xi 11 (.len false (.tmp 10)),
 xm 6 11])
 (.seq (.region false [xm 12 6,
 xi 7 (.move (.const xz)),
 xm 8 12])
 (.seq (.block 0 (.loop (some [0, 1, 6, 7, 8]) (
 .seq (.seq (.region false [xm 13 7,
 xm 14 8,
 xi 15 (.bin .lss (.tmp 13) (.tmp 14))])
 (.cond (.tmp 15) (.skip)
 (.exit 0)))
 (.block 1 (.seq (.region false [xm 16 7,
 xm 17 8,
 xi 18 (.bin .add (.tmp 16) (.tmp 17)),
 xi 19 (.conv .u64 (.tmp 18)),
 xi 20 (.bin .shr (.tmp 19) (.const (.int .u64 1))),
 xi 21 (.conv .i64 (.tmp 20)),
 xm 9 21])
 (.seq (.region false [xm 22 0,
 xm 23 9,
 xi 24 (.indexAddr none 1 (.tmp 22) (.tmp 23)),
 xi 25 (.load false 1 (.tmp 24)),
 xm 26 1,
 xi 27 (.call 177 [(.tmp 25), (.tmp 26)])])
 (.cond (.tmp 27) (.region false [xm 28 9,
 xi 29 (.bin .add (.tmp 28) (.const (.int .i64 1))),
 xm 7 29])
 (.region false [xm 30 9,
 xm 8 30]))))))))
 (.seq (.region false [xm 31 7,
 xm 32 7,
 xm 33 6,
 xi 34 (.bin .lss (.tmp 32) (.tmp 33)),
 xm 35 34,
 xg 36 (.move (.tmp 0)) 35 true,
 xg 37 (.move (.tmp 7)) 35 true,
 xg 38 (.indexAddr none 1 (.tmp 36) (.tmp 37)) 35 true,
 xg 39 (.load false 1 (.tmp 38)) 35 true,
 xg 40 (.move (.tmp 1)) 35 true,
 xg 41 (.bin .eql (.tmp 39) (.tmp 40)) 35 true,
 xg 42 (.move (.tmp 41)) 35 true,
 xg 43 (.move (.tmp 0)) 42 false,
 xg 44 (.move (.tmp 7)) 42 false,
 xg 45 (.indexAddr none 1 (.tmp 43) (.tmp 44)) 42 false,
 xg 46 (.load false 1 (.tmp 45)) 42 false,
 xg 47 (.call 178 [(.tmp 46)]) 42 false,
 xg 48 (.move (.tmp 47)) 42 false,
 xg 49 (.move (.tmp 1)) 48 true,
 xg 50 (.call 178 [(.tmp 49)]) 48 true,
 xg 51 (.pick (.tmp 48) (.tmp 50) (.const (.bool false))) 42 false,
 xg 52 (.pick (.tmp 42) (.const (.bool true)) (.tmp 51)) 35 true,
 xi 53 (.pick (.tmp 35) (.tmp 52) (.const (.bool false))),
 xm 4 31,
 xm 5 53])
 (.ret))))),
 [.tmp 4, .tmp 5], .pure, 54⟩

def ef141 : EFun := ⟨
 .seq (.region false [xi 1 (.box (.tmp 0)),
 xi 2 (.move (.const xz))])
 (.seq (.seq (.region false [xi 3 (.fieldAddr 0 (.tmp 1)),
 xi 4 (.load false 1 (.tmp 3)),
 xi 5 (.call 90 [(.tmp 4), (.const xz), (.const (.int .i64 1000))]),
 xi 6 (.un .not (.tmp 5)),
 xm 7 6,
 xg 8 (.fieldAddr 1 (.tmp 1)) 7 false,
 xg 9 (.load false 1 (.tmp 8)) 7 false,
 xg 10 (.call 90 [(.tmp 9), (.const (.int .i64 1)), (.const (.int .i64 365))]) 7 false,
 xg 11 (.un .not (.tmp 10)) 7 false,
 xi 12 (.pick (.tmp 7) (.const (.bool true)) (.tmp 11)),
 xm 13 12,
 xg 14 (.fieldAddr 2 (.tmp 1)) 13 false,
 xg 15 (.load false 1 (.tmp 14)) 13 false,
 xg 16 (.call 90 [(.tmp 15), (.const xz), (.const (.int .i64 1000))]) 13 false,
 xg 17 (.un .not (.tmp 16)) 13 false,
 xi 18 (.pick (.tmp 13) (.const (.bool true)) (.tmp 17)),
 xm 19 18,
 xg 20 (.fieldAddr 3 (.tmp 1)) 19 false,
 xg 21 (.load false 1 (.tmp 20)) 19 false,
 xg 22 (.call 90 [(.tmp 21), (.const xz), (.const (.int .i64 1000000))]) 19 false,
 xg 23 (.un .not (.tmp 22)) 19 false,
 xi 24 (.pick (.tmp 19) (.const (.bool true)) (.tmp 23))])
 (.cond (.tmp 24) (.seq (.region false [xi 2 (.move (.const (.int .i64 2)))])
 (.ret))
 (.skip)))
 (.seq (.region false [xi 2 (.move (.const xz))])
 (.ret))),
 [.tmp 2], .pure, 25⟩

def ef142 : EFun := ⟨
 .seq (.region false [xi 2 (.move (.const xz))])
 (.seq (.block 0 (.seq (.region false [xm 7 0,
 xi 8 (.len false (.tmp 7)),
 xi 9 (.bin .eql (.tmp 8) (.const xz)),
 xm 6 9])
 (.cond (.tmp 6) (.seq (.region false [xi 2 (.move (.const (.int .i64 12)))])
 (.ret))
 (.seq (.region false [xm 11 0,
 xi 12 (.len false (.tmp 11)),
 xi 13 (.bin .gtr (.tmp 12) (.const (.int .i64 200))),
 xm 10 13])
 (.cond (.tmp 10) (.seq (.region false [xi 2 (.move (.const (.int .i64 8)))])
 (.ret))
 (.skip))))))
 (.seq (.seq (.region false [xm 14 0,
 xi 15 (.len false (.tmp 14)),
 xi 16 (.move (.const xz))])
 (.block 1 (.loop (some [0, 14, 15, 16]) (
 .seq (.region false [xi 17 (.bin .lss (.tmp 16) (.tmp 15))])
 (.seq (.cond (.tmp 17) (.skip)
 (.exit 1))
 (.seq (.block 2 (.seq (.region false [xm 18 16,
 xi 19 (.indexAddr none 2 (.tmp 14) (.tmp 16)),
 xi 20 (.load true 2 (.tmp 19)),
 xi 4 (.push [xz, xz]),
 xm 3 18,
 ⟨none, .store 2 (.tmp 4) (.tmp 20), none, [], false, false⟩])
 (.seq (.seq (.region false [xi 21 (.load true 2 (.tmp 4)),
 xi 22 (.call 56 [(.tmp 21)]),
 xm 5 22])
 (.seq (.region false [xm 23 5,
 xi 24 (.bin .neq (.tmp 23) (.const xz))])
 (.cond (.tmp 24) (.seq (.region false [xm 25 5,
 xm 2 25])
 (.ret))
 (.skip))))
 (.seq (.region true [xm 26 3,
 xi 27 (.bin .gtr (.tmp 26) (.const xz)),
 xm 28 27,
 xg 29 (.fieldAddr 0 (.tmp 4)) 28 true,
 xg 30 (.load false 1 (.tmp 29)) 28 true,
 xg 31 (.move (.tmp 0)) 28 true,
 xg 32 (.move (.tmp 3)) 28 true,
 xg 33 (.bin .sub (.tmp 32) (.const (.int .i64 1))) 28 true,
 xg 34 (.indexAddr none 2 (.tmp 31) (.tmp 33)) 28 true,
 xg 35 (.fieldAddr 0 (.tmp 34)) 28 true,
 xg 36 (.load false 1 (.tmp 35)) 28 true,
 xg 37 (.bin .leq (.tmp 30) (.tmp 36)) 28 true,
 xi 38 (.pick (.tmp 28) (.tmp 37) (.const (.bool false)))])
 (.cond (.tmp 38) (.seq (.region false [xi 2 (.move (.const (.int .i64 9)))])
 (.ret))
 (.skip))))))
 (.region false [xi 39 (.bin .add (.tmp 16) (.const (.int .i64 1))),
 xm 16 39])))))))
 (.seq (.region false [xi 2 (.move (.const xz))])
 (.ret)))),
 [.tmp 2], .pure, 40⟩

def ef143 : EFun := ⟨
 .seq (.region false [xi 2 (.box (.tmp 0)),
 xi 3 (.box (.tmp 1)),
 xi 4 (.move (.const .nilFunc))])
 (.seq (.region false [xi 5 (.makeFunc (.func 179) [(.tmp 2), (.tmp 3)]),
 xm 4 5])
 (.ret)),
 [.tmp 4], .pure, 6⟩

def ef144 : EFun := ⟨
 .seq (.region false [xi 2 (.move (.const (.bool false)))])
 (.seq (.region false [xm 3 0,
 xi 4 (.bin .geq (.tmp 3) (.const xz)),
 xm 5 4,
 xg 6 (.move (.tmp 0)) 5 true,
 xg 7 (.bin .leq (.tmp 6) (.const (.int .i64 87))) 5 true,
 xi 8 (.pick (.tmp 5) (.tmp 7) (.const (.bool false))),
 xm 2 8])
 (.ret)),
 [.tmp 2], .pure, 9⟩

def ef145 : EFun := ⟨
 .seq (.region false [xi 2 (.move (.const (.bool false)))])
 (.seq (.region false [xm 3 0,
 xi 4 (.bin .geq (.tmp 3) (.const (.int .i64 1))),
 xm 5 4,
 xg 6 (.move (.tmp 0)) 5 true,
 xg 7 (.bin .leq (.tmp 6) (.const (.int .i64 16))) 5 true,
 xi 8 (.pick (.tmp 5) (.tmp 7) (.const (.bool false))),
 xm 2 8])
 (.ret)),
 [.tmp 2], .pure, 9⟩

def ef146 : EFun := ⟨
 .seq (.region false [xi 2 (.push [xz, xz, xz]),
 xi 3 (.move (.const (.bool false)))])
 (.seq (.region false [xi 4 (.push [xz, xz, xz])])
 (.seq (.seq (.region false [xi 7 (.build [xz, xz, xz] [(0, 1, (.const (.int .i64 2))), (1, 1, (.const (.int .i64 3))), (2, 1, (.const (.int .i64 5)))]),
 xi 8 (.move (.const xz))])
 (.block 0 (.loop (some [0, 2, 4, 7, 8]) (
 .seq (.region false [xi 9 (.bin .lss (.tmp 8) (.const (.int .i64 3)))])
 (.seq (.cond (.tmp 9) (.skip)
 (.exit 0))
 (.seq (.block 1 (.seq (.region false [xm 10 8,
 xi 11 (.index 3 1 false (.tmp 7) (.tmp 8)),
 xm 5 10,
 xm 6 11])
 (.block 2 (.loop (some [0, 2, 4, 5, 6, 7, 8]) (
 .seq (.seq (.region false [xm 12 0,
 xm 13 6,
 xi 14 (.bin .rem (.tmp 12) (.tmp 13)),
 xi 15 (.bin .eql (.tmp 14) (.const xz))])
 (.cond (.tmp 15) (.skip)
 (.exit 2)))
 (.seq (.block 3 (.region false [xm 19 5,
 xi 20 (.indexAddr (some 3) 1 (.tmp 4) (.tmp 19)),
 xi 21 (.load false 1 (.tmp 20)),
 xi 22 (.bin .add (.tmp 21) (.const (.int .i64 12))),
 xi 23 (.indexAddr (some 3) 1 (.tmp 4) (.tmp 19)),
 ⟨none, .store 1 (.tmp 23) (.tmp 22), none, [], false, false⟩]))
 (.region false [xm 16 0,
 xm 17 6,
 xi 18 (.bin .quo (.tmp 16) (.tmp 17)),
 xm 0 18])))))))
 (.region false [xi 24 (.bin .add (.tmp 8) (.const (.int .i64 1))),
 xm 8 24])))))))
 (.seq (.region false [xi 25 (.load true 3 (.tmp 4)),
 xm 26 0,
 xi 27 (.bin .eql (.tmp 26) (.const (.int .i64 1))),
 ⟨none, .store 3 (.tmp 2) (.tmp 25), none, [], false, false⟩,
 xm 3 27])
 (.ret)))),
 [.cell 2 true 3, .tmp 3], .pure, 28⟩

def ef147 : EFun := ⟨
 .seq (.region false [xi 2 (.move (.const (.bool false)))])
 (.seq (.region false [xm 3 0,
 xi 4 (.call 41 [(.tmp 3), (.const xz), (.const (.int .i64 87))]),
 xm 2 4])
 (.ret)),
 [.tmp 2], .pure, 5⟩

def ef148 : EFun := ⟨
 .seq (.region false [xi 2 (.push [xz, xz, xz]),
 xi 3 (.move (.const (.bool false)))])
 (.seq (.region false [xi 4 (.push [xz, xz, xz])])
 (.seq (.seq (.region false [xi 5 (.move (.const xz))])
 (.block 0 (.loop (some [0, 2, 4, 5]) (
 .seq (.seq (.region false [xm 7 5,
 xi 8 (.bin .lss (.tmp 7) (.const (.int .i64 3)))])
 (.cond (.tmp 8) (.skip)
 (.exit 0)))
 (.seq (.block 1 (.seq (.region false [xi 11 (.build [xz, xz, xz] [(0, 1, (.const (.int .i64 2))), (1, 1, (.const (.int .i64 3))), (2, 1, (.const (.int .i64 5)))]),
 xm 12 5,
 xi 13 (.index 3 1 false (.tmp 11) (.tmp 12)),
 xm 6 13])
 (.block 2 (.loop (some [0, 2, 4, 5, 6]) (
 .seq (.seq (.region false [xm 14 0,
 xm 15 6,
 xi 16 (.bin .rem (.tmp 14) (.tmp 15)),
 xi 17 (.bin .eql (.tmp 16) (.const xz))])
 (.cond (.tmp 17) (.skip)
 (.exit 2)))
 (.block 3 (.region true [xm 18 5,
 xm 19 0,
 xm 20 6,
 xi 21 (.bin .quo (.tmp 19) (.tmp 20)),
 xm 22 5,
 xi 23 (.indexAddr (some 3) 1 (.tmp 4) (.tmp 22)),
 xi 24 (.load false 1 (.tmp 23)),
 xi 25 (.bin .add (.tmp 24) (.const (.int .i64 12))),
 xm 0 21,
 xi 26 (.indexAddr (some 3) 1 (.tmp 4) (.tmp 18)),
 ⟨none, .store 1 (.tmp 26) (.tmp 25), none, [], false, false⟩])))))))
 (.region false [xm 9 5,
 xi 10 (.bin .add (.tmp 9) (.const (.int .i64 1))),
 xm 5 10]))))))
 (.seq (.region false [xi 27 (.load true 3 (.tmp 4)),
 xm 28 0,
 xi 29 (.bin .eql (.tmp 28) (.const (.int .i64 1))),
 ⟨none, .store 3 (.tmp 2) (.tmp 27), none, [], false, false⟩,
 xm 3 29])
 (.ret)))),
 [.cell 2 true 3, .tmp 3], .pure, 30⟩

def ef167 : EFun := ⟨
 .seq (.region false [xi 4 (.move (.const (.string ⟨#[]⟩)))])
 (.seq (.seq (.region false [xm 5 0,
 xm 6 1,
 xi 7 (.call 199 [(.tmp 5), (.tmp 6)])])
 (.cond (.tmp 7) (.seq (.region false [xm 8 0,
 xm 9 1,
 xi 10 (.len true (.tmp 9)),
 xi 11 (.strSlice (.tmp 8) (some (.tmp 10)) none),
 xm 4 11])
 (.ret))
 (.skip)))
 (.seq (.region false [xm 12 0,
 xm 4 12])
 (.ret))),
 [.tmp 4], .pure, 13⟩

def ef169 : EFun := ⟨
 .seq (.region false [xi 2 (.move (.const (.int .i32 0))),
 xi 3 (.move (.const xz))])
 (.seq (.seq (.region false [xm 4 0,
 xi 5 (.bin .neq (.tmp 4) (.const (.string ⟨#[]⟩))),
 xm 6 5,
 xg 7 (.move (.tmp 0)) 6 true,
 xg 8 (.strIndex (.tmp 7) (.const xz)) 6 true,
 xg 9 (.bin .lss (.tmp 8) (.const (.int .u8 128))) 6 true,
 xi 10 (.pick (.tmp 6) (.tmp 9) (.const (.bool false)))])
 (.cond (.tmp 10) (.seq (.region false [xm 11 0,
 xi 12 (.strIndex (.tmp 11) (.const xz)),
 xi 13 (.conv .i32 (.tmp 12)),
 xm 2 13,
 xi 3 (.move (.const (.int .i64 1)))])
 (.ret))
 (.region false [xm 15 0,
 xi 16 (.call 200 [(.tmp 15)]),
 xm 14 16,
 xi 17 (.extract (.tmp 14) 0),
 xi 18 (.extract (.tmp 14) 1),
 xm 2 17,
 xm 3 18])))
 (.ret)),
 [.tmp 2, .tmp 3], .pure, 19⟩

def ef171 : EFun := ⟨
 .skip,
 [], .nat natIndex1, 0⟩

def ef172 : EFun := ⟨
 .seq (.region false [xi 3 (.box (.tmp 1)),
 xi 4 (.move (.const (.bool false)))])
 (.seq (.region false [xm 5 0,
 xi 6 (.load true 4 (.tmp 3)),
 xi 7 (.call 204 [(.tmp 5), (.tmp 6)]),
 xi 8 (.bin .geq (.tmp 7) (.const xz)),
 xm 4 8])
 (.ret)),
 [.tmp 4], .pure, 9⟩

def ef173 : EFun := ⟨
 .seq (.region false [xi 4 (.move (.const xz))])
 (.seq (.seq (.region false [xm 6 0,
 xi 7 (.len false (.tmp 6)),
 xi 8 (.move (.const xz))])
 (.block 0 (.loop (some [0, 1, 7, 8]) (
 .seq (.region false [xi 9 (.bin .lss (.tmp 8) (.tmp 7))])
 (.seq (.cond (.tmp 9) (.skip)
 (.exit 0))
 (.seq (.block 1 (.seq (.region false [xm 10 8,
 xm 5 10])
 (.seq (.region false [xm 11 1,
 xm 12 0,
 xm 13 5,
 xi 14 (.indexAddr none 1 (.tmp 12) (.tmp 13)),
 xi 15 (.load false 1 (.tmp 14)),
 xi 16 (.callVal (.tmp 11) [(.tmp 15)])])
 (.cond (.tmp 16) (.seq (.region false [xm 17 5,
 xm 4 17])
 (.ret))
 (.skip)))))
 (.region false [xi 18 (.bin .add (.tmp 8) (.const (.int .i64 1))),
 xm 8 18])))))))
 (.seq (.region false [xi 4 (.move (.const (.int .i64 (-1))))])
 (.ret))),
 [.tmp 4], .pure, 19⟩

def ef174 : EFun := ⟨
 .seq (.region false [xi 8 (.move (.const (.bool true)))])
 (.seq (.region false [xi 9 (.move (.const (.bool true)))])
 (.block 0 (.loop (some [0, 1, 2, 3, 8, 9]) (
 .block 1 (.seq (.region false [xm 19 2,
 xm 20 1,
 xi 21 (.bin .sub (.tmp 19) (.tmp 20)),
 xm 10 21])
 (.seq (.seq (.region false [xm 22 10,
 xi 23 (.bin .leq (.tmp 22) (.const (.int .i64 12)))])
 (.cond (.tmp 23) (.seq (.region false [xm 24 0,
 xm 25 1,
 xm 26 2,
 xi 27 (.call 205 [(.tmp 24), (.tmp 25), (.tmp 26)])])
 (.ret))
 (.skip)))
 (.seq (.seq (.region false [xm 28 3,
 xi 29 (.bin .eql (.tmp 28) (.const xz))])
 (.cond (.tmp 29) (.seq (.region false [xm 30 0,
 xm 31 1,
 xm 32 2,
 xi 33 (.call 206 [(.tmp 30), (.tmp 31), (.tmp 32)])])
 (.ret))
 (.skip)))
 (.seq (.seq (.region false [xm 34 8,
 xi 35 (.un .not (.tmp 34))])
 (.cond (.tmp 35) (.seq (.region false [xm 36 0,
 xm 37 1,
 xm 38 2,
 xi 39 (.call 207 [(.tmp 36), (.tmp 37), (.tmp 38)])])
 (.region false [xm 40 3,
 xi 41 (.bin .sub (.tmp 40) (.const (.int .i64 1))),
 xm 3 41]))
 (.skip)))
 (.seq (.region false [xm 43 0,
 xm 44 1,
 xm 45 2,
 xi 46 (.call 208 [(.tmp 43), (.tmp 44), (.tmp 45)]),
 xm 42 46,
 xi 47 (.extract (.tmp 42) 0),
 xi 48 (.extract (.tmp 42) 1),
 xm 11 47,
 xm 12 48])
 (.seq (.seq (.region false [xm 49 12,
 xi 50 (.bin .eql (.tmp 49) (.const (.int .i64 2)))])
 (.cond (.tmp 50) (.seq (.region false [xm 51 0,
 xm 52 1,
 xm 53 2,
 xi 54 (.call 209 [(.tmp 51), (.tmp 52), (.tmp 53)])])
 (.seq (.region false [xm 55 2,
 xi 56 (.bin .sub (.tmp 55) (.const (.int .i64 1))),
 xm 57 11,
 xm 58 1,
 xi 59 (.bin .sub (.tmp 57) (.tmp 58)),
 xi 60 (.bin .sub (.tmp 56) (.tmp 59)),
 xm 11 60])
 (.region false [xi 12 (.move (.const (.int .i64 1)))])))
 (.skip)))
 (.seq (.seq (.region false [xm 61 8,
 xm 62 61,
 xg 63 (.move (.tmp 9)) 62 true,
 xi 64 (.pick (.tmp 62) (.tmp 63) (.const (.bool false))),
 xm 65 64,
 xg 66 (.move (.tmp 12)) 65 true,
 xg 67 (.bin .eql (.tmp 66) (.const (.int .i64 1))) 65 true,
 xi 68 (.pick (.tmp 65) (.tmp 67) (.const (.bool false)))])
 (.cond (.tmp 68) (.seq (.region false [xm 69 0,
 xm 70 1,
 xm 71 2,
 xi 72 (.call 210 [(.tmp 69), (.tmp 70), (.tmp 71)])])
 (.cond (.tmp 72) (.ret)
 (.skip)))
 (.skip)))
 (.seq (.seq (.region true [xm 73 1,
 xi 74 (.bin .gtr (.tmp 73) (.const xz)),
 xm 75 74,
 xg 76 (.move (.tmp 0)) 75 true,
 xg 77 (.move (.tmp 1)) 75 true,
 xg 78 (.bin .sub (.tmp 77) (.const (.int .i64 1))) 75 true,
 xg 79 (.indexAddr none 1 (.tmp 76) (.tmp 78)) 75 true,
 xg 80 (.load false 1 (.tmp 79)) 75 true,
 xg 81 (.move (.tmp 0)) 75 true,
 xg 82 (.move (.tmp 11)) 75 true,
 xg 83 (.indexAddr none 1 (.tmp 81) (.tmp 82)) 75 true,
 xg 84 (.load false 1 (.tmp 83)) 75 true,
 xg 85 (.call 177 [(.tmp 80), (.tmp 84)]) 75 true,
 xg 86 (.un .not (.tmp 85)) 75 true,
 xi 87 (.pick (.tmp 75) (.tmp 86) (.const (.bool false)))])
 (.cond (.tmp 87) (.seq (.region false [xm 88 0,
 xm 89 1,
 xm 90 2,
 xm 91 11,
 xi 92 (.call 211 [(.tmp 88), (.tmp 89), (.tmp 90), (.tmp 91)]),
 xm 13 92])
 (.seq (.region false [xm 93 13,
 xm 1 93])
 (.exit 1)))
 (.skip)))
 (.seq (.region false [xm 95 0,
 xm 96 1,
 xm 97 2,
 xm 98 11,
 xi 99 (.call 212 [(.tmp 95), (.tmp 96), (.tmp 97), (.tmp 98)]),
 xm 94 99,
 xi 100 (.extract (.tmp 94) 0),
 xi 101 (.extract (.tmp 94) 1),
 xm 14 100,
 xm 15 101])
 (.seq (.region false [xm 102 15,
 xm 9 102])
 (.seq (.region false [xm 103 14,
 xm 104 1,
 xi 105 (.bin .sub (.tmp 103) (.tmp 104)),
 xm 106 2,
 xm 107 14,
 xi 108 (.bin .sub (.tmp 106) (.tmp 107)),
 xm 16 105,
 xm 17 108])
 (.seq (.region false [xm 109 10,
 xi 110 (.bin .quo (.tmp 109) (.const (.int .i64 8))),
 xm 18 110])
 (.seq (.region false [xm 111 16,
 xm 112 17,
 xi 113 (.bin .lss (.tmp 111) (.tmp 112))])
 (.cond (.tmp 113) (.seq (.region false [xm 114 16,
 xm 115 18,
 xi 116 (.bin .geq (.tmp 114) (.tmp 115)),
 xm 8 116])
 (.seq (.region false [xm 117 0,
 xm 118 1,
 xm 119 14,
 xm 120 3,
 xi 121 (.call 174 [(.tmp 117), (.tmp 118), (.tmp 119), (.tmp 120)])])
 (.region false [xm 122 14,
 xi 123 (.bin .add (.tmp 122) (.const (.int .i64 1))),
 xm 1 123])))
 (.seq (.region false [xm 124 17,
 xm 125 18,
 xi 126 (.bin .geq (.tmp 124) (.tmp 125)),
 xm 8 126])
 (.seq (.region false [xm 127 0,
 xm 128 14,
 xi 129 (.bin .add (.tmp 128) (.const (.int .i64 1))),
 xm 130 2,
 xm 131 3,
 xi 132 (.call 174 [(.tmp 127), (.tmp 129), (.tmp 130), (.tmp 131)])])
 (.region false [xm 133 14,
 xm 2 133]))))))))))))))))))))),
 [], .trunc, 134⟩

def ef175 : EFun := ⟨
 .seq (.region false [xi 2 (.move (.const xz))])
 (.seq (.cond (.const (.bool false)) (.seq (.region false [xm 3 0,
 xi 4 (.conv .u32 (.tmp 3)),
 xi 5 (.call 213 [(.tmp 4)]),
 xm 2 5])
 (.ret))
 (.skip))
 (.seq (.region false [xm 6 0,
 xi 7 (.call 214 [(.tmp 6)]),
 xm 2 7])
 (.ret))),
 [.tmp 2], .pure, 8⟩

def ef176 : EFun := ⟨
 .seq (.region false [xi 4 (.move (.const xz))])
 (.seq (.seq (.region false [xm 6 0,
 xi 7 (.len false (.tmp 6)),
 xi 8 (.move (.const xz))])
 (.block 0 (.loop (some [0, 1, 7, 8]) (
 .seq (.region false [xi 9 (.bin .lss (.tmp 8) (.tmp 7))])
 (.seq (.cond (.tmp 9) (.skip)
 (.exit 0))
 (.seq (.block 1 (.seq (.region false [xm 10 8,
 xm 5 10])
 (.seq (.region false [xm 11 1,
 xm 12 0,
 xm 13 5,
 xi 14 (.indexAddr none 1 (.tmp 12) (.tmp 13)),
 xi 15 (.load false 1 (.tmp 14)),
 xi 16 (.bin .eql (.tmp 11) (.tmp 15))])
 (.cond (.tmp 16) (.seq (.region false [xm 17 5,
 xm 4 17])
 (.ret))
 (.skip)))))
 (.region false [xi 18 (.bin .add (.tmp 8) (.const (.int .i64 1))),
 xm 8 18])))))))
 (.seq (.region false [xi 4 (.move (.const (.int .i64 (-1))))])
 (.ret))),
 [.tmp 4], .pure, 19⟩

def ef177 : EFun := ⟨
 .seq (.region false [xi 4 (.move (.const (.bool false)))])
 (.seq (.region false [xm 5 0,
 xi 6 (.call 215 [(.tmp 5)]),
 xm 7 6,
 xg 8 (.move (.tmp 1)) 7 true,
 xg 9 (.call 215 [(.tmp 8)]) 7 true,
 xg 10 (.un .not (.tmp 9)) 7 true,
 xi 11 (.pick (.tmp 7) (.tmp 10) (.const (.bool false))),
 xm 12 11,
 xg 13 (.move (.tmp 0)) 12 false,
 xg 14 (.move (.tmp 1)) 12 false,
 xg 15 (.bin .lss (.tmp 13) (.tmp 14)) 12 false,
 xi 16 (.pick (.tmp 12) (.const (.bool true)) (.tmp 15)),
 xm 4 16])
 (.ret)),
 [.tmp 4], .pure, 17⟩

def ef178 : EFun := ⟨
 .seq (.region false [xi 2 (.move (.const (.bool false)))])
 (.seq (.region false [xm 3 0,
 xm 4 0,
 xi 5 (.bin .neq (.tmp 3) (.tmp 4)),
 xm 2 5])
 (.ret)),
 [.tmp 2], .pure, 6⟩

def ef179 : EFun := ⟨
 .seq (.region false [xi 6 (.fieldAddr 0 (.tmp 1)),
 xi 7 (.load false 1 (.tmp 6)),
 xi 8 (.bin .mul (.const (.int .i64 1000)) (.tmp 7)),
 xm 4 8])
 (.seq (.region false [xi 5 (.move (.const xz))])
 (.block 0 (.loop (some [0, 1, 2, 4, 5]) (
 .seq (.seq (.region false [xm 9 0,
 xm 10 5,
 xm 11 4,
 xi 12 (.callVal (.tmp 9) [(.tmp 10), (.tmp 11)])])
 (.cond (.tmp 12) (.skip)
 (.exit 0)))
 (.seq (.block 1 (.region true [xm 15 4,
 xi 16 (.load false 1 (.tmp 2)),
 xm 17 5,
 xi 18 (.bin .add (.tmp 17) (.const (.int .i64 1))),
 ⟨(some 19), .call 181 [(.tmp 16), (.tmp 18)], none, [], false, true⟩,
 xi 20 (.bin .mul (.const (.int .i64 1000)) (.tmp 19)),
 xm 21 4,
 xi 22 (.bin .sub (.tmp 20) (.tmp 21)),
 xi 23 (.fieldAddr 1 (.tmp 1)),
 xi 24 (.load false 1 (.tmp 23)),
 xi 25 (.call 180 [(.tmp 22), (.tmp 24)]),
 xi 26 (.bin .add (.tmp 15) (.tmp 25)),
 xm 4 26]))
 (.region false [xm 13 5,
 xi 14 (.bin .add (.tmp 13) (.const (.int .i64 1))),
 xm 5 14])))))),
 [], .trunc, 27⟩

def ef180 : EFun := ⟨
 .seq (.region false [xi 4 (.move (.const xz))])
 (.seq (.region false [xm 6 0,
 xm 7 1,
 xi 8 (.bin .quo (.tmp 6) (.tmp 7)),
 xm 5 8])
 (.seq (.seq (.region false [xm 9 0,
 xm 10 1,
 xi 11 (.bin .rem (.tmp 9) (.tmp 10)),
 xi 12 (.bin .lss (.tmp 11) (.const xz))])
 (.cond (.tmp 12) (.region false [xm 13 5,
 xi 14 (.bin .sub (.tmp 13) (.const (.int .i64 1))),
 xm 5 14])
 (.skip)))
 (.seq (.region false [xm 15 5,
 xm 4 15])
 (.ret)))),
 [.tmp 4], .pure, 16⟩

def ef181 : EFun := ⟨
 .seq (.region false [xi 4 (.move (.const xz))])
 (.seq (.region false [xm 8 0,
 xm 9 1,
 xi 10 (.call 216 [(.tmp 8), (.tmp 9), (.func 217)]),
 xm 7 10,
 xi 11 (.extract (.tmp 7) 0),
 xi 12 (.extract (.tmp 7) 1),
 xm 5 11,
 xm 6 12])
 (.seq (.seq (.region false [xm 13 6,
 xi 14 (.un .not (.tmp 13))])
 (.cond (.tmp 14) (.region false [xm 15 5,
 xi 16 (.bin .sub (.tmp 15) (.const (.int .i64 1))),
 xm 5 16])
 (.skip)))
 (.seq (.region false [xm 17 0,
 xm 18 5,
 xi 19 (.max [(.tmp 18), (.const xz)]),
 xi 20 (.indexAddr none 2 (.tmp 17) (.tmp 19)),
 xi 21 (.fieldAddr 1 (.tmp 20)),
 xi 22 (.load false 1 (.tmp 21)),
 xm 4 22])
 (.ret)))),
 [.tmp 4], .pure, 23⟩

def ef199 : EFun := ⟨
 .seq (.region false [xi 4 (.move (.const (.bool false)))])
 (.seq (.region false [xm 5 0,
 xi 6 (.len true (.tmp 5)),
 xm 7 1,
 xi 8 (.len true (.tmp 7)),
 xi 9 (.bin .geq (.tmp 6) (.tmp 8)),
 xm 10 9,
 xg 11 (.move (.tmp 0)) 10 true,
 xg 12 (.move (.tmp 1)) 10 true,
 xg 13 (.len true (.tmp 12)) 10 true,
 xg 14 (.strSlice (.tmp 11) none (some (.tmp 13))) 10 true,
 xg 15 (.move (.tmp 1)) 10 true,
 xg 16 (.bin .eql (.tmp 14) (.tmp 15)) 10 true,
 xi 17 (.pick (.tmp 10) (.tmp 16) (.const (.bool false))),
 xm 4 17])
 (.ret)),
 [.tmp 4], .pure, 18⟩

def ef204 : EFun := ⟨
 .seq (.region false [xi 3 (.box (.tmp 1)),
 xi 4 (.move (.const xz))])
 (.seq (.seq (.region false [xm 6 0,
 xi 7 (.len false (.tmp 6)),
 xi 8 (.move (.const xz))])
 (.block 0 (.loop (some [0, 3, 7, 8]) (
 .seq (.region false [xi 9 (.bin .lss (.tmp 8) (.tmp 7))])
 (.seq (.cond (.tmp 9) (.skip)
 (.exit 0))
 (.seq (.block 1 (.seq (.region false [xm 10 8,
 xm 5 10])
 (.seq (.region true [xi 11 (.load true 4 (.tmp 3)),
 xm 12 0,
 xm 13 5,
 xi 14 (.indexAddr none 4 (.tmp 12) (.tmp 13)),
 xi 15 (.load true 4 (.tmp 14)),
 xi 16 (.eqAgg false [(.int .i64), (.int .i64), (.int .i64), (.int .i64)] (.tmp 11) (.tmp 15))])
 (.cond (.tmp 16) (.seq (.region false [xm 17 5,
 xm 4 17])
 (.ret))
 (.skip)))))
 (.region false [xi 18 (.bin .add (.tmp 8) (.const (.int .i64 1))),
 xm 8 18])))))))
 (.seq (.region false [xi 4 (.move (.const (.int .i64 (-1))))])
 (.ret))),
 [.tmp 4], .pure, 19⟩

def ef205 : EFun := ⟨
 .seq (.region false [xm 8 1,
 xi 9 (.bin .add (.tmp 8) (.const (.int .i64 1))),
 xm 6 9])
 (.block 0 (.loop (some [0, 1, 2, 6]) (
 .seq (.seq (.region false [xm 10 6,
 xm 11 2,
 xi 12 (.bin .lss (.tmp 10) (.tmp 11))])
 (.cond (.tmp 12) (.skip)
 (.exit 0)))
 (.seq (.block 1 (.seq (.region false [xm 15 6,
 xm 7 15])
 (.block 2 (.loop (some [0, 1, 2, 6, 7]) (
 .seq (.seq (.region true [xm 16 7,
 xm 17 1,
 xi 18 (.bin .gtr (.tmp 16) (.tmp 17)),
 xm 19 18,
 xg 20 (.move (.tmp 0)) 19 true,
 xg 21 (.move (.tmp 7)) 19 true,
 xg 22 (.indexAddr none 1 (.tmp 20) (.tmp 21)) 19 true,
 xg 23 (.load false 1 (.tmp 22)) 19 true,
 xg 24 (.move (.tmp 0)) 19 true,
 xg 25 (.move (.tmp 7)) 19 true,
 xg 26 (.bin .sub (.tmp 25) (.const (.int .i64 1))) 19 true,
 xg 27 (.indexAddr none 1 (.tmp 24) (.tmp 26)) 19 true,
 xg 28 (.load false 1 (.tmp 27)) 19 true,
 xg 29 (.call 177 [(.tmp 23), (.tmp 28)]) 19 true,
 xi 30 (.pick (.tmp 19) (.tmp 29) (.const (.bool false)))])
 (.cond (.tmp 30) (.skip)
 (.exit 2)))
 (.seq (.block 3 (.region true [xm 33 0,
 xm 34 7,
 xm 35 0,
 xm 36 7,
 xi 37 (.bin .sub (.tmp 36) (.const (.int .i64 1))),
 xm 38 0,
 xm 39 7,
 xi 40 (.bin .sub (.tmp 39) (.const (.int .i64 1))),
 xi 41 (.indexAddr none 1 (.tmp 38) (.tmp 40)),
 xi 42 (.load false 1 (.tmp 41)),
 xm 43 0,
 xm 44 7,
 xi 45 (.indexAddr none 1 (.tmp 43) (.tmp 44)),
 xi 46 (.load false 1 (.tmp 45)),
 xi 47 (.indexAddr none 1 (.tmp 33) (.tmp 34)),
 ⟨none, .store 1 (.tmp 47) (.tmp 42), none, [], false, false⟩,
 xi 48 (.indexAddr none 1 (.tmp 35) (.tmp 37)),
 ⟨none, .store 1 (.tmp 48) (.tmp 46), none, [], false, false⟩]))
 (.region false [xm 31 7,
 xi 32 (.bin .sub (.tmp 31) (.const (.int .i64 1))),
 xm 7 32])))))))
 (.region false [xm 13 6,
 xi 14 (.bin .add (.tmp 13) (.const (.int .i64 1))),
 xm 6 14]))))),
 [], .trunc, 49⟩

def ef206 : EFun := ⟨
 .seq (.region false [xm 11 1,
 xm 6 11])
 (.seq (.region false [xi 7 (.move (.const xz))])
 (.seq (.region false [xm 12 2,
 xm 13 1,
 xi 14 (.bin .sub (.tmp 12) (.tmp 13)),
 xm 8 14])
 (.seq (.seq (.region false [xm 15 8,
 xi 16 (.bin .sub (.tmp 15) (.const (.int .i64 1))),
 xi 17 (.bin .quo (.tmp 16) (.const (.int .i64 2))),
 xm 9 17])
 (.block 0 (.loop (some [0, 6, 7, 8, 9]) (
 .seq (.seq (.region false [xm 18 9,
 xi 19 (.bin .geq (.tmp 18) (.const xz))])
 (.cond (.tmp 19) (.skip)
 (.exit 0)))
 (.seq (.block 1 (.region false [xm 22 0,
 xm 23 9,
 xm 24 8,
 xm 25 6,
 xi 26 (.call 227 [(.tmp 22), (.tmp 23), (.tmp 24), (.tmp 25)])]))
 (.region false [xm 20 9,
 xi 21 (.bin .sub (.tmp 20) (.const (.int .i64 1))),
 xm 9 21]))))))
 (.seq (.region false [xm 27 8,
 xi 28 (.bin .sub (.tmp 27) (.const (.int .i64 1))),
 xm 10 28])
 (.block 2 (.loop (some [0, 6, 7, 10]) (
 .seq (.seq (.region false [xm 29 10,
 xi 30 (.bin .geq (.tmp 29) (.const xz))])
 (.cond (.tmp 30) (.skip)
 (.exit 2)))
 (.seq (.block 3 (.seq (.region true [xm 33 0,
 xm 34 6,
 xm 35 0,
 xm 36 6,
 xm 37 10,
 xi 38 (.bin .add (.tmp 36) (.tmp 37)),
 xm 39 0,
 xm 40 6,
 xm 41 10,
 xi 42 (.bin .add (.tmp 40) (.tmp 41)),
 xi 43 (.indexAddr none 1 (.tmp 39) (.tmp 42)),
 xi 44 (.load false 1 (.tmp 43)),
 xm 45 0,
 xm 46 6,
 xi 47 (.indexAddr none 1 (.tmp 45) (.tmp 46)),
 xi 48 (.load false 1 (.tmp 47)),
 xi 49 (.indexAddr none 1 (.tmp 33) (.tmp 34)),
 ⟨none, .store 1 (.tmp 49) (.tmp 44), none, [], false, false⟩,
 xi 50 (.indexAddr none 1 (.tmp 35) (.tmp 38)),
 ⟨none, .store 1 (.tmp 50) (.tmp 48), none, [], false, false⟩])
 (.region false [xm 51 0,
 xm 52 7,
 xm 53 10,
 xm 54 6,
 xi 55 (.call 227 [(.tmp 51), (.tmp 52), (.tmp 53), (.tmp 54)])])))
 (.region false [xm 31 10,
 xi 32 (.bin .sub (.tmp 31) (.const (.int .i64 1))),
 xm 10 32]))))))))),
 [], .trunc, 56⟩

def ef207 : EFun := ⟨
 .seq (.region false [xm 11 2,
 xm 12 1,
 xi 13 (.bin .sub (.tmp 11) (.tmp 12)),
 xm 6 13])
 (.seq (.region false [xm 14 6,
 xi 15 (.bin .geq (.tmp 14) (.const (.int .i64 8)))])
 (.cond (.tmp 15) (.seq (.region false [xm 16 6,
 xi 17 (.conv .u64 (.tmp 16)),
 xi 7 (.push [(.int .u64 0)]),
 ⟨none, .store 1 (.tmp 7) (.tmp 17), none, [], false, false⟩])
 (.seq (.region false [xm 18 6,
 xi 19 (.call 228 [(.tmp 18)]),
 xm 8 19])
 (.seq (.region false [xm 20 1,
 xm 21 6,
 xi 22 (.bin .quo (.tmp 21) (.const (.int .i64 4))),
 xi 23 (.bin .mul (.tmp 22) (.const (.int .i64 2))),
 xi 24 (.bin .add (.tmp 20) (.tmp 23)),
 xi 25 (.bin .sub (.tmp 24) (.const (.int .i64 1))),
 xm 9 25])
 (.block 0 (.loop (some [0, 1, 6, 7, 8, 9]) (
 .seq (.seq (.region false [xm 26 9,
 xm 27 1,
 xm 28 6,
 xi 29 (.bin .quo (.tmp 28) (.const (.int .i64 4))),
 xi 30 (.bin .mul (.tmp 29) (.const (.int .i64 2))),
 xi 31 (.bin .add (.tmp 27) (.tmp 30)),
 xi 32 (.bin .add (.tmp 31) (.const (.int .i64 1))),
 xi 33 (.bin .leq (.tmp 26) (.tmp 32))])
 (.cond (.tmp 33) (.skip)
 (.exit 0)))
 (.seq (.block 1 (.seq (.region false [xi 36 (.call 229 [(.tmp 7)]),
 xm 37 8,
 xi 38 (.bin .sub (.tmp 37) (.const (.int .u64 1))),
 xi 39 (.bin .and (.tmp 36) (.tmp 38)),
 xi 40 (.conv .i64 (.tmp 39)),
 xm 10 40])
 (.seq (.seq (.region false [xm 41 10,
 xm 42 6,
 xi 43 (.bin .geq (.tmp 41) (.tmp 42))])
 (.cond (.tmp 43) (.region false [xm 44 10,
 xm 45 6,
 xi 46 (.bin .sub (.tmp 44) (.tmp 45)),
 xm 10 46])
 (.skip)))
 (.region true [xm 47 0,
 xm 48 9,
 xm 49 0,
 xm 50 1,
 xm 51 10,
 xi 52 (.bin .add (.tmp 50) (.tmp 51)),
 xm 53 0,
 xm 54 1,
 xm 55 10,
 xi 56 (.bin .add (.tmp 54) (.tmp 55)),
 xi 57 (.indexAddr none 1 (.tmp 53) (.tmp 56)),
 xi 58 (.load false 1 (.tmp 57)),
 xm 59 0,
 xm 60 9,
 xi 61 (.indexAddr none 1 (.tmp 59) (.tmp 60)),
 xi 62 (.load false 1 (.tmp 61)),
 xi 63 (.indexAddr none 1 (.tmp 47) (.tmp 48)),
 ⟨none, .store 1 (.tmp 63) (.tmp 58), none, [], false, false⟩,
 xi 64 (.indexAddr none 1 (.tmp 49) (.tmp 52)),
 ⟨none, .store 1 (.tmp 64) (.tmp 62), none, [], false, false⟩]))))
 (.region false [xm 34 9,
 xi 35 (.bin .add (.tmp 34) (.const (.int .i64 1))),
 xm 9 35]))))))))
 (.skip))),
 [], .trunc, 65⟩

def ef208 : EFun := ⟨
 .seq (.region false [xi 6 (.move (.const xz)),
 xi 7 (.move (.const xz))])
 (.seq (.region false [xm 13 2,
 xm 14 1,
 xi 15 (.bin .sub (.tmp 13) (.tmp 14)),
 xm 8 15])
 (.seq (.region false [xi 9 (.push [xz])])
 (.seq (.region false [xm 16 1,
 xm 17 8,
 xi 18 (.bin .quo (.tmp 17) (.const (.int .i64 4))),
 xi 19 (.bin .mul (.tmp 18) (.const (.int .i64 1))),
 xi 20 (.bin .add (.tmp 16) (.tmp 19)),
 xm 10 20])
 (.seq (.region false [xm 21 1,
 xm 22 8,
 xi 23 (.bin .quo (.tmp 22) (.const (.int .i64 4))),
 xi 24 (.bin .mul (.tmp 23) (.const (.int .i64 2))),
 xi 25 (.bin .add (.tmp 21) (.tmp 24)),
 xm 11 25])
 (.seq (.region false [xm 26 1,
 xm 27 8,
 xi 28 (.bin .quo (.tmp 27) (.const (.int .i64 4))),
 xi 29 (.bin .mul (.tmp 28) (.const (.int .i64 3))),
 xi 30 (.bin .add (.tmp 26) (.tmp 29)),
 xm 12 30])
 (.seq (.seq (.region false [xm 31 8,
 xi 32 (.bin .geq (.tmp 31) (.const (.int .i64 8)))])
 (.cond (.tmp 32) (.seq (.seq (.region false [xm 33 8,
 xi 34 (.bin .geq (.tmp 33) (.const (.int .i64 50)))])
 (.cond (.tmp 34) (.seq (.region false [xm 35 0,
 xm 36 10,
 xi 37 (.call 230 [(.tmp 35), (.tmp 36), (.tmp 9)]),
 xm 10 37])
 (.seq (.region false [xm 38 0,
 xm 39 11,
 xi 40 (.call 230 [(.tmp 38), (.tmp 39), (.tmp 9)]),
 xm 11 40])
 (.region false [xm 41 0,
 xm 42 12,
 xi 43 (.call 230 [(.tmp 41), (.tmp 42), (.tmp 9)]),
 xm 12 43])))
 (.skip)))
 (.region false [xm 44 0,
 xm 45 10,
 xm 46 11,
 xm 47 12,
 xi 48 (.call 231 [(.tmp 44), (.tmp 45), (.tmp 46), (.tmp 47), (.tmp 9)]),
 xm 11 48]))
 (.skip)))
 (.seq (.region false [xi 49 (.load false 1 (.tmp 9))])
 (.block 0 (.seq (.region false [xi 52 (.bin .eql (.tmp 49) (.const xz)),
 xm 51 52])
 (.cond (.tmp 51) (.seq (.region false [xm 53 11,
 xm 6 53,
 xi 7 (.move (.const (.int .i64 1)))])
 (.ret))
 (.seq (.region false [xi 55 (.bin .eql (.tmp 49) (.const (.int .i64 12))),
 xm 54 55])
 (.cond (.tmp 54) (.seq (.region false [xm 56 11,
 xm 6 56,
 xi 7 (.move (.const (.int .i64 2)))])
 (.ret))
 (.seq (.region false [xm 50 11,
 xm 6 50,
 xi 7 (.move (.const xz))])
 (.ret)))))))))))))),
 [.tmp 6, .tmp 7], .trunc, 57⟩

def ef209 : EFun := ⟨
 .seq (.region false [xm 8 1,
 xm 6 8])
 (.seq (.region false [xm 9 2,
 xi 10 (.bin .sub (.tmp 9) (.const (.int .i64 1))),
 xm 7 10])
 (.block 0 (.loop (some [0, 6, 7]) (
 .seq (.seq (.region false [xm 11 6,
 xm 12 7,
 xi 13 (.bin .lss (.tmp 11) (.tmp 12))])
 (.cond (.tmp 13) (.skip)
 (.exit 0)))
 (.block 1 (.seq (.region true [xm 14 0,
 xm 15 6,
 xm 16 0,
 xm 17 7,
 xm 18 0,
 xm 19 7,
 xi 20 (.indexAddr none 1 (.tmp 18) (.tmp 19)),
 xi 21 (.load false 1 (.tmp 20)),
 xm 22 0,
 xm 23 6,
 xi 24 (.indexAddr none 1 (.tmp 22) (.tmp 23)),
 xi 25 (.load false 1 (.tmp 24)),
 xi 26 (.indexAddr none 1 (.tmp 14) (.tmp 15)),
 ⟨none, .store 1 (.tmp 26) (.tmp 21), none, [], false, false⟩,
 xi 27 (.indexAddr none 1 (.tmp 16) (.tmp 17)),
 ⟨none, .store 1 (.tmp 27) (.tmp 25), none, [], false, false⟩])
 (.seq (.region false [xm 28 6,
 xi 29 (.bin .add (.tmp 28) (.const (.int .i64 1))),
 xm 6 29])
 (.region false [xm 30 7,
 xi 31 (.bin .sub (.tmp 30) (.const (.int .i64 1))),
 xm 7 31])))))))),
 [], .trunc, 32⟩

end Go.Abs.H
