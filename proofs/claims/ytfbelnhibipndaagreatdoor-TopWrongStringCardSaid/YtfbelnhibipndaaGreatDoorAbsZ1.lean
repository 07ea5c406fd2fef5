/- The functions, compiled for the abstract evaluator. Written by wip/abs/Print.lean. -/
import Derived.Test.YtfbelnhibipndaaGreatDoorAbsZ0
set_option linter.unusedSimpArgs false
set_option linter.unusedVariables false
set_option maxRecDepth 100000
set_option maxHeartbeats 0
namespace Go.Abs.Z
open Go Go.Abs
def ef7 : EFun := ⟨
 .seq (.region false [xi 3 (.box (.tmp 0)),
 xi 5 (.box (.tmp 2)),
 xi 6 (.move (.const (.bool false)))])
 (.seq (.seq (.region false [xi 17 (.call 35 []),
 xi 18 (.un .not (.tmp 17))])
 (.cond (.tmp 18) (.seq (.region false [xi 6 (.move (.const (.bool false)))])
 (.ret))
 (.skip)))
 (.seq (.seq (.region false [xi 19 (.load true 25 (.tmp 3)),
 xi 20 (.call 9 [(.tmp 19)]),
 xi 21 (.un .not (.tmp 20)),
 xm 22 21,
 xg 23 (.move (.tmp 1)) 22 false,
 xg 24 (.len false (.tmp 23)) 22 false,
 xg 25 (.bin .gtr (.tmp 24) (.const (.int .i64 8))) 22 false,
 xi 26 (.pick (.tmp 22) (.const (.bool true)) (.tmp 25)),
 xm 27 26,
 xg 28 (.load true 25 (.tmp 3)) 27 false,
 xg 29 (.call 36 [(.tmp 28)]) 27 false,
 xg 30 (.bin .neq (.tmp 29) (.const xz)) 27 false,
 xi 31 (.pick (.tmp 27) (.const (.bool true)) (.tmp 30)),
 xm 32 31,
 xg 33 (.move (.tmp 1)) 32 false,
 xg 34 (.call 13 [(.tmp 33)]) 32 false,
 xg 35 (.bin .neq (.tmp 34) (.const xz)) 32 false,
 xi 36 (.pick (.tmp 32) (.const (.bool true)) (.tmp 35)),
 xm 37 36,
 xg 38 (.fieldAddr 0 (.tmp 5)) 37 false,
 xg 39 (.load false 1 (.tmp 38)) 37 false,
 xg 40 (.call 37 [(.tmp 39), (.const (.int .i64 400000)), (.const (.int .i64 480000))]) 37 false,
 xg 41 (.un .not (.tmp 40)) 37 false,
 xi 42 (.pick (.tmp 37) (.const (.bool true)) (.tmp 41)),
 xm 43 42,
 xg 44 (.fieldAddr 2 (.tmp 5)) 43 false,
 xg 45 (.load false 1 (.tmp 44)) 43 false,
 xg 46 (.call 37 [(.tmp 45), (.const (.int .i64 100)), (.const (.int .i64 1000000))]) 43 false,
 xg 47 (.un .not (.tmp 46)) 43 false,
 xi 48 (.pick (.tmp 43) (.const (.bool true)) (.tmp 47))])
 (.cond (.tmp 48) (.seq (.region false [xi 6 (.move (.const (.bool true)))])
 (.ret))
 (.skip)))
 (.seq (.region false [xm 49 1,
 xi 50 (.fieldAddr 1 (.tmp 5)),
 xi 51 (.load false 1 (.tmp 50)),
 xi 52 (.call 41 [(.tmp 49), (.tmp 51)]),
 xm 7 52])
 (.seq (.seq (.region false [xm 53 7,
 xi 54 (.len false (.tmp 53)),
 xi 55 (.bin .eql (.tmp 54) (.const xz))])
 (.cond (.tmp 55) (.seq (.region false [xi 6 (.move (.const (.bool true)))])
 (.ret))
 (.skip)))
 (.seq (.region false [xi 57 (.load true 25 (.tmp 3)),
 xm 58 1,
 xi 59 (.load true 3 (.tmp 5)),
 xi 60 (.call 38 [(.tmp 57), (.tmp 58), (.tmp 59)]),
 xm 56 60,
 xi 61 (.extract (.tmp 56) 0),
 xi 62 (.extract (.tmp 56) 1),
 xm 8 61,
 xm 9 62])
 (.seq (.seq (.region false [xm 63 9,
 xi 64 (.un .not (.tmp 63)),
 xm 65 64,
 xg 66 (.move (.tmp 8)) 65 false,
 xg 67 (.move (.tmp 7)) 65 false,
 xg 68 (.call 23 [(.tmp 66), (.tmp 67)]) 65 false,
 xg 69 (.un .not (.tmp 68)) 65 false,
 xi 70 (.pick (.tmp 65) (.const (.bool true)) (.tmp 69))])
 (.cond (.tmp 70) (.seq (.region false [xi 6 (.move (.const (.bool false)))])
 (.ret))
 (.skip)))
 (.seq (.region false [xm 72 1,
 xi 73 (.call 42 [(.tmp 72)]),
 xm 71 73,
 xi 74 (.extract (.tmp 71) 0),
 xi 75 (.extract (.tmp 71) 1),
 xi 76 (.extract (.tmp 71) 2),
 xi 11 (.push [xz, xz]),
 xm 10 74,
 ⟨none, .store 2 (.tmp 11) (.tmp 75), none, [], false, false⟩,
 xm 12 76])
 (.seq (.seq (.region false [xm 77 12,
 xi 78 (.bin .neq (.tmp 77) (.const xz)),
 xm 79 78,
 xg 80 (.move (.tmp 10)) 79 false,
 xg 81 (.un .not (.tmp 80)) 79 false,
 xi 82 (.pick (.tmp 79) (.const (.bool true)) (.tmp 81))])
 (.cond (.tmp 82) (.seq (.region false [xm 83 12,
 xi 84 (.bin .eql (.tmp 83) (.const xz)),
 xm 6 84])
 (.ret))
 (.skip)))
 (.seq (.region false [xm 86 1,
 xm 87 8,
 xi 88 (.call 39 [(.tmp 86), (.tmp 87)]),
 xm 85 88,
 xi 89 (.extract (.tmp 85) 0),
 xi 90 (.extract (.tmp 85) 1),
 xm 13 89,
 xm 12 90])
 (.seq (.seq (.region false [xm 91 12,
 xi 92 (.bin .neq (.tmp 91) (.const xz)),
 xm 93 92,
 xg 94 (.move (.tmp 13)) 93 false,
 xg 95 (.fieldAddr 1 (.tmp 5)) 93 false,
 xg 96 (.load false 1 (.tmp 95)) 93 false,
 xg 97 (.buildSlice 1 1 [xz] [(0, 1, (.tmp 96))]) 93 false,
 xg 98 (.call 23 [(.tmp 94), (.tmp 97)]) 93 false,
 xg 99 (.un .not (.tmp 98)) 93 false,
 xi 100 (.pick (.tmp 93) (.const (.bool true)) (.tmp 99))])
 (.cond (.tmp 100) (.seq (.region false [xi 6 (.move (.const (.bool false)))])
 (.ret))
 (.skip)))
 (.seq (.region false [xm 102 1,
 xi 103 (.call 43 [(.tmp 102)]),
 xm 101 103,
 xi 104 (.extract (.tmp 101) 0),
 xi 105 (.extract (.tmp 101) 1),
 xm 14 104,
 xm 12 105])
 (.seq (.seq (.region false [xm 106 12,
 xi 107 (.bin .neq (.tmp 106) (.const xz)),
 xm 108 107,
 xg 109 (.move (.tmp 14)) 108 false,
 xg 110 (.len false (.tmp 109)) 108 false,
 xg 111 (.move (.tmp 1)) 108 false,
 xg 112 (.len false (.tmp 111)) 108 false,
 xg 113 (.bin .gtr (.tmp 110) (.tmp 112)) 108 false,
 xi 114 (.pick (.tmp 108) (.const (.bool true)) (.tmp 113))])
 (.cond (.tmp 114) (.seq (.region false [xi 6 (.move (.const (.bool false)))])
 (.ret))
 (.skip)))
 (.seq (.region false [xi 15 (.move (.const (.slice none 0 0)))])
 (.seq (.seq (.region false [xi 16 (.move (.const xz))])
 (.block 0 (.loop (some [1, 3, 5, 14, 15, 16]) (
 .seq (.seq (.region false [xm 115 16,
 xm 116 14,
 xi 117 (.len false (.tmp 116)),
 xi 118 (.bin .lss (.tmp 115) (.tmp 117))])
 (.cond (.tmp 118) (.skip)
 (.exit 0)))
 (.seq (.block 1 (.seq (.seq (.region false [xm 121 14,
 xm 122 16,
 xi 123 (.indexAddr none 1 (.tmp 121) (.tmp 122)),
 xi 124 (.load false 1 (.tmp 123)),
 xm 125 1,
 xi 126 (.len false (.tmp 125)),
 xi 127 (.bin .sub (.tmp 126) (.const (.int .i64 1))),
 xi 128 (.call 37 [(.tmp 124), (.const xz), (.tmp 127)]),
 xi 129 (.un .not (.tmp 128))])
 (.cond (.tmp 129) (.seq (.region false [xi 6 (.move (.const (.bool false)))])
 (.ret))
 (.skip)))
 (.region false [xm 130 15,
 xm 131 1,
 xm 132 14,
 xm 133 16,
 xi 134 (.indexAddr none 1 (.tmp 132) (.tmp 133)),
 xi 135 (.load false 1 (.tmp 134)),
 xi 136 (.indexAddr none 4 (.tmp 131) (.tmp 135)),
 xi 137 (.load true 4 (.tmp 136)),
 xi 138 (.buildSlice 4 1 [xz, xz, xz, xz] [(0, 4, (.tmp 137))]),
 xi 139 (.append 4 32 (.tmp 130) (.tmp 138)),
 xm 15 139])))
 (.region false [xm 119 16,
 xi 120 (.bin .add (.tmp 119) (.const (.int .i64 1))),
 xm 16 120]))))))
 (.seq (.region false [xi 141 (.load true 25 (.tmp 3)),
 xm 142 15,
 xi 143 (.load true 3 (.tmp 5)),
 xi 144 (.call 38 [(.tmp 141), (.tmp 142), (.tmp 143)]),
 xm 140 144,
 xi 145 (.extract (.tmp 140) 0),
 xi 146 (.extract (.tmp 140) 1),
 xm 8 145,
 xm 9 146])
 (.seq (.seq (.region false [xm 147 9,
 xi 148 (.un .not (.tmp 147))])
 (.cond (.tmp 148) (.seq (.region false [xi 6 (.move (.const (.bool false)))])
 (.ret))
 (.skip)))
 (.seq (.region false [xm 150 15,
 xm 151 8,
 xi 152 (.call 39 [(.tmp 150), (.tmp 151)]),
 xm 149 152,
 xi 153 (.extract (.tmp 149) 0),
 xi 154 (.extract (.tmp 149) 1),
 xm 13 153,
 xm 12 154])
 (.seq (.region false [xm 155 12,
 xi 156 (.bin .eql (.tmp 155) (.const xz)),
 xm 157 156,
 xg 158 (.move (.tmp 13)) 157 true,
 xg 159 (.fieldAddr 1 (.tmp 5)) 157 true,
 xg 160 (.load false 1 (.tmp 159)) 157 true,
 xg 161 (.buildSlice 1 1 [xz] [(0, 1, (.tmp 160))]) 157 true,
 xg 162 (.call 23 [(.tmp 158), (.tmp 161)]) 157 true,
 xi 163 (.pick (.tmp 157) (.tmp 162) (.const (.bool false))),
 xm 6 163])
 (.ret))))))))))))))))))),
 [.tmp 6], .pure, 164⟩

def ef9 : EFun := ⟨
 .seq (.region false [xi 1 (.box (.tmp 0)),
 xi 2 (.move (.const (.bool false)))])
 (.seq (.region false [xi 3 (.fieldAddr 0 (.tmp 1)),
 xi 4 (.load false 1 (.tmp 3)),
 xi 5 (.len true (.tmp 4)),
 xi 6 (.bin .leq (.tmp 5) (.const (.int .i64 30))),
 xm 2 6])
 (.ret)),
 [.tmp 2], .pure, 7⟩

def ef11 : EFun := ⟨
 .seq (.region false [xi 2 (.move (.const xz))])
 (.seq (.seq (.region false [xm 6 0,
 xi 7 (.len false (.tmp 6)),
 xi 8 (.bin .gtr (.tmp 7) (.const (.int .i64 60)))])
 (.cond (.tmp 8) (.seq (.region false [xi 2 (.move (.const (.int .i64 8)))])
 (.ret))
 (.skip)))
 (.seq (.seq (.region false [xm 9 0,
 xi 10 (.len false (.tmp 9)),
 xi 11 (.move (.const xz))])
 (.block 0 (.loop (some [0, 9, 10, 11]) (
 .seq (.region false [xi 12 (.bin .lss (.tmp 11) (.tmp 10))])
 (.seq (.cond (.tmp 12) (.skip)
 (.exit 0))
 (.seq (.block 1 (.seq (.region false [xm 13 11,
 xi 14 (.indexAddr none 4 (.tmp 9) (.tmp 11)),
 xi 15 (.load true 4 (.tmp 14)),
 xi 4 (.push [xz, xz, xz, xz]),
 xm 3 13,
 ⟨none, .store 4 (.tmp 4) (.tmp 15), none, [], false, false⟩])
 (.seq (.seq (.region false [xi 16 (.load true 4 (.tmp 4)),
 xi 17 (.call 47 [(.tmp 16)]),
 xm 5 17])
 (.seq (.region false [xm 18 5,
 xi 19 (.bin .neq (.tmp 18) (.const xz))])
 (.cond (.tmp 19) (.seq (.region false [xm 20 5,
 xm 2 20])
 (.ret))
 (.skip))))
 (.seq (.region true [xm 21 0,
 xm 22 3,
 xi 23 (.slice 4 (.tmp 21) none (some (.tmp 22))),
 xi 24 (.load true 4 (.tmp 4)),
 xi 25 (.call 48 [(.tmp 23), (.tmp 24)])])
 (.cond (.tmp 25) (.seq (.region false [xi 2 (.move (.const (.int .i64 5)))])
 (.ret))
 (.skip))))))
 (.region false [xi 26 (.bin .add (.tmp 11) (.const (.int .i64 1))),
 xm 11 26])))))))
 (.seq (.region false [xi 2 (.move (.const xz))])
 (.ret)))),
 [.tmp 2], .pure, 27⟩

def ef13 : EFun := ⟨
 .seq (.region false [xi 2 (.move (.const xz))])
 (.seq (.seq (.region false [xm 6 0,
 xi 7 (.len false (.tmp 6)),
 xi 8 (.bin .gtr (.tmp 7) (.const (.int .i64 60)))])
 (.cond (.tmp 8) (.seq (.region false [xi 2 (.move (.const (.int .i64 8)))])
 (.ret))
 (.skip)))
 (.seq (.seq (.region false [xi 3 (.move (.const xz))])
 (.block 0 (.loop (some [0, 3]) (
 .seq (.seq (.region false [xm 9 3,
 xm 10 0,
 xi 11 (.len false (.tmp 10)),
 xi 12 (.bin .lss (.tmp 9) (.tmp 11))])
 (.cond (.tmp 12) (.skip)
 (.exit 0)))
 (.seq (.block 1 (.seq (.seq (.region false [xm 15 0,
 xm 16 3,
 xi 17 (.indexAddr none 4 (.tmp 15) (.tmp 16)),
 xi 18 (.load true 4 (.tmp 17)),
 xi 19 (.call 49 [(.tmp 18)]),
 xm 4 19])
 (.seq (.region false [xm 20 4,
 xi 21 (.bin .neq (.tmp 20) (.const xz))])
 (.cond (.tmp 21) (.seq (.region false [xm 22 4,
 xm 2 22])
 (.ret))
 (.skip))))
 (.seq (.region false [xi 5 (.move (.const xz))])
 (.block 2 (.loop (some [0, 3, 5]) (
 .seq (.seq (.region false [xm 23 5,
 xm 24 3,
 xi 25 (.bin .lss (.tmp 23) (.tmp 24))])
 (.cond (.tmp 25) (.skip)
 (.exit 2)))
 (.seq (.block 3 (.seq (.region true [xm 28 0,
 xm 29 5,
 xi 30 (.indexAddr none 4 (.tmp 28) (.tmp 29)),
 xi 31 (.load true 4 (.tmp 30)),
 xm 32 0,
 xm 33 3,
 xi 34 (.indexAddr none 4 (.tmp 32) (.tmp 33)),
 xi 35 (.load true 4 (.tmp 34)),
 xi 36 (.eqAgg false [(.int .i64), (.int .i64), (.int .i64), (.int .i64)] (.tmp 31) (.tmp 35))])
 (.cond (.tmp 36) (.seq (.region false [xi 2 (.move (.const (.int .i64 5)))])
 (.ret))
 (.skip))))
 (.region false [xm 26 5,
 xi 27 (.bin .add (.tmp 26) (.const (.int .i64 1))),
 xm 5 27]))))))))
 (.region false [xm 13 3,
 xi 14 (.bin .add (.tmp 13) (.const (.int .i64 1))),
 xm 3 14]))))))
 (.seq (.region false [xi 2 (.move (.const xz))])
 (.ret)))),
 [.tmp 2], .pure, 37⟩

def ef19 : EFun := ⟨
 .seq (.region false [xi 2 (.move (.const xz))])
 (.seq (.seq (.region false [xm 7 0,
 xi 8 (.len false (.tmp 7)),
 xi 9 (.bin .gtr (.tmp 8) (.const (.int .i64 60)))])
 (.cond (.tmp 9) (.seq (.region false [xi 2 (.move (.const (.int .i64 8)))])
 (.ret))
 (.skip)))
 (.seq (.region false [xi 10 (.makeMap),
 xm 3 10])
 (.seq (.seq (.region false [xm 11 0,
 xi 12 (.len false (.tmp 11)),
 xi 13 (.move (.const xz))])
 (.block 0 (.loop (some [3, 11, 12, 13]) (
 .seq (.region false [xi 14 (.bin .lss (.tmp 13) (.tmp 12))])
 (.seq (.cond (.tmp 14) (.skip)
 (.exit 0))
 (.seq (.block 1 (.seq (.region false [xi 15 (.indexAddr none 6 (.tmp 11) (.tmp 13)),
 xi 16 (.load true 6 (.tmp 15)),
 xi 5 (.push [xz, xz, xz, xz, xz, xz]),
 ⟨none, .store 6 (.tmp 5) (.tmp 16), none, [], false, false⟩])
 (.seq (.seq (.region false [xi 17 (.fieldAddr 0 (.tmp 5)),
 xi 18 (.load true 4 (.tmp 17)),
 xi 19 (.call 47 [(.tmp 18)]),
 xm 6 19])
 (.seq (.region false [xm 20 6,
 xi 21 (.bin .neq (.tmp 20) (.const xz))])
 (.cond (.tmp 21) (.seq (.region false [xm 22 6,
 xm 2 22])
 (.ret))
 (.skip))))
 (.seq (.block 2 (.seq (.region false [xm 24 3,
 xi 25 (.fieldAddr 0 (.tmp 5)),
 xi 26 (.load true 4 (.tmp 25)),
 xi 27 (.mapGet (.agg [(.int .i64), (.int .i64), (.int .i64), (.int .i64)]) (.bool false) false (.tmp 24) (.tmp 26)),
 xm 23 27])
 (.cond (.tmp 23) (.seq (.region false [xi 2 (.move (.const (.int .i64 5)))])
 (.ret))
 (.seq (.region false [xi 29 (.fieldAddr 4 (.tmp 5)),
 xi 30 (.fieldAddr 0 (.tmp 29)),
 xi 31 (.load false 1 (.tmp 30)),
 xi 32 (.call 54 [(.tmp 31), (.const (.int .i64 (-1000000000))), (.const (.int .i64 1000000000))]),
 xi 33 (.un .not (.tmp 32)),
 xm 34 33,
 xg 35 (.fieldAddr 4 (.tmp 5)) 34 false,
 xg 36 (.fieldAddr 1 (.tmp 35)) 34 false,
 xg 37 (.load false 1 (.tmp 36)) 34 false,
 xg 38 (.call 54 [(.tmp 37), (.const (.int .i64 (-1000000000))), (.const (.int .i64 1000000000))]) 34 false,
 xg 39 (.un .not (.tmp 38)) 34 false,
 xi 40 (.pick (.tmp 34) (.const (.bool true)) (.tmp 39)),
 xm 28 40])
 (.cond (.tmp 28) (.seq (.region false [xi 2 (.move (.const (.int .i64 2)))])
 (.ret))
 (.seq (.region false [xi 42 (.fieldAddr 4 (.tmp 5)),
 xi 43 (.fieldAddr 0 (.tmp 42)),
 xi 44 (.load false 1 (.tmp 43)),
 xi 45 (.fieldAddr 4 (.tmp 5)),
 xi 46 (.fieldAddr 1 (.tmp 45)),
 xi 47 (.load false 1 (.tmp 46)),
 xi 48 (.bin .gtr (.tmp 44) (.tmp 47)),
 xm 41 48])
 (.cond (.tmp 41) (.seq (.region false [xi 2 (.move (.const (.int .i64 9)))])
 (.ret))
 (.skip))))))))
 (.region false [xm 49 3,
 xi 50 (.fieldAddr 0 (.tmp 5)),
 xi 51 (.load true 4 (.tmp 50)),
 ⟨none, .mapSet (.agg [(.int .i64), (.int .i64), (.int .i64), (.int .i64)]) (.tmp 49) (.tmp 51) (.const (.bool true)), none, [], false, false⟩])))))
 (.region false [xi 52 (.bin .add (.tmp 13) (.const (.int .i64 1))),
 xm 13 52])))))))
 (.seq (.region false [xi 2 (.move (.const xz))])
 (.ret))))),
 [.tmp 2], .pure, 53⟩

def ef22 : EFun := ⟨
 .seq (.region false [xi 3 (.box (.tmp 0)),
 xi 6 (.move (.const (.slice none 0 0))),
 xi 7 (.move (.const xz))])
 (.seq (.seq (.region false [xi 15 (.load true 25 (.tmp 3)),
 xm 16 1,
 xi 17 (.call 50 [(.tmp 15), (.tmp 16)]),
 xm 8 17])
 (.seq (.region false [xm 18 8,
 xi 19 (.bin .neq (.tmp 18) (.const xz))])
 (.cond (.tmp 19) (.seq (.region false [xm 20 8,
 xi 6 (.move (.const (.slice none 0 0))),
 xm 7 20])
 (.ret))
 (.skip))))
 (.seq (.seq (.region false [xm 21 2,
 xi 22 (.call 19 [(.tmp 21)]),
 xm 9 22])
 (.seq (.region false [xm 23 9,
 xi 24 (.bin .neq (.tmp 23) (.const xz))])
 (.cond (.tmp 24) (.seq (.region false [xm 25 9,
 xi 6 (.move (.const (.slice none 0 0))),
 xm 7 25])
 (.ret))
 (.skip))))
 (.seq (.region false [xi 10 (.move (.const (.slice none 0 0)))])
 (.seq (.seq (.region false [xm 26 2,
 xi 27 (.len false (.tmp 26)),
 xi 28 (.move (.const xz))])
 (.block 0 (.loop (some [1, 3, 10, 26, 27, 28]) (
 .seq (.region false [xi 29 (.bin .lss (.tmp 28) (.tmp 27))])
 (.seq (.cond (.tmp 29) (.skip)
 (.exit 0))
 (.seq (.block 1 (.seq (.region false [xm 30 28,
 xi 31 (.indexAddr none 6 (.tmp 26) (.tmp 28)),
 xi 32 (.load true 6 (.tmp 31)),
 xi 12 (.push [xz, xz, xz, xz, xz, xz]),
 xm 11 30,
 ⟨none, .store 6 (.tmp 12) (.tmp 32), none, [], false, false⟩])
 (.seq (.region false [xi 34 (.load true 25 (.tmp 3)),
 xm 35 1,
 xi 36 (.fieldAddr 0 (.tmp 12)),
 xi 37 (.load true 4 (.tmp 36)),
 xi 38 (.call 51 [(.tmp 34), (.tmp 35), (.tmp 37)]),
 xm 33 38,
 xi 39 (.extract (.tmp 33) 0),
 xi 40 (.extract (.tmp 33) 1),
 xi 13 (.push [xz, xz]),
 ⟨none, .store 2 (.tmp 13) (.tmp 39), none, [], false, false⟩,
 xm 14 40])
 (.seq (.seq (.region false [xm 41 14,
 xi 42 (.bin .neq (.tmp 41) (.const xz))])
 (.cond (.tmp 42) (.seq (.region false [xm 43 14,
 xi 6 (.move (.const (.slice none 0 0))),
 xm 7 43])
 (.ret))
 (.skip)))
 (.seq (.region false [xi 44 (.fieldAddr 0 (.tmp 13)),
 xi 45 (.load false 1 (.tmp 44)),
 xi 46 (.fieldAddr 4 (.tmp 12)),
 xi 47 (.fieldAddr 0 (.tmp 46)),
 xi 48 (.load false 1 (.tmp 47)),
 xi 49 (.max [(.tmp 45), (.tmp 48)]),
 xi 50 (.fieldAddr 1 (.tmp 13)),
 xi 51 (.load false 1 (.tmp 50)),
 xi 52 (.fieldAddr 4 (.tmp 12)),
 xi 53 (.fieldAddr 1 (.tmp 52)),
 xi 54 (.load false 1 (.tmp 53)),
 xi 55 (.min [(.tmp 51), (.tmp 54)]),
 xi 56 (.bin .gtr (.tmp 49) (.tmp 55))])
 (.cond (.tmp 56) (.region false [xm 57 10,
 xm 58 11,
 xi 59 (.buildSlice 1 1 [xz] [(0, 1, (.tmp 58))]),
 xi 60 (.append 1 8 (.tmp 57) (.tmp 59)),
 xm 10 60])
 (.skip)))))))
 (.region false [xi 61 (.bin .add (.tmp 28) (.const (.int .i64 1))),
 xm 28 61])))))))
 (.seq (.region false [xm 62 10,
 xm 6 62,
 xi 7 (.move (.const xz))])
 (.ret)))))),
 [.tmp 6, .tmp 7], .pure, 63⟩

def ef23 : EFun := ⟨
 .seq (.region false [xi 4 (.move (.const (.bool false)))])
 (.seq (.seq (.region false [xm 6 0,
 xi 7 (.len false (.tmp 6)),
 xm 8 1,
 xi 9 (.len false (.tmp 8)),
 xi 10 (.bin .neq (.tmp 7) (.tmp 9))])
 (.cond (.tmp 10) (.seq (.region false [xi 4 (.move (.const (.bool false)))])
 (.ret))
 (.skip)))
 (.seq (.seq (.region false [xi 5 (.move (.const xz))])
 (.block 0 (.loop (some [0, 1, 5]) (
 .seq (.seq (.region false [xm 11 5,
 xm 12 0,
 xi 13 (.len false (.tmp 12)),
 xi 14 (.bin .lss (.tmp 11) (.tmp 13))])
 (.cond (.tmp 14) (.skip)
 (.exit 0)))
 (.seq (.block 1 (.seq (.region true [xm 17 0,
 xm 18 5,
 xi 19 (.indexAddr none 1 (.tmp 17) (.tmp 18)),
 xi 20 (.load false 1 (.tmp 19)),
 xm 21 1,
 xm 22 5,
 xi 23 (.indexAddr none 1 (.tmp 21) (.tmp 22)),
 xi 24 (.load false 1 (.tmp 23)),
 xi 25 (.bin .neq (.tmp 20) (.tmp 24))])
 (.cond (.tmp 25) (.seq (.region false [xi 4 (.move (.const (.bool false)))])
 (.ret))
 (.skip))))
 (.region false [xm 15 5,
 xi 16 (.bin .add (.tmp 15) (.const (.int .i64 1))),
 xm 5 16]))))))
 (.seq (.region false [xi 4 (.move (.const (.bool true)))])
 (.ret)))),
 [.tmp 4], .pure, 26⟩

def ef35 : EFun := ⟨
 .seq (.region false [xi 0 (.move (.const (.bool false)))])
 (.seq (.region false [xi 9 (.call 66 [(.const (.string ⟨#[101, 113, 117, 97, 108]⟩))]),
 xm 8 9,
 xi 10 (.extract (.tmp 8) 0),
 xi 11 (.extract (.tmp 8) 1),
 xi 1 (.push [(.string ⟨#[]⟩), xz, xz, xz, xz, xz, xz, xz, xz, xz, xz, xz, xz, xz, xz, xz, xz, xz, xz, xz, xz, xz, xz, xz, xz]),
 ⟨none, .store 25 (.tmp 1) (.tmp 10), none, [], false, false⟩,
 xm 2 11])
 (.seq (.region false [xi 12 (.build [xz, xz, xz, xz] [(0, 1, (.const (.int .i64 36))), (1, 1, (.const (.int .i64 43))), (2, 1, (.const (.int .i64 3))), (3, 1, (.const (.int .i64 2)))]),
 xi 13 (.build [xz, xz, xz, xz] [(0, 1, (.const (.int .i64 36))), (1, 1, (.const (.int .i64 48))), (2, 1, (.const (.int .i64 2))), (3, 1, (.const (.int .i64 1)))]),
 xi 14 (.buildSlice 4 2 (List.replicate 8 xz) [(0, 4, (.tmp 12)), (4, 4, (.tmp 13))]),
 xm 3 14])
 (.seq (.region false [xi 16 (.build [xz, xz] [(0, 1, (.const (.int .i64 220000))), (1, 1, (.const (.int .i64 220000)))]),
 xi 17 (.build [xz, xz, xz] [(0, 1, (.const (.int .i64 36))), (1, 2, (.tmp 16))]),
 xi 18 (.build [xz, xz] [(0, 1, (.const (.int .i64 329000))), (1, 1, (.const (.int .i64 329000)))]),
 xi 19 (.build [xz, xz, xz] [(0, 1, (.const (.int .i64 43))), (1, 2, (.tmp 18))]),
 xi 20 (.build [xz, xz] [(0, 1, (.const (.int .i64 440000))), (1, 1, (.const (.int .i64 440000)))]),
 xi 21 (.build [xz, xz, xz] [(0, 1, (.const (.int .i64 48))), (1, 2, (.tmp 20))]),
 xi 22 (.buildSlice 3 3 (List.replicate 9 xz) [(0, 3, (.tmp 17)), (3, 3, (.tmp 19)), (6, 3, (.tmp 21))]),
 xm 23 3,
 xi 24 (.call 67 [(.tmp 22), (.tmp 23)]),
 xm 15 24,
 xi 25 (.extract (.tmp 15) 0),
 xi 26 (.extract (.tmp 15) 1),
 xm 4 25,
 xm 5 26])
 (.seq (.region false [xi 28 (.load true 25 (.tmp 1)),
 xm 29 4,
 xi 30 (.call 22 [(.tmp 28), (.const (.int .i64 440000)), (.tmp 29)]),
 xm 27 30,
 xi 31 (.extract (.tmp 27) 0),
 xi 32 (.extract (.tmp 27) 1),
 xm 6 31,
 xm 7 32])
 (.seq (.region false [xm 33 2,
 xi 34 (.bin .eql (.tmp 33) (.const xz)),
 xm 35 34,
 xg 36 (.move (.tmp 5)) 35 true,
 xg 37 (.bin .eql (.tmp 36) (.const xz)) 35 true,
 xi 38 (.pick (.tmp 35) (.tmp 37) (.const (.bool false))),
 xm 39 38,
 xg 40 (.move (.tmp 7)) 39 true,
 xg 41 (.bin .eql (.tmp 40) (.const xz)) 39 true,
 xi 42 (.pick (.tmp 39) (.tmp 41) (.const (.bool false))),
 xm 43 42,
 xg 44 (.move (.tmp 6)) 43 true,
 xg 45 (.buildSlice 1 1 [xz] [(0, 1, (.const xz))]) 43 true,
 xg 46 (.call 23 [(.tmp 44), (.tmp 45)]) 43 true,
 xi 47 (.pick (.tmp 43) (.tmp 46) (.const (.bool false))),
 xm 0 47])
 (.ret)))))),
 [.tmp 0], .pure, 48⟩

def ef36 : EFun := ⟨
 .seq (.region false [xi 1 (.box (.tmp 0)),
 xi 2 (.move (.const xz))])
 (.seq (.seq (.region false [xi 7 (.fieldAddr 0 (.tmp 1)),
 xi 8 (.load false 1 (.tmp 7)),
 xi 9 (.call 68 [(.tmp 8)]),
 xi 10 (.un .not (.tmp 9))])
 (.cond (.tmp 10) (.seq (.region false [xi 2 (.move (.const (.int .i64 4)))])
 (.ret))
 (.skip)))
 (.seq (.region false [xi 3 (.move (.const xz)),
 xi 4 (.move (.const xz))])
 (.seq (.seq (.region false [xi 5 (.move (.const xz))])
 (.block 0 (.loop (some [1, 3, 4, 5]) (
 .seq (.seq (.region false [xm 11 5,
 xi 12 (.bin .lss (.tmp 11) (.const (.int .i64 12)))])
 (.cond (.tmp 12) (.skip)
 (.exit 0)))
 (.seq (.block 1 (.seq (.seq (.region false [xm 15 5,
 xi 16 (.fieldAddr 1 (.tmp 1)),
 xi 17 (.indexAddr (some 12) 1 (.tmp 16) (.tmp 15)),
 xi 18 (.load false 1 (.tmp 17)),
 xi 19 (.call 37 [(.tmp 18), (.const (.int .i64 (-48))), (.const (.int .i64 48))]),
 xi 20 (.un .not (.tmp 19)),
 xm 21 20,
 xg 22 (.move (.tmp 5)) 21 false,
 xg 23 (.fieldAddr 13 (.tmp 1)) 21 false,
 xg 24 (.indexAddr (some 12) 1 (.tmp 23) (.tmp 22)) 21 false,
 xg 25 (.load false 1 (.tmp 24)) 21 false,
 xg 26 (.call 37 [(.tmp 25), (.const (.int .i64 (-48))), (.const (.int .i64 48))]) 21 false,
 xg 27 (.un .not (.tmp 26)) 21 false,
 xi 28 (.pick (.tmp 21) (.const (.bool true)) (.tmp 27))])
 (.cond (.tmp 28) (.seq (.region false [xi 2 (.move (.const (.int .i64 2)))])
 (.ret))
 (.skip)))
 (.region true [xm 29 3,
 xm 30 5,
 xi 31 (.fieldAddr 1 (.tmp 1)),
 xi 32 (.indexAddr (some 12) 1 (.tmp 31) (.tmp 30)),
 xi 33 (.load false 1 (.tmp 32)),
 xi 34 (.bin .add (.tmp 29) (.tmp 33)),
 xm 35 4,
 xm 36 5,
 xi 37 (.fieldAddr 13 (.tmp 1)),
 xi 38 (.indexAddr (some 12) 1 (.tmp 37) (.tmp 36)),
 xi 39 (.load false 1 (.tmp 38)),
 xi 40 (.bin .add (.tmp 35) (.tmp 39)),
 xm 3 34,
 xm 4 40])))
 (.region false [xm 13 5,
 xi 14 (.bin .add (.tmp 13) (.const (.int .i64 1))),
 xm 5 14]))))))
 (.seq (.seq (.region false [xm 41 3,
 xi 42 (.bin .neq (.tmp 41) (.const (.int .i64 12))),
 xm 43 42,
 xg 44 (.move (.tmp 4)) 43 false,
 xg 45 (.bin .neq (.tmp 44) (.const xz)) 43 false,
 xi 46 (.pick (.tmp 43) (.const (.bool true)) (.tmp 45))])
 (.cond (.tmp 46) (.seq (.region false [xi 2 (.move (.const (.int .i64 25)))])
 (.ret))
 (.skip)))
 (.seq (.region false [xi 47 (.load true 25 (.tmp 1)),
 xi 48 (.call 69 [(.tmp 47)]),
 xi 6 (.push [xz, xz, xz]),
 ⟨none, .store 3 (.tmp 6) (.tmp 48), none, [], false, false⟩])
 (.seq (.seq (.region false [xi 49 (.indexAddr (some 3) 1 (.tmp 6) (.const xz)),
 xi 50 (.load false 1 (.tmp 49)),
 xi 51 (.indexAddr (some 3) 1 (.tmp 6) (.const (.int .i64 1))),
 xi 52 (.load false 1 (.tmp 51)),
 xi 53 (.indexAddr (some 3) 1 (.tmp 6) (.const (.int .i64 2))),
 xi 54 (.load false 1 (.tmp 53)),
 xi 55 (.max [(.tmp 50), (.tmp 52), (.tmp 54)]),
 xi 56 (.bin .gtr (.tmp 55) (.const (.int .i64 300)))])
 (.cond (.tmp 56) (.seq (.region false [xi 2 (.move (.const (.int .i64 8)))])
 (.ret))
 (.skip)))
 (.seq (.region false [xi 2 (.move (.const xz))])
 (.ret)))))))),
 [.tmp 2], .pure, 57⟩

def ef37 : EFun := ⟨
 .seq (.region false [xi 6 (.move (.const (.bool false)))])
 (.seq (.region false [xm 7 0,
 xm 8 1,
 xi 9 (.bin .geq (.tmp 7) (.tmp 8)),
 xm 10 9,
 xg 11 (.move (.tmp 0)) 10 true,
 xg 12 (.move (.tmp 2)) 10 true,
 xg 13 (.bin .leq (.tmp 11) (.tmp 12)) 10 true,
 xi 14 (.pick (.tmp 10) (.tmp 13) (.const (.bool false))),
 xm 6 14])
 (.ret)),
 [.tmp 6], .pure, 15⟩

def ef38 : EFun := ⟨
 .seq (.region false [xi 3 (.box (.tmp 0)),
 xi 5 (.box (.tmp 2)),
 xi 6 (.move (.const (.slice none 0 0))),
 xi 7 (.move (.const (.bool false)))])
 (.seq (.region false [xm 16 1,
 xi 17 (.call 70 [(.tmp 16)]),
 xm 8 17])
 (.seq (.region false [xi 9 (.move (.const (.slice none 0 0)))])
 (.seq (.seq (.region false [xi 10 (.move (.const xz))])
 (.block 0 (.loop (some [1, 3, 5, 8, 9, 10]) (
 .seq (.seq (.region false [xm 18 10,
 xm 19 8,
 xi 20 (.len false (.tmp 19)),
 xi 21 (.bin .lss (.tmp 18) (.tmp 20))])
 (.cond (.tmp 21) (.skip)
 (.exit 0)))
 (.seq (.block 1 (.seq (.region true [xi 25 (.load true 25 (.tmp 3)),
 xi 26 (.fieldAddr 0 (.tmp 5)),
 xi 27 (.load false 1 (.tmp 26)),
 xm 28 8,
 xm 29 10,
 xi 30 (.indexAddr none 1 (.tmp 28) (.tmp 29)),
 xi 31 (.load false 1 (.tmp 30)),
 ⟨(some 32), .call 71 [(.tmp 25), (.tmp 27), (.tmp 31)], none, [], false, true⟩,
 xm 24 32,
 xi 33 (.extract (.tmp 24) 0),
 xi 34 (.extract (.tmp 24) 1),
 xi 11 (.push [xz, xz]),
 ⟨none, .store 2 (.tmp 11) (.tmp 33), none, [], false, false⟩,
 xm 12 34])
 (.seq (.seq (.region false [xm 35 12,
 xi 36 (.bin .neq (.tmp 35) (.const xz))])
 (.cond (.tmp 36) (.seq (.region false [xi 6 (.move (.const (.slice none 0 0))),
 xi 7 (.move (.const (.bool false)))])
 (.ret))
 (.skip)))
 (.seq (.seq (.region true [xm 37 8,
 xm 38 10,
 xi 39 (.indexAddr none 1 (.tmp 37) (.tmp 38)),
 xi 40 (.load false 1 (.tmp 39)),
 xi 41 (.fieldAddr 1 (.tmp 5)),
 xi 42 (.load false 1 (.tmp 41)),
 xi 43 (.bin .eql (.tmp 40) (.tmp 42))])
 (.cond (.tmp 43) (.region true [xi 44 (.fieldAddr 0 (.tmp 11)),
 xi 45 (.load false 1 (.tmp 44)),
 xi 46 (.fieldAddr 2 (.tmp 5)),
 xi 47 (.load false 1 (.tmp 46)),
 xi 48 (.bin .add (.tmp 45) (.tmp 47)),
 xi 49 (.fieldAddr 1 (.tmp 11)),
 xi 50 (.load false 1 (.tmp 49)),
 xi 51 (.fieldAddr 2 (.tmp 5)),
 ⟨(some 52), .load false 1 (.tmp 51), none, [], true, false⟩,
 xi 53 (.bin .add (.tmp 50) (.tmp 52)),
 xi 54 (.fieldAddr 0 (.tmp 11)),
 ⟨none, .store 1 (.tmp 54) (.tmp 48), none, [8], false, false⟩,
 xi 55 (.fieldAddr 1 (.tmp 11)),
 ⟨none, .store 1 (.tmp 55) (.tmp 53), none, [], false, false⟩])
 (.skip)))
 (.region true [xm 56 9,
 xm 57 8,
 xm 58 10,
 xi 59 (.indexAddr none 1 (.tmp 57) (.tmp 58)),
 xi 60 (.load false 1 (.tmp 59)),
 xi 61 (.load true 2 (.tmp 11)),
 xi 62 (.build [xz, xz, xz] [(0, 1, (.tmp 60)), (1, 2, (.tmp 61))]),
 xi 63 (.buildSlice 3 1 [xz, xz, xz] [(0, 3, (.tmp 62))]),
 xi 64 (.append 3 24 (.tmp 56) (.tmp 63)),
 xm 9 64])))))
 (.region false [xm 22 10,
 xi 23 (.bin .add (.tmp 22) (.const (.int .i64 1))),
 xm 10 23]))))))
 (.seq (.region false [xm 66 9,
 xm 67 1,
 xi 68 (.call 67 [(.tmp 66), (.tmp 67)]),
 xm 65 68,
 xi 69 (.extract (.tmp 65) 0),
 xi 70 (.extract (.tmp 65) 1),
 xm 13 69,
 xm 14 70])
 (.seq (.seq (.region false [xm 71 14,
 xi 72 (.bin .neq (.tmp 71) (.const xz))])
 (.cond (.tmp 72) (.seq (.region false [xi 6 (.move (.const (.slice none 0 0))),
 xi 7 (.move (.const (.bool false)))])
 (.ret))
 (.skip)))
 (.seq (.region false [xi 74 (.load true 25 (.tmp 3)),
 xi 75 (.fieldAddr 0 (.tmp 5)),
 xi 76 (.load false 1 (.tmp 75)),
 xm 77 13,
 xi 78 (.call 22 [(.tmp 74), (.tmp 76), (.tmp 77)]),
 xm 73 78,
 xi 79 (.extract (.tmp 73) 0),
 xi 80 (.extract (.tmp 73) 1),
 xm 15 79,
 xm 14 80])
 (.seq (.region false [xm 81 15,
 xm 82 14,
 xi 83 (.bin .eql (.tmp 82) (.const xz)),
 xm 6 81,
 xm 7 83])
 (.ret)))))))),
 [.tmp 6, .tmp 7], .pure, 84⟩

def ef39 : EFun := ⟨
 .seq (.region false [xi 4 (.move (.const (.slice none 0 0))),
 xi 5 (.move (.const xz))])
 (.seq (.seq (.region false [xm 10 0,
 xm 11 1,
 xi 12 (.call 72 [(.tmp 10), (.tmp 11)]),
 xm 6 12])
 (.seq (.region false [xm 13 6,
 xi 14 (.bin .neq (.tmp 13) (.const xz))])
 (.cond (.tmp 14) (.seq (.region false [xm 15 6,
 xi 4 (.move (.const (.slice none 0 0))),
 xm 5 15])
 (.ret))
 (.skip))))
 (.seq (.region false [xi 7 (.move (.const (.slice none 0 0)))])
 (.seq (.seq (.region false [xm 16 0,
 xi 17 (.call 73 [(.tmp 16)]),
 xi 18 (.len false (.tmp 17)),
 xi 19 (.move (.const xz))])
 (.block 0 (.loop (some [0, 1, 7, 17, 18, 19]) (
 .seq (.region false [xi 20 (.bin .lss (.tmp 19) (.tmp 18))])
 (.seq (.cond (.tmp 20) (.skip)
 (.exit 0))
 (.seq (.block 1 (.seq (.region false [xi 21 (.indexAddr none 1 (.tmp 17) (.tmp 19)),
 xi 22 (.load false 1 (.tmp 21)),
 xm 9 22])
 (.seq (.region false [xm 23 0,
 xm 24 1,
 xm 25 9,
 xi 26 (.buildSlice 1 1 [xz] [(0, 1, (.tmp 25))]),
 xi 27 (.call 74 [(.tmp 23), (.tmp 24), (.tmp 26)]),
 xi 28 (.bin .eql (.tmp 27) (.const xz))])
 (.cond (.tmp 28) (.region false [xm 29 7,
 xm 30 9,
 xi 31 (.buildSlice 1 1 [xz] [(0, 1, (.tmp 30))]),
 xi 32 (.append 1 8 (.tmp 29) (.tmp 31)),
 xm 7 32])
 (.skip)))))
 (.region false [xi 33 (.bin .add (.tmp 19) (.const (.int .i64 1))),
 xm 19 33])))))))
 (.seq (.region false [xm 34 7,
 xm 4 34,
 xi 5 (.move (.const xz))])
 (.ret))))),
 [.tmp 4, .tmp 5], .pure, 35⟩

def ef41 : EFun := ⟨
 .seq (.region false [xi 4 (.move (.const (.slice none 0 0)))])
 (.seq (.region false [xi 5 (.move (.const (.slice none 0 0)))])
 (.seq (.seq (.region false [xi 6 (.move (.const xz))])
 (.block 0 (.loop (some [0, 1, 5, 6]) (
 .seq (.seq (.region false [xm 7 6,
 xm 8 0,
 xi 9 (.len false (.tmp 8)),
 xi 10 (.bin .lss (.tmp 7) (.tmp 9))])
 (.cond (.tmp 10) (.skip)
 (.exit 0)))
 (.seq (.block 1 (.seq (.region false [xm 13 0,
 xm 14 6,
 xi 15 (.indexAddr none 4 (.tmp 13) (.tmp 14)),
 xi 16 (.fieldAddr 0 (.tmp 15)),
 xi 17 (.load false 1 (.tmp 16)),
 xm 18 1,
 xi 19 (.bin .eql (.tmp 17) (.tmp 18)),
 xm 20 19,
 xg 21 (.move (.tmp 0)) 20 false,
 xg 22 (.move (.tmp 6)) 20 false,
 xg 23 (.indexAddr none 4 (.tmp 21) (.tmp 22)) 20 false,
 xg 24 (.fieldAddr 1 (.tmp 23)) 20 false,
 xg 25 (.load false 1 (.tmp 24)) 20 false,
 xg 26 (.move (.tmp 1)) 20 false,
 xg 27 (.bin .eql (.tmp 25) (.tmp 26)) 20 false,
 xi 28 (.pick (.tmp 20) (.const (.bool true)) (.tmp 27))])
 (.cond (.tmp 28) (.region false [xm 29 5,
 xm 30 6,
 xi 31 (.buildSlice 1 1 [xz] [(0, 1, (.tmp 30))]),
 xi 32 (.append 1 8 (.tmp 29) (.tmp 31)),
 xm 5 32])
 (.skip))))
 (.region false [xm 11 6,
 xi 12 (.bin .add (.tmp 11) (.const (.int .i64 1))),
 xm 6 12]))))))
 (.seq (.region false [xm 33 5,
 xm 4 33])
 (.ret)))),
 [.tmp 4], .pure, 34⟩

def ef42 : EFun := ⟨
 .seq (.region false [xi 2 (.move (.const (.bool false))),
 xi 3 (.push [xz, xz]),
 xi 4 (.move (.const xz))])
 (.seq (.seq (.region false [xm 8 0,
 xi 9 (.call 11 [(.tmp 8)]),
 xm 5 9])
 (.seq (.region false [xm 10 5,
 xi 11 (.bin .neq (.tmp 10) (.const xz))])
 (.cond (.tmp 11) (.seq (.region false [xi 12 (.build [xz, xz] []),
 xm 13 5,
 xi 2 (.move (.const (.bool false))),
 ⟨none, .store 2 (.tmp 3) (.tmp 12), none, [], false, false⟩,
 xm 4 13])
 (.ret))
 (.skip))))
 (.seq (.region false [xm 15 0,
 xi 16 (.call 76 [(.tmp 15)]),
 xm 14 16,
 xi 17 (.extract (.tmp 14) 0),
 xi 18 (.extract (.tmp 14) 1),
 xi 6 (.push [xz, xz]),
 ⟨none, .store 2 (.tmp 6) (.tmp 17), none, [], false, false⟩,
 xm 7 18])
 (.seq (.region true [xm 19 7,
 xi 20 (.un .not (.tmp 19)),
 xi 21 (.load true 2 (.tmp 6)),
 xm 2 20,
 ⟨none, .store 2 (.tmp 3) (.tmp 21), none, [], false, false⟩,
 xi 4 (.move (.const xz))])
 (.ret)))),
 [.tmp 2, .cell 3 true 2, .tmp 4], .pure, 22⟩

def ef43 : EFun := ⟨
 .seq (.region false [xi 2 (.move (.const (.slice none 0 0))),
 xi 3 (.move (.const xz))])
 (.seq (.seq (.region false [xm 16 0,
 xi 17 (.call 11 [(.tmp 16)]),
 xm 4 17])
 (.seq (.region false [xm 18 4,
 xi 19 (.bin .neq (.tmp 18) (.const xz))])
 (.cond (.tmp 19) (.seq (.region false [xm 20 4,
 xi 2 (.move (.const (.slice none 0 0))),
 xm 3 20])
 (.ret))
 (.skip))))
 (.seq (.seq (.region false [xm 22 0,
 xi 23 (.call 76 [(.tmp 22)]),
 xm 21 23,
 xi 24 (.extract (.tmp 21) 0),
 xi 25 (.extract (.tmp 21) 1),
 xi 5 (.push [xz, xz]),
 ⟨none, .store 2 (.tmp 5) (.tmp 24), none, [], false, false⟩,
 xm 6 25])
 (.seq (.region false [xm 26 6])
 (.cond (.tmp 26) (.seq (.region false [xi 2 (.move (.const (.slice none 0 0))),
 xi 3 (.move (.const (.int .i64 24)))])
 (.ret))
 (.skip))))
 (.seq (.region false [xm 27 0,
 xi 28 (.call 73 [(.tmp 27)]),
 xm 7 28])
 (.seq (.region false [xi 8 (.move (.const (.slice none 0 0)))])
 (.seq (.seq (.region false [xm 29 0,
 xi 30 (.len false (.tmp 29)),
 xi 31 (.move (.const xz))])
 (.block 0 (.loop (some [0, 7, 8, 30, 31]) (
 .seq (.region false [xi 32 (.bin .lss (.tmp 31) (.tmp 30))])
 (.seq (.cond (.tmp 32) (.skip)
 (.exit 0))
 (.seq (.block 1 (.seq (.region false [xm 33 31,
 xm 9 33])
 (.region false [xm 34 8,
 xm 35 9,
 xi 36 (.buildSlice 1 1 [xz] [(0, 1, (.tmp 35))]),
 xi 37 (.append 1 8 (.tmp 34) (.tmp 36)),
 xm 8 37])))
 (.region false [xi 38 (.bin .add (.tmp 31) (.const (.int .i64 1))),
 xm 31 38])))))))
 (.seq (.seq (.region false [xm 39 0,
 xi 40 (.len false (.tmp 39)),
 xi 41 (.bin .sub (.tmp 40) (.const (.int .i64 1))),
 xi 10 (.push [xz]),
 ⟨none, .store 1 (.tmp 10) (.tmp 41), none, [], false, false⟩])
 (.block 2 (.loop (some [0, 7, 8, 10]) (
 .seq (.seq (.region false [xi 42 (.load false 1 (.tmp 10)),
 xi 43 (.bin .geq (.tmp 42) (.const xz))])
 (.cond (.tmp 43) (.skip)
 (.exit 2)))
 (.seq (.block 3 (.seq (.region false [xi 11 (.move (.const (.slice none 0 0)))])
 (.seq (.seq (.region false [xm 46 8,
 xi 47 (.len false (.tmp 46)),
 xi 48 (.move (.const xz))])
 (.block 4 (.loop (some [0, 7, 8, 10, 11, 46, 47, 48]) (
 .seq (.region false [xi 49 (.bin .lss (.tmp 48) (.tmp 47))])
 (.seq (.cond (.tmp 49) (.skip)
 (.exit 4))
 (.seq (.block 5 (.seq (.region false [xi 50 (.indexAddr none 1 (.tmp 46) (.tmp 48)),
 xi 51 (.load false 1 (.tmp 50)),
 xm 13 51])
 (.seq (.region false [xm 52 13,
 xi 53 (.load false 1 (.tmp 10)),
 xi 54 (.bin .neq (.tmp 52) (.tmp 53))])
 (.cond (.tmp 54) (.region false [xm 55 11,
 xm 56 0,
 xm 57 13,
 xi 58 (.indexAddr none 4 (.tmp 56) (.tmp 57)),
 xi 59 (.load true 4 (.tmp 58)),
 xi 60 (.buildSlice 4 1 [xz, xz, xz, xz] [(0, 4, (.tmp 59))]),
 xi 61 (.append 4 32 (.tmp 55) (.tmp 60)),
 xm 11 61])
 (.skip)))))
 (.region false [xi 62 (.bin .add (.tmp 48) (.const (.int .i64 1))),
 xm 48 62])))))))
 (.seq (.region false [xm 64 11,
 xi 65 (.call 76 [(.tmp 64)]),
 xm 63 65,
 xi 66 (.extract (.tmp 63) 0),
 xi 67 (.extract (.tmp 63) 1),
 xi 14 (.push [xz, xz]),
 ⟨none, .store 2 (.tmp 14) (.tmp 66), none, [], false, false⟩,
 xm 15 67])
 (.seq (.region false [xm 68 15,
 xi 69 (.un .not (.tmp 68)),
 xm 70 69,
 xg 71 (.move (.tmp 11)) 70 true,
 xg 72 (.call 73 [(.tmp 71)]) 70 true,
 xg 73 (.move (.tmp 7)) 70 true,
 xg 74 (.call 77 [(.tmp 72), (.tmp 73)]) 70 true,
 xi 75 (.pick (.tmp 70) (.tmp 74) (.const (.bool false)))])
 (.cond (.tmp 75) (.region false [xm 76 8,
 xi 77 (.makeFunc (.func 79) [(.tmp 10)]),
 xi 78 (.call 78 [(.tmp 76), (.tmp 77)]),
 xm 8 78])
 (.skip)))))))
 (.seq (.seq (.region false [xi 79 (.load false 1 (.tmp 10))])
 (.region false [xi 10 (.push [xz]),
 ⟨none, .store 1 (.tmp 10) (.tmp 79), none, [], false, false⟩]))
 (.region false [xi 44 (.load false 1 (.tmp 10)),
 xi 45 (.bin .sub (.tmp 44) (.const (.int .i64 1))),
 ⟨none, .store 1 (.tmp 10) (.tmp 45), none, [], false, false⟩])))))))
 (.seq (.region false [xm 80 8,
 xm 2 80,
 xi 3 (.move (.const xz))])
 (.ret)))))))),
 [.tmp 2, .tmp 3], .pure, 81⟩

def ef47 : EFun := ⟨
 .seq (.region false [xi 1 (.box (.tmp 0)),
 xi 2 (.move (.const xz))])
 (.seq (.seq (.region false [xi 7 (.fieldAddr 0 (.tmp 1)),
 xi 8 (.load false 1 (.tmp 7)),
 xi 9 (.call 82 [(.tmp 8)]),
 xi 10 (.un .not (.tmp 9)),
 xm 11 10,
 xg 12 (.fieldAddr 1 (.tmp 1)) 11 false,
 xg 13 (.load false 1 (.tmp 12)) 11 false,
 xg 14 (.call 82 [(.tmp 13)]) 11 false,
 xg 15 (.un .not (.tmp 14)) 11 false,
 xi 16 (.pick (.tmp 11) (.const (.bool true)) (.tmp 15)),
 xm 17 16,
 xg 18 (.fieldAddr 2 (.tmp 1)) 17 false,
 xg 19 (.load false 1 (.tmp 18)) 17 false,
 xg 20 (.call 83 [(.tmp 19)]) 17 false,
 xg 21 (.un .not (.tmp 20)) 17 false,
 xi 22 (.pick (.tmp 17) (.const (.bool true)) (.tmp 21)),
 xm 23 22,
 xg 24 (.fieldAddr 3 (.tmp 1)) 23 false,
 xg 25 (.load false 1 (.tmp 24)) 23 false,
 xg 26 (.call 83 [(.tmp 25)]) 23 false,
 xg 27 (.un .not (.tmp 26)) 23 false,
 xi 28 (.pick (.tmp 23) (.const (.bool true)) (.tmp 27))])
 (.cond (.tmp 28) (.seq (.region false [xi 2 (.move (.const (.int .i64 2)))])
 (.ret))
 (.skip)))
 (.seq (.seq (.region false [xi 29 (.fieldAddr 1 (.tmp 1)),
 xi 30 (.load false 1 (.tmp 29)),
 xi 31 (.fieldAddr 0 (.tmp 1)),
 xi 32 (.load false 1 (.tmp 31)),
 xi 33 (.bin .leq (.tmp 30) (.tmp 32))])
 (.cond (.tmp 33) (.seq (.region false [xi 2 (.move (.const (.int .i64 9)))])
 (.ret))
 (.skip)))
 (.seq (.seq (.region false [xi 34 (.fieldAddr 2 (.tmp 1)),
 xi 35 (.load false 1 (.tmp 34)),
 xi 36 (.fieldAddr 3 (.tmp 1)),
 xi 37 (.load false 1 (.tmp 36)),
 xi 38 (.build [xz, xz] [(0, 1, (.tmp 35)), (1, 1, (.tmp 37))]),
 xi 39 (.move (.const xz))])
 (.block 0 (.loop (some [38, 39]) (
 .seq (.region false [xi 40 (.bin .lss (.tmp 39) (.const (.int .i64 2)))])
 (.seq (.cond (.tmp 40) (.skip)
 (.exit 0))
 (.seq (.block 1 (.seq (.region false [xi 41 (.index 2 1 false (.tmp 38) (.tmp 39)),
 xm 4 41])
 (.seq (.region false [xm 43 4,
 xi 44 (.call 84 [(.tmp 43)]),
 xm 42 44,
 xi 45 (.extract (.tmp 42) 0),
 xi 46 (.extract (.tmp 42) 1),
 xi 5 (.push [xz, xz, xz]),
 ⟨none, .store 3 (.tmp 5) (.tmp 45), none, [], false, false⟩,
 xm 6 46])
 (.seq (.region false [xm 47 6,
 xi 48 (.un .not (.tmp 47))])
 (.cond (.tmp 48) (.seq (.region false [xi 2 (.move (.const (.int .i64 15)))])
 (.ret))
 (.skip))))))
 (.region false [xi 49 (.bin .add (.tmp 39) (.const (.int .i64 1))),
 xm 39 49])))))))
 (.seq (.region false [xi 2 (.move (.const xz))])
 (.ret))))),
 [.tmp 2], .pure, 50⟩

def ef48 : EFun := ⟨
 .seq (.region false [xi 3 (.box (.tmp 1)),
 xi 4 (.move (.const (.bool false)))])
 (.seq (.region false [xm 5 0,
 xi 6 (.load true 4 (.tmp 3)),
 xi 7 (.call 85 [(.tmp 5), (.tmp 6)]),
 xi 8 (.bin .geq (.tmp 7) (.const xz)),
 xm 4 8])
 (.ret)),
 [.tmp 4], .pure, 9⟩

def ef49 : EFun := ⟨
 .seq (.region false [xi 1 (.box (.tmp 0)),
 xi 2 (.move (.const xz))])
 (.seq (.seq (.region false [xi 7 (.fieldAddr 0 (.tmp 1)),
 xi 8 (.load false 1 (.tmp 7)),
 xi 9 (.call 86 [(.tmp 8)]),
 xi 10 (.un .not (.tmp 9)),
 xm 11 10,
 xg 12 (.fieldAddr 1 (.tmp 1)) 11 false,
 xg 13 (.load false 1 (.tmp 12)) 11 false,
 xg 14 (.call 86 [(.tmp 13)]) 11 false,
 xg 15 (.un .not (.tmp 14)) 11 false,
 xi 16 (.pick (.tmp 11) (.const (.bool true)) (.tmp 15)),
 xm 17 16,
 xg 18 (.fieldAddr 2 (.tmp 1)) 17 false,
 xg 19 (.load false 1 (.tmp 18)) 17 false,
 xg 20 (.call 37 [(.tmp 19), (.const (.int .i64 1)), (.const (.int .i64 16))]) 17 false,
 xg 21 (.un .not (.tmp 20)) 17 false,
 xi 22 (.pick (.tmp 17) (.const (.bool true)) (.tmp 21)),
 xm 23 22,
 xg 24 (.fieldAddr 3 (.tmp 1)) 23 false,
 xg 25 (.load false 1 (.tmp 24)) 23 false,
 xg 26 (.call 37 [(.tmp 25), (.const (.int .i64 1)), (.const (.int .i64 16))]) 23 false,
 xg 27 (.un .not (.tmp 26)) 23 false,
 xi 28 (.pick (.tmp 23) (.const (.bool true)) (.tmp 27))])
 (.cond (.tmp 28) (.seq (.region false [xi 2 (.move (.const (.int .i64 2)))])
 (.ret))
 (.skip)))
 (.seq (.seq (.region false [xi 29 (.fieldAddr 1 (.tmp 1)),
 xi 30 (.load false 1 (.tmp 29)),
 xi 31 (.fieldAddr 0 (.tmp 1)),
 xi 32 (.load false 1 (.tmp 31)),
 xi 33 (.bin .leq (.tmp 30) (.tmp 32))])
 (.cond (.tmp 33) (.seq (.region false [xi 2 (.move (.const (.int .i64 9)))])
 (.ret))
 (.skip)))
 (.seq (.region false [xi 35 (.fieldAddr 2 (.tmp 1)),
 xi 36 (.load false 1 (.tmp 35)),
 xi 37 (.call 87 [(.tmp 36)]),
 xm 34 37,
 xi 38 (.extract (.tmp 34) 0),
 xi 39 (.extract (.tmp 34) 1),
 xi 3 (.push [xz, xz, xz]),
 ⟨none, .store 3 (.tmp 3) (.tmp 38), none, [], false, false⟩,
 xm 4 39])
 (.seq (.region false [xi 41 (.fieldAddr 3 (.tmp 1)),
 xi 42 (.load false 1 (.tmp 41)),
 xi 43 (.call 87 [(.tmp 42)]),
 xm 40 43,
 xi 44 (.extract (.tmp 40) 0),
 xi 45 (.extract (.tmp 40) 1),
 xi 5 (.push [xz, xz, xz]),
 ⟨none, .store 3 (.tmp 5) (.tmp 44), none, [], false, false⟩,
 xm 6 45])
 (.seq (.seq (.region false [xm 46 4,
 xi 47 (.un .not (.tmp 46)),
 xm 48 47,
 xg 49 (.move (.tmp 6)) 48 false,
 xg 50 (.un .not (.tmp 49)) 48 false,
 xi 51 (.pick (.tmp 48) (.const (.bool true)) (.tmp 50))])
 (.cond (.tmp 51) (.seq (.region false [xi 2 (.move (.const (.int .i64 15)))])
 (.ret))
 (.skip)))
 (.seq (.region false [xi 2 (.move (.const xz))])
 (.ret))))))),
 [.tmp 2], .pure, 52⟩

def ef50 : EFun := ⟨
 .seq (.region false [xi 2 (.box (.tmp 0)),
 xi 4 (.move (.const xz))])
 (.seq (.seq (.region false [xi 6 (.load true 25 (.tmp 2)),
 xi 7 (.call 88 [(.tmp 6)]),
 xm 5 7])
 (.seq (.region false [xm 8 5,
 xi 9 (.bin .neq (.tmp 8) (.const xz))])
 (.cond (.tmp 9) (.seq (.region false [xm 10 5,
 xm 4 10])
 (.ret))
 (.skip))))
 (.seq (.seq (.region false [xm 11 1,
 xi 12 (.call 54 [(.tmp 11), (.const (.int .i64 1)), (.const (.int .i64 1000000))]),
 xi 13 (.un .not (.tmp 12))])
 (.cond (.tmp 13) (.seq (.region false [xi 4 (.move (.const (.int .i64 2)))])
 (.ret))
 (.skip)))
 (.seq (.region false [xi 4 (.move (.const xz))])
 (.ret)))),
 [.tmp 4], .pure, 14⟩

def ef51 : EFun := ⟨
 .seq (.region false [xi 3 (.box (.tmp 0)),
 xi 5 (.box (.tmp 2)),
 xi 6 (.push [xz, xz]),
 xi 7 (.move (.const xz))])
 (.seq (.region true [xi 12 (.load true 25 (.tmp 3)),
 xm 13 1,
 ⟨(some 14), .call 90 [(.tmp 13)], none, [], false, true⟩,
 xi 15 (.buildSlice 1 1 [(.bool false)] [(0, 1, (.tmp 14))]),
 xi 16 (.call 89 [(.tmp 12), (.tmp 15)]),
 xm 11 16,
 xi 17 (.extract (.tmp 11) 0),
 xi 18 (.extract (.tmp 11) 1),
 xm 8 17,
 xm 9 18])
 (.seq (.seq (.region false [xm 19 9,
 xi 20 (.bin .neq (.tmp 19) (.const xz))])
 (.cond (.tmp 20) (.seq (.region false [xi 21 (.build [xz, xz] []),
 xm 22 9,
 ⟨none, .store 2 (.tmp 6) (.tmp 21), none, [], false, false⟩,
 xm 7 22])
 (.ret))
 (.skip)))
 (.seq (.seq (.region false [xi 23 (.load true 4 (.tmp 5)),
 xi 24 (.call 47 [(.tmp 23)]),
 xm 10 24])
 (.seq (.region false [xm 25 10,
 xi 26 (.bin .neq (.tmp 25) (.const xz))])
 (.cond (.tmp 26) (.seq (.region false [xi 27 (.build [xz, xz] []),
 xm 28 10,
 ⟨none, .store 2 (.tmp 6) (.tmp 27), none, [], false, false⟩,
 xm 7 28])
 (.ret))
 (.skip))))
 (.seq (.region false [xm 29 8,
 xm 30 1,
 xi 31 (.load true 4 (.tmp 5)),
 xi 32 (.call 91 [(.tmp 29), (.tmp 30), (.tmp 31)]),
 xi 33 (.extract (.tmp 32) 0),
 xi 34 (.extract (.tmp 32) 1),
 ⟨none, .store 2 (.tmp 6) (.tmp 33), none, [], false, false⟩,
 xm 7 34])
 (.ret))))),
 [.cell 6 true 2, .tmp 7], .pure, 35⟩

def ef54 : EFun := ⟨
 .seq (.region false [xi 6 (.move (.const (.bool false)))])
 (.seq (.region false [xm 7 0,
 xm 8 1,
 xi 9 (.bin .geq (.tmp 7) (.tmp 8)),
 xm 10 9,
 xg 11 (.move (.tmp 0)) 10 true,
 xg 12 (.move (.tmp 2)) 10 true,
 xg 13 (.bin .leq (.tmp 11) (.tmp 12)) 10 true,
 xi 14 (.pick (.tmp 10) (.tmp 13) (.const (.bool false))),
 xm 6 14])
 (.ret)),
 [.tmp 6], .pure, 15⟩

def ef66 : EFun := ⟨
 .seq (.region false [xi 2 (.push [(.string ⟨#[]⟩), xz, xz, xz, xz, xz, xz, xz, xz, xz, xz, xz, xz, xz, xz, xz, xz, xz, xz, xz, xz, xz, xz, xz, xz]),
 xi 3 (.move (.const xz))])
 (.seq (.region false [xm 5 0,
 xi 6 (.build [(.string ⟨#[]⟩), xz, xz, xz, xz, xz, xz, xz, xz, xz, xz, xz, xz, xz, xz, xz, xz, xz, xz, xz, xz, xz, xz, xz, xz] [(0, 1, (.tmp 5))]),
 xi 4 (.push [(.string ⟨#[]⟩), xz, xz, xz, xz, xz, xz, xz, xz, xz, xz, xz, xz, xz, xz, xz, xz, xz, xz, xz, xz, xz, xz, xz, xz]),
 ⟨none, .store 25 (.tmp 4) (.tmp 6), none, [], false, false⟩])
 (.seq (.seq (.region false [xm 7 0])
 (.block 0 (.seq (.region false [xi 10 (.bin .eql (.tmp 7) (.const (.string ⟨#[101, 113, 117, 97, 108]⟩))),
 xm 9 10])
 (.cond (.tmp 9) (.region false [xi 11 (.fieldAddr 1 (.tmp 4)),
 xi 12 (.buildSlice 1 12 (List.replicate 12 xz) [(0, 1, (.const xz)), (1, 1, (.const (.int .i64 1))), (2, 1, (.const (.int .i64 2))), (3, 1, (.const (.int .i64 3))), (4, 1, (.const (.int .i64 4))), (5, 1, (.const (.int .i64 5))), (6, 1, (.const (.int .i64 6))), (7, 1, (.const (.int .i64 7))), (8, 1, (.const (.int .i64 8))), (9, 1, (.const (.int .i64 9))), (10, 1, (.const (.int .i64 10))), (11, 1, (.const (.int .i64 11)))]),
 xi 13 (.call 106 [(.tmp 11), (.const (.int .i64 1)), (.tmp 12)])])
 (.seq (.region false [xi 15 (.bin .eql (.tmp 7) (.const (.string ⟨#[112, 121, 116, 104, 97, 103, 111, 114, 97, 115]⟩))),
 xm 14 15])
 (.cond (.tmp 14) (.region false [xi 16 (.fieldAddr 1 (.tmp 4)),
 xi 17 (.indexAddr (some 12) 1 (.tmp 16) (.const (.int .i64 8))),
 ⟨none, .store 1 (.tmp 17) (.const (.int .i64 12)), none, [], false, false⟩])
 (.seq (.region false [xi 19 (.bin .eql (.tmp 7) (.const (.string ⟨#[109, 101, 97, 110, 116, 111, 110, 101]⟩))),
 xm 18 19])
 (.cond (.tmp 18) (.seq (.region false [xi 20 (.fieldAddr 13 (.tmp 4)),
 xi 21 (.buildSlice 1 11 (List.replicate 11 xz) [(0, 1, (.const xz)), (1, 1, (.const (.int .i64 1))), (2, 1, (.const (.int .i64 2))), (3, 1, (.const (.int .i64 3))), (4, 1, (.const (.int .i64 4))), (5, 1, (.const (.int .i64 5))), (6, 1, (.const (.int .i64 6))), (7, 1, (.const (.int .i64 7))), (8, 1, (.const (.int .i64 9))), (9, 1, (.const (.int .i64 10))), (10, 1, (.const (.int .i64 11)))]),
 xi 22 (.call 106 [(.tmp 20), (.const (.int .i64 3)), (.tmp 21)])])
 (.region false [xi 23 (.fieldAddr 1 (.tmp 4)),
 xi 24 (.indexAddr (some 12) 1 (.tmp 23) (.const (.int .i64 8))),
 ⟨none, .store 1 (.tmp 24) (.const (.int .i64 12)), none, [], false, false⟩,
 xi 25 (.fieldAddr 13 (.tmp 4)),
 xi 26 (.indexAddr (some 12) 1 (.tmp 25) (.const (.int .i64 8))),
 ⟨none, .store 1 (.tmp 26) (.const (.int .i64 (-33))), none, [], false, false⟩]))
 (.seq (.region false [xi 28 (.bin .eql (.tmp 7) (.const (.string ⟨#[119, 101, 114, 99, 107, 109, 101, 105, 115, 116, 101, 114]⟩))),
 xm 27 28])
 (.cond (.tmp 27) (.region false [xi 29 (.fieldAddr 1 (.tmp 4)),
 xi 30 (.buildSlice 1 4 [xz, xz, xz, xz] [(0, 1, (.const xz)), (1, 1, (.const (.int .i64 1))), (2, 1, (.const (.int .i64 2))), (3, 1, (.const (.int .i64 5)))]),
 xi 31 (.call 106 [(.tmp 29), (.const (.int .i64 3)), (.tmp 30)])])
 (.seq (.region false [xi 33 (.bin .eql (.tmp 7) (.const (.string ⟨#[107, 105, 114, 110, 98, 101, 114, 103, 101, 114]⟩))),
 xm 32 33])
 (.cond (.tmp 32) (.seq (.region false [xi 34 (.fieldAddr 13 (.tmp 4)),
 xi 35 (.buildSlice 1 4 [xz, xz, xz, xz] [(0, 1, (.const xz)), (1, 1, (.const (.int .i64 1))), (2, 1, (.const (.int .i64 2))), (3, 1, (.const (.int .i64 3)))]),
 xi 36 (.call 106 [(.tmp 34), (.const (.int .i64 3)), (.tmp 35)])])
 (.region false [xi 37 (.fieldAddr 1 (.tmp 4)),
 xi 38 (.indexAddr (some 12) 1 (.tmp 37) (.const (.int .i64 6))),
 ⟨none, .store 1 (.tmp 38) (.const (.int .i64 12)), none, [], false, false⟩,
 xi 39 (.fieldAddr 13 (.tmp 4)),
 xi 40 (.indexAddr (some 12) 1 (.tmp 39) (.const (.int .i64 6))),
 ⟨none, .store 1 (.tmp 40) (.const (.int .i64 (-12))), none, [], false, false⟩]))
 (.seq (.region false [xi 42 (.bin .eql (.tmp 7) (.const (.string ⟨#[118, 97, 108, 108, 111, 116, 116, 105]⟩))),
 xm 41 42])
 (.cond (.tmp 41) (.region false [xi 43 (.fieldAddr 1 (.tmp 4)),
 xi 44 (.buildSlice 1 6 [xz, xz, xz, xz, xz, xz] [(0, 1, (.const (.int .i64 11))), (1, 1, (.const xz)), (2, 1, (.const (.int .i64 1))), (3, 1, (.const (.int .i64 2))), (4, 1, (.const (.int .i64 3))), (5, 1, (.const (.int .i64 4)))]),
 xi 45 (.call 106 [(.tmp 43), (.const (.int .i64 2)), (.tmp 44)])])
 (.seq (.region false [xi 47 (.bin .eql (.tmp 7) (.const (.string ⟨#[121, 111, 117, 110, 103]⟩))),
 xm 46 47])
 (.cond (.tmp 46) (.region false [xi 48 (.fieldAddr 1 (.tmp 4)),
 xi 49 (.buildSlice 1 6 [xz, xz, xz, xz, xz, xz] [(0, 1, (.const xz)), (1, 1, (.const (.int .i64 1))), (2, 1, (.const (.int .i64 2))), (3, 1, (.const (.int .i64 3))), (4, 1, (.const (.int .i64 4))), (5, 1, (.const (.int .i64 5)))]),
 xi 50 (.call 106 [(.tmp 48), (.const (.int .i64 2)), (.tmp 49)])])
 (.seq (.region false [xi 8 (.build [(.string ⟨#[]⟩), xz, xz, xz, xz, xz, xz, xz, xz, xz, xz, xz, xz, xz, xz, xz, xz, xz, xz, xz, xz, xz, xz, xz, xz] []),
 ⟨none, .store 25 (.tmp 2) (.tmp 8), none, [], false, false⟩,
 xi 3 (.move (.const (.int .i64 6)))])
 (.ret))))))))))))))))))
 (.seq (.region false [xi 51 (.load true 25 (.tmp 4)),
 ⟨none, .store 25 (.tmp 2) (.tmp 51), none, [], false, false⟩,
 xi 3 (.move (.const xz))])
 (.ret)))),
 [.cell 2 true 25, .tmp 3], .pure, 52⟩

def ef67 : EFun := ⟨
 .seq (.region false [xi 4 (.move (.const (.slice none 0 0))),
 xi 5 (.move (.const xz))])
 (.seq (.seq (.region false [xm 18 0,
 xi 19 (.call 107 [(.tmp 18)]),
 xm 6 19])
 (.seq (.region false [xm 20 6,
 xi 21 (.bin .neq (.tmp 20) (.const xz))])
 (.cond (.tmp 21) (.seq (.region false [xm 22 6,
 xi 4 (.move (.const (.slice none 0 0))),
 xm 5 22])
 (.ret))
 (.skip))))
 (.seq (.seq (.region false [xm 23 1,
 xi 24 (.call 11 [(.tmp 23)]),
 xm 7 24])
 (.seq (.region false [xm 25 7,
 xi 26 (.bin .neq (.tmp 25) (.const xz))])
 (.cond (.tmp 26) (.seq (.region false [xm 27 7,
 xi 4 (.move (.const (.slice none 0 0))),
 xm 5 27])
 (.ret))
 (.skip))))
 (.seq (.region false [xi 28 (.makeMap),
 xm 8 28])
 (.seq (.seq (.region false [xm 29 0,
 xi 30 (.len false (.tmp 29)),
 xi 31 (.move (.const xz))])
 (.block 0 (.loop (some [1, 8, 29, 30, 31]) (
 .seq (.region false [xi 32 (.bin .lss (.tmp 31) (.tmp 30))])
 (.seq (.cond (.tmp 32) (.skip)
 (.exit 0))
 (.seq (.block 1 (.seq (.region false [xi 33 (.indexAddr none 3 (.tmp 29) (.tmp 31)),
 xi 34 (.load true 3 (.tmp 33)),
 xi 10 (.push [xz, xz, xz]),
 ⟨none, .store 3 (.tmp 10) (.tmp 34), none, [], false, false⟩])
 (.region false [xm 35 8,
 xi 36 (.fieldAddr 0 (.tmp 10)),
 xi 37 (.load false 1 (.tmp 36)),
 xi 38 (.fieldAddr 1 (.tmp 10)),
 xi 39 (.load true 2 (.tmp 38)),
 ⟨none, .mapSet (.int .i64) (.tmp 35) (.tmp 37) (.tmp 39), none, [], false, false⟩])))
 (.region false [xi 40 (.bin .add (.tmp 31) (.const (.int .i64 1))),
 xm 31 40])))))))
 (.seq (.region false [xi 11 (.move (.const (.slice none 0 0)))])
 (.seq (.seq (.region false [xm 41 1,
 xi 42 (.len false (.tmp 41)),
 xi 43 (.move (.const xz))])
 (.block 2 (.loop (some [8, 11, 41, 42, 43]) (
 .seq (.region false [xi 44 (.bin .lss (.tmp 43) (.tmp 42))])
 (.seq (.cond (.tmp 44) (.skip)
 (.exit 2))
 (.seq (.block 3 (.seq (.region false [xi 45 (.indexAddr none 4 (.tmp 41) (.tmp 43)),
 xi 46 (.load true 4 (.tmp 45)),
 xi 13 (.push [xz, xz, xz, xz]),
 ⟨none, .store 4 (.tmp 13) (.tmp 46), none, [], false, false⟩])
 (.seq (.region false [xm 48 8,
 xi 49 (.fieldAddr 0 (.tmp 13)),
 xi 50 (.load false 1 (.tmp 49)),
 xi 51 (.mapGet (.int .i64) (.agg #[xz, xz]) true (.tmp 48) (.tmp 50)),
 xm 47 51,
 xi 52 (.extract (.tmp 47) 0),
 xi 53 (.extract (.tmp 47) 1),
 xi 14 (.push [xz, xz]),
 ⟨none, .store 2 (.tmp 14) (.tmp 52), none, [], false, false⟩,
 xm 15 53])
 (.seq (.region false [xm 55 8,
 xi 56 (.fieldAddr 1 (.tmp 13)),
 xi 57 (.load false 1 (.tmp 56)),
 xi 58 (.mapGet (.int .i64) (.agg #[xz, xz]) true (.tmp 55) (.tmp 57)),
 xm 54 58,
 xi 59 (.extract (.tmp 54) 0),
 xi 60 (.extract (.tmp 54) 1),
 xi 16 (.push [xz, xz]),
 ⟨none, .store 2 (.tmp 16) (.tmp 59), none, [], false, false⟩,
 xm 17 60])
 (.seq (.seq (.region false [xm 61 15,
 xi 62 (.un .not (.tmp 61)),
 xm 63 62,
 xg 64 (.move (.tmp 17)) 63 false,
 xg 65 (.un .not (.tmp 64)) 63 false,
 xi 66 (.pick (.tmp 63) (.const (.bool true)) (.tmp 65))])
 (.cond (.tmp 66) (.seq (.region false [xi 4 (.move (.const (.slice none 0 0))),
 xi 5 (.move (.const (.int .i64 6)))])
 (.ret))
 (.skip)))
 (.region false [xm 67 11,
 xi 68 (.load true 4 (.tmp 13)),
 xi 69 (.fieldAddr 3 (.tmp 13)),
 xi 70 (.load false 1 (.tmp 69)),
 xi 71 (.fieldAddr 0 (.tmp 16)),
 xi 72 (.load false 1 (.tmp 71)),
 xi 73 (.bin .mul (.tmp 70) (.tmp 72)),
 xi 74 (.fieldAddr 2 (.tmp 13)),
 xi 75 (.load false 1 (.tmp 74)),
 xi 76 (.fieldAddr 1 (.tmp 14)),
 xi 77 (.load false 1 (.tmp 76)),
 xi 78 (.bin .mul (.tmp 75) (.tmp 77)),
 xi 79 (.bin .sub (.tmp 73) (.tmp 78)),
 xi 80 (.fieldAddr 3 (.tmp 13)),
 xi 81 (.load false 1 (.tmp 80)),
 xi 82 (.fieldAddr 1 (.tmp 16)),
 xi 83 (.load false 1 (.tmp 82)),
 xi 84 (.bin .mul (.tmp 81) (.tmp 83)),
 xi 85 (.fieldAddr 2 (.tmp 13)),
 xi 86 (.load false 1 (.tmp 85)),
 xi 87 (.fieldAddr 0 (.tmp 14)),
 xi 88 (.load false 1 (.tmp 87)),
 xi 89 (.bin .mul (.tmp 86) (.tmp 88)),
 xi 90 (.bin .sub (.tmp 84) (.tmp 89)),
 xi 91 (.build [xz, xz] [(0, 1, (.tmp 79)), (1, 1, (.tmp 90))]),
 xi 92 (.build [xz, xz, xz, xz, xz, xz] [(0, 4, (.tmp 68)), (4, 2, (.tmp 91))]),
 xi 93 (.buildSlice 6 1 [xz, xz, xz, xz, xz, xz] [(0, 6, (.tmp 92))]),
 xi 94 (.append 6 48 (.tmp 67) (.tmp 93)),
 xm 11 94]))))))
 (.region false [xi 95 (.bin .add (.tmp 43) (.const (.int .i64 1))),
 xm 43 95])))))))
 (.seq (.region false [xm 96 11,
 xm 4 96,
 xi 5 (.move (.const xz))])
 (.ret)))))))),
 [.tmp 4, .tmp 5], .pure, 97⟩

def ef68 : EFun := ⟨
 .seq (.region false [xi 2 (.move (.const (.bool false)))])
 (.seq (.seq (.region false [xm 4 0,
 xi 5 (.len true (.tmp 4)),
 xi 6 (.bin .eql (.tmp 5) (.const xz)),
 xm 7 6,
 xg 8 (.move (.tmp 0)) 7 false,
 xg 9 (.len true (.tmp 8)) 7 false,
 xg 10 (.bin .gtr (.tmp 9) (.const (.int .i64 12))) 7 false,
 xi 11 (.pick (.tmp 7) (.const (.bool true)) (.tmp 10)),
 xm 12 11,
 xg 13 (.move (.tmp 0)) 12 false,
 xg 14 (.strIndex (.tmp 13) (.const xz)) 12 false,
 xg 15 (.call 108 [(.tmp 14)]) 12 false,
 xg 16 (.un .not (.tmp 15)) 12 false,
 xi 17 (.pick (.tmp 12) (.const (.bool true)) (.tmp 16))])
 (.cond (.tmp 17) (.seq (.region false [xi 2 (.move (.const (.bool false)))])
 (.ret))
 (.skip)))
 (.seq (.seq (.region false [xi 3 (.move (.const xz))])
 (.block 0 (.loop (some [0, 3]) (
 .seq (.seq (.region false [xm 18 3,
 xm 19 0,
 xi 20 (.len true (.tmp 19)),
 xi 21 (.bin .lss (.tmp 18) (.tmp 20))])
 (.cond (.tmp 21) (.skip)
 (.exit 0)))
 (.seq (.block 1 (.seq (.region false [xm 24 0,
 xm 25 3,
 xi 26 (.strIndex (.tmp 24) (.tmp 25)),
 xi 27 (.call 108 [(.tmp 26)]),
 xi 28 (.un .not (.tmp 27)),
 xm 29 28,
 xg 30 (.move (.tmp 0)) 29 true,
 xg 31 (.move (.tmp 3)) 29 true,
 xg 32 (.strIndex (.tmp 30) (.tmp 31)) 29 true,
 xg 33 (.call 109 [(.tmp 32)]) 29 true,
 xg 34 (.un .not (.tmp 33)) 29 true,
 xi 35 (.pick (.tmp 29) (.tmp 34) (.const (.bool false))),
 xm 36 35,
 xg 37 (.move (.tmp 0)) 36 true,
 xg 38 (.move (.tmp 3)) 36 true,
 xg 39 (.strIndex (.tmp 37) (.tmp 38)) 36 true,
 xg 40 (.bin .neq (.tmp 39) (.const (.int .u8 45))) 36 true,
 xi 41 (.pick (.tmp 36) (.tmp 40) (.const (.bool false)))])
 (.cond (.tmp 41) (.seq (.region false [xi 2 (.move (.const (.bool false)))])
 (.ret))
 (.skip))))
 (.region false [xm 22 3,
 xi 23 (.bin .add (.tmp 22) (.const (.int .i64 1))),
 xm 3 23]))))))
 (.seq (.region false [xi 2 (.move (.const (.bool true)))])
 (.ret)))),
 [.tmp 2], .pure, 42⟩

def ef69 : EFun := ⟨
 .seq (.region false [xi 1 (.box (.tmp 0)),
 xi 2 (.push [xz, xz, xz])])
 (.seq (.region true [xi 8 (.load true 25 (.tmp 1)),
 ⟨(some 9), .call 110 [(.tmp 8), (.const xz)], none, [], false, true⟩,
 xi 10 (.load true 25 (.tmp 1)),
 ⟨(some 11), .call 110 [(.tmp 10), (.const xz)], none, [], false, true⟩,
 xi 3 (.push [xz, xz, xz]),
 xi 4 (.push [xz, xz, xz]),
 ⟨none, .store 3 (.tmp 3) (.tmp 9), none, [], false, false⟩,
 ⟨none, .store 3 (.tmp 4) (.tmp 11), none, [], false, false⟩])
 (.seq (.seq (.region false [xi 5 (.move (.const (.int .i64 1)))])
 (.block 0 (.loop (some [1, 2, 3, 4, 5]) (
 .seq (.seq (.region false [xm 12 5,
 xi 13 (.bin .lss (.tmp 12) (.const (.int .i64 12)))])
 (.cond (.tmp 13) (.skip)
 (.exit 0)))
 (.seq (.block 1 (.seq (.region false [xi 16 (.load true 25 (.tmp 1)),
 xm 17 5,
 xi 18 (.call 110 [(.tmp 16), (.tmp 17)]),
 xi 6 (.push [xz, xz, xz]),
 ⟨none, .store 3 (.tmp 6) (.tmp 18), none, [], false, false⟩])
 (.seq (.region false [xi 7 (.move (.const xz))])
 (.block 2 (.loop (some [1, 2, 3, 4, 5, 6, 7]) (
 .seq (.seq (.region false [xm 19 7,
 xi 20 (.bin .lss (.tmp 19) (.const (.int .i64 3)))])
 (.cond (.tmp 20) (.skip)
 (.exit 2)))
 (.seq (.block 3 (.region true [xm 23 7,
 xm 24 7,
 xm 25 7,
 xi 26 (.indexAddr (some 3) 1 (.tmp 3) (.tmp 25)),
 xi 27 (.load false 1 (.tmp 26)),
 xm 28 7,
 xi 29 (.indexAddr (some 3) 1 (.tmp 6) (.tmp 28)),
 xi 30 (.load false 1 (.tmp 29)),
 xi 31 (.min [(.tmp 27), (.tmp 30)]),
 xm 32 7,
 xi 33 (.indexAddr (some 3) 1 (.tmp 4) (.tmp 32)),
 ⟨(some 34), .load false 1 (.tmp 33), none, [], true, false⟩,
 xm 35 7,
 xi 36 (.indexAddr (some 3) 1 (.tmp 6) (.tmp 35)),
 ⟨(some 37), .load false 1 (.tmp 36), none, [], true, false⟩,
 xi 38 (.max [(.tmp 34), (.tmp 37)]),
 xi 39 (.indexAddr (some 3) 1 (.tmp 3) (.tmp 23)),
 ⟨none, .store 1 (.tmp 39) (.tmp 31), none, [11, 14], false, false⟩,
 xi 40 (.indexAddr (some 3) 1 (.tmp 4) (.tmp 24)),
 ⟨none, .store 1 (.tmp 40) (.tmp 38), none, [], false, false⟩]))
 (.region false [xm 21 7,
 xi 22 (.bin .add (.tmp 21) (.const (.int .i64 1))),
 xm 7 22]))))))))
 (.region false [xm 14 5,
 xi 15 (.bin .add (.tmp 14) (.const (.int .i64 1))),
 xm 5 15]))))))
 (.seq (.region false [xi 41 (.indexAddr (some 3) 1 (.tmp 4) (.const xz)),
 xi 42 (.load false 1 (.tmp 41)),
 xi 43 (.indexAddr (some 3) 1 (.tmp 3) (.const xz)),
 xi 44 (.load false 1 (.tmp 43)),
 xi 45 (.bin .sub (.tmp 42) (.tmp 44)),
 xi 46 (.indexAddr (some 3) 1 (.tmp 4) (.const (.int .i64 1))),
 xi 47 (.load false 1 (.tmp 46)),
 xi 48 (.indexAddr (some 3) 1 (.tmp 3) (.const (.int .i64 1))),
 xi 49 (.load false 1 (.tmp 48)),
 xi 50 (.bin .sub (.tmp 47) (.tmp 49)),
 xi 51 (.indexAddr (some 3) 1 (.tmp 4) (.const (.int .i64 2))),
 xi 52 (.load false 1 (.tmp 51)),
 xi 53 (.indexAddr (some 3) 1 (.tmp 3) (.const (.int .i64 2))),
 xi 54 (.load false 1 (.tmp 53)),
 xi 55 (.bin .sub (.tmp 52) (.tmp 54)),
 xi 56 (.build [xz, xz, xz] [(0, 1, (.tmp 45)), (1, 1, (.tmp 50)), (2, 1, (.tmp 55))]),
 ⟨none, .store 3 (.tmp 2) (.tmp 56), none, [], false, false⟩])
 (.ret)))),
 [.cell 2 true 3], .pure, 57⟩

def ef70 : EFun := ⟨
 .seq (.region false [xi 2 (.move (.const (.slice none 0 0)))])
 (.seq (.region false [xi 3 (.move (.const (.slice none 0 0)))])
 (.seq (.seq (.region false [xi 4 (.move (.const xz))])
 (.block 0 (.loop (some [0, 3, 4]) (
 .seq (.seq (.region false [xm 5 4,
 xi 6 (.bin .leq (.tmp 5) (.const (.int .i64 87)))])
 (.cond (.tmp 6) (.skip)
 (.exit 0)))
 (.seq (.block 1 (.seq (.region false [xm 9 0,
 xm 10 4,
 xi 11 (.call 41 [(.tmp 9), (.tmp 10)]),
 xi 12 (.len false (.tmp 11)),
 xi 13 (.bin .gtr (.tmp 12) (.const xz))])
 (.cond (.tmp 13) (.region false [xm 14 3,
 xm 15 4,
 xi 16 (.buildSlice 1 1 [xz] [(0, 1, (.tmp 15))]),
 xi 17 (.append 1 8 (.tmp 14) (.tmp 16)),
 xm 3 17])
 (.skip))))
 (.region false [xm 7 4,
 xi 8 (.bin .add (.tmp 7) (.const (.int .i64 1))),
 xm 4 8]))))))
 (.seq (.region false [xm 18 3,
 xm 2 18])
 (.ret)))),
 [.tmp 2], .pure, 19⟩

def ef71 : EFun := ⟨
 .seq (.region false [xi 3 (.box (.tmp 0)),
 xi 6 (.push [xz, xz]),
 xi 7 (.move (.const xz))])
 (.seq (.region true [xi 11 (.load true 25 (.tmp 3)),
 xm 12 1,
 ⟨(some 13), .call 90 [(.tmp 12)], none, [], false, true⟩,
 xm 14 2,
 ⟨(some 15), .call 82 [(.tmp 14)], none, [], false, true⟩,
 xi 16 (.buildSlice 1 2 [(.bool false), (.bool false)] [(0, 1, (.tmp 13)), (1, 1, (.tmp 15))]),
 xi 17 (.call 89 [(.tmp 11), (.tmp 16)]),
 xm 10 17,
 xi 18 (.extract (.tmp 10) 0),
 xi 19 (.extract (.tmp 10) 1),
 xm 8 18,
 xm 9 19])
 (.seq (.seq (.region false [xm 20 9,
 xi 21 (.bin .neq (.tmp 20) (.const xz))])
 (.cond (.tmp 21) (.seq (.region false [xi 22 (.build [xz, xz] []),
 xm 23 9,
 ⟨none, .store 2 (.tmp 6) (.tmp 22), none, [], false, false⟩,
 xm 7 23])
 (.ret))
 (.skip)))
 (.seq (.region false [xm 24 8,
 xm 25 1,
 xm 26 2,
 xi 27 (.call 111 [(.tmp 24), (.tmp 25), (.tmp 26)]),
 xi 28 (.extract (.tmp 27) 0),
 xi 29 (.extract (.tmp 27) 1),
 ⟨none, .store 2 (.tmp 6) (.tmp 28), none, [], false, false⟩,
 xm 7 29])
 (.ret)))),
 [.cell 6 true 2, .tmp 7], .pure, 30⟩

def ef72 : EFun := ⟨
 .seq (.region false [xi 2 (.box (.tmp 0)),
 xi 4 (.move (.const xz))])
 (.seq (.seq (.region false [xi 6 (.load false 1 (.tmp 2)),
 xi 7 (.call 11 [(.tmp 6)]),
 xm 5 7])
 (.seq (.region false [xm 8 5,
 xi 9 (.bin .neq (.tmp 8) (.const xz))])
 (.cond (.tmp 9) (.seq (.region false [xm 10 5,
 xm 4 10])
 (.ret))
 (.skip))))
 (.seq (.seq (.region false [xm 11 1,
 xi 12 (.makeFunc (.func 113) [(.tmp 2)]),
 xi 13 (.call 112 [(.tmp 11), (.tmp 12)])])
 (.cond (.tmp 13) (.seq (.region false [xi 4 (.move (.const (.int .i64 6)))])
 (.ret))
 (.skip)))
 (.seq (.seq (.region false [xm 14 1,
 xi 15 (.call 114 [(.tmp 14)]),
 xi 16 (.un .not (.tmp 15))])
 (.cond (.tmp 16) (.seq (.region false [xi 4 (.move (.const (.int .i64 9)))])
 (.ret))
 (.skip)))
 (.seq (.region false [xi 4 (.move (.const xz))])
 (.ret))))),
 [.tmp 4], .pure, 17⟩

def ef73 : EFun := ⟨
 .seq (.region false [xi 2 (.move (.const (.slice none 0 0)))])
 (.seq (.region false [xi 3 (.move (.const (.slice none 0 0)))])
 (.seq (.seq (.region false [xm 6 0,
 xi 7 (.len false (.tmp 6)),
 xi 8 (.move (.const xz))])
 (.block 0 (.loop (some [3, 6, 7, 8]) (
 .seq (.region false [xi 9 (.bin .lss (.tmp 8) (.tmp 7))])
 (.seq (.cond (.tmp 9) (.skip)
 (.exit 0))
 (.seq (.block 1 (.seq (.region false [xi 10 (.indexAddr none 4 (.tmp 6) (.tmp 8)),
 xi 11 (.load true 4 (.tmp 10)),
 xi 5 (.push [xz, xz, xz, xz]),
 ⟨none, .store 4 (.tmp 5) (.tmp 11), none, [], false, false⟩])
 (.region false [xm 12 3,
 xi 13 (.fieldAddr 0 (.tmp 5)),
 xi 14 (.load false 1 (.tmp 13)),
 xi 15 (.fieldAddr 1 (.tmp 5)),
 xi 16 (.load false 1 (.tmp 15)),
 xi 17 (.buildSlice 1 2 [xz, xz] [(0, 1, (.tmp 14)), (1, 1, (.tmp 16))]),
 xi 18 (.append 1 8 (.tmp 12) (.tmp 17)),
 xm 3 18])))
 (.region false [xi 19 (.bin .add (.tmp 8) (.const (.int .i64 1))),
 xm 8 19])))))))
 (.seq (.region false [xm 20 3,
 xi 21 (.call 115 [(.tmp 20)])])
 (.seq (.region false [xm 22 3,
 xi 23 (.call 116 [(.tmp 22)]),
 xm 2 23])
 (.ret))))),
 [.tmp 2], .pure, 24⟩

def ef74 : EFun := ⟨
 .seq (.region false [xi 6 (.move (.const xz))])
 (.seq (.region false [xi 7 (.move (.const (.bool false)))])
 (.seq (.seq (.region false [xm 14 0,
 xi 15 (.len false (.tmp 14)),
 xi 16 (.move (.const xz))])
 (.block 0 (.loop (some [1, 2, 7, 14, 15, 16]) (
 .seq (.region false [xi 17 (.bin .lss (.tmp 16) (.tmp 15))])
 (.seq (.cond (.tmp 17) (.skip)
 (.exit 0))
 (.seq (.block 1 (.seq (.region false [xm 18 16,
 xi 19 (.indexAddr none 4 (.tmp 14) (.tmp 16)),
 xi 20 (.load true 4 (.tmp 19)),
 xi 9 (.push [xz, xz, xz, xz]),
 xm 8 18,
 ⟨none, .store 4 (.tmp 9) (.tmp 20), none, [], false, false⟩])
 (.seq (.region true [xm 21 2,
 xi 22 (.fieldAddr 0 (.tmp 9)),
 xi 23 (.load false 1 (.tmp 22)),
 ⟨(some 24), .call 117 [(.tmp 21), (.tmp 23)], none, [], false, true⟩,
 xm 25 2,
 xi 26 (.fieldAddr 1 (.tmp 9)),
 xi 27 (.load false 1 (.tmp 26)),
 xi 28 (.call 117 [(.tmp 25), (.tmp 27)]),
 xm 10 24,
 xm 11 28])
 (.seq (.region false [xm 30 1,
 xm 31 8,
 xi 32 (.call 118 [(.tmp 30), (.tmp 31)]),
 xm 29 32,
 xi 33 (.extract (.tmp 29) 0),
 xi 34 (.extract (.tmp 29) 1),
 xm 12 33,
 xm 13 34])
 (.seq (.region false [xm 35 13,
 xi 36 (.un .not (.tmp 35))])
 (.cond (.tmp 36) (.region false [xm 37 7,
 xm 38 37,
 xg 39 (.move (.tmp 10)) 38 false,
 xg 40 (.move (.tmp 11)) 38 false,
 xg 41 (.eqBool true (.tmp 39) (.tmp 40)) 38 false,
 xi 42 (.pick (.tmp 38) (.const (.bool true)) (.tmp 41)),
 xm 7 42])
 (.seq (.region false [xm 43 10,
 xi 44 (.un .not (.tmp 43)),
 xm 45 44,
 xg 46 (.move (.tmp 11)) 45 true,
 xg 47 (.un .not (.tmp 46)) 45 true,
 xi 48 (.pick (.tmp 45) (.tmp 47) (.const (.bool false)))])
 (.cond (.tmp 48) (.seq (.region false [xi 6 (.move (.const (.int .i64 14)))])
 (.ret))
 (.skip)))))))))
 (.region false [xi 49 (.bin .add (.tmp 16) (.const (.int .i64 1))),
 xm 16 49])))))))
 (.seq (.seq (.region false [xm 50 7])
 (.cond (.tmp 50) (.seq (.region false [xi 6 (.move (.const (.int .i64 13)))])
 (.ret))
 (.skip)))
 (.seq (.region false [xi 6 (.move (.const xz))])
 (.ret))))),
 [.tmp 6], .pure, 51⟩

def ef76 : EFun := ⟨
 .seq (.region false [xi 2 (.push [xz, xz]),
 xi 3 (.move (.const (.bool false)))])
 (.seq (.region false [xm 10 0,
 xi 11 (.call 73 [(.tmp 10)]),
 xm 4 11])
 (.seq (.seq (.region false [xm 12 4,
 xi 13 (.len false (.tmp 12)),
 xi 14 (.move (.const xz))])
 (.block 0 (.loop (some [0, 2, 4, 12, 13, 14]) (
 .seq (.region false [xi 15 (.bin .lss (.tmp 14) (.tmp 13))])
 (.seq (.cond (.tmp 15) (.skip)
 (.exit 0))
 (.seq (.block 1 (.seq (.region false [xm 16 14,
 xi 17 (.indexAddr none 1 (.tmp 12) (.tmp 14)),
 xi 18 (.load false 1 (.tmp 17)),
 xm 5 16,
 xm 6 18])
 (.seq (.region false [xm 19 0,
 xm 20 6,
 xi 21 (.call 122 [(.tmp 19), (.tmp 20)]),
 xm 7 21])
 (.seq (.region false [xm 22 4,
 xm 23 5,
 xi 24 (.bin .add (.tmp 23) (.const (.int .i64 1))),
 xi 25 (.slice 1 (.tmp 22) (some (.tmp 24)) none),
 xi 26 (.len false (.tmp 25)),
 xi 27 (.move (.const xz))])
 (.block 2 (.loop (some [0, 2, 4, 6, 7, 12, 13, 14, 25, 26, 27]) (
 .seq (.region false [xi 28 (.bin .lss (.tmp 27) (.tmp 26))])
 (.seq (.cond (.tmp 28) (.skip)
 (.exit 2))
 (.seq (.block 3 (.seq (.region false [xi 29 (.indexAddr none 1 (.tmp 25) (.tmp 27)),
 xi 30 (.load false 1 (.tmp 29)),
 xm 9 30])
 (.seq (.region false [xm 31 7,
 xm 32 0,
 xm 33 9,
 xi 34 (.call 122 [(.tmp 32), (.tmp 33)]),
 xi 35 (.call 77 [(.tmp 31), (.tmp 34)])])
 (.cond (.tmp 35) (.seq (.region false [xm 36 6,
 xm 37 9,
 xi 38 (.build [xz, xz] [(0, 1, (.tmp 36)), (1, 1, (.tmp 37))]),
 ⟨none, .store 2 (.tmp 2) (.tmp 38), none, [], false, false⟩,
 xi 3 (.move (.const (.bool true)))])
 (.ret))
 (.skip)))))
 (.region false [xi 39 (.bin .add (.tmp 27) (.const (.int .i64 1))),
 xm 27 39]))))))))))
 (.region false [xi 40 (.bin .add (.tmp 14) (.const (.int .i64 1))),
 xm 14 40])))))))
 (.seq (.region false [xi 41 (.build [xz, xz] []),
 ⟨none, .store 2 (.tmp 2) (.tmp 41), none, [], false, false⟩,
 xi 3 (.move (.const (.bool false)))])
 (.ret)))),
 [.cell 2 true 2, .tmp 3], .pure, 42⟩

def ef77 : EFun := ⟨
 .seq (.region false [xi 4 (.move (.const (.bool false)))])
 (.seq (.seq (.region false [xm 6 0,
 xi 7 (.len false (.tmp 6)),
 xm 8 1,
 xi 9 (.len false (.tmp 8)),
 xi 10 (.bin .neq (.tmp 7) (.tmp 9))])
 (.cond (.tmp 10) (.seq (.region false [xi 4 (.move (.const (.bool false)))])
 (.ret))
 (.skip)))
 (.seq (.seq (.region false [xm 11 0,
 xi 12 (.len false (.tmp 11)),
 xi 13 (.move (.const xz))])
 (.block 0 (.loop (some [0, 1, 12, 13]) (
 .seq (.region false [xi 14 (.bin .lss (.tmp 13) (.tmp 12))])
 (.seq (.cond (.tmp 14) (.skip)
 (.exit 0))
 (.seq (.block 1 (.seq (.region false [xm 15 13,
 xm 5 15])
 (.seq (.region true [xm 16 0,
 xm 17 5,
 xi 18 (.indexAddr none 1 (.tmp 16) (.tmp 17)),
 xi 19 (.load false 1 (.tmp 18)),
 xm 20 1,
 xm 21 5,
 xi 22 (.indexAddr none 1 (.tmp 20) (.tmp 21)),
 xi 23 (.load false 1 (.tmp 22)),
 xi 24 (.bin .neq (.tmp 19) (.tmp 23))])
 (.cond (.tmp 24) (.seq (.region false [xi 4 (.move (.const (.bool false)))])
 (.ret))
 (.skip)))))
 (.region false [xi 25 (.bin .add (.tmp 13) (.const (.int .i64 1))),
 xm 13 25])))))))
 (.seq (.region false [xi 4 (.move (.const (.bool true)))])
 (.ret)))),
 [.tmp 4], .pure, 26⟩

def ef78 : EFun := ⟨
 .seq (.region false [xi 4 (.move (.const (.slice none 0 0)))])
 (.seq (.region false [xm 8 0,
 xm 9 1,
 xi 10 (.call 123 [(.tmp 8), (.tmp 9)]),
 xm 5 10])
 (.seq (.seq (.region false [xm 11 5,
 xi 12 (.bin .eql (.tmp 11) (.const (.int .i64 (-1))))])
 (.cond (.tmp 12) (.seq (.region false [xm 13 0,
 xm 4 13])
 (.ret))
 (.skip)))
 (.seq (.seq (.region false [xm 14 5,
 xi 15 (.bin .add (.tmp 14) (.const (.int .i64 1))),
 xm 6 15])
 (.block 0 (.loop (some [0, 1, 5, 6]) (
 .seq (.seq (.region false [xm 16 6,
 xm 17 0,
 xi 18 (.len false (.tmp 17)),
 xi 19 (.bin .lss (.tmp 16) (.tmp 18))])
 (.cond (.tmp 19) (.skip)
 (.exit 0)))
 (.seq (.block 1 (.seq (.region false [xm 22 0,
 xm 23 6,
 xi 24 (.indexAddr none 1 (.tmp 22) (.tmp 23)),
 xi 25 (.load false 1 (.tmp 24)),
 xm 7 25])
 (.seq (.region false [xm 26 1,
 xm 27 7,
 xi 28 (.callVal (.tmp 26) [(.tmp 27)]),
 xi 29 (.un .not (.tmp 28))])
 (.cond (.tmp 29) (.seq (.region false [xm 30 0,
 xm 31 5,
 xm 32 7,
 xi 33 (.indexAddr none 1 (.tmp 30) (.tmp 31)),
 ⟨none, .store 1 (.tmp 33) (.tmp 32), none, [], false, false⟩])
 (.region false [xm 34 5,
 xi 35 (.bin .add (.tmp 34) (.const (.int .i64 1))),
 xm 5 35]))
 (.skip)))))
 (.region false [xm 20 6,
 xi 21 (.bin .add (.tmp 20) (.const (.int .i64 1))),
 xm 6 21]))))))
 (.seq (.region false [xm 36 0,
 xm 37 5,
 xi 38 (.slice 1 (.tmp 36) (some (.tmp 37)) none),
 ⟨none, .clear 1 [xz] (.tmp 38), none, [], false, false⟩])
 (.seq (.region false [xm 39 0,
 xm 40 5,
 xi 41 (.slice 1 (.tmp 39) none (some (.tmp 40))),
 xm 4 41])
 (.ret)))))),
 [.tmp 4], .trunc, 42⟩

def ef79 : EFun := ⟨
 .seq (.region false [xi 3 (.move (.const (.bool false)))])
 (.seq (.region false [xm 4 0,
 xi 5 (.load false 1 (.tmp 1)),
 xi 6 (.bin .eql (.tmp 4) (.tmp 5)),
 xm 3 6])
 (.ret)),
 [.tmp 3], .pure, 7⟩

def ef82 : EFun := ⟨
 .seq (.region false [xi 2 (.move (.const (.bool false)))])
 (.seq (.region false [xm 3 0,
 xi 4 (.bin .geq (.tmp 3) (.const xz)),
 xm 5 4,
 xg 6 (.move (.tmp 0)) 5 true,
 xg 7 (.bin .leq (.tmp 6) (.const (.int .i64 87))) 5 true,
 xi 8 (.pick (.tmp 5) (.tmp 7) (.const (.bool false))),
 xm 2 8])
 (.ret)),
 [.tmp 2], .pure, 9⟩

def ef83 : EFun := ⟨
 .seq (.region false [xi 2 (.move (.const (.bool false)))])
 (.seq (.region false [xm 3 0,
 xi 4 (.bin .geq (.tmp 3) (.const (.int .i64 1))),
 xm 5 4,
 xg 6 (.move (.tmp 0)) 5 true,
 xg 7 (.bin .leq (.tmp 6) (.const (.int .i64 16))) 5 true,
 xi 8 (.pick (.tmp 5) (.tmp 7) (.const (.bool false))),
 xm 2 8])
 (.ret)),
 [.tmp 2], .pure, 9⟩

def ef84 : EFun := ⟨
 .seq (.region false [xi 2 (.push [xz, xz, xz]),
 xi 3 (.move (.const (.bool false)))])
 (.seq (.region false [xi 4 (.push [xz, xz, xz])])
 (.seq (.seq (.region false [xi 7 (.build [xz, xz, xz] [(0, 1, (.const (.int .i64 2))), (1, 1, (.const (.int .i64 3))), (2, 1, (.const (.int .i64 5)))]),
 xi 8 (.move (.const xz))])
 (.block 0 (.loop (some [0, 2, 4, 7, 8]) (
 .seq (.region false [xi 9 (.bin .lss (.tmp 8) (.const (.int .i64 3)))])
 (.seq (.cond (.tmp 9) (.skip)
 (.exit 0))
 (.seq (.block 1 (.seq (.region false [xm 10 8,
 xi 11 (.index 3 1 false (.tmp 7) (.tmp 8)),
 xm 5 10,
 xm 6 11])
 (.block 2 (.loop (some [0, 2, 4, 5, 6, 7, 8]) (
 .seq (.seq (.region false [xm 12 0,
 xm 13 6,
 xi 14 (.bin .rem (.tmp 12) (.tmp 13)),
 xi 15 (.bin .eql (.tmp 14) (.const xz))])
 (.cond (.tmp 15) (.skip)
 (.exit 2)))
 (.seq (.block 3 (.region false [xm 19 5,
 xi 20 (.indexAddr (some 3) 1 (.tmp 4) (.tmp 19)),
 xi 21 (.load false 1 (.tmp 20)),
 xi 22 (.bin .add (.tmp 21) (.const (.int .i64 12))),
 xi 23 (.indexAddr (some 3) 1 (.tmp 4) (.tmp 19)),
 ⟨none, .store 1 (.tmp 23) (.tmp 22), none, [], false, false⟩]))
 (.region false [xm 16 0,
 xm 17 6,
 xi 18 (.bin .quo (.tmp 16) (.tmp 17)),
 xm 0 18])))))))
 (.region false [xi 24 (.bin .add (.tmp 8) (.const (.int .i64 1))),
 xm 8 24])))))))
 (.seq (.region false [xi 25 (.load true 3 (.tmp 4)),
 xm 26 0,
 xi 27 (.bin .eql (.tmp 26) (.const (.int .i64 1))),
 ⟨none, .store 3 (.tmp 2) (.tmp 25), none, [], false, false⟩,
 xm 3 27])
 (.ret)))),
 [.cell 2 true 3, .tmp 3], .pure, 28⟩

def ef85 : EFun := ⟨
 .seq (.region false [xi 3 (.box (.tmp 1)),
 xi 4 (.move (.const xz))])
 (.seq (.seq (.region false [xm 6 0,
 xi 7 (.len false (.tmp 6)),
 xi 8 (.move (.const xz))])
 (.block 0 (.loop (some [0, 3, 7, 8]) (
 .seq (.region false [xi 9 (.bin .lss (.tmp 8) (.tmp 7))])
 (.seq (.cond (.tmp 9) (.skip)
 (.exit 0))
 (.seq (.block 1 (.seq (.region false [xm 10 8,
 xm 5 10])
 (.seq (.region true [xi 11 (.load true 4 (.tmp 3)),
 xm 12 0,
 xm 13 5,
 xi 14 (.indexAddr none 4 (.tmp 12) (.tmp 13)),
 xi 15 (.load true 4 (.tmp 14)),
 xi 16 (.eqAgg false [(.int .i64), (.int .i64), (.int .i64), (.int .i64)] (.tmp 11) (.tmp 15))])
 (.cond (.tmp 16) (.seq (.region false [xm 17 5,
 xm 4 17])
 (.ret))
 (.skip)))))
 (.region false [xi 18 (.bin .add (.tmp 8) (.const (.int .i64 1))),
 xm 8 18])))))))
 (.seq (.region false [xi 4 (.move (.const (.int .i64 (-1))))])
 (.ret))),
 [.tmp 4], .pure, 19⟩

def ef86 : EFun := ⟨
 .seq (.region false [xi 2 (.move (.const (.bool false)))])
 (.seq (.region false [xm 3 0,
 xi 4 (.call 37 [(.tmp 3), (.const xz), (.const (.int .i64 87))]),
 xm 2 4])
 (.ret)),
 [.tmp 2], .pure, 5⟩

def ef87 : EFun := ⟨
 .seq (.region false [xi 2 (.push [xz, xz, xz]),
 xi 3 (.move (.const (.bool false)))])
 (.seq (.region false [xi 4 (.push [xz, xz, xz])])
 (.seq (.seq (.region false [xi 5 (.move (.const xz))])
 (.block 0 (.loop (some [0, 2, 4, 5]) (
 .seq (.seq (.region false [xm 7 5,
 xi 8 (.bin .lss (.tmp 7) (.const (.int .i64 3)))])
 (.cond (.tmp 8) (.skip)
 (.exit 0)))
 (.seq (.block 1 (.seq (.region false [xi 11 (.build [xz, xz, xz] [(0, 1, (.const (.int .i64 2))), (1, 1, (.const (.int .i64 3))), (2, 1, (.const (.int .i64 5)))]),
 xm 12 5,
 xi 13 (.index 3 1 false (.tmp 11) (.tmp 12)),
 xm 6 13])
 (.block 2 (.loop (some [0, 2, 4, 5, 6]) (
 .seq (.seq (.region false [xm 14 0,
 xm 15 6,
 xi 16 (.bin .rem (.tmp 14) (.tmp 15)),
 xi 17 (.bin .eql (.tmp 16) (.const xz))])
 (.cond (.tmp 17) (.skip)
 (.exit 2)))
 (.block 3 (.region true [xm 18 5,
 xm 19 0,
 xm 20 6,
 xi 21 (.bin .quo (.tmp 19) (.tmp 20)),
 xm 22 5,
 xi 23 (.indexAddr (some 3) 1 (.tmp 4) (.tmp 22)),
 xi 24 (.load false 1 (.tmp 23)),
 xi 25 (.bin .add (.tmp 24) (.const (.int .i64 12))),
 xm 0 21,
 xi 26 (.indexAddr (some 3) 1 (.tmp 4) (.tmp 18)),
 ⟨none, .store 1 (.tmp 26) (.tmp 25), none, [], false, false⟩])))))))
 (.region false [xm 9 5,
 xi 10 (.bin .add (.tmp 9) (.const (.int .i64 1))),
 xm 5 10]))))))
 (.seq (.region false [xi 27 (.load true 3 (.tmp 4)),
 xm 28 0,
 xi 29 (.bin .eql (.tmp 28) (.const (.int .i64 1))),
 ⟨none, .store 3 (.tmp 2) (.tmp 27), none, [], false, false⟩,
 xm 3 29])
 (.ret)))),
 [.cell 2 true 3, .tmp 3], .pure, 30⟩

def ef88 : EFun := ⟨
 .seq (.region false [xi 1 (.box (.tmp 0)),
 xi 2 (.move (.const xz))])
 (.seq (.region false [xi 3 (.move (.func 127))])
 (.seq (.block 0 (.seq (.region false [xi 5 (.fieldAddr 0 (.tmp 1)),
 xi 6 (.load false 1 (.tmp 5)),
 xi 7 (.call 128 [(.tmp 6)]),
 xi 8 (.un .not (.tmp 7)),
 xm 4 8])
 (.cond (.tmp 4) (.seq (.region false [xi 2 (.move (.const (.int .i64 4)))])
 (.ret))
 (.seq (.region false [xi 10 (.fieldAddr 1 (.tmp 1)),
 xi 11 (.arrSlice 12 1 (.tmp 10) none none),
 xm 12 3,
 xi 13 (.call 112 [(.tmp 11), (.tmp 12)]),
 xm 14 13,
 xg 15 (.fieldAddr 13 (.tmp 1)) 14 false,
 xg 16 (.arrSlice 12 1 (.tmp 15) none none) 14 false,
 xg 17 (.move (.tmp 3)) 14 false,
 xg 18 (.call 112 [(.tmp 16), (.tmp 17)]) 14 false,
 xi 19 (.pick (.tmp 14) (.const (.bool true)) (.tmp 18)),
 xm 9 19])
 (.cond (.tmp 9) (.seq (.region false [xi 2 (.move (.const (.int .i64 2)))])
 (.ret))
 (.seq (.region false [xi 21 (.fieldAddr 1 (.tmp 1)),
 xi 22 (.arrSlice 12 1 (.tmp 21) none none),
 xi 23 (.call 129 [(.tmp 22)]),
 xi 24 (.bin .neq (.tmp 23) (.const (.int .i64 12))),
 xm 25 24,
 xg 26 (.fieldAddr 13 (.tmp 1)) 25 false,
 xg 27 (.arrSlice 12 1 (.tmp 26) none none) 25 false,
 xg 28 (.call 129 [(.tmp 27)]) 25 false,
 xg 29 (.bin .neq (.tmp 28) (.const xz)) 25 false,
 xi 30 (.pick (.tmp 25) (.const (.bool true)) (.tmp 29)),
 xm 20 30])
 (.cond (.tmp 20) (.seq (.region false [xi 2 (.move (.const (.int .i64 25)))])
 (.ret))
 (.seq (.region false [xi 32 (.load true 25 (.tmp 1)),
 xi 33 (.call 130 [(.tmp 32)]),
 xi 34 (.call 131 [(.tmp 33)]),
 xi 35 (.bin .gtr (.tmp 34) (.const (.int .i64 300))),
 xm 31 35])
 (.cond (.tmp 31) (.seq (.region false [xi 2 (.move (.const (.int .i64 8)))])
 (.ret))
 (.skip))))))))))
 (.seq (.region false [xi 2 (.move (.const xz))])
 (.ret)))),
 [.tmp 2], .pure, 36⟩

def ef89 : EFun := ⟨
 .seq (.region false [xi 2 (.box (.tmp 0)),
 xi 4 (.move (.const (.pointer none))),
 xi 5 (.move (.const xz))])
 (.seq (.seq (.region false [xi 7 (.load true 25 (.tmp 2)),
 xi 8 (.call 88 [(.tmp 7)]),
 xm 6 8])
 (.seq (.region false [xm 9 6,
 xi 10 (.bin .neq (.tmp 9) (.const xz))])
 (.cond (.tmp 10) (.seq (.region false [xm 11 6,
 xi 4 (.move (.const (.pointer none))),
 xm 5 11])
 (.ret))
 (.skip))))
 (.seq (.seq (.region false [xm 12 1,
 xi 13 (.call 132 [(.tmp 12), (.const (.bool false))])])
 (.cond (.tmp 13) (.seq (.region false [xi 4 (.move (.const (.pointer none))),
 xi 5 (.move (.const (.int .i64 2)))])
 (.ret))
 (.skip)))
 (.seq (.region false [xi 14 (.load true 25 (.tmp 2)),
 xi 15 (.call 130 [(.tmp 14)]),
 xm 4 15,
 xi 5 (.move (.const xz))])
 (.ret)))),
 [.tmp 4, .tmp 5], .pure, 16⟩

def ef90 : EFun := ⟨
 .seq (.region false [xi 2 (.move (.const (.bool false)))])
 (.seq (.region false [xm 3 0,
 xi 4 (.bin .geq (.tmp 3) (.const (.int .i64 1))),
 xm 5 4,
 xg 6 (.move (.tmp 0)) 5 true,
 xg 7 (.bin .leq (.tmp 6) (.const (.int .i64 1000000))) 5 true,
 xi 8 (.pick (.tmp 5) (.tmp 7) (.const (.bool false))),
 xm 2 8])
 (.ret)),
 [.tmp 2], .pure, 9⟩

def ef91 : EFun := ⟨
 .seq (.region false [xi 5 (.box (.tmp 2)),
 xi 6 (.push [xz, xz]),
 xi 7 (.move (.const xz))])
 (.seq (.region false [xm 12 0,
 xm 13 1,
 xi 14 (.fieldAddr 3 (.tmp 5)),
 xi 15 (.load false 1 (.tmp 14)),
 xi 16 (.bin .mul (.tmp 13) (.tmp 15)),
 xi 17 (.fieldAddr 1 (.tmp 5)),
 xi 18 (.load false 1 (.tmp 17)),
 xi 19 (.call 111 [(.tmp 12), (.tmp 16), (.tmp 18)]),
 xm 11 19,
 xi 20 (.extract (.tmp 11) 0),
 xi 21 (.extract (.tmp 11) 1),
 xi 8 (.push [xz, xz]),
 ⟨none, .store 2 (.tmp 8) (.tmp 20), none, [], false, false⟩,
 xm 9 21])
 (.seq (.seq (.region false [xm 22 9,
 xi 23 (.bin .neq (.tmp 22) (.const xz))])
 (.cond (.tmp 23) (.seq (.region false [xi 24 (.build [xz, xz] []),
 xm 25 9,
 ⟨none, .store 2 (.tmp 6) (.tmp 24), none, [], false, false⟩,
 xm 7 25])
 (.ret))
 (.skip)))
 (.seq (.region false [xm 27 0,
 xm 28 1,
 xi 29 (.fieldAddr 2 (.tmp 5)),
 xi 30 (.load false 1 (.tmp 29)),
 xi 31 (.bin .mul (.tmp 28) (.tmp 30)),
 xi 32 (.fieldAddr 0 (.tmp 5)),
 xi 33 (.load false 1 (.tmp 32)),
 xi 34 (.call 111 [(.tmp 27), (.tmp 31), (.tmp 33)]),
 xm 26 34,
 xi 35 (.extract (.tmp 26) 0),
 xi 36 (.extract (.tmp 26) 1),
 xi 10 (.push [xz, xz]),
 ⟨none, .store 2 (.tmp 10) (.tmp 35), none, [], false, false⟩,
 xm 9 36])
 (.seq (.seq (.region false [xm 37 9,
 xi 38 (.bin .neq (.tmp 37) (.const xz))])
 (.cond (.tmp 38) (.seq (.region false [xi 39 (.build [xz, xz] []),
 xm 40 9,
 ⟨none, .store 2 (.tmp 6) (.tmp 39), none, [], false, false⟩,
 xm 7 40])
 (.ret))
 (.skip)))
 (.seq (.region false [xi 41 (.fieldAddr 0 (.tmp 8)),
 xi 42 (.load false 1 (.tmp 41)),
 xi 43 (.fieldAddr 1 (.tmp 10)),
 xi 44 (.load false 1 (.tmp 43)),
 xi 45 (.bin .sub (.tmp 42) (.tmp 44)),
 xi 46 (.fieldAddr 1 (.tmp 8)),
 xi 47 (.load false 1 (.tmp 46)),
 xi 48 (.fieldAddr 0 (.tmp 10)),
 xi 49 (.load false 1 (.tmp 48)),
 xi 50 (.bin .sub (.tmp 47) (.tmp 49)),
 xi 51 (.build [xz, xz] [(0, 1, (.tmp 45)), (1, 1, (.tmp 50))]),
 ⟨none, .store 2 (.tmp 6) (.tmp 51), none, [], false, false⟩,
 xi 7 (.move (.const xz))])
 (.ret)))))),
 [.cell 6 true 2, .tmp 7], .pure, 52⟩

def ef106 : EFun := ⟨
 .seq (.region false [xm 8 2,
 xi 9 (.len false (.tmp 8)),
 xi 10 (.move (.const xz))])
 (.block 0 (.loop (some [0, 1, 8, 9, 10]) (
 .seq (.region false [xi 11 (.bin .lss (.tmp 10) (.tmp 9))])
 (.seq (.cond (.tmp 11) (.skip)
 (.exit 0))
 (.seq (.block 1 (.seq (.region false [xi 12 (.indexAddr none 1 (.tmp 8) (.tmp 10)),
 xi 13 (.load false 1 (.tmp 12)),
 xm 7 13])
 (.region false [xm 14 0,
 xm 15 7,
 xm 16 1,
 xi 17 (.nilCheck (.tmp 14)),
 xi 18 (.indexAddr (some 12) 1 (.tmp 17) (.tmp 15)),
 ⟨none, .store 1 (.tmp 18) (.tmp 16), none, [], false, false⟩])))
 (.region false [xi 19 (.bin .add (.tmp 10) (.const (.int .i64 1))),
 xm 10 19])))))),
 [], .trunc, 20⟩

end Go.Abs.Z
