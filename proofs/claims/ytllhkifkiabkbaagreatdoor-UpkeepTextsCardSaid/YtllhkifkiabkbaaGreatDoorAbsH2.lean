/- The functions, compiled for the abstract evaluator. Written by wip/abs/Print.lean. -/
import Derived.Test.YtllhkifkiabkbaaGreatDoorAbsH0
set_option linter.unusedSimpArgs false
set_option linter.unusedVariables false
set_option maxRecDepth 100000
set_option maxHeartbeats 0
namespace Go.Abs.H
open Go Go.Abs
def ef210 : EFun := ⟨
 .seq (.region false [xi 6 (.move (.const (.bool false)))])
 (.seq (.region false [xm 11 1,
 xi 12 (.bin .add (.tmp 11) (.const (.int .i64 1))),
 xm 7 12])
 (.seq (.seq (.region false [xi 8 (.move (.const xz))])
 (.block 0 (.loop (some [0, 1, 2, 7, 8]) (
 .seq (.seq (.region false [xm 13 8,
 xi 14 (.bin .lss (.tmp 13) (.const (.int .i64 5)))])
 (.cond (.tmp 14) (.skip)
 (.exit 0)))
 (.seq (.block 1 (.seq (.block 2 (.loop (some [0, 1, 2, 7, 8]) (
 .seq (.seq (.region true [xm 17 7,
 xm 18 2,
 xi 19 (.bin .lss (.tmp 17) (.tmp 18)),
 xm 20 19,
 xg 21 (.move (.tmp 0)) 20 true,
 xg 22 (.move (.tmp 7)) 20 true,
 xg 23 (.indexAddr none 1 (.tmp 21) (.tmp 22)) 20 true,
 xg 24 (.load false 1 (.tmp 23)) 20 true,
 xg 25 (.move (.tmp 0)) 20 true,
 xg 26 (.move (.tmp 7)) 20 true,
 xg 27 (.bin .sub (.tmp 26) (.const (.int .i64 1))) 20 true,
 xg 28 (.indexAddr none 1 (.tmp 25) (.tmp 27)) 20 true,
 xg 29 (.load false 1 (.tmp 28)) 20 true,
 xg 30 (.call 177 [(.tmp 24), (.tmp 29)]) 20 true,
 xg 31 (.un .not (.tmp 30)) 20 true,
 xi 32 (.pick (.tmp 20) (.tmp 31) (.const (.bool false)))])
 (.cond (.tmp 32) (.skip)
 (.exit 2)))
 (.block 3 (.region false [xm 33 7,
 xi 34 (.bin .add (.tmp 33) (.const (.int .i64 1))),
 xm 7 34])))))
 (.seq (.seq (.region false [xm 35 7,
 xm 36 2,
 xi 37 (.bin .eql (.tmp 35) (.tmp 36))])
 (.cond (.tmp 37) (.seq (.region false [xi 6 (.move (.const (.bool true)))])
 (.ret))
 (.skip)))
 (.seq (.seq (.region false [xm 38 2,
 xm 39 1,
 xi 40 (.bin .sub (.tmp 38) (.tmp 39)),
 xi 41 (.bin .lss (.tmp 40) (.const (.int .i64 50)))])
 (.cond (.tmp 41) (.seq (.region false [xi 6 (.move (.const (.bool false)))])
 (.ret))
 (.skip)))
 (.seq (.region true [xm 42 0,
 xm 43 7,
 xm 44 0,
 xm 45 7,
 xi 46 (.bin .sub (.tmp 45) (.const (.int .i64 1))),
 xm 47 0,
 xm 48 7,
 xi 49 (.bin .sub (.tmp 48) (.const (.int .i64 1))),
 xi 50 (.indexAddr none 1 (.tmp 47) (.tmp 49)),
 xi 51 (.load false 1 (.tmp 50)),
 xm 52 0,
 xm 53 7,
 xi 54 (.indexAddr none 1 (.tmp 52) (.tmp 53)),
 xi 55 (.load false 1 (.tmp 54)),
 xi 56 (.indexAddr none 1 (.tmp 42) (.tmp 43)),
 ⟨none, .store 1 (.tmp 56) (.tmp 51), none, [], false, false⟩,
 xi 57 (.indexAddr none 1 (.tmp 44) (.tmp 46)),
 ⟨none, .store 1 (.tmp 57) (.tmp 55), none, [], false, false⟩])
 (.seq (.seq (.region false [xm 58 7,
 xm 59 1,
 xi 60 (.bin .sub (.tmp 58) (.tmp 59)),
 xi 61 (.bin .geq (.tmp 60) (.const (.int .i64 2)))])
 (.cond (.tmp 61) (.seq (.region false [xm 62 7,
 xi 63 (.bin .sub (.tmp 62) (.const (.int .i64 1))),
 xm 9 63])
 (.block 4 (.loop (some [0, 1, 2, 7, 8, 9]) (
 .seq (.seq (.region false [xm 64 9,
 xi 65 (.bin .geq (.tmp 64) (.const (.int .i64 1)))])
 (.cond (.tmp 65) (.skip)
 (.exit 4)))
 (.seq (.block 5 (.seq (.seq (.region true [xm 68 0,
 xm 69 9,
 xi 70 (.indexAddr none 1 (.tmp 68) (.tmp 69)),
 xi 71 (.load false 1 (.tmp 70)),
 xm 72 0,
 xm 73 9,
 xi 74 (.bin .sub (.tmp 73) (.const (.int .i64 1))),
 xi 75 (.indexAddr none 1 (.tmp 72) (.tmp 74)),
 xi 76 (.load false 1 (.tmp 75)),
 xi 77 (.call 177 [(.tmp 71), (.tmp 76)]),
 xi 78 (.un .not (.tmp 77))])
 (.cond (.tmp 78) (.exit 4)
 (.skip)))
 (.region true [xm 79 0,
 xm 80 9,
 xm 81 0,
 xm 82 9,
 xi 83 (.bin .sub (.tmp 82) (.const (.int .i64 1))),
 xm 84 0,
 xm 85 9,
 xi 86 (.bin .sub (.tmp 85) (.const (.int .i64 1))),
 xi 87 (.indexAddr none 1 (.tmp 84) (.tmp 86)),
 xi 88 (.load false 1 (.tmp 87)),
 xm 89 0,
 xm 90 9,
 xi 91 (.indexAddr none 1 (.tmp 89) (.tmp 90)),
 xi 92 (.load false 1 (.tmp 91)),
 xi 93 (.indexAddr none 1 (.tmp 79) (.tmp 80)),
 ⟨none, .store 1 (.tmp 93) (.tmp 88), none, [], false, false⟩,
 xi 94 (.indexAddr none 1 (.tmp 81) (.tmp 83)),
 ⟨none, .store 1 (.tmp 94) (.tmp 92), none, [], false, false⟩])))
 (.region false [xm 66 9,
 xi 67 (.bin .sub (.tmp 66) (.const (.int .i64 1))),
 xm 9 67]))))))
 (.skip)))
 (.seq (.region false [xm 95 2,
 xm 96 7,
 xi 97 (.bin .sub (.tmp 95) (.tmp 96)),
 xi 98 (.bin .geq (.tmp 97) (.const (.int .i64 2)))])
 (.cond (.tmp 98) (.seq (.region false [xm 99 7,
 xi 100 (.bin .add (.tmp 99) (.const (.int .i64 1))),
 xm 10 100])
 (.block 6 (.loop (some [0, 1, 2, 7, 8, 10]) (
 .seq (.seq (.region false [xm 101 10,
 xm 102 2,
 xi 103 (.bin .lss (.tmp 101) (.tmp 102))])
 (.cond (.tmp 103) (.skip)
 (.exit 6)))
 (.seq (.block 7 (.seq (.seq (.region true [xm 106 0,
 xm 107 10,
 xi 108 (.indexAddr none 1 (.tmp 106) (.tmp 107)),
 xi 109 (.load false 1 (.tmp 108)),
 xm 110 0,
 xm 111 10,
 xi 112 (.bin .sub (.tmp 111) (.const (.int .i64 1))),
 xi 113 (.indexAddr none 1 (.tmp 110) (.tmp 112)),
 xi 114 (.load false 1 (.tmp 113)),
 xi 115 (.call 177 [(.tmp 109), (.tmp 114)]),
 xi 116 (.un .not (.tmp 115))])
 (.cond (.tmp 116) (.exit 6)
 (.skip)))
 (.region true [xm 117 0,
 xm 118 10,
 xm 119 0,
 xm 120 10,
 xi 121 (.bin .sub (.tmp 120) (.const (.int .i64 1))),
 xm 122 0,
 xm 123 10,
 xi 124 (.bin .sub (.tmp 123) (.const (.int .i64 1))),
 xi 125 (.indexAddr none 1 (.tmp 122) (.tmp 124)),
 xi 126 (.load false 1 (.tmp 125)),
 xm 127 0,
 xm 128 10,
 xi 129 (.indexAddr none 1 (.tmp 127) (.tmp 128)),
 xi 130 (.load false 1 (.tmp 129)),
 xi 131 (.indexAddr none 1 (.tmp 117) (.tmp 118)),
 ⟨none, .store 1 (.tmp 131) (.tmp 126), none, [], false, false⟩,
 xi 132 (.indexAddr none 1 (.tmp 119) (.tmp 121)),
 ⟨none, .store 1 (.tmp 132) (.tmp 130), none, [], false, false⟩])))
 (.region false [xm 104 10,
 xi 105 (.bin .add (.tmp 104) (.const (.int .i64 1))),
 xm 10 105]))))))
 (.skip)))))))))
 (.region false [xm 15 8,
 xi 16 (.bin .add (.tmp 15) (.const (.int .i64 1))),
 xm 8 16]))))))
 (.seq (.region false [xi 6 (.move (.const (.bool false)))])
 (.ret)))),
 [.tmp 6], .trunc, 133⟩

def ef211 : EFun := ⟨
 .seq (.region false [xi 8 (.move (.const xz))])
 (.seq (.region true [xm 11 0,
 xm 12 1,
 xm 13 0,
 xm 14 3,
 xm 15 0,
 xm 16 3,
 xi 17 (.indexAddr none 1 (.tmp 15) (.tmp 16)),
 xi 18 (.load false 1 (.tmp 17)),
 xm 19 0,
 xm 20 1,
 xi 21 (.indexAddr none 1 (.tmp 19) (.tmp 20)),
 xi 22 (.load false 1 (.tmp 21)),
 xi 23 (.indexAddr none 1 (.tmp 11) (.tmp 12)),
 ⟨none, .store 1 (.tmp 23) (.tmp 18), none, [], false, false⟩,
 xi 24 (.indexAddr none 1 (.tmp 13) (.tmp 14)),
 ⟨none, .store 1 (.tmp 24) (.tmp 22), none, [], false, false⟩])
 (.seq (.region false [xm 25 1,
 xi 26 (.bin .add (.tmp 25) (.const (.int .i64 1))),
 xm 27 2,
 xi 28 (.bin .sub (.tmp 27) (.const (.int .i64 1))),
 xm 9 26,
 xm 10 28])
 (.seq (.block 0 (.loop (some [0, 1, 9, 10]) (
 .block 1 (.seq (.block 2 (.loop (some [0, 1, 9, 10]) (
 .seq (.seq (.region true [xm 29 9,
 xm 30 10,
 xi 31 (.bin .leq (.tmp 29) (.tmp 30)),
 xm 32 31,
 xg 33 (.move (.tmp 0)) 32 true,
 xg 34 (.move (.tmp 1)) 32 true,
 xg 35 (.indexAddr none 1 (.tmp 33) (.tmp 34)) 32 true,
 xg 36 (.load false 1 (.tmp 35)) 32 true,
 xg 37 (.move (.tmp 0)) 32 true,
 xg 38 (.move (.tmp 9)) 32 true,
 xg 39 (.indexAddr none 1 (.tmp 37) (.tmp 38)) 32 true,
 xg 40 (.load false 1 (.tmp 39)) 32 true,
 xg 41 (.call 177 [(.tmp 36), (.tmp 40)]) 32 true,
 xg 42 (.un .not (.tmp 41)) 32 true,
 xi 43 (.pick (.tmp 32) (.tmp 42) (.const (.bool false)))])
 (.cond (.tmp 43) (.skip)
 (.exit 2)))
 (.block 3 (.region false [xm 44 9,
 xi 45 (.bin .add (.tmp 44) (.const (.int .i64 1))),
 xm 9 45])))))
 (.seq (.block 4 (.loop (some [0, 1, 9, 10]) (
 .seq (.seq (.region true [xm 46 9,
 xm 47 10,
 xi 48 (.bin .leq (.tmp 46) (.tmp 47)),
 xm 49 48,
 xg 50 (.move (.tmp 0)) 49 true,
 xg 51 (.move (.tmp 1)) 49 true,
 xg 52 (.indexAddr none 1 (.tmp 50) (.tmp 51)) 49 true,
 xg 53 (.load false 1 (.tmp 52)) 49 true,
 xg 54 (.move (.tmp 0)) 49 true,
 xg 55 (.move (.tmp 10)) 49 true,
 xg 56 (.indexAddr none 1 (.tmp 54) (.tmp 55)) 49 true,
 xg 57 (.load false 1 (.tmp 56)) 49 true,
 xg 58 (.call 177 [(.tmp 53), (.tmp 57)]) 49 true,
 xi 59 (.pick (.tmp 49) (.tmp 58) (.const (.bool false)))])
 (.cond (.tmp 59) (.skip)
 (.exit 4)))
 (.block 5 (.region false [xm 60 10,
 xi 61 (.bin .sub (.tmp 60) (.const (.int .i64 1))),
 xm 10 61])))))
 (.seq (.seq (.region false [xm 62 9,
 xm 63 10,
 xi 64 (.bin .gtr (.tmp 62) (.tmp 63))])
 (.cond (.tmp 64) (.exit 0)
 (.skip)))
 (.seq (.region true [xm 65 0,
 xm 66 9,
 xm 67 0,
 xm 68 10,
 xm 69 0,
 xm 70 10,
 xi 71 (.indexAddr none 1 (.tmp 69) (.tmp 70)),
 xi 72 (.load false 1 (.tmp 71)),
 xm 73 0,
 xm 74 9,
 xi 75 (.indexAddr none 1 (.tmp 73) (.tmp 74)),
 xi 76 (.load false 1 (.tmp 75)),
 xi 77 (.indexAddr none 1 (.tmp 65) (.tmp 66)),
 ⟨none, .store 1 (.tmp 77) (.tmp 72), none, [], false, false⟩,
 xi 78 (.indexAddr none 1 (.tmp 67) (.tmp 68)),
 ⟨none, .store 1 (.tmp 78) (.tmp 76), none, [], false, false⟩])
 (.seq (.region false [xm 79 9,
 xi 80 (.bin .add (.tmp 79) (.const (.int .i64 1))),
 xm 9 80])
 (.region false [xm 81 10,
 xi 82 (.bin .sub (.tmp 81) (.const (.int .i64 1))),
 xm 10 82])))))))))
 (.seq (.region false [xm 83 9,
 xm 8 83])
 (.ret))))),
 [.tmp 8], .trunc, 84⟩

def ef212 : EFun := ⟨
 .seq (.region false [xi 8 (.move (.const xz)),
 xi 9 (.move (.const (.bool false)))])
 (.seq (.region true [xm 12 0,
 xm 13 1,
 xm 14 0,
 xm 15 3,
 xm 16 0,
 xm 17 3,
 xi 18 (.indexAddr none 1 (.tmp 16) (.tmp 17)),
 xi 19 (.load false 1 (.tmp 18)),
 xm 20 0,
 xm 21 1,
 xi 22 (.indexAddr none 1 (.tmp 20) (.tmp 21)),
 xi 23 (.load false 1 (.tmp 22)),
 xi 24 (.indexAddr none 1 (.tmp 12) (.tmp 13)),
 ⟨none, .store 1 (.tmp 24) (.tmp 19), none, [], false, false⟩,
 xi 25 (.indexAddr none 1 (.tmp 14) (.tmp 15)),
 ⟨none, .store 1 (.tmp 25) (.tmp 23), none, [], false, false⟩])
 (.seq (.region false [xm 26 1,
 xi 27 (.bin .add (.tmp 26) (.const (.int .i64 1))),
 xm 28 2,
 xi 29 (.bin .sub (.tmp 28) (.const (.int .i64 1))),
 xm 10 27,
 xm 11 29])
 (.seq (.block 0 (.loop (some [0, 1, 10, 11]) (
 .seq (.seq (.region true [xm 30 10,
 xm 31 11,
 xi 32 (.bin .leq (.tmp 30) (.tmp 31)),
 xm 33 32,
 xg 34 (.move (.tmp 0)) 33 true,
 xg 35 (.move (.tmp 10)) 33 true,
 xg 36 (.indexAddr none 1 (.tmp 34) (.tmp 35)) 33 true,
 xg 37 (.load false 1 (.tmp 36)) 33 true,
 xg 38 (.move (.tmp 0)) 33 true,
 xg 39 (.move (.tmp 1)) 33 true,
 xg 40 (.indexAddr none 1 (.tmp 38) (.tmp 39)) 33 true,
 xg 41 (.load false 1 (.tmp 40)) 33 true,
 xg 42 (.call 177 [(.tmp 37), (.tmp 41)]) 33 true,
 xi 43 (.pick (.tmp 33) (.tmp 42) (.const (.bool false)))])
 (.cond (.tmp 43) (.skip)
 (.exit 0)))
 (.block 1 (.region false [xm 44 10,
 xi 45 (.bin .add (.tmp 44) (.const (.int .i64 1))),
 xm 10 45])))))
 (.seq (.block 2 (.loop (some [0, 1, 10, 11]) (
 .seq (.seq (.region true [xm 46 10,
 xm 47 11,
 xi 48 (.bin .leq (.tmp 46) (.tmp 47)),
 xm 49 48,
 xg 50 (.move (.tmp 0)) 49 true,
 xg 51 (.move (.tmp 11)) 49 true,
 xg 52 (.indexAddr none 1 (.tmp 50) (.tmp 51)) 49 true,
 xg 53 (.load false 1 (.tmp 52)) 49 true,
 xg 54 (.move (.tmp 0)) 49 true,
 xg 55 (.move (.tmp 1)) 49 true,
 xg 56 (.indexAddr none 1 (.tmp 54) (.tmp 55)) 49 true,
 xg 57 (.load false 1 (.tmp 56)) 49 true,
 xg 58 (.call 177 [(.tmp 53), (.tmp 57)]) 49 true,
 xg 59 (.un .not (.tmp 58)) 49 true,
 xi 60 (.pick (.tmp 49) (.tmp 59) (.const (.bool false)))])
 (.cond (.tmp 60) (.skip)
 (.exit 2)))
 (.block 3 (.region false [xm 61 11,
 xi 62 (.bin .sub (.tmp 61) (.const (.int .i64 1))),
 xm 11 62])))))
 (.seq (.seq (.region false [xm 63 10,
 xm 64 11,
 xi 65 (.bin .gtr (.tmp 63) (.tmp 64))])
 (.cond (.tmp 65) (.seq (.region true [xm 66 0,
 xm 67 11,
 xm 68 0,
 xm 69 1,
 xm 70 0,
 xm 71 1,
 xi 72 (.indexAddr none 1 (.tmp 70) (.tmp 71)),
 xi 73 (.load false 1 (.tmp 72)),
 xm 74 0,
 xm 75 11,
 xi 76 (.indexAddr none 1 (.tmp 74) (.tmp 75)),
 xi 77 (.load false 1 (.tmp 76)),
 xi 78 (.indexAddr none 1 (.tmp 66) (.tmp 67)),
 ⟨none, .store 1 (.tmp 78) (.tmp 73), none, [], false, false⟩,
 xi 79 (.indexAddr none 1 (.tmp 68) (.tmp 69)),
 ⟨none, .store 1 (.tmp 79) (.tmp 77), none, [], false, false⟩])
 (.seq (.region false [xm 80 11,
 xm 8 80,
 xi 9 (.move (.const (.bool true)))])
 (.ret)))
 (.skip)))
 (.seq (.region true [xm 81 0,
 xm 82 10,
 xm 83 0,
 xm 84 11,
 xm 85 0,
 xm 86 11,
 xi 87 (.indexAddr none 1 (.tmp 85) (.tmp 86)),
 xi 88 (.load false 1 (.tmp 87)),
 xm 89 0,
 xm 90 10,
 xi 91 (.indexAddr none 1 (.tmp 89) (.tmp 90)),
 xi 92 (.load false 1 (.tmp 91)),
 xi 93 (.indexAddr none 1 (.tmp 81) (.tmp 82)),
 ⟨none, .store 1 (.tmp 93) (.tmp 88), none, [], false, false⟩,
 xi 94 (.indexAddr none 1 (.tmp 83) (.tmp 84)),
 ⟨none, .store 1 (.tmp 94) (.tmp 92), none, [], false, false⟩])
 (.seq (.region false [xm 95 10,
 xi 96 (.bin .add (.tmp 95) (.const (.int .i64 1))),
 xm 10 96])
 (.seq (.region false [xm 97 11,
 xi 98 (.bin .sub (.tmp 97) (.const (.int .i64 1))),
 xm 11 98])
 (.seq (.block 4 (.loop (some [0, 1, 10, 11]) (
 .block 5 (.seq (.block 6 (.loop (some [0, 1, 10, 11]) (
 .seq (.seq (.region true [xm 99 10,
 xm 100 11,
 xi 101 (.bin .leq (.tmp 99) (.tmp 100)),
 xm 102 101,
 xg 103 (.move (.tmp 0)) 102 true,
 xg 104 (.move (.tmp 10)) 102 true,
 xg 105 (.indexAddr none 1 (.tmp 103) (.tmp 104)) 102 true,
 xg 106 (.load false 1 (.tmp 105)) 102 true,
 xg 107 (.move (.tmp 0)) 102 true,
 xg 108 (.move (.tmp 1)) 102 true,
 xg 109 (.indexAddr none 1 (.tmp 107) (.tmp 108)) 102 true,
 xg 110 (.load false 1 (.tmp 109)) 102 true,
 xg 111 (.call 177 [(.tmp 106), (.tmp 110)]) 102 true,
 xi 112 (.pick (.tmp 102) (.tmp 111) (.const (.bool false)))])
 (.cond (.tmp 112) (.skip)
 (.exit 6)))
 (.block 7 (.region false [xm 113 10,
 xi 114 (.bin .add (.tmp 113) (.const (.int .i64 1))),
 xm 10 114])))))
 (.seq (.block 8 (.loop (some [0, 1, 10, 11]) (
 .seq (.seq (.region true [xm 115 10,
 xm 116 11,
 xi 117 (.bin .leq (.tmp 115) (.tmp 116)),
 xm 118 117,
 xg 119 (.move (.tmp 0)) 118 true,
 xg 120 (.move (.tmp 11)) 118 true,
 xg 121 (.indexAddr none 1 (.tmp 119) (.tmp 120)) 118 true,
 xg 122 (.load false 1 (.tmp 121)) 118 true,
 xg 123 (.move (.tmp 0)) 118 true,
 xg 124 (.move (.tmp 1)) 118 true,
 xg 125 (.indexAddr none 1 (.tmp 123) (.tmp 124)) 118 true,
 xg 126 (.load false 1 (.tmp 125)) 118 true,
 xg 127 (.call 177 [(.tmp 122), (.tmp 126)]) 118 true,
 xg 128 (.un .not (.tmp 127)) 118 true,
 xi 129 (.pick (.tmp 118) (.tmp 128) (.const (.bool false)))])
 (.cond (.tmp 129) (.skip)
 (.exit 8)))
 (.block 9 (.region false [xm 130 11,
 xi 131 (.bin .sub (.tmp 130) (.const (.int .i64 1))),
 xm 11 131])))))
 (.seq (.seq (.region false [xm 132 10,
 xm 133 11,
 xi 134 (.bin .gtr (.tmp 132) (.tmp 133))])
 (.cond (.tmp 134) (.exit 4)
 (.skip)))
 (.seq (.region true [xm 135 0,
 xm 136 10,
 xm 137 0,
 xm 138 11,
 xm 139 0,
 xm 140 11,
 xi 141 (.indexAddr none 1 (.tmp 139) (.tmp 140)),
 xi 142 (.load false 1 (.tmp 141)),
 xm 143 0,
 xm 144 10,
 xi 145 (.indexAddr none 1 (.tmp 143) (.tmp 144)),
 xi 146 (.load false 1 (.tmp 145)),
 xi 147 (.indexAddr none 1 (.tmp 135) (.tmp 136)),
 ⟨none, .store 1 (.tmp 147) (.tmp 142), none, [], false, false⟩,
 xi 148 (.indexAddr none 1 (.tmp 137) (.tmp 138)),
 ⟨none, .store 1 (.tmp 148) (.tmp 146), none, [], false, false⟩])
 (.seq (.region false [xm 149 10,
 xi 150 (.bin .add (.tmp 149) (.const (.int .i64 1))),
 xm 10 150])
 (.region false [xm 151 11,
 xi 152 (.bin .sub (.tmp 151) (.const (.int .i64 1))),
 xm 11 152])))))))))
 (.seq (.region true [xm 153 0,
 xm 154 11,
 xm 155 0,
 xm 156 1,
 xm 157 0,
 xm 158 1,
 xi 159 (.indexAddr none 1 (.tmp 157) (.tmp 158)),
 xi 160 (.load false 1 (.tmp 159)),
 xm 161 0,
 xm 162 11,
 xi 163 (.indexAddr none 1 (.tmp 161) (.tmp 162)),
 xi 164 (.load false 1 (.tmp 163)),
 xi 165 (.indexAddr none 1 (.tmp 153) (.tmp 154)),
 ⟨none, .store 1 (.tmp 165) (.tmp 160), none, [], false, false⟩,
 xi 166 (.indexAddr none 1 (.tmp 155) (.tmp 156)),
 ⟨none, .store 1 (.tmp 166) (.tmp 164), none, [], false, false⟩])
 (.seq (.region false [xm 167 11,
 xm 8 167,
 xi 9 (.move (.const (.bool false)))])
 (.ret)))))))))))),
 [.tmp 8, .tmp 9], .trunc, 168⟩

def ef213 : EFun := ⟨
 .seq (.region false [xi 2 (.move (.const xz))])
 (.seq (.seq (.region false [xm 3 0,
 xi 4 (.bin .geq (.tmp 3) (.const (.int .u32 65536)))])
 (.cond (.tmp 4) (.seq (.region false [xm 5 0,
 xi 6 (.bin .shr (.tmp 5) (.const (.int .u64 16))),
 xm 0 6])
 (.region false [xi 2 (.move (.const (.int .i64 16)))]))
 (.skip)))
 (.seq (.seq (.region false [xm 7 0,
 xi 8 (.bin .geq (.tmp 7) (.const (.int .u32 256)))])
 (.cond (.tmp 8) (.seq (.region false [xm 9 0,
 xi 10 (.bin .shr (.tmp 9) (.const (.int .u64 8))),
 xm 0 10])
 (.region false [xm 11 2,
 xi 12 (.bin .add (.tmp 11) (.const (.int .i64 8))),
 xm 2 12]))
 (.skip)))
 (.seq (.region false [xm 13 2,
 xm 14 0,
 xi 15 (.conv .u8 (.tmp 14)),
 xi 16 (.strIndex (.const (.string ⟨#[0, 1, 2, 2, 3, 3, 3, 3, 4, 4, 4, 4, 4, 4, 4, 4, 5, 5, 5, 5, 5, 5, 5, 5, 5, 5, 5, 5, 5, 5, 5, 5, 6, 6, 6, 6, 6, 6, 6, 6, 6, 6, 6, 6, 6, 6, 6, 6, 6, 6, 6, 6, 6, 6, 6, 6, 6, 6, 6, 6, 6, 6, 6, 6, 7, 7, 7, 7, 7, 7, 7, 7, 7, 7, 7, 7, 7, 7, 7, 7, 7, 7, 7, 7, 7, 7, 7, 7, 7, 7, 7, 7, 7, 7, 7, 7, 7, 7, 7, 7, 7, 7, 7, 7, 7, 7, 7, 7, 7, 7, 7, 7, 7, 7, 7, 7, 7, 7, 7, 7, 7, 7, 7, 7, 7, 7, 7, 7, 8, 8, 8, 8, 8, 8, 8, 8, 8, 8, 8, 8, 8, 8, 8, 8, 8, 8, 8, 8, 8, 8, 8, 8, 8, 8, 8, 8, 8, 8, 8, 8, 8, 8, 8, 8, 8, 8, 8, 8, 8, 8, 8, 8, 8, 8, 8, 8, 8, 8, 8, 8, 8, 8, 8, 8, 8, 8, 8, 8, 8, 8, 8, 8, 8, 8, 8, 8, 8, 8, 8, 8, 8, 8, 8, 8, 8, 8, 8, 8, 8, 8, 8, 8, 8, 8, 8, 8, 8, 8, 8, 8, 8, 8, 8, 8, 8, 8, 8, 8, 8, 8, 8, 8, 8, 8, 8, 8, 8, 8, 8, 8, 8, 8, 8, 8, 8, 8, 8, 8, 8, 8, 8, 8, 8, 8, 8, 8]⟩)) (.tmp 15)),
 xi 17 (.conv .i64 (.tmp 16)),
 xi 18 (.bin .add (.tmp 13) (.tmp 17)),
 xm 2 18])
 (.ret)))),
 [.tmp 2], .pure, 19⟩

def ef214 : EFun := ⟨
 .seq (.region false [xi 2 (.move (.const xz))])
 (.seq (.seq (.region false [xm 3 0,
 xi 4 (.bin .geq (.tmp 3) (.const (.int .u64 4294967296)))])
 (.cond (.tmp 4) (.seq (.region false [xm 5 0,
 xi 6 (.bin .shr (.tmp 5) (.const (.int .u64 32))),
 xm 0 6])
 (.region false [xi 2 (.move (.const (.int .i64 32)))]))
 (.skip)))
 (.seq (.seq (.region false [xm 7 0,
 xi 8 (.bin .geq (.tmp 7) (.const (.int .u64 65536)))])
 (.cond (.tmp 8) (.seq (.region false [xm 9 0,
 xi 10 (.bin .shr (.tmp 9) (.const (.int .u64 16))),
 xm 0 10])
 (.region false [xm 11 2,
 xi 12 (.bin .add (.tmp 11) (.const (.int .i64 16))),
 xm 2 12]))
 (.skip)))
 (.seq (.seq (.region false [xm 13 0,
 xi 14 (.bin .geq (.tmp 13) (.const (.int .u64 256)))])
 (.cond (.tmp 14) (.seq (.region false [xm 15 0,
 xi 16 (.bin .shr (.tmp 15) (.const (.int .u64 8))),
 xm 0 16])
 (.region false [xm 17 2,
 xi 18 (.bin .add (.tmp 17) (.const (.int .i64 8))),
 xm 2 18]))
 (.skip)))
 (.seq (.region false [xm 19 2,
 xm 20 0,
 xi 21 (.conv .u8 (.tmp 20)),
 xi 22 (.strIndex (.const (.string ⟨#[0, 1, 2, 2, 3, 3, 3, 3, 4, 4, 4, 4, 4, 4, 4, 4, 5, 5, 5, 5, 5, 5, 5, 5, 5, 5, 5, 5, 5, 5, 5, 5, 6, 6, 6, 6, 6, 6, 6, 6, 6, 6, 6, 6, 6, 6, 6, 6, 6, 6, 6, 6, 6, 6, 6, 6, 6, 6, 6, 6, 6, 6, 6, 6, 7, 7, 7, 7, 7, 7, 7, 7, 7, 7, 7, 7, 7, 7, 7, 7, 7, 7, 7, 7, 7, 7, 7, 7, 7, 7, 7, 7, 7, 7, 7, 7, 7, 7, 7, 7, 7, 7, 7, 7, 7, 7, 7, 7, 7, 7, 7, 7, 7, 7, 7, 7, 7, 7, 7, 7, 7, 7, 7, 7, 7, 7, 7, 7, 8, 8, 8, 8, 8, 8, 8, 8, 8, 8, 8, 8, 8, 8, 8, 8, 8, 8, 8, 8, 8, 8, 8, 8, 8, 8, 8, 8, 8, 8, 8, 8, 8, 8, 8, 8, 8, 8, 8, 8, 8, 8, 8, 8, 8, 8, 8, 8, 8, 8, 8, 8, 8, 8, 8, 8, 8, 8, 8, 8, 8, 8, 8, 8, 8, 8, 8, 8, 8, 8, 8, 8, 8, 8, 8, 8, 8, 8, 8, 8, 8, 8, 8, 8, 8, 8, 8, 8, 8, 8, 8, 8, 8, 8, 8, 8, 8, 8, 8, 8, 8, 8, 8, 8, 8, 8, 8, 8, 8, 8, 8, 8, 8, 8, 8, 8, 8, 8, 8, 8, 8, 8, 8, 8, 8, 8, 8, 8]⟩)) (.tmp 21)),
 xi 23 (.conv .i64 (.tmp 22)),
 xi 24 (.bin .add (.tmp 19) (.tmp 23)),
 xm 2 24])
 (.ret))))),
 [.tmp 2], .pure, 25⟩

def ef215 : EFun := ⟨
 .seq (.region false [xi 2 (.move (.const (.bool false)))])
 (.seq (.region false [xm 3 0,
 xm 4 0,
 xi 5 (.bin .neq (.tmp 3) (.tmp 4)),
 xm 2 5])
 (.ret)),
 [.tmp 2], .pure, 6⟩

def ef216 : EFun := ⟨
 .seq (.region false [xi 6 (.move (.const xz)),
 xi 7 (.move (.const (.bool false)))])
 (.seq (.region false [xm 12 0,
 xi 13 (.len false (.tmp 12)),
 xm 8 13])
 (.seq (.region false [xm 14 8,
 xi 9 (.move (.const xz)),
 xm 10 14])
 (.seq (.block 0 (.loop (some [0, 1, 2, 8, 9, 10]) (
 .seq (.seq (.region false [xm 15 9,
 xm 16 10,
 xi 17 (.bin .lss (.tmp 15) (.tmp 16))])
 (.cond (.tmp 17) (.skip)
 (.exit 0)))
 (.block 1 (.seq (.region false [xm 18 9,
 xm 19 10,
 xi 20 (.bin .add (.tmp 18) (.tmp 19)),
 xi 21 (.conv .u64 (.tmp 20)),
 xi 22 (.bin .shr (.tmp 21) (.const (.int .u64 1))),
 xi 23 (.conv .i64 (.tmp 22)),
 xm 11 23])
 (.seq (.region false [xm 24 2,
 xm 25 0,
 xm 26 11,
 xi 27 (.indexAddr none 2 (.tmp 25) (.tmp 26)),
 xi 28 (.load true 2 (.tmp 27)),
 xm 29 1,
 xi 30 (.callVal (.tmp 24) [(.tmp 28), (.tmp 29)]),
 xi 31 (.bin .lss (.tmp 30) (.const xz))])
 (.cond (.tmp 31) (.region false [xm 32 11,
 xi 33 (.bin .add (.tmp 32) (.const (.int .i64 1))),
 xm 9 33])
 (.region false [xm 34 11,
 xm 10 34]))))))))
 (.seq (.region false [xm 35 9,
 xm 36 9,
 xm 37 8,
 xi 38 (.bin .lss (.tmp 36) (.tmp 37)),
 xm 39 38,
 xg 40 (.move (.tmp 2)) 39 true,
 xg 41 (.move (.tmp 0)) 39 true,
 xg 42 (.move (.tmp 9)) 39 true,
 xg 43 (.indexAddr none 2 (.tmp 41) (.tmp 42)) 39 true,
 xg 44 (.load true 2 (.tmp 43)) 39 true,
 xg 45 (.move (.tmp 1)) 39 true,
 xg 46 (.callVal (.tmp 40) [(.tmp 44), (.tmp 45)]) 39 true,
 xg 47 (.bin .eql (.tmp 46) (.const xz)) 39 true,
 xi 48 (.pick (.tmp 39) (.tmp 47) (.const (.bool false))),
 xm 6 35,
 xm 7 48])
 (.ret))))),
 [.tmp 6, .tmp 7], .pure, 49⟩

def ef217 : EFun := ⟨
 .seq (.region false [xi 2 (.box (.tmp 0)),
 xi 4 (.move (.const xz))])
 (.seq (.region false [xi 5 (.fieldAddr 0 (.tmp 2)),
 xi 6 (.load false 1 (.tmp 5)),
 xm 7 1,
 xi 8 (.call 232 [(.tmp 6), (.tmp 7)]),
 xm 4 8])
 (.ret)),
 [.tmp 4], .pure, 9⟩

def ef227 : EFun := ⟨
 .seq (.region false [xm 10 1,
 xm 8 10])
 (.block 0 (.loop (some [0, 2, 3, 8]) (
 .block 1 (.seq (.region false [xm 11 8,
 xi 12 (.bin .mul (.const (.int .i64 2)) (.tmp 11)),
 xi 13 (.bin .add (.tmp 12) (.const (.int .i64 1))),
 xm 9 13])
 (.seq (.seq (.region false [xm 14 9,
 xm 15 2,
 xi 16 (.bin .geq (.tmp 14) (.tmp 15))])
 (.cond (.tmp 16) (.exit 0)
 (.skip)))
 (.seq (.seq (.region true [xm 17 9,
 xi 18 (.bin .add (.tmp 17) (.const (.int .i64 1))),
 xm 19 2,
 xi 20 (.bin .lss (.tmp 18) (.tmp 19)),
 xm 21 20,
 xg 22 (.move (.tmp 0)) 21 true,
 xg 23 (.move (.tmp 3)) 21 true,
 xg 24 (.move (.tmp 9)) 21 true,
 xg 25 (.bin .add (.tmp 23) (.tmp 24)) 21 true,
 xg 26 (.indexAddr none 1 (.tmp 22) (.tmp 25)) 21 true,
 xg 27 (.load false 1 (.tmp 26)) 21 true,
 xg 28 (.move (.tmp 0)) 21 true,
 xg 29 (.move (.tmp 3)) 21 true,
 xg 30 (.move (.tmp 9)) 21 true,
 xg 31 (.bin .add (.tmp 29) (.tmp 30)) 21 true,
 xg 32 (.bin .add (.tmp 31) (.const (.int .i64 1))) 21 true,
 xg 33 (.indexAddr none 1 (.tmp 28) (.tmp 32)) 21 true,
 xg 34 (.load false 1 (.tmp 33)) 21 true,
 xg 35 (.call 177 [(.tmp 27), (.tmp 34)]) 21 true,
 xi 36 (.pick (.tmp 21) (.tmp 35) (.const (.bool false)))])
 (.cond (.tmp 36) (.region false [xm 37 9,
 xi 38 (.bin .add (.tmp 37) (.const (.int .i64 1))),
 xm 9 38])
 (.skip)))
 (.seq (.seq (.region true [xm 39 0,
 xm 40 3,
 xm 41 8,
 xi 42 (.bin .add (.tmp 40) (.tmp 41)),
 xi 43 (.indexAddr none 1 (.tmp 39) (.tmp 42)),
 xi 44 (.load false 1 (.tmp 43)),
 xm 45 0,
 xm 46 3,
 xm 47 9,
 xi 48 (.bin .add (.tmp 46) (.tmp 47)),
 xi 49 (.indexAddr none 1 (.tmp 45) (.tmp 48)),
 xi 50 (.load false 1 (.tmp 49)),
 xi 51 (.call 177 [(.tmp 44), (.tmp 50)]),
 xi 52 (.un .not (.tmp 51))])
 (.cond (.tmp 52) (.ret)
 (.skip)))
 (.seq (.region true [xm 53 0,
 xm 54 3,
 xm 55 8,
 xi 56 (.bin .add (.tmp 54) (.tmp 55)),
 xm 57 0,
 xm 58 3,
 xm 59 9,
 xi 60 (.bin .add (.tmp 58) (.tmp 59)),
 xm 61 0,
 xm 62 3,
 xm 63 9,
 xi 64 (.bin .add (.tmp 62) (.tmp 63)),
 xi 65 (.indexAddr none 1 (.tmp 61) (.tmp 64)),
 xi 66 (.load false 1 (.tmp 65)),
 xm 67 0,
 xm 68 3,
 xm 69 8,
 xi 70 (.bin .add (.tmp 68) (.tmp 69)),
 xi 71 (.indexAddr none 1 (.tmp 67) (.tmp 70)),
 xi 72 (.load false 1 (.tmp 71)),
 xi 73 (.indexAddr none 1 (.tmp 53) (.tmp 56)),
 ⟨none, .store 1 (.tmp 73) (.tmp 66), none, [], false, false⟩,
 xi 74 (.indexAddr none 1 (.tmp 57) (.tmp 60)),
 ⟨none, .store 1 (.tmp 74) (.tmp 72), none, [], false, false⟩])
 (.region false [xm 75 9,
 xm 8 75]))))))))),
 [], .trunc, 76⟩

def ef228 : EFun := ⟨
 .seq (.region false [xi 2 (.move (.const (.int .u64 0)))])
 (.seq (.region false [xm 3 0,
 xi 4 (.conv .u64 (.tmp 3)),
 xi 5 (.call 175 [(.tmp 4)]),
 xi 6 (.bin .shl (.const (.int .u64 1)) (.tmp 5)),
 xm 2 6])
 (.ret)),
 [.tmp 2], .pure, 7⟩

def ef229 : EFun := ⟨
 .seq (.region false [xi 2 (.move (.const (.int .u64 0)))])
 (.seq (.region true [xm 3 0,
 xi 4 (.nilCheck (.tmp 3)),
 xi 5 (.load false 1 (.tmp 4)),
 xm 6 0,
 xi 7 (.nilCheck (.tmp 6)),
 xi 8 (.load false 1 (.tmp 7)),
 xi 9 (.bin .shl (.tmp 8) (.const (.int .u64 13))),
 xi 10 (.bin .xor (.tmp 5) (.tmp 9)),
 xi 11 (.nilCheck (.tmp 3)),
 ⟨none, .store 1 (.tmp 11) (.tmp 10), none, [], false, false⟩])
 (.seq (.region true [xm 12 0,
 xi 13 (.nilCheck (.tmp 12)),
 xi 14 (.load false 1 (.tmp 13)),
 xm 15 0,
 xi 16 (.nilCheck (.tmp 15)),
 xi 17 (.load false 1 (.tmp 16)),
 xi 18 (.bin .shr (.tmp 17) (.const (.int .u64 7))),
 xi 19 (.bin .xor (.tmp 14) (.tmp 18)),
 xi 20 (.nilCheck (.tmp 12)),
 ⟨none, .store 1 (.tmp 20) (.tmp 19), none, [], false, false⟩])
 (.seq (.region true [xm 21 0,
 xi 22 (.nilCheck (.tmp 21)),
 xi 23 (.load false 1 (.tmp 22)),
 xm 24 0,
 xi 25 (.nilCheck (.tmp 24)),
 xi 26 (.load false 1 (.tmp 25)),
 xi 27 (.bin .shl (.tmp 26) (.const (.int .u64 17))),
 xi 28 (.bin .xor (.tmp 23) (.tmp 27)),
 xi 29 (.nilCheck (.tmp 21)),
 ⟨none, .store 1 (.tmp 29) (.tmp 28), none, [], false, false⟩])
 (.seq (.region false [xm 30 0,
 xi 31 (.nilCheck (.tmp 30)),
 xi 32 (.load false 1 (.tmp 31)),
 xm 2 32])
 (.ret))))),
 [.tmp 2], .trunc, 33⟩

def ef230 : EFun := ⟨
 .seq (.region false [xi 6 (.move (.const xz))])
 (.seq (.region false [xm 7 0,
 xm 8 1,
 xi 9 (.bin .sub (.tmp 8) (.const (.int .i64 1))),
 xm 10 1,
 xm 11 1,
 xi 12 (.bin .add (.tmp 11) (.const (.int .i64 1))),
 xm 13 2,
 xi 14 (.call 231 [(.tmp 7), (.tmp 9), (.tmp 10), (.tmp 12), (.tmp 13)]),
 xm 6 14])
 (.ret)),
 [.tmp 6], .trunc, 15⟩

def ef231 : EFun := ⟨
 .seq (.region false [xi 10 (.move (.const xz))])
 (.seq (.region false [xm 12 0,
 xm 13 1,
 xm 14 2,
 xm 15 4,
 xi 16 (.call 237 [(.tmp 12), (.tmp 13), (.tmp 14), (.tmp 15)]),
 xm 11 16,
 xi 17 (.extract (.tmp 11) 0),
 xi 18 (.extract (.tmp 11) 1),
 xm 1 17,
 xm 2 18])
 (.seq (.region false [xm 20 0,
 xm 21 2,
 xm 22 3,
 xm 23 4,
 xi 24 (.call 237 [(.tmp 20), (.tmp 21), (.tmp 22), (.tmp 23)]),
 xm 19 24,
 xi 25 (.extract (.tmp 19) 0),
 xi 26 (.extract (.tmp 19) 1),
 xm 2 25,
 xm 3 26])
 (.seq (.region false [xm 28 0,
 xm 29 1,
 xm 30 2,
 xm 31 4,
 xi 32 (.call 237 [(.tmp 28), (.tmp 29), (.tmp 30), (.tmp 31)]),
 xm 27 32,
 xi 33 (.extract (.tmp 27) 0),
 xi 34 (.extract (.tmp 27) 1),
 xm 1 33,
 xm 2 34])
 (.seq (.region false [xm 35 2,
 xm 10 35])
 (.ret))))),
 [.tmp 10], .trunc, 36⟩

def ef232 : EFun := ⟨
 .seq (.region false [xi 4 (.move (.const xz))])
 (.seq (.region false [xm 7 0,
 xi 8 (.call 215 [(.tmp 7)]),
 xm 5 8])
 (.seq (.region false [xm 9 1,
 xi 10 (.call 215 [(.tmp 9)]),
 xm 6 10])
 (.seq (.seq (.region false [xm 11 5])
 (.cond (.tmp 11) (.seq (.seq (.region false [xm 12 6])
 (.cond (.tmp 12) (.seq (.region false [xi 4 (.move (.const xz))])
 (.ret))
 (.skip)))
 (.seq (.region false [xi 4 (.move (.const (.int .i64 (-1))))])
 (.ret)))
 (.skip)))
 (.seq (.seq (.region false [xm 13 6])
 (.cond (.tmp 13) (.seq (.region false [xi 4 (.move (.const (.int .i64 1)))])
 (.ret))
 (.skip)))
 (.seq (.seq (.region false [xm 14 0,
 xm 15 1,
 xi 16 (.bin .lss (.tmp 14) (.tmp 15))])
 (.cond (.tmp 16) (.seq (.region false [xi 4 (.move (.const (.int .i64 (-1))))])
 (.ret))
 (.skip)))
 (.seq (.seq (.region false [xm 17 0,
 xm 18 1,
 xi 19 (.bin .gtr (.tmp 17) (.tmp 18))])
 (.cond (.tmp 19) (.seq (.region false [xi 4 (.move (.const (.int .i64 1)))])
 (.ret))
 (.skip)))
 (.seq (.region false [xi 4 (.move (.const xz))])
 (.ret)))))))),
 [.tmp 4], .pure, 20⟩

def ef237 : EFun := ⟨
 .seq (.region false [xi 8 (.move (.const xz)),
 xi 9 (.move (.const xz))])
 (.seq (.seq (.region true [xm 10 0,
 xm 11 2,
 xi 12 (.indexAddr none 1 (.tmp 10) (.tmp 11)),
 xi 13 (.load false 1 (.tmp 12)),
 xm 14 0,
 xm 15 1,
 xi 16 (.indexAddr none 1 (.tmp 14) (.tmp 15)),
 xi 17 (.load false 1 (.tmp 16)),
 xi 18 (.call 177 [(.tmp 13), (.tmp 17)])])
 (.cond (.tmp 18) (.seq (.region false [xm 19 3,
 xi 20 (.nilCheck (.tmp 19)),
 xi 21 (.load false 1 (.tmp 20)),
 xi 22 (.bin .add (.tmp 21) (.const (.int .i64 1))),
 xi 23 (.nilCheck (.tmp 19)),
 ⟨none, .store 1 (.tmp 23) (.tmp 22), none, [], false, false⟩])
 (.seq (.region false [xm 24 2,
 xm 25 1,
 xm 8 24,
 xm 9 25])
 (.ret)))
 (.skip)))
 (.seq (.region false [xm 26 1,
 xm 27 2,
 xm 8 26,
 xm 9 27])
 (.ret))),
 [.tmp 8, .tmp 9], .trunc, 28⟩

end Go.Abs.H
