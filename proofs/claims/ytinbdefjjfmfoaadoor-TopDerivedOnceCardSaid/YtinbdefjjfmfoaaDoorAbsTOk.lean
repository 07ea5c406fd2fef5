/- The functions, compiled for the abstract evaluator. Written by wip/abs/Print.lean. -/
import Derived.Test.YtinbdefjjfmfoaaDoorProg
import Derived.Test.YtinbdefjjfmfoaaDoorAbsT
set_option linter.unusedSimpArgs false
set_option linter.unusedVariables false
set_option maxRecDepth 100000
set_option maxHeartbeats 0
namespace Go.Abs.T
open Go Go.Abs
theorem ef6_ok : compileFun Go.Proofs.Tryd.prog glob 6 [some [3, 8, 9, 12]] .pure = some ef6 := by kernel_rfl
theorem ef13_ok : compileFun Go.Proofs.Tryd.prog glob 13 [] .pure = some ef13 := by kernel_rfl
theorem ef14_ok : compileFun Go.Proofs.Tryd.prog glob 14 [] .pure = some ef14 := by kernel_rfl
theorem ef17_ok : compileFun Go.Proofs.Tryd.prog glob 17 [] .pure = some ef17 := by kernel_rfl
theorem ef18_ok : compileFun Go.Proofs.Tryd.prog glob 18 [] .pure = some ef18 := by kernel_rfl
theorem ef19_ok : compileFun Go.Proofs.Tryd.prog glob 19 [] .pure = some ef19 := by kernel_rfl
theorem ef20_ok : compileFun Go.Proofs.Tryd.prog glob 20 [] .pure = some ef20 := by kernel_rfl
theorem ef21_ok : compileFun Go.Proofs.Tryd.prog glob 21 [] .pure = some ef21 := by kernel_rfl
theorem ef22_ok : compileFun Go.Proofs.Tryd.prog glob 22 [] .pure = some ef22 := by kernel_rfl
theorem ef23_ok : compileFun Go.Proofs.Tryd.prog glob 23 [some [1, 3, 4, 5]] .pure = some ef23 := by kernel_rfl
theorem ef24_ok : compileFun Go.Proofs.Tryd.prog glob 24 [] .pure = some ef24 := by kernel_rfl
theorem ef26_ok : compileFun Go.Proofs.Tryd.prog glob 26 [] .pure = some ef26 := by kernel_rfl
theorem ef27_ok : compileFun Go.Proofs.Tryd.prog glob 27 [] .pure = some ef27 := by kernel_rfl
theorem ef28_ok : compileFun Go.Proofs.Tryd.prog glob 28 [] .pure = some ef28 := by kernel_rfl
theorem ef31_ok : compileFun Go.Proofs.Tryd.prog glob 31 [] .pure = some ef31 := by kernel_rfl
theorem ef35_ok : compileFun Go.Proofs.Tryd.prog glob 35 [some [38, 39]] .pure = some ef35 := by kernel_rfl
theorem ef36_ok : compileFun Go.Proofs.Tryd.prog glob 36 [] .pure = some ef36 := by kernel_rfl
theorem ef37_ok : compileFun Go.Proofs.Tryd.prog glob 37 [] .pure = some ef37 := by kernel_rfl
theorem ef38_ok : compileFun Go.Proofs.Tryd.prog glob 38 [some [0, 2, 8, 10, 11]] .pure = some ef38 := by kernel_rfl
theorem ef39_ok : compileFun Go.Proofs.Tryd.prog glob 39 [] .pure = some ef39 := by kernel_rfl
theorem ef40_ok : compileFun Go.Proofs.Tryd.prog glob 40 [some [0, 1, 5]] .pure = some ef40 := by kernel_rfl
theorem ef41_ok : compileFun Go.Proofs.Tryd.prog glob 41 [some [0, 2, 7, 8, 9, 10]] .pure = some ef41 := by kernel_rfl
theorem ef46_ok : compileFun Go.Proofs.Tryd.prog glob 46 [] .pure = some ef46 := by kernel_rfl
theorem ef48_ok : compileFun Go.Proofs.Tryd.prog glob 48 [some [2, 4, 5, 6, 7]] .pure = some ef48 := by kernel_rfl
theorem ef51_ok : compileFun Go.Proofs.Tryd.prog glob 51 [] .pure = some ef51 := by kernel_rfl
theorem ef52_ok : compileFun Go.Proofs.Tryd.prog glob 52 [] .pure = some ef52 := by kernel_rfl
theorem ef57_ok : compileFun Go.Proofs.Tryd.prog glob 57 [] .pure = some ef57 := by kernel_rfl
theorem ef58_ok : compileFun Go.Proofs.Tryd.prog glob 58 [some [2, 4, 5], some [2, 4, 6], some [2, 4, 7]] .pure = some ef58 := by kernel_rfl
theorem ef60_ok : compileFun Go.Proofs.Tryd.prog glob 60 [] .pure = some ef60 := by kernel_rfl
theorem ef62_ok : compileFun Go.Proofs.Tryd.prog glob 62 [] .pure = some ef62 := by kernel_rfl
theorem ef63_ok : compileFun Go.Proofs.Tryd.prog glob 63 [] .pure = some ef63 := by kernel_rfl
theorem ef64_ok : compileFun Go.Proofs.Tryd.prog glob 64 [] .pure = some ef64 := by kernel_rfl
theorem ef65_ok : compileFun Go.Proofs.Tryd.prog glob 65 [some [0, 1, 5]] .pure = some ef65 := by kernel_rfl
theorem ef66_ok : compileFun Go.Proofs.Tryd.prog glob 66 [some [1, 2]] .pure = some ef66 := by kernel_rfl
theorem ef67_ok : compileFun Go.Proofs.Tryd.prog glob 67 [some [1, 2, 3]] .pure = some ef67 := by kernel_rfl
theorem ef68_ok : compileFun Go.Proofs.Tryd.prog glob 68 [some [0, 1, 6, 7], some [0, 6, 8]] .pure = some ef68 := by kernel_rfl
theorem ef69_ok : compileFun Go.Proofs.Tryd.prog glob 69 [some [0, 1, 5, 6], some [0, 5, 7]] .pure = some ef69 := by kernel_rfl
theorem ef70_ok : compileFun Go.Proofs.Tryd.prog glob 70 [] .pure = some ef70 := by kernel_rfl
theorem ef76_ok : compileFun Go.Proofs.Tryd.prog glob 76 [some [0, 1, 5]] .pure = some ef76 := by kernel_rfl
theorem ef78_ok : compileFun Go.Proofs.Tryd.prog glob 78 [some [2, 6, 9, 11, 14], some [6, 9, 14, 15, 16]] .pure = some ef78 := by kernel_rfl
theorem ef79_ok : compileFun Go.Proofs.Tryd.prog glob 79 [some [0, 1, 2, 8, 9]] .pure = some ef79 := by kernel_rfl
theorem ef80_ok : compileFun Go.Proofs.Tryd.prog glob 80 [some [0, 1, 5]] .pure = some ef80 := by kernel_rfl
theorem ef81_ok : compileFun Go.Proofs.Tryd.prog glob 81 [some [1, 2, 4, 5, 6]] .pure = some ef81 := by kernel_rfl
theorem ef82_ok : compileFun Go.Proofs.Tryd.prog glob 82 [some [4, 8, 9, 10]] .pure = some ef82 := by kernel_rfl
theorem ef83_ok : compileFun Go.Proofs.Tryd.prog glob 83 [] .pure = some ef83 := by kernel_rfl
theorem ef84_ok : compileFun Go.Proofs.Tryd.prog glob 84 [] .pure = some ef84 := by kernel_rfl
theorem ef85_ok : compileFun Go.Proofs.Tryd.prog glob 85 [] .pure = some ef85 := by kernel_rfl
theorem ef86_ok : compileFun Go.Proofs.Tryd.prog glob 86 [] .pure = some ef86 := by kernel_rfl
theorem ef87_ok : compileFun Go.Proofs.Tryd.prog glob 87 [] .pure = some ef87 := by kernel_rfl
theorem ef88_ok : compileFun Go.Proofs.Tryd.prog glob 88 [some [0, 3]] .pure = some ef88 := by kernel_rfl
theorem ef89_ok : compileFun Go.Proofs.Tryd.prog glob 89 [some [1, 2, 3, 4, 5], some [1, 2, 3, 4, 5, 6, 7]] .pure = some ef89 := by kernel_rfl
theorem ef90_ok : compileFun Go.Proofs.Tryd.prog glob 90 [] .pure = some ef90 := by kernel_rfl
theorem ef91_ok : compileFun Go.Proofs.Tryd.prog glob 91 [some [1, 3, 5, 6, 7]] .pure = some ef91 := by kernel_rfl
theorem ef92_ok : compileFun Go.Proofs.Tryd.prog glob 92 [] .pure = some ef92 := by kernel_rfl
theorem ef93_ok : compileFun Go.Proofs.Tryd.prog glob 93 [] .pure = some ef93 := by kernel_rfl
theorem ef94_ok : compileFun Go.Proofs.Tryd.prog glob 94 [] .pure = some ef94 := by kernel_rfl
theorem ef96_ok : compileFun Go.Proofs.Tryd.prog glob 96 [] .pure = some ef96 := by kernel_rfl
theorem ef97_ok : compileFun Go.Proofs.Tryd.prog glob 97 [] .pure = some ef97 := by kernel_rfl
theorem ef98_ok : compileFun Go.Proofs.Tryd.prog glob 98 [some [0, 2, 4, 7, 8], some [0, 2, 4, 5, 6, 7, 8]] .pure = some ef98 := by kernel_rfl
theorem ef99_ok : compileFun Go.Proofs.Tryd.prog glob 99 [some [0, 2, 4, 5], some [0, 2, 4, 5, 6]] .pure = some ef99 := by kernel_rfl
theorem ef100_ok : compileFun Go.Proofs.Tryd.prog glob 100 [] .pure = some ef100 := by kernel_rfl
theorem ef103_ok : compileFun Go.Proofs.Tryd.prog glob 103 [] .pure = some ef103 := by kernel_rfl
theorem ef104_ok : compileFun Go.Proofs.Tryd.prog glob 104 [] .pure = some ef104 := by kernel_rfl
theorem ef105_ok : compileFun Go.Proofs.Tryd.prog glob 105 [] .pure = some ef105 := by kernel_rfl
theorem ef108_ok : compileFun Go.Proofs.Tryd.prog glob 108 [] .pure = some ef108 := by kernel_rfl
theorem ef109_ok : compileFun Go.Proofs.Tryd.prog glob 109 [some [0, 7, 8, 9]] .pure = some ef109 := by kernel_rfl
theorem ef110_ok : compileFun Go.Proofs.Tryd.prog glob 110 [] .pure = some ef110 := by kernel_rfl
theorem ef111_ok : compileFun Go.Proofs.Tryd.prog glob 111 [some [3, 6, 7, 8]] .pure = some ef111 := by kernel_rfl
theorem ef112_ok : compileFun Go.Proofs.Tryd.prog glob 112 [some [1, 3, 4, 8]] .pure = some ef112 := by kernel_rfl
theorem ef113_ok : compileFun Go.Proofs.Tryd.prog glob 113 [some [0, 3, 9], some [0, 3, 4, 5, 6, 9, 29, 30]] .pure = some ef113 := by kernel_rfl
theorem ef114_ok : compileFun Go.Proofs.Tryd.prog glob 114 [] .pure = some ef114 := by kernel_rfl
theorem ef115_ok : compileFun Go.Proofs.Tryd.prog glob 115 [] .pure = some ef115 := by kernel_rfl
theorem ef116_ok : compileFun Go.Proofs.Tryd.prog glob 116 [] .pure = some ef116 := by kernel_rfl
theorem ef122_ok : compileFun Go.Proofs.Tryd.prog glob 122 [some [2, 3, 4, 6, 8]] .pure = some ef122 := by kernel_rfl
theorem ef124_ok : compileFun Go.Proofs.Tryd.prog glob 124 [some [0, 1, 8, 9, 10]] .trunc = some ef124 := by kernel_rfl
theorem ef125_ok : compileFun Go.Proofs.Tryd.prog glob 125 [some [8, 9, 25, 26, 27]] .pure = some ef125 := by kernel_rfl
theorem ef126_ok : compileFun Go.Proofs.Tryd.prog glob 126 [some [0, 2, 3]] .trunc = some ef126 := by kernel_rfl
theorem ef127_ok : compileFun Go.Proofs.Tryd.prog glob 127 [some [0, 1, 5]] .pure = some ef127 := by kernel_rfl
theorem ef128_ok : compileFun Go.Proofs.Tryd.prog glob 128 [] .pure = some ef128 := by kernel_rfl
theorem ef129_ok : compileFun Go.Proofs.Tryd.prog glob 129 [some [1, 6, 7]] .pure = some ef129 := by kernel_rfl
theorem ef130_ok : compileFun Go.Proofs.Tryd.prog glob 130 [] .pure = some ef130 := by kernel_rfl
theorem ef131_ok : compileFun Go.Proofs.Tryd.prog glob 131 [] .pure = some ef131 := by kernel_rfl
theorem ef132_ok : compileFun Go.Proofs.Tryd.prog glob 132 [some [2, 3, 9, 10]] .pure = some ef132 := by kernel_rfl
theorem ef133_ok : compileFun Go.Proofs.Tryd.prog glob 133 [] .pure = some ef133 := by kernel_rfl
theorem ef134_ok : compileFun Go.Proofs.Tryd.prog glob 134 [some [0, 1, 2], some [0, 1, 2, 7]] .pure = some ef134 := by kernel_rfl
theorem ef135_ok : compileFun Go.Proofs.Tryd.prog glob 135 [] .pure = some ef135 := by kernel_rfl
theorem ef136_ok : compileFun Go.Proofs.Tryd.prog glob 136 [some [0, 1, 5]] .pure = some ef136 := by kernel_rfl
theorem ef137_ok : compileFun Go.Proofs.Tryd.prog glob 137 [] .pure = some ef137 := by kernel_rfl
theorem ef138_ok : compileFun Go.Proofs.Tryd.prog glob 138 [] .pure = some ef138 := by kernel_rfl
theorem ef139_ok : compileFun Go.Proofs.Tryd.prog glob 139 [] .pure = some ef139 := by kernel_rfl
theorem ef140_ok : compileFun Go.Proofs.Tryd.prog glob 140 [] .pure = some ef140 := by kernel_rfl
theorem ef141_ok : compileFun Go.Proofs.Tryd.prog glob 141 [] .pure = some ef141 := by kernel_rfl
theorem ef142_ok : compileFun Go.Proofs.Tryd.prog glob 142 [] .pure = some ef142 := by kernel_rfl
theorem ef143_ok : compileFun Go.Proofs.Tryd.prog glob 143 [some [0, 1]] .pure = some ef143 := by kernel_rfl
theorem ef147_ok : compileFun Go.Proofs.Tryd.prog glob 147 [] .pure = some ef147 := by kernel_rfl
theorem ef148_ok : compileFun Go.Proofs.Tryd.prog glob 148 [some [0, 1, 7, 8]] .pure = some ef148 := by kernel_rfl
theorem ef149_ok : compileFun Go.Proofs.Tryd.prog glob 149 [] .pure = some ef149 := by kernel_rfl
theorem ef150_ok : compileFun Go.Proofs.Tryd.prog glob 150 [some [0, 1]] .pure = some ef150 := by kernel_rfl
theorem ef151_ok : compileFun Go.Proofs.Tryd.prog glob 151 [] .pure = some ef151 := by kernel_rfl
theorem ef152_ok : compileFun Go.Proofs.Tryd.prog glob 152 [some [1, 5, 6, 17, 18, 19]] .pure = some ef152 := by kernel_rfl
theorem ef153_ok : compileFun Go.Proofs.Tryd.prog glob 153 [] .pure = some ef153 := by kernel_rfl
theorem ef154_ok : compileFun Go.Proofs.Tryd.prog glob 154 [some [0, 1, 7, 8]] .pure = some ef154 := by kernel_rfl
theorem ef155_ok : compileFun Go.Proofs.Tryd.prog glob 155 [] .pure = some ef155 := by kernel_rfl
theorem E_ok : ProgOk Go.Proofs.Tryd.prog E where
  mix := by kernel_rfl
  fn := by
    intro f F h
    replace h : fns f = some F := h
    unfold fns at h
    split at h
    · cases h; exact ⟨_, ef6_ok⟩
    · cases h; exact ⟨_, ef13_ok⟩
    · cases h; exact ⟨_, ef14_ok⟩
    · cases h; exact ⟨_, ef17_ok⟩
    · cases h; exact ⟨_, ef18_ok⟩
    · cases h; exact ⟨_, ef19_ok⟩
    · cases h; exact ⟨_, ef20_ok⟩
    · cases h; exact ⟨_, ef21_ok⟩
    · cases h; exact ⟨_, ef22_ok⟩
    · cases h; exact ⟨_, ef23_ok⟩
    · cases h; exact ⟨_, ef24_ok⟩
    · cases h; exact ⟨_, ef26_ok⟩
    · cases h; exact ⟨_, ef27_ok⟩
    · cases h; exact ⟨_, ef28_ok⟩
    · cases h; exact ⟨_, ef31_ok⟩
    · cases h; exact ⟨_, ef35_ok⟩
    · cases h; exact ⟨_, ef36_ok⟩
    · cases h; exact ⟨_, ef37_ok⟩
    · cases h; exact ⟨_, ef38_ok⟩
    · cases h; exact ⟨_, ef39_ok⟩
    · cases h; exact ⟨_, ef40_ok⟩
    · cases h; exact ⟨_, ef41_ok⟩
    · cases h; exact ⟨_, ef46_ok⟩
    · cases h; exact ⟨_, ef48_ok⟩
    · cases h; exact ⟨_, ef51_ok⟩
    · cases h; exact ⟨_, ef52_ok⟩
    · cases h; exact ⟨_, ef57_ok⟩
    · cases h; exact ⟨_, ef58_ok⟩
    · cases h; exact ⟨_, ef60_ok⟩
    · cases h; exact ⟨_, ef62_ok⟩
    · cases h; exact ⟨_, ef63_ok⟩
    · cases h; exact ⟨_, ef64_ok⟩
    · cases h; exact ⟨_, ef65_ok⟩
    · cases h; exact ⟨_, ef66_ok⟩
    · cases h; exact ⟨_, ef67_ok⟩
    · cases h; exact ⟨_, ef68_ok⟩
    · cases h; exact ⟨_, ef69_ok⟩
    · cases h; exact ⟨_, ef70_ok⟩
    · cases h; exact ⟨_, ef76_ok⟩
    · cases h; exact ⟨_, ef78_ok⟩
    · cases h; exact ⟨_, ef79_ok⟩
    · cases h; exact ⟨_, ef80_ok⟩
    · cases h; exact ⟨_, ef81_ok⟩
    · cases h; exact ⟨_, ef82_ok⟩
    · cases h; exact ⟨_, ef83_ok⟩
    · cases h; exact ⟨_, ef84_ok⟩
    · cases h; exact ⟨_, ef85_ok⟩
    · cases h; exact ⟨_, ef86_ok⟩
    · cases h; exact ⟨_, ef87_ok⟩
    · cases h; exact ⟨_, ef88_ok⟩
    · cases h; exact ⟨_, ef89_ok⟩
    · cases h; exact ⟨_, ef90_ok⟩
    · cases h; exact ⟨_, ef91_ok⟩
    · cases h; exact ⟨_, ef92_ok⟩
    · cases h; exact ⟨_, ef93_ok⟩
    · cases h; exact ⟨_, ef94_ok⟩
    · cases h; exact ⟨_, ef96_ok⟩
    · cases h; exact ⟨_, ef97_ok⟩
    · cases h; exact ⟨_, ef98_ok⟩
    · cases h; exact ⟨_, ef99_ok⟩
    · cases h; exact ⟨_, ef100_ok⟩
    · cases h; exact ⟨_, ef103_ok⟩
    · cases h; exact ⟨_, ef104_ok⟩
    · cases h; exact ⟨_, ef105_ok⟩
    · cases h; exact ⟨_, ef108_ok⟩
    · cases h; exact ⟨_, ef109_ok⟩
    · cases h; exact ⟨_, ef110_ok⟩
    · cases h; exact ⟨_, ef111_ok⟩
    · cases h; exact ⟨_, ef112_ok⟩
    · cases h; exact ⟨_, ef113_ok⟩
    · cases h; exact ⟨_, ef114_ok⟩
    · cases h; exact ⟨_, ef115_ok⟩
    · cases h; exact ⟨_, ef116_ok⟩
    · cases h; exact ⟨_, ef122_ok⟩
    · cases h; exact ⟨_, ef124_ok⟩
    · cases h; exact ⟨_, ef125_ok⟩
    · cases h; exact ⟨_, ef126_ok⟩
    · cases h; exact ⟨_, ef127_ok⟩
    · cases h; exact ⟨_, ef128_ok⟩
    · cases h; exact ⟨_, ef129_ok⟩
    · cases h; exact ⟨_, ef130_ok⟩
    · cases h; exact ⟨_, ef131_ok⟩
    · cases h; exact ⟨_, ef132_ok⟩
    · cases h; exact ⟨_, ef133_ok⟩
    · cases h; exact ⟨_, ef134_ok⟩
    · cases h; exact ⟨_, ef135_ok⟩
    · cases h; exact ⟨_, ef136_ok⟩
    · cases h; exact ⟨_, ef137_ok⟩
    · cases h; exact ⟨_, ef138_ok⟩
    · cases h; exact ⟨_, ef139_ok⟩
    · cases h; exact ⟨_, ef140_ok⟩
    · cases h; exact ⟨_, ef141_ok⟩
    · cases h; exact ⟨_, ef142_ok⟩
    · cases h; exact ⟨_, ef143_ok⟩
    · cases h; exact ⟨_, ef147_ok⟩
    · cases h; exact ⟨_, ef148_ok⟩
    · cases h; exact ⟨_, ef149_ok⟩
    · cases h; exact ⟨_, ef150_ok⟩
    · cases h; exact ⟨_, ef151_ok⟩
    · cases h; exact ⟨_, ef152_ok⟩
    · cases h; exact ⟨_, ef153_ok⟩
    · cases h; exact ⟨_, ef154_ok⟩
    · cases h; exact ⟨_, ef155_ok⟩
    · cases h
end Go.Abs.T
