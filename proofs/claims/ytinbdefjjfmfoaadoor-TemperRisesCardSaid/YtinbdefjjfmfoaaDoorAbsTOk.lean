/- The functions, compiled for the abstract evaluator. Written by wip/abs/Print.lean. -/
import Derived.Test.YtinbdefjjfmfoaaDoorProg
import Derived.Test.YtinbdefjjfmfoaaDoorAbsT
set_option linter.unusedSimpArgs false
set_option linter.unusedVariables false
set_option maxRecDepth 100000
set_option maxHeartbeats 0
namespace Go.Abs.T
open Go Go.Abs
theorem ef3_ok : compileFun Go.Proofs.Tryd.prog glob 3 [] .pure = some ef3 := by kernel_rfl
theorem ef4_ok : compileFun Go.Proofs.Tryd.prog glob 4 [] .pure = some ef4 := by kernel_rfl
theorem ef5_ok : compileFun Go.Proofs.Tryd.prog glob 5 [] .pure = some ef5 := by kernel_rfl
theorem ef7_ok : compileFun Go.Proofs.Tryd.prog glob 7 [] .pure = some ef7 := by kernel_rfl
theorem ef8_ok : compileFun Go.Proofs.Tryd.prog glob 8 [some [2, 3, 5, 6, 7, 8, 9]] .pure = some ef8 := by kernel_rfl
theorem ef9_ok : compileFun Go.Proofs.Tryd.prog glob 9 [] .pure = some ef9 := by kernel_rfl
theorem ef10_ok : compileFun Go.Proofs.Tryd.prog glob 10 [] .pure = some ef10 := by kernel_rfl
theorem ef11_ok : compileFun Go.Proofs.Tryd.prog glob 11 [some [1, 3, 4, 5]] .pure = some ef11 := by kernel_rfl
theorem ef12_ok : compileFun Go.Proofs.Tryd.prog glob 12 [] .pure = some ef12 := by kernel_rfl
theorem ef15_ok : compileFun Go.Proofs.Tryd.prog glob 15 [] .pure = some ef15 := by kernel_rfl
theorem ef16_ok : compileFun Go.Proofs.Tryd.prog glob 16 [] .pure = some ef16 := by kernel_rfl
theorem ef19_ok : compileFun Go.Proofs.Tryd.prog glob 19 [] .pure = some ef19 := by kernel_rfl
theorem ef20_ok : compileFun Go.Proofs.Tryd.prog glob 20 [] .pure = some ef20 := by kernel_rfl
theorem ef21_ok : compileFun Go.Proofs.Tryd.prog glob 21 [] .pure = some ef21 := by kernel_rfl
theorem ef22_ok : compileFun Go.Proofs.Tryd.prog glob 22 [] .pure = some ef22 := by kernel_rfl
theorem ef23_ok : compileFun Go.Proofs.Tryd.prog glob 23 [some [1, 3, 4, 5]] .pure = some ef23 := by kernel_rfl
theorem ef24_ok : compileFun Go.Proofs.Tryd.prog glob 24 [] .pure = some ef24 := by kernel_rfl
theorem ef25_ok : compileFun Go.Proofs.Tryd.prog glob 25 [] .pure = some ef25 := by kernel_rfl
theorem ef26_ok : compileFun Go.Proofs.Tryd.prog glob 26 [] .pure = some ef26 := by kernel_rfl
theorem ef27_ok : compileFun Go.Proofs.Tryd.prog glob 27 [] .pure = some ef27 := by kernel_rfl
theorem ef28_ok : compileFun Go.Proofs.Tryd.prog glob 28 [] .pure = some ef28 := by kernel_rfl
theorem ef29_ok : compileFun Go.Proofs.Tryd.prog glob 29 [] .pure = some ef29 := by kernel_rfl
theorem ef30_ok : compileFun Go.Proofs.Tryd.prog glob 30 [] .pure = some ef30 := by kernel_rfl
theorem ef31_ok : compileFun Go.Proofs.Tryd.prog glob 31 [] .pure = some ef31 := by kernel_rfl
theorem ef32_ok : compileFun Go.Proofs.Tryd.prog glob 32 [some [1, 6, 8, 23]] .pure = some ef32 := by kernel_rfl
theorem ef33_ok : compileFun Go.Proofs.Tryd.prog glob 33 [] .pure = some ef33 := by kernel_rfl
theorem ef34_ok : compileFun Go.Proofs.Tryd.prog glob 34 [] .pure = some ef34 := by kernel_rfl
theorem ef35_ok : compileFun Go.Proofs.Tryd.prog glob 35 [some [38, 39]] .pure = some ef35 := by kernel_rfl
theorem ef36_ok : compileFun Go.Proofs.Tryd.prog glob 36 [] .pure = some ef36 := by kernel_rfl
theorem ef42_ok : compileFun Go.Proofs.Tryd.prog glob 42 [] .pure = some ef42 := by kernel_rfl
theorem ef43_ok : compileFun Go.Proofs.Tryd.prog glob 43 [] .pure = some ef43 := by kernel_rfl
theorem ef44_ok : compileFun Go.Proofs.Tryd.prog glob 44 [] .pure = some ef44 := by kernel_rfl
theorem ef45_ok : compileFun Go.Proofs.Tryd.prog glob 45 [] .pure = some ef45 := by kernel_rfl
theorem ef46_ok : compileFun Go.Proofs.Tryd.prog glob 46 [] .pure = some ef46 := by kernel_rfl
theorem ef47_ok : compileFun Go.Proofs.Tryd.prog glob 47 [some [1, 2, 4, 5, 6]] .pure = some ef47 := by kernel_rfl
theorem ef48_ok : compileFun Go.Proofs.Tryd.prog glob 48 [some [2, 4, 5, 6, 7]] .pure = some ef48 := by kernel_rfl
theorem ef49_ok : compileFun Go.Proofs.Tryd.prog glob 49 [some [1, 2, 8, 36, 37, 38], some [1, 8, 13, 48, 49, 50]] .pure = some ef49 := by kernel_rfl
theorem ef50_ok : compileFun Go.Proofs.Tryd.prog glob 50 [some [0, 3]] .pure = some ef50 := by kernel_rfl
theorem ef51_ok : compileFun Go.Proofs.Tryd.prog glob 51 [] .pure = some ef51 := by kernel_rfl
theorem ef52_ok : compileFun Go.Proofs.Tryd.prog glob 52 [] .pure = some ef52 := by kernel_rfl
theorem ef53_ok : compileFun Go.Proofs.Tryd.prog glob 53 [] .pure = some ef53 := by kernel_rfl
theorem ef54_ok : compileFun Go.Proofs.Tryd.prog glob 54 [] .pure = some ef54 := by kernel_rfl
theorem ef55_ok : compileFun Go.Proofs.Tryd.prog glob 55 [] .pure = some ef55 := by kernel_rfl
theorem ef56_ok : compileFun Go.Proofs.Tryd.prog glob 56 [] .pure = some ef56 := by kernel_rfl
theorem ef57_ok : compileFun Go.Proofs.Tryd.prog glob 57 [] .pure = some ef57 := by kernel_rfl
theorem ef58_ok : compileFun Go.Proofs.Tryd.prog glob 58 [some [2, 4, 5], some [2, 4, 6], some [2, 4, 7]] .pure = some ef58 := by kernel_rfl
theorem ef59_ok : compileFun Go.Proofs.Tryd.prog glob 59 [some [1, 2, 4, 8, 26]] .pure = some ef59 := by kernel_rfl
theorem ef60_ok : compileFun Go.Proofs.Tryd.prog glob 60 [] .pure = some ef60 := by kernel_rfl
theorem ef61_ok : compileFun Go.Proofs.Tryd.prog glob 61 [some [1, 2, 4, 5, 6]] .pure = some ef61 := by kernel_rfl
theorem ef66_ok : compileFun Go.Proofs.Tryd.prog glob 66 [some [1, 2]] .pure = some ef66 := by kernel_rfl
theorem ef70_ok : compileFun Go.Proofs.Tryd.prog glob 70 [] .pure = some ef70 := by kernel_rfl
theorem ef71_ok : compileFun Go.Proofs.Tryd.prog glob 71 [some [4, 15]] .pure = some ef71 := by kernel_rfl
theorem ef72_ok : compileFun Go.Proofs.Tryd.prog glob 72 [some [4, 6, 16]] .pure = some ef72 := by kernel_rfl
theorem ef73_ok : compileFun Go.Proofs.Tryd.prog glob 73 [some [6, 8, 9, 27]] .pure = some ef73 := by kernel_rfl
theorem ef74_ok : compileFun Go.Proofs.Tryd.prog glob 74 [some [1, 3]] .pure = some ef74 := by kernel_rfl
theorem ef75_ok : compileFun Go.Proofs.Tryd.prog glob 75 [some [1, 3, 4]] .pure = some ef75 := by kernel_rfl
theorem ef76_ok : compileFun Go.Proofs.Tryd.prog glob 76 [some [0, 1, 5]] .pure = some ef76 := by kernel_rfl
theorem ef77_ok : compileFun Go.Proofs.Tryd.prog glob 77 [some [2, 3, 5, 6]] .pure = some ef77 := by kernel_rfl
theorem ef82_ok : compileFun Go.Proofs.Tryd.prog glob 82 [some [4, 8, 9, 10]] .pure = some ef82 := by kernel_rfl
theorem ef83_ok : compileFun Go.Proofs.Tryd.prog glob 83 [] .pure = some ef83 := by kernel_rfl
theorem ef84_ok : compileFun Go.Proofs.Tryd.prog glob 84 [] .pure = some ef84 := by kernel_rfl
theorem ef85_ok : compileFun Go.Proofs.Tryd.prog glob 85 [] .pure = some ef85 := by kernel_rfl
theorem ef86_ok : compileFun Go.Proofs.Tryd.prog glob 86 [] .pure = some ef86 := by kernel_rfl
theorem ef87_ok : compileFun Go.Proofs.Tryd.prog glob 87 [] .pure = some ef87 := by kernel_rfl
theorem ef88_ok : compileFun Go.Proofs.Tryd.prog glob 88 [some [0, 3]] .pure = some ef88 := by kernel_rfl
theorem ef89_ok : compileFun Go.Proofs.Tryd.prog glob 89 [some [1, 2, 3, 4, 5], some [1, 2, 3, 4, 5, 6, 7]] .pure = some ef89 := by kernel_rfl
theorem ef90_ok : compileFun Go.Proofs.Tryd.prog glob 90 [] .pure = some ef90 := by kernel_rfl
theorem ef91_ok : compileFun Go.Proofs.Tryd.prog glob 91 [some [1, 3, 5, 6, 7]] .pure = some ef91 := by kernel_rfl
theorem ef92_ok : compileFun Go.Proofs.Tryd.prog glob 92 [] .pure = some ef92 := by kernel_rfl
theorem ef93_ok : compileFun Go.Proofs.Tryd.prog glob 93 [] .pure = some ef93 := by kernel_rfl
theorem ef94_ok : compileFun Go.Proofs.Tryd.prog glob 94 [] .pure = some ef94 := by kernel_rfl
theorem ef95_ok : compileFun Go.Proofs.Tryd.prog glob 95 [some [2, 4, 6, 7, 8, 9]] .pure = some ef95 := by kernel_rfl
theorem ef96_ok : compileFun Go.Proofs.Tryd.prog glob 96 [] .pure = some ef96 := by kernel_rfl
theorem ef97_ok : compileFun Go.Proofs.Tryd.prog glob 97 [] .pure = some ef97 := by kernel_rfl
theorem ef98_ok : compileFun Go.Proofs.Tryd.prog glob 98 [some [0, 2, 4, 7, 8], some [0, 2, 4, 5, 6, 7, 8]] .pure = some ef98 := by kernel_rfl
theorem ef99_ok : compileFun Go.Proofs.Tryd.prog glob 99 [some [0, 2, 4, 5], some [0, 2, 4, 5, 6]] .pure = some ef99 := by kernel_rfl
theorem ef101_ok : compileFun Go.Proofs.Tryd.prog glob 101 [] .pure = some ef101 := by kernel_rfl
theorem ef102_ok : compileFun Go.Proofs.Tryd.prog glob 102 [some [0, 4, 5, 6, 14]] .pure = some ef102 := by kernel_rfl
theorem ef103_ok : compileFun Go.Proofs.Tryd.prog glob 103 [] .pure = some ef103 := by kernel_rfl
theorem ef104_ok : compileFun Go.Proofs.Tryd.prog glob 104 [] .pure = some ef104 := by kernel_rfl
theorem ef105_ok : compileFun Go.Proofs.Tryd.prog glob 105 [] .pure = some ef105 := by kernel_rfl
theorem ef106_ok : compileFun Go.Proofs.Tryd.prog glob 106 [] .pure = some ef106 := by kernel_rfl
theorem ef107_ok : compileFun Go.Proofs.Tryd.prog glob 107 [] .pure = some ef107 := by kernel_rfl
theorem ef108_ok : compileFun Go.Proofs.Tryd.prog glob 108 [] .pure = some ef108 := by kernel_rfl
theorem ef109_ok : compileFun Go.Proofs.Tryd.prog glob 109 [some [0, 7, 8, 9]] .pure = some ef109 := by kernel_rfl
theorem ef110_ok : compileFun Go.Proofs.Tryd.prog glob 110 [] .pure = some ef110 := by kernel_rfl
theorem ef111_ok : compileFun Go.Proofs.Tryd.prog glob 111 [some [3, 6, 7, 8]] .pure = some ef111 := by kernel_rfl
theorem ef112_ok : compileFun Go.Proofs.Tryd.prog glob 112 [some [1, 3, 4, 8]] .pure = some ef112 := by kernel_rfl
theorem ef113_ok : compileFun Go.Proofs.Tryd.prog glob 113 [some [0, 3, 9], some [0, 3, 4, 5, 6, 9, 29, 30]] .pure = some ef113 := by kernel_rfl
theorem ef114_ok : compileFun Go.Proofs.Tryd.prog glob 114 [] .pure = some ef114 := by kernel_rfl
theorem ef115_ok : compileFun Go.Proofs.Tryd.prog glob 115 [] .pure = some ef115 := by kernel_rfl
theorem ef116_ok : compileFun Go.Proofs.Tryd.prog glob 116 [] .pure = some ef116 := by kernel_rfl
theorem ef117_ok : compileFun Go.Proofs.Tryd.prog glob 117 [] .pure = some ef117 := by kernel_rfl
theorem ef118_ok : compileFun Go.Proofs.Tryd.prog glob 118 [] .pure = some ef118 := by kernel_rfl
theorem ef119_ok : compileFun Go.Proofs.Tryd.prog glob 119 [some [8, 9, 18, 19]] .pure = some ef119 := by kernel_rfl
theorem ef120_ok : compileFun Go.Proofs.Tryd.prog glob 120 [some [0, 1, 5]] .pure = some ef120 := by kernel_rfl
theorem ef121_ok : compileFun Go.Proofs.Tryd.prog glob 121 [] .pure = some ef121 := by kernel_rfl
theorem ef122_ok : compileFun Go.Proofs.Tryd.prog glob 122 [some [2, 3, 4, 6, 8]] .pure = some ef122 := by kernel_rfl
theorem ef123_ok : compileFun Go.Proofs.Tryd.prog glob 123 [] .pure = some ef123 := by kernel_rfl
theorem ef124_ok : compileFun Go.Proofs.Tryd.prog glob 124 [some [0, 1, 8, 9, 10]] .trunc = some ef124 := by kernel_rfl
theorem ef128_ok : compileFun Go.Proofs.Tryd.prog glob 128 [] .pure = some ef128 := by kernel_rfl
theorem ef129_ok : compileFun Go.Proofs.Tryd.prog glob 129 [some [1, 6, 7]] .pure = some ef129 := by kernel_rfl
theorem ef130_ok : compileFun Go.Proofs.Tryd.prog glob 130 [] .pure = some ef130 := by kernel_rfl
theorem ef131_ok : compileFun Go.Proofs.Tryd.prog glob 131 [] .pure = some ef131 := by kernel_rfl
theorem ef132_ok : compileFun Go.Proofs.Tryd.prog glob 132 [some [2, 3, 9, 10]] .pure = some ef132 := by kernel_rfl
theorem ef133_ok : compileFun Go.Proofs.Tryd.prog glob 133 [] .pure = some ef133 := by kernel_rfl
theorem ef134_ok : compileFun Go.Proofs.Tryd.prog glob 134 [some [0, 1, 2], some [0, 1, 2, 7]] .pure = some ef134 := by kernel_rfl
theorem ef135_ok : compileFun Go.Proofs.Tryd.prog glob 135 [] .pure = some ef135 := by kernel_rfl
theorem ef136_ok : compileFun Go.Proofs.Tryd.prog glob 136 [some [0, 1, 5]] .pure = some ef136 := by kernel_rfl
theorem ef137_ok : compileFun Go.Proofs.Tryd.prog glob 137 [] .pure = some ef137 := by kernel_rfl
theorem ef138_ok : compileFun Go.Proofs.Tryd.prog glob 138 [] .pure = some ef138 := by kernel_rfl
theorem ef139_ok : compileFun Go.Proofs.Tryd.prog glob 139 [] .pure = some ef139 := by kernel_rfl
theorem ef140_ok : compileFun Go.Proofs.Tryd.prog glob 140 [] .pure = some ef140 := by kernel_rfl
theorem ef141_ok : compileFun Go.Proofs.Tryd.prog glob 141 [] .pure = some ef141 := by kernel_rfl
theorem ef142_ok : compileFun Go.Proofs.Tryd.prog glob 142 [] .pure = some ef142 := by kernel_rfl
theorem ef143_ok : compileFun Go.Proofs.Tryd.prog glob 143 [some [0, 1]] .pure = some ef143 := by kernel_rfl
theorem ef144_ok : compileFun Go.Proofs.Tryd.prog glob 144 [some [0, 1, 5, 6], some [0, 1, 5, 6, 7, 8], some [5]] .pure = some ef144 := by kernel_rfl
theorem ef145_ok : compileFun Go.Proofs.Tryd.prog glob 145 [some [0, 1, 5]] .pure = some ef145 := by kernel_rfl
theorem ef146_ok : compileFun Go.Proofs.Tryd.prog glob 146 [some [0, 3]] .pure = some ef146 := by kernel_rfl
theorem ef147_ok : compileFun Go.Proofs.Tryd.prog glob 147 [] .pure = some ef147 := by kernel_rfl
theorem ef148_ok : compileFun Go.Proofs.Tryd.prog glob 148 [some [0, 1, 7, 8]] .pure = some ef148 := by kernel_rfl
theorem ef150_ok : compileFun Go.Proofs.Tryd.prog glob 150 [some [0, 1]] .pure = some ef150 := by kernel_rfl
theorem ef151_ok : compileFun Go.Proofs.Tryd.prog glob 151 [] .pure = some ef151 := by kernel_rfl
theorem ef152_ok : compileFun Go.Proofs.Tryd.prog glob 152 [some [1, 5, 6, 17, 18, 19]] .pure = some ef152 := by kernel_rfl
theorem ef153_ok : compileFun Go.Proofs.Tryd.prog glob 153 [] .pure = some ef153 := by kernel_rfl
theorem ef154_ok : compileFun Go.Proofs.Tryd.prog glob 154 [some [0, 1, 7, 8]] .pure = some ef154 := by kernel_rfl
theorem ef155_ok : compileFun Go.Proofs.Tryd.prog glob 155 [] .pure = some ef155 := by kernel_rfl
theorem E_ok : ProgOk Go.Proofs.Tryd.prog E where
  mix := by kernel_rfl
  fn := by
    intro f F h
    replace h : fns f = some F := h
    unfold fns at h
    split at h
    · cases h; exact ⟨_, ef3_ok⟩
    · cases h; exact ⟨_, ef4_ok⟩
    · cases h; exact ⟨_, ef5_ok⟩
    · cases h; exact ⟨_, ef7_ok⟩
    · cases h; exact ⟨_, ef8_ok⟩
    · cases h; exact ⟨_, ef9_ok⟩
    · cases h; exact ⟨_, ef10_ok⟩
    · cases h; exact ⟨_, ef11_ok⟩
    · cases h; exact ⟨_, ef12_ok⟩
    · cases h; exact ⟨_, ef15_ok⟩
    · cases h; exact ⟨_, ef16_ok⟩
    · cases h; exact ⟨_, ef19_ok⟩
    · cases h; exact ⟨_, ef20_ok⟩
    · cases h; exact ⟨_, ef21_ok⟩
    · cases h; exact ⟨_, ef22_ok⟩
    · cases h; exact ⟨_, ef23_ok⟩
    · cases h; exact ⟨_, ef24_ok⟩
    · cases h; exact ⟨_, ef25_ok⟩
    · cases h; exact ⟨_, ef26_ok⟩
    · cases h; exact ⟨_, ef27_ok⟩
    · cases h; exact ⟨_, ef28_ok⟩
    · cases h; exact ⟨_, ef29_ok⟩
    · cases h; exact ⟨_, ef30_ok⟩
    · cases h; exact ⟨_, ef31_ok⟩
    · cases h; exact ⟨_, ef32_ok⟩
    · cases h; exact ⟨_, ef33_ok⟩
    · cases h; exact ⟨_, ef34_ok⟩
    · cases h; exact ⟨_, ef35_ok⟩
    · cases h; exact ⟨_, ef36_ok⟩
    · cases h; exact ⟨_, ef42_ok⟩
    · cases h; exact ⟨_, ef43_ok⟩
    · cases h; exact ⟨_, ef44_ok⟩
    · cases h; exact ⟨_, ef45_ok⟩
    · cases h; exact ⟨_, ef46_ok⟩
    · cases h; exact ⟨_, ef47_ok⟩
    · cases h; exact ⟨_, ef48_ok⟩
    · cases h; exact ⟨_, ef49_ok⟩
    · cases h; exact ⟨_, ef50_ok⟩
    · cases h; exact ⟨_, ef51_ok⟩
    · cases h; exact ⟨_, ef52_ok⟩
    · cases h; exact ⟨_, ef53_ok⟩
    · cases h; exact ⟨_, ef54_ok⟩
    · cases h; exact ⟨_, ef55_ok⟩
    · cases h; exact ⟨_, ef56_ok⟩
    · cases h; exact ⟨_, ef57_ok⟩
    · cases h; exact ⟨_, ef58_ok⟩
    · cases h; exact ⟨_, ef59_ok⟩
    · cases h; exact ⟨_, ef60_ok⟩
    · cases h; exact ⟨_, ef61_ok⟩
    · cases h; exact ⟨_, ef66_ok⟩
    · cases h; exact ⟨_, ef70_ok⟩
    · cases h; exact ⟨_, ef71_ok⟩
    · cases h; exact ⟨_, ef72_ok⟩
    · cases h; exact ⟨_, ef73_ok⟩
    · cases h; exact ⟨_, ef74_ok⟩
    · cases h; exact ⟨_, ef75_ok⟩
    · cases h; exact ⟨_, ef76_ok⟩
    · cases h; exact ⟨_, ef77_ok⟩
    · cases h; exact ⟨_, ef82_ok⟩
    · cases h; exact ⟨_, ef83_ok⟩
    · cases h; exact ⟨_, ef84_ok⟩
    · cases h; exact ⟨_, ef85_ok⟩
    · cases h; exact ⟨_, ef86_ok⟩
    · cases h; exact ⟨_, ef87_ok⟩
    · cases h; exact ⟨_, ef88_ok⟩
    · cases h; exact ⟨_, ef89_ok⟩
    · cases h; exact ⟨_, ef90_ok⟩
    · cases h; exact ⟨_, ef91_ok⟩
    · cases h; exact ⟨_, ef92_ok⟩
    · cases h; exact ⟨_, ef93_ok⟩
    · cases h; exact ⟨_, ef94_ok⟩
    · cases h; exact ⟨_, ef95_ok⟩
    · cases h; exact ⟨_, ef96_ok⟩
    · cases h; exact ⟨_, ef97_ok⟩
    · cases h; exact ⟨_, ef98_ok⟩
    · cases h; exact ⟨_, ef99_ok⟩
    · cases h; exact ⟨_, ef101_ok⟩
    · cases h; exact ⟨_, ef102_ok⟩
    · cases h; exact ⟨_, ef103_ok⟩
    · cases h; exact ⟨_, ef104_ok⟩
    · cases h; exact ⟨_, ef105_ok⟩
    · cases h; exact ⟨_, ef106_ok⟩
    · cases h; exact ⟨_, ef107_ok⟩
    · cases h; exact ⟨_, ef108_ok⟩
    · cases h; exact ⟨_, ef109_ok⟩
    · cases h; exact ⟨_, ef110_ok⟩
    · cases h; exact ⟨_, ef111_ok⟩
    · cases h; exact ⟨_, ef112_ok⟩
    · cases h; exact ⟨_, ef113_ok⟩
    · cases h; exact ⟨_, ef114_ok⟩
    · cases h; exact ⟨_, ef115_ok⟩
    · cases h; exact ⟨_, ef116_ok⟩
    · cases h; exact ⟨_, ef117_ok⟩
    · cases h; exact ⟨_, ef118_ok⟩
    · cases h; exact ⟨_, ef119_ok⟩
    · cases h; exact ⟨_, ef120_ok⟩
    · cases h; exact ⟨_, ef121_ok⟩
    · cases h; exact ⟨_, ef122_ok⟩
    · cases h; exact ⟨_, ef123_ok⟩
    · cases h; exact ⟨_, ef124_ok⟩
    · cases h; exact ⟨_, ef128_ok⟩
    · cases h; exact ⟨_, ef129_ok⟩
    · cases h; exact ⟨_, ef130_ok⟩
    · cases h; exact ⟨_, ef131_ok⟩
    · cases h; exact ⟨_, ef132_ok⟩
    · cases h; exact ⟨_, ef133_ok⟩
    · cases h; exact ⟨_, ef134_ok⟩
    · cases h; exact ⟨_, ef135_ok⟩
    · cases h; exact ⟨_, ef136_ok⟩
    · cases h; exact ⟨_, ef137_ok⟩
    · cases h; exact ⟨_, ef138_ok⟩
    · cases h; exact ⟨_, ef139_ok⟩
    · cases h; exact ⟨_, ef140_ok⟩
    · cases h; exact ⟨_, ef141_ok⟩
    · cases h; exact ⟨_, ef142_ok⟩
    · cases h; exact ⟨_, ef143_ok⟩
    · cases h; exact ⟨_, ef144_ok⟩
    · cases h; exact ⟨_, ef145_ok⟩
    · cases h; exact ⟨_, ef146_ok⟩
    · cases h; exact ⟨_, ef147_ok⟩
    · cases h; exact ⟨_, ef148_ok⟩
    · cases h; exact ⟨_, ef150_ok⟩
    · cases h; exact ⟨_, ef151_ok⟩
    · cases h; exact ⟨_, ef152_ok⟩
    · cases h; exact ⟨_, ef153_ok⟩
    · cases h; exact ⟨_, ef154_ok⟩
    · cases h; exact ⟨_, ef155_ok⟩
    · cases h
end Go.Abs.T
