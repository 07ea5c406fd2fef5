/- The functions, compiled for the abstract evaluator. Written by wip/abs/Print.lean. -/
import Derived.Test.YtodofkolnmoliaaDoorProg
import Derived.Test.YtodofkolnmoliaaDoorAbsX
set_option linter.unusedSimpArgs false
set_option linter.unusedVariables false
set_option maxRecDepth 100000
set_option maxHeartbeats 0
namespace Go.Abs.X
open Go Go.Abs
theorem ef4_ok : compileFun Go.Proofs.Tryd.prog glob 4 [] .pure = some ef4 := by kernel_rfl
theorem ef5_ok : compileFun Go.Proofs.Tryd.prog glob 5 [] .pure = some ef5 := by kernel_rfl
theorem ef14_ok : compileFun Go.Proofs.Tryd.prog glob 14 [some [0, 3, 16, 17, 18], some [3, 8, 9, 55, 56, 57], some [3, 8, 9, 12]] .pure = some ef14 := by kernel_rfl
theorem ef15_ok : compileFun Go.Proofs.Tryd.prog glob 15 [some [3, 12, 38, 39, 40], some [3, 12, 51, 52], some [3, 12, 15, 51, 52]] .pure = some ef15 := by kernel_rfl
theorem ef16_ok : compileFun Go.Proofs.Tryd.prog glob 16 [some [0, 1, 8, 9, 10, 23, 24], some [1, 9, 10, 34, 35], some [1, 9, 10, 11, 12]] .pure = some ef16 := by kernel_rfl
theorem ef17_ok : compileFun Go.Proofs.Tryd.prog glob 17 [] .pure = some ef17 := by kernel_rfl
theorem ef18_ok : compileFun Go.Proofs.Tryd.prog glob 18 [] .pure = some ef18 := by kernel_rfl
theorem ef19_ok : compileFun Go.Proofs.Tryd.prog glob 19 [] .pure = some ef19 := by kernel_rfl
theorem ef20_ok : compileFun Go.Proofs.Tryd.prog glob 20 [some [1, 3]] .pure = some ef20 := by kernel_rfl
theorem ef21_ok : compileFun Go.Proofs.Tryd.prog glob 21 [some [1, 23, 24]] .pure = some ef21 := by kernel_rfl
theorem ef22_ok : compileFun Go.Proofs.Tryd.prog glob 22 [] .pure = some ef22 := by kernel_rfl
theorem ef23_ok : compileFun Go.Proofs.Tryd.prog glob 23 [some [1, 6, 18, 19]] .pure = some ef23 := by kernel_rfl
theorem ef24_ok : compileFun Go.Proofs.Tryd.prog glob 24 [some [1, 2, 5, 6, 14, 15, 16]] .pure = some ef24 := by kernel_rfl
theorem ef25_ok : compileFun Go.Proofs.Tryd.prog glob 25 [] .pure = some ef25 := by kernel_rfl
theorem ef26_ok : compileFun Go.Proofs.Tryd.prog glob 26 [some [1, 5]] .pure = some ef26 := by kernel_rfl
theorem ef27_ok : compileFun Go.Proofs.Tryd.prog glob 27 [some [1, 2, 3, 4]] .pure = some ef27 := by kernel_rfl
theorem ef28_ok : compileFun Go.Proofs.Tryd.prog glob 28 [some [0, 1, 5]] .pure = some ef28 := by kernel_rfl
theorem ef29_ok : compileFun Go.Proofs.Tryd.prog glob 29 [some [1, 3, 4]] .pure = some ef29 := by kernel_rfl
theorem ef30_ok : compileFun Go.Proofs.Tryd.prog glob 30 [some [1, 2, 3, 4, 5]] .pure = some ef30 := by kernel_rfl
theorem ef31_ok : compileFun Go.Proofs.Tryd.prog glob 31 [] .pure = some ef31 := by kernel_rfl
theorem ef32_ok : compileFun Go.Proofs.Tryd.prog glob 32 [some [1, 6, 11, 47, 48, 49]] .pure = some ef32 := by kernel_rfl
theorem ef33_ok : compileFun Go.Proofs.Tryd.prog glob 33 [some [2, 3, 5], some [2, 3, 6]] .pure = some ef33 := by kernel_rfl
theorem ef34_ok : compileFun Go.Proofs.Tryd.prog glob 34 [some [1, 2, 3, 6, 9], some [1, 2, 6, 10, 11]] .pure = some ef34 := by kernel_rfl
theorem ef55_ok : compileFun Go.Proofs.Tryd.prog glob 55 [] .pure = some ef55 := by kernel_rfl
theorem ef56_ok : compileFun Go.Proofs.Tryd.prog glob 56 [some [0, 3]] .pure = some ef56 := by kernel_rfl
theorem ef57_ok : compileFun Go.Proofs.Tryd.prog glob 57 [some [4, 8, 9, 10]] .pure = some ef57 := by kernel_rfl
theorem ef58_ok : compileFun Go.Proofs.Tryd.prog glob 58 [] .pure = some ef58 := by kernel_rfl
theorem ef60_ok : compileFun Go.Proofs.Tryd.prog glob 60 [] .pure = some ef60 := by kernel_rfl
theorem ef61_ok : compileFun Go.Proofs.Tryd.prog glob 61 [] .pure = some ef61 := by kernel_rfl
theorem ef62_ok : compileFun Go.Proofs.Tryd.prog glob 62 [some [0, 15, 16, 17]] .pure = some ef62 := by kernel_rfl
theorem ef63_ok : compileFun Go.Proofs.Tryd.prog glob 63 [some [1, 2, 7, 11, 12, 13]] .trunc = some ef63 := by kernel_rfl
theorem ef64_ok : compileFun Go.Proofs.Tryd.prog glob 64 [some [0, 2, 3]] .trunc = some ef64 := by kernel_rfl
theorem ef65_ok : compileFun Go.Proofs.Tryd.prog glob 65 [] .pure = some ef65 := by kernel_rfl
theorem ef66_ok : compileFun Go.Proofs.Tryd.prog glob 66 [some [0, 1, 5]] .pure = some ef66 := by kernel_rfl
theorem ef67_ok : compileFun Go.Proofs.Tryd.prog glob 67 [some [0, 3]] .pure = some ef67 := by kernel_rfl
theorem ef68_ok : compileFun Go.Proofs.Tryd.prog glob 68 [] .pure = some ef68 := by kernel_rfl
theorem ef69_ok : compileFun Go.Proofs.Tryd.prog glob 69 [] .pure = some ef69 := by kernel_rfl
theorem ef70_ok : compileFun Go.Proofs.Tryd.prog glob 70 [some [3, 10, 11, 12]] .pure = some ef70 := by kernel_rfl
theorem ef71_ok : compileFun Go.Proofs.Tryd.prog glob 71 [] .pure = some ef71 := by kernel_rfl
theorem ef72_ok : compileFun Go.Proofs.Tryd.prog glob 72 [] .pure = some ef72 := by kernel_rfl
theorem ef73_ok : compileFun Go.Proofs.Tryd.prog glob 73 [] .pure = some ef73 := by kernel_rfl
theorem ef74_ok : compileFun Go.Proofs.Tryd.prog glob 74 [] .pure = some ef74 := by kernel_rfl
theorem ef75_ok : compileFun Go.Proofs.Tryd.prog glob 75 [some [0, 3]] .pure = some ef75 := by kernel_rfl
theorem ef76_ok : compileFun Go.Proofs.Tryd.prog glob 76 [] .pure = some ef76 := by kernel_rfl
theorem ef77_ok : compileFun Go.Proofs.Tryd.prog glob 77 [some [2, 4, 6, 7, 8, 9]] .pure = some ef77 := by kernel_rfl
theorem ef78_ok : compileFun Go.Proofs.Tryd.prog glob 78 [] .pure = some ef78 := by kernel_rfl
theorem ef79_ok : compileFun Go.Proofs.Tryd.prog glob 79 [some [0, 13, 14, 15]] .pure = some ef79 := by kernel_rfl
theorem ef80_ok : compileFun Go.Proofs.Tryd.prog glob 80 [] .pure = some ef80 := by kernel_rfl
theorem ef81_ok : compileFun Go.Proofs.Tryd.prog glob 81 [] .pure = some ef81 := by kernel_rfl
theorem ef89_ok : compileFun Go.Proofs.Tryd.prog glob 89 [] .pure = some ef89 := by kernel_rfl
theorem ef92_ok : compileFun Go.Proofs.Tryd.prog glob 92 [] .pure = some ef92 := by kernel_rfl
theorem ef94_ok : compileFun Go.Proofs.Tryd.prog glob 94 [] .pure = some ef94 := by kernel_rfl
theorem ef120_ok : compileFun Go.Proofs.Tryd.prog glob 120 [some [1, 6, 7]] .pure = some ef120 := by kernel_rfl
theorem ef121_ok : compileFun Go.Proofs.Tryd.prog glob 121 [] .pure = some ef121 := by kernel_rfl
theorem ef122_ok : compileFun Go.Proofs.Tryd.prog glob 122 [] .pure = some ef122 := by kernel_rfl
theorem ef123_ok : compileFun Go.Proofs.Tryd.prog glob 123 [some [2, 3, 9, 10]] .pure = some ef123 := by kernel_rfl
theorem ef124_ok : compileFun Go.Proofs.Tryd.prog glob 124 [] .pure = some ef124 := by kernel_rfl
theorem ef125_ok : compileFun Go.Proofs.Tryd.prog glob 125 [some [0, 1, 2], some [0, 1, 2, 7]] .pure = some ef125 := by kernel_rfl
theorem ef126_ok : compileFun Go.Proofs.Tryd.prog glob 126 [] .pure = some ef126 := by kernel_rfl
theorem ef127_ok : compileFun Go.Proofs.Tryd.prog glob 127 [some [0, 1, 5]] .pure = some ef127 := by kernel_rfl
theorem ef128_ok : compileFun Go.Proofs.Tryd.prog glob 128 [] .pure = some ef128 := by kernel_rfl
theorem ef129_ok : compileFun Go.Proofs.Tryd.prog glob 129 [] .pure = some ef129 := by kernel_rfl
theorem ef130_ok : compileFun Go.Proofs.Tryd.prog glob 130 [] .pure = some ef130 := by kernel_rfl
theorem ef131_ok : compileFun Go.Proofs.Tryd.prog glob 131 [some [0, 7, 8, 9]] .pure = some ef131 := by kernel_rfl
theorem ef132_ok : compileFun Go.Proofs.Tryd.prog glob 132 [] .pure = some ef132 := by kernel_rfl
theorem ef133_ok : compileFun Go.Proofs.Tryd.prog glob 133 [] .pure = some ef133 := by kernel_rfl
theorem ef134_ok : compileFun Go.Proofs.Tryd.prog glob 134 [some [0, 3]] .pure = some ef134 := by kernel_rfl
theorem ef135_ok : compileFun Go.Proofs.Tryd.prog glob 135 [some [0, 1, 5]] .pure = some ef135 := by kernel_rfl
theorem ef136_ok : compileFun Go.Proofs.Tryd.prog glob 136 [some [1, 11, 12]] .pure = some ef136 := by kernel_rfl
theorem ef137_ok : compileFun Go.Proofs.Tryd.prog glob 137 [] .pure = some ef137 := by kernel_rfl
theorem ef138_ok : compileFun Go.Proofs.Tryd.prog glob 138 [] .pure = some ef138 := by kernel_rfl
theorem ef139_ok : compileFun Go.Proofs.Tryd.prog glob 139 [some [8, 9, 18, 19]] .pure = some ef139 := by kernel_rfl
theorem ef140_ok : compileFun Go.Proofs.Tryd.prog glob 140 [some [0, 1, 5, 6], some [0, 1, 5, 6, 7, 8], some [5]] .pure = some ef140 := by kernel_rfl
theorem ef141_ok : compileFun Go.Proofs.Tryd.prog glob 141 [some [0, 1, 5]] .pure = some ef141 := by kernel_rfl
theorem ef142_ok : compileFun Go.Proofs.Tryd.prog glob 142 [some [0, 3]] .pure = some ef142 := by kernel_rfl
theorem ef143_ok : compileFun Go.Proofs.Tryd.prog glob 143 [some [0, 1, 5]] .pure = some ef143 := by kernel_rfl
theorem ef144_ok : compileFun Go.Proofs.Tryd.prog glob 144 [] .pure = some ef144 := by kernel_rfl
theorem ef145_ok : compileFun Go.Proofs.Tryd.prog glob 145 [] .pure = some ef145 := by kernel_rfl
theorem ef146_ok : compileFun Go.Proofs.Tryd.prog glob 146 [] .pure = some ef146 := by kernel_rfl
theorem ef147_ok : compileFun Go.Proofs.Tryd.prog glob 147 [] .pure = some ef147 := by kernel_rfl
theorem ef148_ok : compileFun Go.Proofs.Tryd.prog glob 148 [] .pure = some ef148 := by kernel_rfl
theorem ef149_ok : compileFun Go.Proofs.Tryd.prog glob 149 [] .pure = some ef149 := by kernel_rfl
theorem ef150_ok : compileFun Go.Proofs.Tryd.prog glob 150 [] .pure = some ef150 := by kernel_rfl
theorem ef151_ok : compileFun Go.Proofs.Tryd.prog glob 151 [] .pure = some ef151 := by kernel_rfl
theorem ef162_ok : compileFun Go.Proofs.Tryd.prog glob 162 [] .pure = some ef162 := by kernel_rfl
theorem ef163_ok : compileFun Go.Proofs.Tryd.prog glob 163 [] .pure = some ef163 := by kernel_rfl
theorem ef164_ok : compileFun Go.Proofs.Tryd.prog glob 164 [some [0, 1]] .pure = some ef164 := by kernel_rfl
theorem ef165_ok : compileFun Go.Proofs.Tryd.prog glob 165 [] .pure = some ef165 := by kernel_rfl
theorem ef166_ok : compileFun Go.Proofs.Tryd.prog glob 166 [some [1, 5, 6, 17, 18, 19]] .pure = some ef166 := by kernel_rfl
theorem ef167_ok : compileFun Go.Proofs.Tryd.prog glob 167 [] .pure = some ef167 := by kernel_rfl
theorem ef168_ok : compileFun Go.Proofs.Tryd.prog glob 168 [] .pure = some ef168 := by kernel_rfl
theorem ef169_ok : compileFun Go.Proofs.Tryd.prog glob 169 [] .pure = some ef169 := by kernel_rfl
theorem ef170_ok : compileFun Go.Proofs.Tryd.prog glob 170 [] .pure = some ef170 := by kernel_rfl
theorem ef171_ok : compileFun Go.Proofs.Tryd.prog glob 171 [] .pure = some ef171 := by kernel_rfl
theorem ef172_ok : compileFun Go.Proofs.Tryd.prog glob 172 [] .pure = some ef172 := by kernel_rfl
theorem ef173_ok : compileFun Go.Proofs.Tryd.prog glob 173 [] .pure = some ef173 := by kernel_rfl
theorem ef174_ok : compileFun Go.Proofs.Tryd.prog glob 174 [] .pure = some ef174 := by kernel_rfl
theorem ef175_ok : compileFun Go.Proofs.Tryd.prog glob 175 [] .pure = some ef175 := by kernel_rfl
theorem ef176_ok : compileFun Go.Proofs.Tryd.prog glob 176 [some [0, 1, 7, 8]] .pure = some ef176 := by kernel_rfl
theorem ef177_ok : compileFun Go.Proofs.Tryd.prog glob 177 [] .pure = some ef177 := by kernel_rfl
theorem ef182_ok : compileFun Go.Proofs.Tryd.prog glob 182 [] .pure = some ef182 := by kernel_rfl
theorem ef183_ok : compileFun Go.Proofs.Tryd.prog glob 183 [some [0, 1]] .pure = some ef183 := by kernel_rfl
theorem E_ok : ProgOk Go.Proofs.Tryd.prog E where
  mix := by kernel_rfl
  fn := by
    intro f F h
    replace h : fns f = some F := h
    unfold fns at h
    split at h
    · cases h; exact ⟨_, ef4_ok⟩
    · cases h; exact ⟨_, ef5_ok⟩
    · cases h; exact ⟨_, ef14_ok⟩
    · cases h; exact ⟨_, ef15_ok⟩
    · cases h; exact ⟨_, ef16_ok⟩
    · cases h; exact ⟨_, ef17_ok⟩
    · cases h; exact ⟨_, ef18_ok⟩
    · cases h; exact ⟨_, ef19_ok⟩
    · cases h; exact ⟨_, ef20_ok⟩
    · cases h; exact ⟨_, ef21_ok⟩
    · cases h; exact ⟨_, ef22_ok⟩
    · cases h; exact ⟨_, ef23_ok⟩
    · cases h; exact ⟨_, ef24_ok⟩
    · cases h; exact ⟨_, ef25_ok⟩
    · cases h; exact ⟨_, ef26_ok⟩
    · cases h; exact ⟨_, ef27_ok⟩
    · cases h; exact ⟨_, ef28_ok⟩
    · cases h; exact ⟨_, ef29_ok⟩
    · cases h; exact ⟨_, ef30_ok⟩
    · cases h; exact ⟨_, ef31_ok⟩
    · cases h; exact ⟨_, ef32_ok⟩
    · cases h; exact ⟨_, ef33_ok⟩
    · cases h; exact ⟨_, ef34_ok⟩
    · cases h; exact ⟨_, ef55_ok⟩
    · cases h; exact ⟨_, ef56_ok⟩
    · cases h; exact ⟨_, ef57_ok⟩
    · cases h; exact ⟨_, ef58_ok⟩
    · cases h; exact ⟨_, ef60_ok⟩
    · cases h; exact ⟨_, ef61_ok⟩
    · cases h; exact ⟨_, ef62_ok⟩
    · cases h; exact ⟨_, ef63_ok⟩
    · cases h; exact ⟨_, ef64_ok⟩
    · cases h; exact ⟨_, ef65_ok⟩
    · cases h; exact ⟨_, ef66_ok⟩
    · cases h; exact ⟨_, ef67_ok⟩
    · cases h; exact ⟨_, ef68_ok⟩
    · cases h; exact ⟨_, ef69_ok⟩
    · cases h; exact ⟨_, ef70_ok⟩
    · cases h; exact ⟨_, ef71_ok⟩
    · cases h; exact ⟨_, ef72_ok⟩
    · cases h; exact ⟨_, ef73_ok⟩
    · cases h; exact ⟨_, ef74_ok⟩
    · cases h; exact ⟨_, ef75_ok⟩
    · cases h; exact ⟨_, ef76_ok⟩
    · cases h; exact ⟨_, ef77_ok⟩
    · cases h; exact ⟨_, ef78_ok⟩
    · cases h; exact ⟨_, ef79_ok⟩
    · cases h; exact ⟨_, ef80_ok⟩
    · cases h; exact ⟨_, ef81_ok⟩
    · cases h; exact ⟨_, ef89_ok⟩
    · cases h; exact ⟨_, ef92_ok⟩
    · cases h; exact ⟨_, ef94_ok⟩
    · cases h; exact ⟨_, ef120_ok⟩
    · cases h; exact ⟨_, ef121_ok⟩
    · cases h; exact ⟨_, ef122_ok⟩
    · cases h; exact ⟨_, ef123_ok⟩
    · cases h; exact ⟨_, ef124_ok⟩
    · cases h; exact ⟨_, ef125_ok⟩
    · cases h; exact ⟨_, ef126_ok⟩
    · cases h; exact ⟨_, ef127_ok⟩
    · cases h; exact ⟨_, ef128_ok⟩
    · cases h; exact ⟨_, ef129_ok⟩
    · cases h; exact ⟨_, ef130_ok⟩
    · cases h; exact ⟨_, ef131_ok⟩
    · cases h; exact ⟨_, ef132_ok⟩
    · cases h; exact ⟨_, ef133_ok⟩
    · cases h; exact ⟨_, ef134_ok⟩
    · cases h; exact ⟨_, ef135_ok⟩
    · cases h; exact ⟨_, ef136_ok⟩
    · cases h; exact ⟨_, ef137_ok⟩
    · cases h; exact ⟨_, ef138_ok⟩
    · cases h; exact ⟨_, ef139_ok⟩
    · cases h; exact ⟨_, ef140_ok⟩
    · cases h; exact ⟨_, ef141_ok⟩
    · cases h; exact ⟨_, ef142_ok⟩
    · cases h; exact ⟨_, ef143_ok⟩
    · cases h; exact ⟨_, ef144_ok⟩
    · cases h; exact ⟨_, ef145_ok⟩
    · cases h; exact ⟨_, ef146_ok⟩
    · cases h; exact ⟨_, ef147_ok⟩
    · cases h; exact ⟨_, ef148_ok⟩
    · cases h; exact ⟨_, ef149_ok⟩
    · cases h; exact ⟨_, ef150_ok⟩
    · cases h; exact ⟨_, ef151_ok⟩
    · cases h; exact ⟨_, ef162_ok⟩
    · cases h; exact ⟨_, ef163_ok⟩
    · cases h; exact ⟨_, ef164_ok⟩
    · cases h; exact ⟨_, ef165_ok⟩
    · cases h; exact ⟨_, ef166_ok⟩
    · cases h; exact ⟨_, ef167_ok⟩
    · cases h; exact ⟨_, ef168_ok⟩
    · cases h; exact ⟨_, ef169_ok⟩
    · cases h; exact ⟨_, ef170_ok⟩
    · cases h; exact ⟨_, ef171_ok⟩
    · cases h; exact ⟨_, ef172_ok⟩
    · cases h; exact ⟨_, ef173_ok⟩
    · cases h; exact ⟨_, ef174_ok⟩
    · cases h; exact ⟨_, ef175_ok⟩
    · cases h; exact ⟨_, ef176_ok⟩
    · cases h; exact ⟨_, ef177_ok⟩
    · cases h; exact ⟨_, ef182_ok⟩
    · cases h; exact ⟨_, ef183_ok⟩
    · cases h
end Go.Abs.X
