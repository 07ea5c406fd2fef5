/- The functions, compiled for the abstract evaluator. Written by wip/abs/Print.lean. -/
import Derived.Test.YtfbelnhibipndaaProg
import Derived.Test.YtfbelnhibipndaaAbsU
set_option linter.unusedSimpArgs false
set_option linter.unusedVariables false
set_option maxRecDepth 100000
set_option maxHeartbeats 0
namespace Go.Abs.U
open Go Go.Abs
theorem ef12_ok : compileFun Go.Proofs.Try.prog glob 12 [] .pure = some ef12 := by kernel_rfl
theorem ef14_ok : compileFun Go.Proofs.Try.prog glob 14 [] .pure = some ef14 := by kernel_rfl
theorem ef15_ok : compileFun Go.Proofs.Try.prog glob 15 [some [0, 1, 2, 8]] .pure = some ef15 := by kernel_rfl
theorem ef19_ok : compileFun Go.Proofs.Try.prog glob 19 [some [0, 14, 15, 16]] .pure = some ef19 := by kernel_rfl
theorem ef25_ok : compileFun Go.Proofs.Try.prog glob 25 [] .pure = some ef25 := by kernel_rfl
theorem ef29_ok : compileFun Go.Proofs.Try.prog glob 29 [] .pure = some ef29 := by kernel_rfl
theorem ef41_ok : compileFun Go.Proofs.Try.prog glob 41 [] .pure = some ef41 := by kernel_rfl
theorem ef47_ok : compileFun Go.Proofs.Try.prog glob 47 [some [0, 1, 5]] .pure = some ef47 := by kernel_rfl
theorem ef52_ok : compileFun Go.Proofs.Try.prog glob 52 [] .pure = some ef52 := by kernel_rfl
theorem ef53_ok : compileFun Go.Proofs.Try.prog glob 53 [] .pure = some ef53 := by kernel_rfl
theorem ef54_ok : compileFun Go.Proofs.Try.prog glob 54 [] .pure = some ef54 := by kernel_rfl
theorem ef59_ok : compileFun Go.Proofs.Try.prog glob 59 [some [0, 9, 10, 11]] .pure = some ef59 := by kernel_rfl
theorem ef60_ok : compileFun Go.Proofs.Try.prog glob 60 [some [0, 1, 7, 17, 18, 19]] .pure = some ef60 := by kernel_rfl
theorem ef61_ok : compileFun Go.Proofs.Try.prog glob 61 [some [2, 3, 7, 24, 25], some [0, 1, 2, 3, 9]] .pure = some ef61 := by kernel_rfl
theorem ef64_ok : compileFun Go.Proofs.Try.prog glob 64 [] .pure = some ef64 := by kernel_rfl
theorem ef65_ok : compileFun Go.Proofs.Try.prog glob 65 [] .pure = some ef65 := by kernel_rfl
theorem ef68_ok : compileFun Go.Proofs.Try.prog glob 68 [] .pure = some ef68 := by kernel_rfl
theorem ef70_ok : compileFun Go.Proofs.Try.prog glob 70 [] .pure = some ef70 := by kernel_rfl
theorem ef71_ok : compileFun Go.Proofs.Try.prog glob 71 [] .pure = some ef71 := by kernel_rfl
theorem ef72_ok : compileFun Go.Proofs.Try.prog glob 72 [] .pure = some ef72 := by kernel_rfl
theorem ef73_ok : compileFun Go.Proofs.Try.prog glob 73 [some [0, 0, 5, 6]] .pure = some ef73 := by kernel_rfl
theorem ef75_ok : compileFun Go.Proofs.Try.prog glob 75 [] .pure = some ef75 := by kernel_rfl
theorem ef78_ok : compileFun Go.Proofs.Try.prog glob 78 [] .pure = some ef78 := by kernel_rfl
theorem ef83_ok : compileFun Go.Proofs.Try.prog glob 83 [] .pure = some ef83 := by kernel_rfl
theorem ef85_ok : compileFun Go.Proofs.Try.prog glob 85 [some [3, 6, 7, 8]] .pure = some ef85 := by kernel_rfl
theorem ef86_ok : compileFun Go.Proofs.Try.prog glob 86 [some [1, 5, 8, 9, 10]] .pure = some ef86 := by kernel_rfl
theorem ef87_ok : compileFun Go.Proofs.Try.prog glob 87 [some [0, 2, 4, 12, 13, 14], some [0, 2, 4, 6, 7, 12, 13, 14, 25, 26, 27]] .pure = some ef87 := by kernel_rfl
theorem ef89_ok : compileFun Go.Proofs.Try.prog glob 89 [some [38, 39]] .pure = some ef89 := by kernel_rfl
theorem ef90_ok : compileFun Go.Proofs.Try.prog glob 90 [] .pure = some ef90 := by kernel_rfl
theorem ef91_ok : compileFun Go.Proofs.Try.prog glob 91 [] .pure = some ef91 := by kernel_rfl
theorem ef92_ok : compileFun Go.Proofs.Try.prog glob 92 [some [1, 2, 7, 14, 15, 16]] .pure = some ef92 := by kernel_rfl
theorem ef93_ok : compileFun Go.Proofs.Try.prog glob 93 [] .pure = some ef93 := by kernel_rfl
theorem ef94_ok : compileFun Go.Proofs.Try.prog glob 94 [some [0, 1, 12, 13]] .pure = some ef94 := by kernel_rfl
theorem ef98_ok : compileFun Go.Proofs.Try.prog glob 98 [some [0, 1, 2, 8, 9, 10]] .pure = some ef98 := by kernel_rfl
theorem ef99_ok : compileFun Go.Proofs.Try.prog glob 99 [] .pure = some ef99 := by kernel_rfl
theorem ef100_ok : compileFun Go.Proofs.Try.prog glob 100 [] .pure = some ef100 := by kernel_rfl
theorem ef101_ok : compileFun Go.Proofs.Try.prog glob 101 [some [0, 1, 2, 4, 5]] .trunc = some ef101 := by kernel_rfl
theorem ef104_ok : compileFun Go.Proofs.Try.prog glob 104 [some [0, 1, 7, 8]] .pure = some ef104 := by kernel_rfl
theorem ef105_ok : compileFun Go.Proofs.Try.prog glob 105 [] .trunc = some ef105 := by kernel_rfl
theorem ef106_ok : compileFun Go.Proofs.Try.prog glob 106 [some [0, 3], some [0, 3, 4, 5]] .trunc = some ef106 := by kernel_rfl
theorem ef108_ok : compileFun Go.Proofs.Try.prog glob 108 [] .pure = some ef108 := by kernel_rfl
theorem ef109_ok : compileFun Go.Proofs.Try.prog glob 109 [] .pure = some ef109 := by kernel_rfl
theorem ef110_ok : compileFun Go.Proofs.Try.prog glob 110 [some [0, 2, 4, 7, 8], some [0, 2, 4, 5, 6, 7, 8]] .pure = some ef110 := by kernel_rfl
theorem ef111_ok : compileFun Go.Proofs.Try.prog glob 111 [some [0, 3, 7, 8]] .pure = some ef111 := by kernel_rfl
theorem ef112_ok : compileFun Go.Proofs.Try.prog glob 112 [] .pure = some ef112 := by kernel_rfl
theorem ef113_ok : compileFun Go.Proofs.Try.prog glob 113 [some [0, 3]] .pure = some ef113 := by kernel_rfl
theorem ef114_ok : compileFun Go.Proofs.Try.prog glob 114 [] .pure = some ef114 := by kernel_rfl
theorem ef115_ok : compileFun Go.Proofs.Try.prog glob 115 [some [0, 1, 6, 7, 8]] .pure = some ef115 := by kernel_rfl
theorem ef116_ok : compileFun Go.Proofs.Try.prog glob 116 [] .full = some ef116 := by kernel_rfl
theorem ef117_ok : compileFun Go.Proofs.Try.prog glob 117 [some [1, 4, 5, 8]] .full = some ef117 := by kernel_rfl
theorem ef118_ok : compileFun Go.Proofs.Try.prog glob 118 [] .pure = some ef118 := by kernel_rfl
theorem ef119_ok : compileFun Go.Proofs.Try.prog glob 119 [] .pure = some ef119 := by kernel_rfl
theorem ef120_ok : compileFun Go.Proofs.Try.prog glob 120 [some [0, 1, 2, 3, 8, 9]] .trunc = some ef120 := by kernel_rfl
theorem ef121_ok : compileFun Go.Proofs.Try.prog glob 121 [] .pure = some ef121 := by kernel_rfl
theorem ef122_ok : compileFun Go.Proofs.Try.prog glob 122 [some [0, 1, 7, 8]] .pure = some ef122 := by kernel_rfl
theorem ef123_ok : compileFun Go.Proofs.Try.prog glob 123 [] .pure = some ef123 := by kernel_rfl
theorem ef124_ok : compileFun Go.Proofs.Try.prog glob 124 [] .pure = some ef124 := by kernel_rfl
theorem ef125_ok : compileFun Go.Proofs.Try.prog glob 125 [] .pure = some ef125 := by kernel_rfl
theorem ef126_ok : compileFun Go.Proofs.Try.prog glob 126 [some [0, 1, 2, 6], some [0, 1, 2, 6, 7]] .trunc = some ef126 := by kernel_rfl
theorem ef127_ok : compileFun Go.Proofs.Try.prog glob 127 [some [0, 6, 7, 8, 9], some [0, 6, 7, 10]] .trunc = some ef127 := by kernel_rfl
theorem ef128_ok : compileFun Go.Proofs.Try.prog glob 128 [some [0, 1, 6, 7, 8, 9]] .trunc = some ef128 := by kernel_rfl
theorem ef129_ok : compileFun Go.Proofs.Try.prog glob 129 [] .trunc = some ef129 := by kernel_rfl
theorem ef130_ok : compileFun Go.Proofs.Try.prog glob 130 [some [0, 6, 7]] .trunc = some ef130 := by kernel_rfl
theorem ef131_ok : compileFun Go.Proofs.Try.prog glob 131 [some [0, 1, 2, 7, 8], some [0, 1, 2, 7, 8], some [0, 1, 2, 7, 8, 9], some [0, 1, 2, 7, 8, 10]] .trunc = some ef131 := by kernel_rfl
theorem ef132_ok : compileFun Go.Proofs.Try.prog glob 132 [some [0, 1, 9, 10], some [0, 1, 9, 10], some [0, 1, 9, 10]] .trunc = some ef132 := by kernel_rfl
theorem ef133_ok : compileFun Go.Proofs.Try.prog glob 133 [some [0, 1, 10, 11], some [0, 1, 10, 11], some [0, 1, 10, 11], some [0, 1, 10, 11], some [0, 1, 10, 11]] .trunc = some ef133 := by kernel_rfl
theorem ef134_ok : compileFun Go.Proofs.Try.prog glob 134 [] .pure = some ef134 := by kernel_rfl
theorem ef135_ok : compileFun Go.Proofs.Try.prog glob 135 [] .pure = some ef135 := by kernel_rfl
theorem ef136_ok : compileFun Go.Proofs.Try.prog glob 136 [some [0, 2, 3, 8]] .trunc = some ef136 := by kernel_rfl
theorem ef137_ok : compileFun Go.Proofs.Try.prog glob 137 [] .pure = some ef137 := by kernel_rfl
theorem ef138_ok : compileFun Go.Proofs.Try.prog glob 138 [] .trunc = some ef138 := by kernel_rfl
theorem ef139_ok : compileFun Go.Proofs.Try.prog glob 139 [] .trunc = some ef139 := by kernel_rfl
theorem ef140_ok : compileFun Go.Proofs.Try.prog glob 140 [] .trunc = some ef140 := by kernel_rfl
theorem ef141_ok : compileFun Go.Proofs.Try.prog glob 141 [] .trunc = some ef141 := by kernel_rfl
theorem E_ok : ProgOk Go.Proofs.Try.prog E where
  mix := by kernel_rfl
  fn := by
    intro f F h
    replace h : fns f = some F := h
    unfold fns at h
    split at h
    · cases h; exact ⟨_, ef12_ok⟩
    · cases h; exact ⟨_, ef14_ok⟩
    · cases h; exact ⟨_, ef15_ok⟩
    · cases h; exact ⟨_, ef19_ok⟩
    · cases h; exact ⟨_, ef25_ok⟩
    · cases h; exact ⟨_, ef29_ok⟩
    · cases h; exact ⟨_, ef41_ok⟩
    · cases h; exact ⟨_, ef47_ok⟩
    · cases h; exact ⟨_, ef52_ok⟩
    · cases h; exact ⟨_, ef53_ok⟩
    · cases h; exact ⟨_, ef54_ok⟩
    · cases h; exact ⟨_, ef59_ok⟩
    · cases h; exact ⟨_, ef60_ok⟩
    · cases h; exact ⟨_, ef61_ok⟩
    · cases h; exact ⟨_, ef64_ok⟩
    · cases h; exact ⟨_, ef65_ok⟩
    · cases h; exact ⟨_, ef68_ok⟩
    · cases h; exact ⟨_, ef70_ok⟩
    · cases h; exact ⟨_, ef71_ok⟩
    · cases h; exact ⟨_, ef72_ok⟩
    · cases h; exact ⟨_, ef73_ok⟩
    · cases h; exact ⟨_, ef75_ok⟩
    · cases h; exact ⟨_, ef78_ok⟩
    · cases h; exact ⟨_, ef83_ok⟩
    · cases h; exact ⟨_, ef85_ok⟩
    · cases h; exact ⟨_, ef86_ok⟩
    · cases h; exact ⟨_, ef87_ok⟩
    · cases h; exact ⟨_, ef89_ok⟩
    · cases h; exact ⟨_, ef90_ok⟩
    · cases h; exact ⟨_, ef91_ok⟩
    · cases h; exact ⟨_, ef92_ok⟩
    · cases h; exact ⟨_, ef93_ok⟩
    · cases h; exact ⟨_, ef94_ok⟩
    · cases h; exact ⟨_, ef98_ok⟩
    · cases h; exact ⟨_, ef99_ok⟩
    · cases h; exact ⟨_, ef100_ok⟩
    · cases h; exact ⟨_, ef101_ok⟩
    · cases h; exact ⟨_, ef104_ok⟩
    · cases h; exact ⟨_, ef105_ok⟩
    · cases h; exact ⟨_, ef106_ok⟩
    · cases h; exact ⟨_, ef108_ok⟩
    · cases h; exact ⟨_, ef109_ok⟩
    · cases h; exact ⟨_, ef110_ok⟩
    · cases h; exact ⟨_, ef111_ok⟩
    · cases h; exact ⟨_, ef112_ok⟩
    · cases h; exact ⟨_, ef113_ok⟩
    · cases h; exact ⟨_, ef114_ok⟩
    · cases h; exact ⟨_, ef115_ok⟩
    · cases h; exact ⟨_, ef116_ok⟩
    · cases h; exact ⟨_, ef117_ok⟩
    · cases h; exact ⟨_, ef118_ok⟩
    · cases h; exact ⟨_, ef119_ok⟩
    · cases h; exact ⟨_, ef120_ok⟩
    · cases h; exact ⟨_, ef121_ok⟩
    · cases h; exact ⟨_, ef122_ok⟩
    · cases h; exact ⟨_, ef123_ok⟩
    · cases h; exact ⟨_, ef124_ok⟩
    · cases h; exact ⟨_, ef125_ok⟩
    · cases h; exact ⟨_, ef126_ok⟩
    · cases h; exact ⟨_, ef127_ok⟩
    · cases h; exact ⟨_, ef128_ok⟩
    · cases h; exact ⟨_, ef129_ok⟩
    · cases h; exact ⟨_, ef130_ok⟩
    · cases h; exact ⟨_, ef131_ok⟩
    · cases h; exact ⟨_, ef132_ok⟩
    · cases h; exact ⟨_, ef133_ok⟩
    · cases h; exact ⟨_, ef134_ok⟩
    · cases h; exact ⟨_, ef135_ok⟩
    · cases h; exact ⟨_, ef136_ok⟩
    · cases h; exact ⟨_, ef137_ok⟩
    · cases h; exact ⟨_, ef138_ok⟩
    · cases h; exact ⟨_, ef139_ok⟩
    · cases h; exact ⟨_, ef140_ok⟩
    · cases h; exact ⟨_, ef141_ok⟩
    · cases h
end Go.Abs.U
