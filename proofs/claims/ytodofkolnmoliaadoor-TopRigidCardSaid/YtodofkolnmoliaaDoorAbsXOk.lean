/- The functions, compiled for the abstract evaluator. Written by wip/abs/Print.lean. -/
import Derived.Test.YtodofkolnmoliaaDoorProg
import Derived.Test.YtodofkolnmoliaaDoorAbsX
set_option linter.unusedSimpArgs false
set_option linter.unusedVariables false
set_option maxRecDepth 100000
set_option maxHeartbeats 0
namespace Go.Abs.X
open Go Go.Abs
theorem ef9_ok : compileFun Go.Proofs.Tryd.prog glob 9 [some [1, 3, 5, 9, 10]] .pure = some ef9 := by kernel_rfl
theorem ef12_ok : compileFun Go.Proofs.Tryd.prog glob 12 [] .pure = some ef12 := by kernel_rfl
theorem ef18_ok : compileFun Go.Proofs.Tryd.prog glob 18 [] .pure = some ef18 := by kernel_rfl
theorem ef46_ok : compileFun Go.Proofs.Tryd.prog glob 46 [] .pure = some ef46 := by kernel_rfl
theorem ef47_ok : compileFun Go.Proofs.Tryd.prog glob 47 [some [0, 1, 2, 7]] .pure = some ef47 := by kernel_rfl
theorem ef48_ok : compileFun Go.Proofs.Tryd.prog glob 48 [] .pure = some ef48 := by kernel_rfl
theorem ef49_ok : compileFun Go.Proofs.Tryd.prog glob 49 [] .pure = some ef49 := by kernel_rfl
theorem ef50_ok : compileFun Go.Proofs.Tryd.prog glob 50 [] .pure = some ef50 := by kernel_rfl
theorem ef51_ok : compileFun Go.Proofs.Tryd.prog glob 51 [] .pure = some ef51 := by kernel_rfl
theorem ef52_ok : compileFun Go.Proofs.Tryd.prog glob 52 [] .pure = some ef52 := by kernel_rfl
theorem ef57_ok : compileFun Go.Proofs.Tryd.prog glob 57 [some [4, 8, 9, 10]] .pure = some ef57 := by kernel_rfl
theorem ef58_ok : compileFun Go.Proofs.Tryd.prog glob 58 [] .pure = some ef58 := by kernel_rfl
theorem ef60_ok : compileFun Go.Proofs.Tryd.prog glob 60 [] .pure = some ef60 := by kernel_rfl
theorem ef61_ok : compileFun Go.Proofs.Tryd.prog glob 61 [] .pure = some ef61 := by kernel_rfl
theorem ef69_ok : compileFun Go.Proofs.Tryd.prog glob 69 [] .pure = some ef69 := by kernel_rfl
theorem ef70_ok : compileFun Go.Proofs.Tryd.prog glob 70 [some [3, 10, 11, 12]] .pure = some ef70 := by kernel_rfl
theorem ef89_ok : compileFun Go.Proofs.Tryd.prog glob 89 [] .pure = some ef89 := by kernel_rfl
theorem ef92_ok : compileFun Go.Proofs.Tryd.prog glob 92 [] .pure = some ef92 := by kernel_rfl
theorem ef100_ok : compileFun Go.Proofs.Tryd.prog glob 100 [some [1, 2, 5]] .pure = some ef100 := by kernel_rfl
theorem ef101_ok : compileFun Go.Proofs.Tryd.prog glob 101 [] .pure = some ef101 := by kernel_rfl
theorem ef102_ok : compileFun Go.Proofs.Tryd.prog glob 102 [some [4, 5, 10, 11, 12]] .pure = some ef102 := by kernel_rfl
theorem ef103_ok : compileFun Go.Proofs.Tryd.prog glob 103 [some [1, 2, 3, 7, 8, 9]] .pure = some ef103 := by kernel_rfl
theorem ef104_ok : compileFun Go.Proofs.Tryd.prog glob 104 [] .pure = some ef104 := by kernel_rfl
theorem ef105_ok : compileFun Go.Proofs.Tryd.prog glob 105 [] .pure = some ef105 := by kernel_rfl
theorem ef106_ok : compileFun Go.Proofs.Tryd.prog glob 106 [some [8, 9, 10]] .pure = some ef106 := by kernel_rfl
theorem ef107_ok : compileFun Go.Proofs.Tryd.prog glob 107 [some [2, 3, 6, 7, 8]] .pure = some ef107 := by kernel_rfl
theorem ef108_ok : compileFun Go.Proofs.Tryd.prog glob 108 [some [3, 4, 5, 8, 9, 10]] .pure = some ef108 := by kernel_rfl
theorem ef109_ok : compileFun Go.Proofs.Tryd.prog glob 109 [] .pure = some ef109 := by kernel_rfl
theorem ef110_ok : compileFun Go.Proofs.Tryd.prog glob 110 [some [2, 3, 4, 6, 8]] .pure = some ef110 := by kernel_rfl
theorem ef112_ok : compileFun Go.Proofs.Tryd.prog glob 112 [] .pure = some ef112 := by kernel_rfl
theorem ef120_ok : compileFun Go.Proofs.Tryd.prog glob 120 [some [1, 6, 7]] .pure = some ef120 := by kernel_rfl
theorem ef121_ok : compileFun Go.Proofs.Tryd.prog glob 121 [] .pure = some ef121 := by kernel_rfl
theorem ef122_ok : compileFun Go.Proofs.Tryd.prog glob 122 [] .pure = some ef122 := by kernel_rfl
theorem ef123_ok : compileFun Go.Proofs.Tryd.prog glob 123 [some [2, 3, 9, 10]] .pure = some ef123 := by kernel_rfl
theorem ef124_ok : compileFun Go.Proofs.Tryd.prog glob 124 [] .pure = some ef124 := by kernel_rfl
theorem ef125_ok : compileFun Go.Proofs.Tryd.prog glob 125 [some [0, 1, 2], some [0, 1, 2, 7]] .pure = some ef125 := by kernel_rfl
theorem ef126_ok : compileFun Go.Proofs.Tryd.prog glob 126 [] .pure = some ef126 := by kernel_rfl
theorem ef127_ok : compileFun Go.Proofs.Tryd.prog glob 127 [some [0, 1, 5]] .pure = some ef127 := by kernel_rfl
theorem ef128_ok : compileFun Go.Proofs.Tryd.prog glob 128 [] .pure = some ef128 := by kernel_rfl
theorem ef129_ok : compileFun Go.Proofs.Tryd.prog glob 129 [] .pure = some ef129 := by kernel_rfl
theorem ef131_ok : compileFun Go.Proofs.Tryd.prog glob 131 [some [0, 7, 8, 9]] .pure = some ef131 := by kernel_rfl
theorem ef132_ok : compileFun Go.Proofs.Tryd.prog glob 132 [] .pure = some ef132 := by kernel_rfl
theorem ef145_ok : compileFun Go.Proofs.Tryd.prog glob 145 [] .pure = some ef145 := by kernel_rfl
theorem ef146_ok : compileFun Go.Proofs.Tryd.prog glob 146 [] .pure = some ef146 := by kernel_rfl
theorem ef147_ok : compileFun Go.Proofs.Tryd.prog glob 147 [] .pure = some ef147 := by kernel_rfl
theorem ef148_ok : compileFun Go.Proofs.Tryd.prog glob 148 [] .pure = some ef148 := by kernel_rfl
theorem ef153_ok : compileFun Go.Proofs.Tryd.prog glob 153 [] .pure = some ef153 := by kernel_rfl
theorem ef154_ok : compileFun Go.Proofs.Tryd.prog glob 154 [some [1, 2, 12, 13, 14]] .pure = some ef154 := by kernel_rfl
theorem ef155_ok : compileFun Go.Proofs.Tryd.prog glob 155 [some [0, 1]] .pure = some ef155 := by kernel_rfl
theorem ef156_ok : compileFun Go.Proofs.Tryd.prog glob 156 [] .pure = some ef156 := by kernel_rfl
theorem ef157_ok : compileFun Go.Proofs.Tryd.prog glob 157 [] .pure = some ef157 := by kernel_rfl
theorem ef158_ok : compileFun Go.Proofs.Tryd.prog glob 158 [] .pure = some ef158 := by kernel_rfl
theorem ef159_ok : compileFun Go.Proofs.Tryd.prog glob 159 [] .pure = some ef159 := by kernel_rfl
theorem ef164_ok : compileFun Go.Proofs.Tryd.prog glob 164 [some [0, 1]] .pure = some ef164 := by kernel_rfl
theorem ef165_ok : compileFun Go.Proofs.Tryd.prog glob 165 [] .pure = some ef165 := by kernel_rfl
theorem ef166_ok : compileFun Go.Proofs.Tryd.prog glob 166 [some [1, 5, 6, 17, 18, 19]] .pure = some ef166 := by kernel_rfl
theorem ef167_ok : compileFun Go.Proofs.Tryd.prog glob 167 [] .pure = some ef167 := by kernel_rfl
theorem ef176_ok : compileFun Go.Proofs.Tryd.prog glob 176 [some [0, 1, 7, 8]] .pure = some ef176 := by kernel_rfl
theorem ef177_ok : compileFun Go.Proofs.Tryd.prog glob 177 [] .pure = some ef177 := by kernel_rfl
theorem ef179_ok : compileFun Go.Proofs.Tryd.prog glob 179 [some [0, 1, 7, 8]] .pure = some ef179 := by kernel_rfl
theorem E_ok : ProgOk Go.Proofs.Tryd.prog E where
  mix := by kernel_rfl
  fn := by
    intro f F h
    replace h : fns f = some F := h
    unfold fns at h
    split at h
    · cases h; exact ⟨_, ef9_ok⟩
    · cases h; exact ⟨_, ef12_ok⟩
    · cases h; exact ⟨_, ef18_ok⟩
    · cases h; exact ⟨_, ef46_ok⟩
    · cases h; exact ⟨_, ef47_ok⟩
    · cases h; exact ⟨_, ef48_ok⟩
    · cases h; exact ⟨_, ef49_ok⟩
    · cases h; exact ⟨_, ef50_ok⟩
    · cases h; exact ⟨_, ef51_ok⟩
    · cases h; exact ⟨_, ef52_ok⟩
    · cases h; exact ⟨_, ef57_ok⟩
    · cases h; exact ⟨_, ef58_ok⟩
    · cases h; exact ⟨_, ef60_ok⟩
    · cases h; exact ⟨_, ef61_ok⟩
    · cases h; exact ⟨_, ef69_ok⟩
    · cases h; exact ⟨_, ef70_ok⟩
    · cases h; exact ⟨_, ef89_ok⟩
    · cases h; exact ⟨_, ef92_ok⟩
    · cases h; exact ⟨_, ef100_ok⟩
    · cases h; exact ⟨_, ef101_ok⟩
    · cases h; exact ⟨_, ef102_ok⟩
    · cases h; exact ⟨_, ef103_ok⟩
    · cases h; exact ⟨_, ef104_ok⟩
    · cases h; exact ⟨_, ef105_ok⟩
    · cases h; exact ⟨_, ef106_ok⟩
    · cases h; exact ⟨_, ef107_ok⟩
    · cases h; exact ⟨_, ef108_ok⟩
    · cases h; exact ⟨_, ef109_ok⟩
    · cases h; exact ⟨_, ef110_ok⟩
    · cases h; exact ⟨_, ef112_ok⟩
    · cases h; exact ⟨_, ef120_ok⟩
    · cases h; exact ⟨_, ef121_ok⟩
    · cases h; exact ⟨_, ef122_ok⟩
    · cases h; exact ⟨_, ef123_ok⟩
    · cases h; exact ⟨_, ef124_ok⟩
    · cases h; exact ⟨_, ef125_ok⟩
    · cases h; exact ⟨_, ef126_ok⟩
    · cases h; exact ⟨_, ef127_ok⟩
    · cases h; exact ⟨_, ef128_ok⟩
    · cases h; exact ⟨_, ef129_ok⟩
    · cases h; exact ⟨_, ef131_ok⟩
    · cases h; exact ⟨_, ef132_ok⟩
    · cases h; exact ⟨_, ef145_ok⟩
    · cases h; exact ⟨_, ef146_ok⟩
    · cases h; exact ⟨_, ef147_ok⟩
    · cases h; exact ⟨_, ef148_ok⟩
    · cases h; exact ⟨_, ef153_ok⟩
    · cases h; exact ⟨_, ef154_ok⟩
    · cases h; exact ⟨_, ef155_ok⟩
    · cases h; exact ⟨_, ef156_ok⟩
    · cases h; exact ⟨_, ef157_ok⟩
    · cases h; exact ⟨_, ef158_ok⟩
    · cases h; exact ⟨_, ef159_ok⟩
    · cases h; exact ⟨_, ef164_ok⟩
    · cases h; exact ⟨_, ef165_ok⟩
    · cases h; exact ⟨_, ef166_ok⟩
    · cases h; exact ⟨_, ef167_ok⟩
    · cases h; exact ⟨_, ef176_ok⟩
    · cases h; exact ⟨_, ef177_ok⟩
    · cases h; exact ⟨_, ef179_ok⟩
    · cases h
end Go.Abs.X
