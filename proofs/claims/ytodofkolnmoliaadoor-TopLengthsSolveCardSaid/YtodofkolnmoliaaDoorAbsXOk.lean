/- The functions, compiled for the abstract evaluator. Written by wip/abs/Print.lean. -/
import Derived.Test.YtodofkolnmoliaaDoorProg
import Derived.Test.YtodofkolnmoliaaDoorAbsX
set_option linter.unusedSimpArgs false
set_option linter.unusedVariables false
set_option maxRecDepth 100000
set_option maxHeartbeats 0
namespace Go.Abs.X
open Go Go.Abs
theorem ef3_ok : compileFun Go.Proofs.Tryd.prog glob 3 [some [0, 5, 13, 14, 15], some [14, 17]] .pure = some ef3 := by kernel_rfl
theorem ef12_ok : compileFun Go.Proofs.Tryd.prog glob 12 [] .pure = some ef12 := by kernel_rfl
theorem ef13_ok : compileFun Go.Proofs.Tryd.prog glob 13 [some [0, 3, 5]] .pure = some ef13 := by kernel_rfl
theorem ef14_ok : compileFun Go.Proofs.Tryd.prog glob 14 [some [0, 3, 16, 17, 18], some [3, 8, 9, 55, 56, 57], some [3, 8, 9, 12]] .pure = some ef14 := by kernel_rfl
theorem ef15_ok : compileFun Go.Proofs.Tryd.prog glob 15 [some [3, 12, 38, 39, 40], some [3, 12, 51, 52], some [3, 12, 15, 51, 52]] .pure = some ef15 := by kernel_rfl
theorem ef16_ok : compileFun Go.Proofs.Tryd.prog glob 16 [some [0, 1, 8, 9, 10, 23, 24], some [1, 9, 10, 34, 35], some [1, 9, 10, 11, 12]] .pure = some ef16 := by kernel_rfl
theorem ef17_ok : compileFun Go.Proofs.Tryd.prog glob 17 [] .pure = some ef17 := by kernel_rfl
theorem ef18_ok : compileFun Go.Proofs.Tryd.prog glob 18 [] .pure = some ef18 := by kernel_rfl
theorem ef57_ok : compileFun Go.Proofs.Tryd.prog glob 57 [some [4, 8, 9, 10]] .pure = some ef57 := by kernel_rfl
theorem ef58_ok : compileFun Go.Proofs.Tryd.prog glob 58 [] .pure = some ef58 := by kernel_rfl
theorem ef60_ok : compileFun Go.Proofs.Tryd.prog glob 60 [] .pure = some ef60 := by kernel_rfl
theorem ef61_ok : compileFun Go.Proofs.Tryd.prog glob 61 [] .pure = some ef61 := by kernel_rfl
theorem ef62_ok : compileFun Go.Proofs.Tryd.prog glob 62 [some [0, 15, 16, 17]] .pure = some ef62 := by kernel_rfl
theorem ef63_ok : compileFun Go.Proofs.Tryd.prog glob 63 [some [1, 2, 7, 11, 12, 13]] .trunc = some ef63 := by kernel_rfl
theorem ef64_ok : compileFun Go.Proofs.Tryd.prog glob 64 [some [0, 2, 3]] .trunc = some ef64 := by kernel_rfl
theorem ef69_ok : compileFun Go.Proofs.Tryd.prog glob 69 [] .pure = some ef69 := by kernel_rfl
theorem ef70_ok : compileFun Go.Proofs.Tryd.prog glob 70 [some [3, 10, 11, 12]] .pure = some ef70 := by kernel_rfl
theorem ef89_ok : compileFun Go.Proofs.Tryd.prog glob 89 [] .pure = some ef89 := by kernel_rfl
theorem ef92_ok : compileFun Go.Proofs.Tryd.prog glob 92 [] .pure = some ef92 := by kernel_rfl
theorem ef120_ok : compileFun Go.Proofs.Tryd.prog glob 120 [some [1, 6, 7]] .pure = some ef120 := by kernel_rfl
theorem ef121_ok : compileFun Go.Proofs.Tryd.prog glob 121 [] .pure = some ef121 := by kernel_rfl
theorem ef122_ok : compileFun Go.Proofs.Tryd.prog glob 122 [] .pure = some ef122 := by kernel_rfl
theorem ef123_ok : compileFun Go.Proofs.Tryd.prog glob 123 [some [2, 3, 9, 10]] .pure = some ef123 := by kernel_rfl
theorem ef124_ok : compileFun Go.Proofs.Tryd.prog glob 124 [] .pure = some ef124 := by kernel_rfl
theorem ef125_ok : compileFun Go.Proofs.Tryd.prog glob 125 [some [0, 1, 2], some [0, 1, 2, 7]] .pure = some ef125 := by kernel_rfl
theorem ef126_ok : compileFun Go.Proofs.Tryd.prog glob 126 [] .pure = some ef126 := by kernel_rfl
theorem ef127_ok : compileFun Go.Proofs.Tryd.prog glob 127 [some [0, 1, 5]] .pure = some ef127 := by kernel_rfl
theorem ef128_ok : compileFun Go.Proofs.Tryd.prog glob 128 [] .pure = some ef128 := by kernel_rfl
theorem ef129_ok : compileFun Go.Proofs.Tryd.prog glob 129 [] .pure = some ef129 := by kernel_rfl
theorem ef131_ok : compileFun Go.Proofs.Tryd.prog glob 131 [some [0, 7, 8, 9]] .pure = some ef131 := by kernel_rfl
theorem ef132_ok : compileFun Go.Proofs.Tryd.prog glob 132 [] .pure = some ef132 := by kernel_rfl
theorem ef145_ok : compileFun Go.Proofs.Tryd.prog glob 145 [] .pure = some ef145 := by kernel_rfl
theorem ef146_ok : compileFun Go.Proofs.Tryd.prog glob 146 [] .pure = some ef146 := by kernel_rfl
theorem ef147_ok : compileFun Go.Proofs.Tryd.prog glob 147 [] .pure = some ef147 := by kernel_rfl
theorem ef148_ok : compileFun Go.Proofs.Tryd.prog glob 148 [] .pure = some ef148 := by kernel_rfl
theorem ef164_ok : compileFun Go.Proofs.Tryd.prog glob 164 [some [0, 1]] .pure = some ef164 := by kernel_rfl
theorem ef165_ok : compileFun Go.Proofs.Tryd.prog glob 165 [] .pure = some ef165 := by kernel_rfl
theorem ef166_ok : compileFun Go.Proofs.Tryd.prog glob 166 [some [1, 5, 6, 17, 18, 19]] .pure = some ef166 := by kernel_rfl
theorem ef167_ok : compileFun Go.Proofs.Tryd.prog glob 167 [] .pure = some ef167 := by kernel_rfl
theorem ef176_ok : compileFun Go.Proofs.Tryd.prog glob 176 [some [0, 1, 7, 8]] .pure = some ef176 := by kernel_rfl
theorem ef177_ok : compileFun Go.Proofs.Tryd.prog glob 177 [] .pure = some ef177 := by kernel_rfl
theorem E_ok : ProgOk Go.Proofs.Tryd.prog E where
  mix := by kernel_rfl
  fn := by
    intro f F h
    replace h : fns f = some F := h
    unfold fns at h
    split at h
    · cases h; exact ⟨_, ef3_ok⟩
    · cases h; exact ⟨_, ef12_ok⟩
    · cases h; exact ⟨_, ef13_ok⟩
    · cases h; exact ⟨_, ef14_ok⟩
    · cases h; exact ⟨_, ef15_ok⟩
    · cases h; exact ⟨_, ef16_ok⟩
    · cases h; exact ⟨_, ef17_ok⟩
    · cases h; exact ⟨_, ef18_ok⟩
    · cases h; exact ⟨_, ef57_ok⟩
    · cases h; exact ⟨_, ef58_ok⟩
    · cases h; exact ⟨_, ef60_ok⟩
    · cases h; exact ⟨_, ef61_ok⟩
    · cases h; exact ⟨_, ef62_ok⟩
    · cases h; exact ⟨_, ef63_ok⟩
    · cases h; exact ⟨_, ef64_ok⟩
    · cases h; exact ⟨_, ef69_ok⟩
    · cases h; exact ⟨_, ef70_ok⟩
    · cases h; exact ⟨_, ef89_ok⟩
    · cases h; exact ⟨_, ef92_ok⟩
    · cases h; exact ⟨_, ef120_ok⟩
    · cases h; exact ⟨_, ef121_ok⟩
    · cases h; exact ⟨_, ef122_ok⟩
    · cases h; exact ⟨_, ef123_ok⟩
    · cases h; exact ⟨_, ef124_ok⟩
    · cases h; exact ⟨_, ef125_ok⟩
    · cases h; exact ⟨_, ef126_ok⟩
    · cases h; exact ⟨_, ef127_ok⟩
    · cases h; exact ⟨_, ef128_ok⟩
    · cases h; exact ⟨_, ef129_ok⟩
    · cases h; exact ⟨_, ef131_ok⟩
    · cases h; exact ⟨_, ef132_ok⟩
    · cases h; exact ⟨_, ef145_ok⟩
    · cases h; exact ⟨_, ef146_ok⟩
    · cases h; exact ⟨_, ef147_ok⟩
    · cases h; exact ⟨_, ef148_ok⟩
    · cases h; exact ⟨_, ef164_ok⟩
    · cases h; exact ⟨_, ef165_ok⟩
    · cases h; exact ⟨_, ef166_ok⟩
    · cases h; exact ⟨_, ef167_ok⟩
    · cases h; exact ⟨_, ef176_ok⟩
    · cases h; exact ⟨_, ef177_ok⟩
    · cases h
end Go.Abs.X
