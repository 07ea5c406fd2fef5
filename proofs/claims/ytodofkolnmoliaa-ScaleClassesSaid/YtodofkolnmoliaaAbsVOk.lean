/- The functions, compiled for the abstract evaluator. Written by wip/abs/Print.lean. -/
import Derived.Test.YtodofkolnmoliaaProg
import Derived.Test.YtodofkolnmoliaaAbsV
set_option linter.unusedSimpArgs false
set_option linter.unusedVariables false
set_option maxRecDepth 100000
set_option maxHeartbeats 0
namespace Go.Abs.V
open Go Go.Abs
theorem ef3_ok : compileFun Go.Proofs.Try.prog glob 3 [] .pure = some ef3 := by kernel_rfl
theorem ef4_ok : compileFun Go.Proofs.Try.prog glob 4 [] .pure = some ef4 := by kernel_rfl
theorem ef5_ok : compileFun Go.Proofs.Try.prog glob 5 [] .pure = some ef5 := by kernel_rfl
theorem ef6_ok : compileFun Go.Proofs.Try.prog glob 6 [] .pure = some ef6 := by kernel_rfl
theorem ef7_ok : compileFun Go.Proofs.Try.prog glob 7 [] .pure = some ef7 := by kernel_rfl
theorem ef8_ok : compileFun Go.Proofs.Try.prog glob 8 [] .pure = some ef8 := by kernel_rfl
theorem ef9_ok : compileFun Go.Proofs.Try.prog glob 9 [] .pure = some ef9 := by kernel_rfl
theorem ef10_ok : compileFun Go.Proofs.Try.prog glob 10 [] .pure = some ef10 := by kernel_rfl
theorem ef11_ok : compileFun Go.Proofs.Try.prog glob 11 [some [0, 3]] .pure = some ef11 := by kernel_rfl
theorem ef12_ok : compileFun Go.Proofs.Try.prog glob 12 [] .pure = some ef12 := by kernel_rfl
theorem ef13_ok : compileFun Go.Proofs.Try.prog glob 13 [] .pure = some ef13 := by kernel_rfl
theorem ef14_ok : compileFun Go.Proofs.Try.prog glob 14 [] .pure = some ef14 := by kernel_rfl
theorem ef15_ok : compileFun Go.Proofs.Try.prog glob 15 [] .pure = some ef15 := by kernel_rfl
theorem ef16_ok : compileFun Go.Proofs.Try.prog glob 16 [] .pure = some ef16 := by kernel_rfl
theorem ef17_ok : compileFun Go.Proofs.Try.prog glob 17 [] .pure = some ef17 := by kernel_rfl
theorem ef18_ok : compileFun Go.Proofs.Try.prog glob 18 [] .pure = some ef18 := by kernel_rfl
theorem ef19_ok : compileFun Go.Proofs.Try.prog glob 19 [some [3, 10, 11, 12]] .pure = some ef19 := by kernel_rfl
theorem ef20_ok : compileFun Go.Proofs.Try.prog glob 20 [some [0, 3]] .pure = some ef20 := by kernel_rfl
theorem ef21_ok : compileFun Go.Proofs.Try.prog glob 21 [] .pure = some ef21 := by kernel_rfl
theorem ef22_ok : compileFun Go.Proofs.Try.prog glob 22 [] .pure = some ef22 := by kernel_rfl
theorem ef23_ok : compileFun Go.Proofs.Try.prog glob 23 [] .pure = some ef23 := by kernel_rfl
theorem ef24_ok : compileFun Go.Proofs.Try.prog glob 24 [] .pure = some ef24 := by kernel_rfl
theorem ef25_ok : compileFun Go.Proofs.Try.prog glob 25 [] .pure = some ef25 := by kernel_rfl
theorem ef26_ok : compileFun Go.Proofs.Try.prog glob 26 [] .pure = some ef26 := by kernel_rfl
theorem ef27_ok : compileFun Go.Proofs.Try.prog glob 27 [] .pure = some ef27 := by kernel_rfl
theorem ef28_ok : compileFun Go.Proofs.Try.prog glob 28 [] .pure = some ef28 := by kernel_rfl
theorem ef29_ok : compileFun Go.Proofs.Try.prog glob 29 [] .pure = some ef29 := by kernel_rfl
theorem ef30_ok : compileFun Go.Proofs.Try.prog glob 30 [] .pure = some ef30 := by kernel_rfl
theorem ef31_ok : compileFun Go.Proofs.Try.prog glob 31 [some [0, 3, 16, 17, 18], some [3, 8, 9, 55, 56, 57], some [3, 8, 9, 12]] .pure = some ef31 := by kernel_rfl
theorem ef32_ok : compileFun Go.Proofs.Try.prog glob 32 [some [3, 12, 38, 39, 40], some [3, 12, 51, 52], some [3, 12, 15, 51, 52]] .pure = some ef32 := by kernel_rfl
theorem ef33_ok : compileFun Go.Proofs.Try.prog glob 33 [some [0, 3, 5]] .pure = some ef33 := by kernel_rfl
theorem ef34_ok : compileFun Go.Proofs.Try.prog glob 34 [some [0, 1, 5]] .pure = some ef34 := by kernel_rfl
theorem ef35_ok : compileFun Go.Proofs.Try.prog glob 35 [some [0, 3, 5, 6, 7], some [3, 5, 6, 8]] .pure = some ef35 := by kernel_rfl
theorem ef36_ok : compileFun Go.Proofs.Try.prog glob 36 [some [0, 3, 6, 7], some [0, 3, 6, 8], some [0, 3, 6, 8, 9], some [0, 3, 6, 10]] .pure = some ef36 := by kernel_rfl
theorem ef37_ok : compileFun Go.Proofs.Try.prog glob 37 [some [0, 1, 5]] .pure = some ef37 := by kernel_rfl
theorem ef38_ok : compileFun Go.Proofs.Try.prog glob 38 [some [1, 2, 25, 26, 27], some [1, 11, 12, 44, 45, 46]] .pure = some ef38 := by kernel_rfl
theorem ef39_ok : compileFun Go.Proofs.Try.prog glob 39 [] .pure = some ef39 := by kernel_rfl
theorem ef40_ok : compileFun Go.Proofs.Try.prog glob 40 [some [0, 3, 13, 14, 15]] .pure = some ef40 := by kernel_rfl
theorem ef41_ok : compileFun Go.Proofs.Try.prog glob 41 [some [0, 3, 6]] .pure = some ef41 := by kernel_rfl
theorem ef42_ok : compileFun Go.Proofs.Try.prog glob 42 [] .pure = some ef42 := by kernel_rfl
theorem ef43_ok : compileFun Go.Proofs.Try.prog glob 43 [] .pure = some ef43 := by kernel_rfl
theorem ef44_ok : compileFun Go.Proofs.Try.prog glob 44 [] .pure = some ef44 := by kernel_rfl
theorem ef45_ok : compileFun Go.Proofs.Try.prog glob 45 [] .pure = some ef45 := by kernel_rfl
theorem ef46_ok : compileFun Go.Proofs.Try.prog glob 46 [] .pure = some ef46 := by kernel_rfl
theorem ef47_ok : compileFun Go.Proofs.Try.prog glob 47 [some [0, 7, 8, 9]] .pure = some ef47 := by kernel_rfl
theorem ef48_ok : compileFun Go.Proofs.Try.prog glob 48 [] .pure = some ef48 := by kernel_rfl
theorem ef49_ok : compileFun Go.Proofs.Try.prog glob 49 [some [0, 3]] .pure = some ef49 := by kernel_rfl
theorem ef50_ok : compileFun Go.Proofs.Try.prog glob 50 [some [0, 1, 5]] .pure = some ef50 := by kernel_rfl
theorem ef51_ok : compileFun Go.Proofs.Try.prog glob 51 [] .pure = some ef51 := by kernel_rfl
theorem ef52_ok : compileFun Go.Proofs.Try.prog glob 52 [] .pure = some ef52 := by kernel_rfl
theorem ef53_ok : compileFun Go.Proofs.Try.prog glob 53 [] .pure = some ef53 := by kernel_rfl
theorem ef54_ok : compileFun Go.Proofs.Try.prog glob 54 [] .pure = some ef54 := by kernel_rfl
theorem ef55_ok : compileFun Go.Proofs.Try.prog glob 55 [] .pure = some ef55 := by kernel_rfl
theorem ef56_ok : compileFun Go.Proofs.Try.prog glob 56 [] .pure = some ef56 := by kernel_rfl
theorem ef57_ok : compileFun Go.Proofs.Try.prog glob 57 [] .pure = some ef57 := by kernel_rfl
theorem ef58_ok : compileFun Go.Proofs.Try.prog glob 58 [] .pure = some ef58 := by kernel_rfl
theorem ef59_ok : compileFun Go.Proofs.Try.prog glob 59 [some [0, 1, 8, 9, 10, 23, 24], some [1, 9, 10, 34, 35], some [1, 9, 10, 11, 12]] .pure = some ef59 := by kernel_rfl
theorem ef60_ok : compileFun Go.Proofs.Try.prog glob 60 [some [0, 15, 16, 17]] .pure = some ef60 := by kernel_rfl
theorem ef61_ok : compileFun Go.Proofs.Try.prog glob 61 [] .pure = some ef61 := by kernel_rfl
theorem ef62_ok : compileFun Go.Proofs.Try.prog glob 62 [] .pure = some ef62 := by kernel_rfl
theorem ef63_ok : compileFun Go.Proofs.Try.prog glob 63 [some [0, 1, 5, 6]] .pure = some ef63 := by kernel_rfl
theorem ef64_ok : compileFun Go.Proofs.Try.prog glob 64 [] .pure = some ef64 := by kernel_rfl
theorem ef65_ok : compileFun Go.Proofs.Try.prog glob 65 [] .pure = some ef65 := by kernel_rfl
theorem ef66_ok : compileFun Go.Proofs.Try.prog glob 66 [] .pure = some ef66 := by kernel_rfl
theorem ef67_ok : compileFun Go.Proofs.Try.prog glob 67 [] .pure = some ef67 := by kernel_rfl
theorem ef68_ok : compileFun Go.Proofs.Try.prog glob 68 [some [0, 1, 7, 8]] .pure = some ef68 := by kernel_rfl
theorem ef69_ok : compileFun Go.Proofs.Try.prog glob 69 [] .pure = some ef69 := by kernel_rfl
theorem ef70_ok : compileFun Go.Proofs.Try.prog glob 70 [] .pure = some ef70 := by kernel_rfl
theorem ef71_ok : compileFun Go.Proofs.Try.prog glob 71 [] .pure = some ef71 := by kernel_rfl
theorem ef72_ok : compileFun Go.Proofs.Try.prog glob 72 [] .pure = some ef72 := by kernel_rfl
theorem ef73_ok : compileFun Go.Proofs.Try.prog glob 73 [] .pure = some ef73 := by kernel_rfl
theorem ef74_ok : compileFun Go.Proofs.Try.prog glob 74 [some [1, 2, 7, 11, 12, 13]] .trunc = some ef74 := by kernel_rfl
theorem ef75_ok : compileFun Go.Proofs.Try.prog glob 75 [some [0, 2, 3]] .trunc = some ef75 := by kernel_rfl
theorem ef76_ok : compileFun Go.Proofs.Try.prog glob 76 [some [1, 5, 6]] .pure = some ef76 := by kernel_rfl
theorem ef77_ok : compileFun Go.Proofs.Try.prog glob 77 [] .pure = some ef77 := by kernel_rfl
theorem E_ok : ProgOk Go.Proofs.Try.prog E where
  mix := by kernel_rfl
  fn := by
    intro f F h
    replace h : fns f = some F := h
    unfold fns at h
    split at h
    · cases h; exact ⟨_, ef3_ok⟩
    · cases h; exact ⟨_, ef4_ok⟩
    · cases h; exact ⟨_, ef5_ok⟩
    · cases h; exact ⟨_, ef6_ok⟩
    · cases h; exact ⟨_, ef7_ok⟩
    · cases h; exact ⟨_, ef8_ok⟩
    · cases h; exact ⟨_, ef9_ok⟩
    · cases h; exact ⟨_, ef10_ok⟩
    · cases h; exact ⟨_, ef11_ok⟩
    · cases h; exact ⟨_, ef12_ok⟩
    · cases h; exact ⟨_, ef13_ok⟩
    · cases h; exact ⟨_, ef14_ok⟩
    · cases h; exact ⟨_, ef15_ok⟩
    · cases h; exact ⟨_, ef16_ok⟩
    · cases h; exact ⟨_, ef17_ok⟩
    · cases h; exact ⟨_, ef18_ok⟩
    · cases h; exact ⟨_, ef19_ok⟩
    · cases h; exact ⟨_, ef20_ok⟩
    · cases h; exact ⟨_, ef21_ok⟩
    · cases h; exact ⟨_, ef22_ok⟩
    · cases h; exact ⟨_, ef23_ok⟩
    · cases h; exact ⟨_, ef24_ok⟩
    · cases h; exact ⟨_, ef25_ok⟩
    · cases h; exact ⟨_, ef26_ok⟩
    · cases h; exact ⟨_, ef27_ok⟩
    · cases h; exact ⟨_, ef28_ok⟩
    · cases h; exact ⟨_, ef29_ok⟩
    · cases h; exact ⟨_, ef30_ok⟩
    · cases h; exact ⟨_, ef31_ok⟩
    · cases h; exact ⟨_, ef32_ok⟩
    · cases h; exact ⟨_, ef33_ok⟩
    · cases h; exact ⟨_, ef34_ok⟩
    · cases h; exact ⟨_, ef35_ok⟩
    · cases h; exact ⟨_, ef36_ok⟩
    · cases h; exact ⟨_, ef37_ok⟩
    · cases h; exact ⟨_, ef38_ok⟩
    · cases h; exact ⟨_, ef39_ok⟩
    · cases h; exact ⟨_, ef40_ok⟩
    · cases h; exact ⟨_, ef41_ok⟩
    · cases h; exact ⟨_, ef42_ok⟩
    · cases h; exact ⟨_, ef43_ok⟩
    · cases h; exact ⟨_, ef44_ok⟩
    · cases h; exact ⟨_, ef45_ok⟩
    · cases h; exact ⟨_, ef46_ok⟩
    · cases h; exact ⟨_, ef47_ok⟩
    · cases h; exact ⟨_, ef48_ok⟩
    · cases h; exact ⟨_, ef49_ok⟩
    · cases h; exact ⟨_, ef50_ok⟩
    · cases h; exact ⟨_, ef51_ok⟩
    · cases h; exact ⟨_, ef52_ok⟩
    · cases h; exact ⟨_, ef53_ok⟩
    · cases h; exact ⟨_, ef54_ok⟩
    · cases h; exact ⟨_, ef55_ok⟩
    · cases h; exact ⟨_, ef56_ok⟩
    · cases h; exact ⟨_, ef57_ok⟩
    · cases h; exact ⟨_, ef58_ok⟩
    · cases h; exact ⟨_, ef59_ok⟩
    · cases h; exact ⟨_, ef60_ok⟩
    · cases h; exact ⟨_, ef61_ok⟩
    · cases h; exact ⟨_, ef62_ok⟩
    · cases h; exact ⟨_, ef63_ok⟩
    · cases h; exact ⟨_, ef64_ok⟩
    · cases h; exact ⟨_, ef65_ok⟩
    · cases h; exact ⟨_, ef66_ok⟩
    · cases h; exact ⟨_, ef67_ok⟩
    · cases h; exact ⟨_, ef68_ok⟩
    · cases h; exact ⟨_, ef69_ok⟩
    · cases h; exact ⟨_, ef70_ok⟩
    · cases h; exact ⟨_, ef71_ok⟩
    · cases h; exact ⟨_, ef72_ok⟩
    · cases h; exact ⟨_, ef73_ok⟩
    · cases h; exact ⟨_, ef74_ok⟩
    · cases h; exact ⟨_, ef75_ok⟩
    · cases h; exact ⟨_, ef76_ok⟩
    · cases h; exact ⟨_, ef77_ok⟩
    · cases h
end Go.Abs.V
