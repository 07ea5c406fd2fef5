/- The functions, compiled for the abstract evaluator. Written by wip/abs/Print.lean. -/
import Derived.Test.YtjalhpdmdiimoaaDoorProg
import Derived.Test.YtjalhpdmdiimoaaDoorAbsN
set_option linter.unusedSimpArgs false
set_option linter.unusedVariables false
set_option maxRecDepth 100000
set_option maxHeartbeats 0
namespace Go.Abs.N
open Go Go.Abs
theorem ef6_ok : compileFun Go.Proofs.Tryd.prog glob 6 [] .pure = some ef6 := by kernel_rfl
theorem ef18_ok : compileFun Go.Proofs.Tryd.prog glob 18 [] .pure = some ef18 := by kernel_rfl
theorem ef20_ok : compileFun Go.Proofs.Tryd.prog glob 20 [some [4, 8, 9, 10]] .pure = some ef20 := by kernel_rfl
theorem ef22_ok : compileFun Go.Proofs.Tryd.prog glob 22 [] .pure = some ef22 := by kernel_rfl
theorem ef25_ok : compileFun Go.Proofs.Tryd.prog glob 25 [some [0, 2, 5, 21, 22], some [0, 2, 5, 6, 7, 21, 22], some [0, 2, 5, 6, 7, 8, 21, 22]] .pure = some ef25 := by kernel_rfl
theorem ef29_ok : compileFun Go.Proofs.Tryd.prog glob 29 [] .pure = some ef29 := by kernel_rfl
theorem ef34_ok : compileFun Go.Proofs.Tryd.prog glob 34 [some [0, 1, 5]] .pure = some ef34 := by kernel_rfl
theorem ef35_ok : compileFun Go.Proofs.Tryd.prog glob 35 [some [0, 1, 8, 9, 10, 23, 24], some [1, 9, 10, 34, 35], some [1, 9, 10, 11, 12]] .pure = some ef35 := by kernel_rfl
theorem ef36_ok : compileFun Go.Proofs.Tryd.prog glob 36 [some [0, 15, 16, 17]] .pure = some ef36 := by kernel_rfl
theorem ef37_ok : compileFun Go.Proofs.Tryd.prog glob 37 [some [0, 1, 6, 7], some [0, 1, 6, 7, 8, 9]] .pure = some ef37 := by kernel_rfl
theorem ef38_ok : compileFun Go.Proofs.Tryd.prog glob 38 [some [0, 1, 5]] .pure = some ef38 := by kernel_rfl
theorem ef39_ok : compileFun Go.Proofs.Tryd.prog glob 39 [some [0, 1, 6], some [0, 1, 7, 8]] .pure = some ef39 := by kernel_rfl
theorem ef40_ok : compileFun Go.Proofs.Tryd.prog glob 40 [some [1, 2, 25, 26, 27], some [1, 11, 12, 44, 45, 46]] .pure = some ef40 := by kernel_rfl
theorem ef41_ok : compileFun Go.Proofs.Tryd.prog glob 41 [] .pure = some ef41 := by kernel_rfl
theorem ef51_ok : compileFun Go.Proofs.Tryd.prog glob 51 [some [1, 6, 7]] .pure = some ef51 := by kernel_rfl
theorem ef76_ok : compileFun Go.Proofs.Tryd.prog glob 76 [] .pure = some ef76 := by kernel_rfl
theorem ef77_ok : compileFun Go.Proofs.Tryd.prog glob 77 [] .pure = some ef77 := by kernel_rfl
theorem ef78_ok : compileFun Go.Proofs.Tryd.prog glob 78 [] .pure = some ef78 := by kernel_rfl
theorem ef79_ok : compileFun Go.Proofs.Tryd.prog glob 79 [some [2, 3, 9, 10]] .pure = some ef79 := by kernel_rfl
theorem ef80_ok : compileFun Go.Proofs.Tryd.prog glob 80 [] .pure = some ef80 := by kernel_rfl
theorem ef81_ok : compileFun Go.Proofs.Tryd.prog glob 81 [some [0, 1, 2], some [0, 1, 2, 7]] .pure = some ef81 := by kernel_rfl
theorem ef82_ok : compileFun Go.Proofs.Tryd.prog glob 82 [] .pure = some ef82 := by kernel_rfl
theorem ef83_ok : compileFun Go.Proofs.Tryd.prog glob 83 [some [0, 1, 5]] .pure = some ef83 := by kernel_rfl
theorem ef84_ok : compileFun Go.Proofs.Tryd.prog glob 84 [] .pure = some ef84 := by kernel_rfl
theorem ef91_ok : compileFun Go.Proofs.Tryd.prog glob 91 [some [0, 9, 10, 11]] .pure = some ef91 := by kernel_rfl
theorem ef92_ok : compileFun Go.Proofs.Tryd.prog glob 92 [] .pure = some ef92 := by kernel_rfl
theorem ef93_ok : compileFun Go.Proofs.Tryd.prog glob 93 [] .pure = some ef93 := by kernel_rfl
theorem ef94_ok : compileFun Go.Proofs.Tryd.prog glob 94 [] .pure = some ef94 := by kernel_rfl
theorem ef95_ok : compileFun Go.Proofs.Tryd.prog glob 95 [] .pure = some ef95 := by kernel_rfl
theorem ef97_ok : compileFun Go.Proofs.Tryd.prog glob 97 [some [1, 2, 7, 11, 12, 13]] .trunc = some ef97 := by kernel_rfl
theorem ef98_ok : compileFun Go.Proofs.Tryd.prog glob 98 [some [0, 2, 3]] .trunc = some ef98 := by kernel_rfl
theorem ef99_ok : compileFun Go.Proofs.Tryd.prog glob 99 [] .pure = some ef99 := by kernel_rfl
theorem ef120_ok : compileFun Go.Proofs.Tryd.prog glob 120 [some [0, 1]] .pure = some ef120 := by kernel_rfl
theorem ef128_ok : compileFun Go.Proofs.Tryd.prog glob 128 [] .pure = some ef128 := by kernel_rfl
theorem ef129_ok : compileFun Go.Proofs.Tryd.prog glob 129 [some [1, 5, 6, 17, 18, 19]] .pure = some ef129 := by kernel_rfl
theorem E_ok : ProgOk Go.Proofs.Tryd.prog E where
  mix := by kernel_rfl
  fn := by
    intro f F h
    replace h : fns f = some F := h
    unfold fns at h
    split at h
    · cases h; exact ⟨_, ef6_ok⟩
    · cases h; exact ⟨_, ef18_ok⟩
    · cases h; exact ⟨_, ef20_ok⟩
    · cases h; exact ⟨_, ef22_ok⟩
    · cases h; exact ⟨_, ef25_ok⟩
    · cases h; exact ⟨_, ef29_ok⟩
    · cases h; exact ⟨_, ef34_ok⟩
    · cases h; exact ⟨_, ef35_ok⟩
    · cases h; exact ⟨_, ef36_ok⟩
    · cases h; exact ⟨_, ef37_ok⟩
    · cases h; exact ⟨_, ef38_ok⟩
    · cases h; exact ⟨_, ef39_ok⟩
    · cases h; exact ⟨_, ef40_ok⟩
    · cases h; exact ⟨_, ef41_ok⟩
    · cases h; exact ⟨_, ef51_ok⟩
    · cases h; exact ⟨_, ef76_ok⟩
    · cases h; exact ⟨_, ef77_ok⟩
    · cases h; exact ⟨_, ef78_ok⟩
    · cases h; exact ⟨_, ef79_ok⟩
    · cases h; exact ⟨_, ef80_ok⟩
    · cases h; exact ⟨_, ef81_ok⟩
    · cases h; exact ⟨_, ef82_ok⟩
    · cases h; exact ⟨_, ef83_ok⟩
    · cases h; exact ⟨_, ef84_ok⟩
    · cases h; exact ⟨_, ef91_ok⟩
    · cases h; exact ⟨_, ef92_ok⟩
    · cases h; exact ⟨_, ef93_ok⟩
    · cases h; exact ⟨_, ef94_ok⟩
    · cases h; exact ⟨_, ef95_ok⟩
    · cases h; exact ⟨_, ef97_ok⟩
    · cases h; exact ⟨_, ef98_ok⟩
    · cases h; exact ⟨_, ef99_ok⟩
    · cases h; exact ⟨_, ef120_ok⟩
    · cases h; exact ⟨_, ef128_ok⟩
    · cases h; exact ⟨_, ef129_ok⟩
    · cases h
end Go.Abs.N
