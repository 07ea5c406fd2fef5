--
import Derived.Test.YtmjkdaloalaiiaaGreatDoorProg
import Derived.Test.YtmjkdaloalaiiaaGreatDoorAbsM
import Derived.Test.YtmjkdaloalaiiaaGreatDoorAbsMSh
set_option linter.unusedSimpArgs false
set_option linter.unusedVariables false
set_option maxRecDepth 100000
set_option maxHeartbeats 0
namespace Go.Abs.M
open Go Go.Abs
theorem ef4_ok : compileFun Go.Proofs.Tryz.prog glob 4 [] .pure = some ef4 := by kernel_rfl
theorem ef5_ok : compileFun Go.Proofs.Tryz.prog glob 5 [] .pure = some ef5 := by kernel_rfl
theorem ef6_ok : compileFun Go.Proofs.Tryz.prog glob 6 [some [2, 4, 5, 24]] .pure = some ef6 := by kernel_rfl
theorem ef8_ok : compileFun Go.Proofs.Tryz.prog glob 8 [] .pure = some ef8 := by kernel_rfl
theorem ef9_ok : compileFun Go.Proofs.Tryz.prog glob 9 [some [1, 5, 15]] .pure = some ef9 := by kernel_rfl
theorem ef10_ok : compileFun Go.Proofs.Tryz.prog glob 10 [some [1, 3, 4, 5]] .pure = some ef10 := by kernel_rfl
theorem ef11_ok : compileFun Go.Proofs.Tryz.prog glob 11 [] .pure = some ef11 := by kernel_rfl
theorem ef12_ok : compileFun Go.Proofs.Tryz.prog glob 12 [some [1, 3, 4]] .pure = some ef12 := by kernel_rfl
theorem ef13_ok : compileFun Go.Proofs.Tryz.prog glob 13 [] .pure = some ef13 := by kernel_rfl
theorem ef14_ok : compileFun Go.Proofs.Tryz.prog glob 14 [] .pure = some ef14 := by kernel_rfl
theorem ef15_ok : compileFun Go.Proofs.Tryz.prog glob 15 [] .pure = some ef15 := by kernel_rfl
theorem ef16_ok : compileFun Go.Proofs.Tryz.prog glob 16 [some [1, 2]] .pure = some ef16 := by kernel_rfl
theorem ef17_ok : compileFun Go.Proofs.Tryz.prog glob 17 [] .pure = some ef17 := by kernel_rfl
theorem ef18_ok : compileFun Go.Proofs.Tryz.prog glob 18 [] .pure = some ef18 := by kernel_rfl
theorem ef23_ok : compileFun Go.Proofs.Tryz.prog glob 23 [some [0, 3]] .pure = some ef23 := by kernel_rfl
theorem ef24_ok : compileFun Go.Proofs.Tryz.prog glob 24 [] .pure = some ef24 := by kernel_rfl
theorem ef25_ok : compileFun Go.Proofs.Tryz.prog glob 25 [some [1, 2, 3, 4, 5], some [1, 2, 3, 4, 5, 6, 7]] .pure = some ef25 := by kernel_rfl
theorem ef26_ok : compileFun Go.Proofs.Tryz.prog glob 26 [] .pure = some ef26 := by kernel_rfl
theorem ef27_ok : compileFun Go.Proofs.Tryz.prog glob 27 [some [0, 7, 8, 9]] .pure = some ef27 := by kernel_rfl
theorem ef28_ok : compileFun Go.Proofs.Tryz.prog glob 28 [] .pure = some ef28 := by kernel_rfl
theorem ef29_ok : compileFun Go.Proofs.Tryz.prog glob 29 [some [3, 6, 7, 8]] .pure = some ef29 := by kernel_rfl
theorem ef30_ok : compileFun Go.Proofs.Tryz.prog glob 30 [some [1, 3, 4, 8]] .pure = some ef30 := by kernel_rfl
theorem ef31_ok : compileFun Go.Proofs.Tryz.prog glob 31 [some [0, 3, 9], some [0, 3, 4, 5, 6, 9, 29, 30]] .pure = some ef31 := by kernel_rfl
theorem ef32_ok : compileFun Go.Proofs.Tryz.prog glob 32 [some [0, 3, 4]] .pure = some ef32 := by kernel_rfl
theorem ef33_ok : compileFun Go.Proofs.Tryz.prog glob 33 [] .pure = some ef33 := by kernel_rfl
theorem ef34_ok : compileFun Go.Proofs.Tryz.prog glob 34 [some [2, 4, 5], some [2, 4, 6], some [2, 4, 7]] .pure = some ef34 := by kernel_rfl
theorem ef35_ok : compileFun Go.Proofs.Tryz.prog glob 35 [] .pure = some ef35 := by kernel_rfl
theorem ef36_ok : compileFun Go.Proofs.Tryz.prog glob 36 [] .pure = some ef36 := by kernel_rfl
theorem ef37_ok : compileFun Go.Proofs.Tryz.prog glob 37 [some [38, 39]] .pure = some ef37 := by kernel_rfl
theorem ef38_ok : compileFun Go.Proofs.Tryz.prog glob 38 [] .pure = some ef38 := by kernel_rfl
theorem ef39_ok : compileFun Go.Proofs.Tryz.prog glob 39 [some [0, 1, 2, 3, 9, 10]] .pure = some ef39 := by kernel_rfl
theorem ef41_ok : compileFun Go.Proofs.Tryz.prog glob 41 [] .pure = some ef41 := by kernel_rfl
theorem ef46_ok : compileFun Go.Proofs.Tryz.prog glob 46 [] .pure = some ef46 := by kernel_rfl
theorem ef47_ok : compileFun Go.Proofs.Tryz.prog glob 47 [some [2, 4, 5, 6, 7]] .pure = some ef47 := by kernel_rfl
theorem ef48_ok : compileFun Go.Proofs.Tryz.prog glob 48 [some [0, 1, 7, 8]] .pure = some ef48 := by kernel_rfl
theorem ef49_ok : compileFun Go.Proofs.Tryz.prog glob 49 [some [2, 3, 4, 6, 8]] .pure = some ef49 := by kernel_rfl
theorem ef50_ok : compileFun Go.Proofs.Tryz.prog glob 50 [] .pure = some ef50 := by kernel_rfl
theorem ef51_ok : compileFun Go.Proofs.Tryz.prog glob 51 [] .pure = some ef51 := by kernel_rfl
theorem ef52_ok : compileFun Go.Proofs.Tryz.prog glob 52 [] .pure = some ef52 := by kernel_rfl
theorem ef53_ok : compileFun Go.Proofs.Tryz.prog glob 53 [] .pure = some ef53 := by kernel_rfl
theorem ef54_ok : compileFun Go.Proofs.Tryz.prog glob 54 [] .pure = some ef54 := by kernel_rfl
theorem ef55_ok : compileFun Go.Proofs.Tryz.prog glob 55 [] .pure = some ef55 := by kernel_rfl
theorem ef56_ok : compileFun Go.Proofs.Tryz.prog glob 56 [] .pure = some ef56 := by kernel_rfl
theorem ef57_ok : compileFun Go.Proofs.Tryz.prog glob 57 [some [0, 2, 4, 7, 8], some [0, 2, 4, 5, 6, 7, 8]] .pure = some ef57 := by kernel_rfl
theorem ef58_ok : compileFun Go.Proofs.Tryz.prog glob 58 [] .pure = some ef58 := by kernel_rfl
theorem ef59_ok : compileFun Go.Proofs.Tryz.prog glob 59 [some [0, 1, 6, 7]] .pure = some ef59 := by kernel_rfl
theorem ef61_ok : compileFun Go.Proofs.Tryz.prog glob 61 [] .pure = some ef61 := by kernel_rfl
theorem ef67_ok : compileFun Go.Proofs.Tryz.prog glob 67 [] .pure = some ef67 := by kernel_rfl
theorem ef68_ok : compileFun Go.Proofs.Tryz.prog glob 68 [some [1, 3, 5, 6, 7]] .pure = some ef68 := by kernel_rfl
theorem ef69_ok : compileFun Go.Proofs.Tryz.prog glob 69 [] .pure = some ef69 := by kernel_rfl
theorem ef70_ok : compileFun Go.Proofs.Tryz.prog glob 70 [] .pure = some ef70 := by kernel_rfl
theorem ef71_ok : compileFun Go.Proofs.Tryz.prog glob 71 [] .pure = some ef71 := by kernel_rfl
theorem ef72_ok : compileFun Go.Proofs.Tryz.prog glob 72 [] .pure = some ef72 := by kernel_rfl
theorem ef73_ok : compileFun Go.Proofs.Tryz.prog glob 73 [some [0, 1, 7, 8]] .pure = some ef73 := by kernel_rfl
theorem ef74_ok : compileFun Go.Proofs.Tryz.prog glob 74 [some [4, 8, 9, 10]] .pure = some ef74 := by kernel_rfl
theorem ef76_ok : compileFun Go.Proofs.Tryz.prog glob 76 [] .pure = some ef76 := by kernel_rfl
theorem ef90_ok : compileFun Go.Proofs.Tryz.prog glob 90 [] .pure = some ef90 := by kernel_rfl
theorem ef91_ok : compileFun Go.Proofs.Tryz.prog glob 91 [] .pure = some ef91 := by kernel_rfl
theorem ef92_ok : compileFun Go.Proofs.Tryz.prog glob 92 [some [1, 6, 7]] .pure = some ef92 := by kernel_rfl
theorem ef93_ok : compileFun Go.Proofs.Tryz.prog glob 93 [] .pure = some ef93 := by kernel_rfl
theorem ef94_ok : compileFun Go.Proofs.Tryz.prog glob 94 [] .pure = some ef94 := by kernel_rfl
theorem ef95_ok : compileFun Go.Proofs.Tryz.prog glob 95 [some [2, 3, 9, 10]] .pure = some ef95 := by kernel_rfl
theorem ef96_ok : compileFun Go.Proofs.Tryz.prog glob 96 [] .pure = some ef96 := by kernel_rfl
theorem ef97_ok : compileFun Go.Proofs.Tryz.prog glob 97 [some [0, 1, 2], some [0, 1, 2, 7]] .pure = some ef97 := by kernel_rfl
theorem ef98_ok : compileFun Go.Proofs.Tryz.prog glob 98 [] .pure = some ef98 := by kernel_rfl
theorem ef99_ok : compileFun Go.Proofs.Tryz.prog glob 99 [some [0, 1, 5]] .pure = some ef99 := by kernel_rfl
theorem ef100_ok : compileFun Go.Proofs.Tryz.prog glob 100 [] .pure = some ef100 := by kernel_rfl
theorem ef114_ok : compileFun Go.Proofs.Tryz.prog glob 114 [some [0, 1]] .pure = some ef114 := by kernel_rfl
theorem ef115_ok : compileFun Go.Proofs.Tryz.prog glob 115 [] .pure = some ef115 := by kernel_rfl
theorem ef116_ok : compileFun Go.Proofs.Tryz.prog glob 116 [some [1, 5, 6, 17, 18, 19]] .pure = some ef116 := by kernel_rfl
theorem ef117_ok : compileFun Go.Proofs.Tryz.prog glob 117 [] .pure = some ef117 := by kernel_rfl
theorem E_ok : ProgOk Go.Proofs.Tryz.prog E where
 mix := by kernel_rfl
 fn := by
  intro f F h
  replace h : fns f = some F := h
  unfold fns at h
  split at h
  ·cases h; exact .inl ⟨_, _, rfl, ef4_ok⟩
  ·cases h; exact .inl ⟨_, _, rfl, ef5_ok⟩
  ·cases h; exact .inl ⟨_, _, rfl, ef6_ok⟩
  ·cases h; exact .inl ⟨_, _, rfl, ef8_ok⟩
  ·cases h; exact .inl ⟨_, _, rfl, ef9_ok⟩
  ·cases h; exact .inl ⟨_, _, rfl, ef10_ok⟩
  ·cases h; exact .inl ⟨_, _, rfl, ef11_ok⟩
  ·cases h; exact .inl ⟨_, _, rfl, ef12_ok⟩
  ·cases h; exact .inl ⟨_, _, rfl, ef13_ok⟩
  ·cases h; exact .inl ⟨_, _, rfl, ef14_ok⟩
  ·cases h; exact .inl ⟨_, _, rfl, ef15_ok⟩
  ·cases h; exact .inl ⟨_, _, rfl, ef16_ok⟩
  ·cases h; exact .inl ⟨_, _, rfl, ef17_ok⟩
  ·cases h; exact .inl ⟨_, _, rfl, ef18_ok⟩
  ·cases h; exact .inr ⟨_, rfl, (okItoa rfl)⟩ -- ef21_ok
  ·cases h; exact .inr ⟨_, rfl, okJoin⟩ -- ef22_ok
  ·cases h; exact .inl ⟨_, _, rfl, ef23_ok⟩
  ·cases h; exact .inl ⟨_, _, rfl, ef24_ok⟩
  ·cases h; exact .inl ⟨_, _, rfl, ef25_ok⟩
  ·cases h; exact .inl ⟨_, _, rfl, ef26_ok⟩
  ·cases h; exact .inl ⟨_, _, rfl, ef27_ok⟩
  ·cases h; exact .inl ⟨_, _, rfl, ef28_ok⟩
  ·cases h; exact .inl ⟨_, _, rfl, ef29_ok⟩
  ·cases h; exact .inl ⟨_, _, rfl, ef30_ok⟩
  ·cases h; exact .inl ⟨_, _, rfl, ef31_ok⟩
  ·cases h; exact .inl ⟨_, _, rfl, ef32_ok⟩
  ·cases h; exact .inl ⟨_, _, rfl, ef33_ok⟩
  ·cases h; exact .inl ⟨_, _, rfl, ef34_ok⟩
  ·cases h; exact .inl ⟨_, _, rfl, ef35_ok⟩
  ·cases h; exact .inl ⟨_, _, rfl, ef36_ok⟩
  ·cases h; exact .inl ⟨_, _, rfl, ef37_ok⟩
  ·cases h; exact .inl ⟨_, _, rfl, ef38_ok⟩
  ·cases h; exact .inl ⟨_, _, rfl, ef39_ok⟩
  ·cases h; exact .inr ⟨_, rfl, (okAtoi rfl rfl)⟩ -- ef40_ok
  ·cases h; exact .inl ⟨_, _, rfl, ef41_ok⟩
  ·cases h; exact .inl ⟨_, _, rfl, ef46_ok⟩
  ·cases h; exact .inl ⟨_, _, rfl, ef47_ok⟩
  ·cases h; exact .inl ⟨_, _, rfl, ef48_ok⟩
  ·cases h; exact .inl ⟨_, _, rfl, ef49_ok⟩
  ·cases h; exact .inl ⟨_, _, rfl, ef50_ok⟩
  ·cases h; exact .inl ⟨_, _, rfl, ef51_ok⟩
  ·cases h; exact .inl ⟨_, _, rfl, ef52_ok⟩
  ·cases h; exact .inl ⟨_, _, rfl, ef53_ok⟩
  ·cases h; exact .inl ⟨_, _, rfl, ef54_ok⟩
  ·cases h; exact .inl ⟨_, _, rfl, ef55_ok⟩
  ·cases h; exact .inl ⟨_, _, rfl, ef56_ok⟩
  ·cases h; exact .inl ⟨_, _, rfl, ef57_ok⟩
  ·cases h; exact .inl ⟨_, _, rfl, ef58_ok⟩
  ·cases h; exact .inl ⟨_, _, rfl, ef59_ok⟩
  ·cases h; exact .inr ⟨_, rfl, okCount1⟩ -- ef60_ok
  ·cases h; exact .inl ⟨_, _, rfl, ef61_ok⟩
  ·cases h; exact .inl ⟨_, _, rfl, ef67_ok⟩
  ·cases h; exact .inl ⟨_, _, rfl, ef68_ok⟩
  ·cases h; exact .inl ⟨_, _, rfl, ef69_ok⟩
  ·cases h; exact .inl ⟨_, _, rfl, ef70_ok⟩
  ·cases h; exact .inl ⟨_, _, rfl, ef71_ok⟩
  ·cases h; exact .inl ⟨_, _, rfl, ef72_ok⟩
  ·cases h; exact .inl ⟨_, _, rfl, ef73_ok⟩
  ·cases h; exact .inl ⟨_, _, rfl, ef74_ok⟩
  ·cases h; exact .inl ⟨_, _, rfl, ef76_ok⟩
  ·cases h; exact .inr ⟨_, rfl, okIndex1⟩ -- ef78_ok
  ·cases h; exact .inl ⟨_, _, rfl, ef90_ok⟩
  ·cases h; exact .inl ⟨_, _, rfl, ef91_ok⟩
  ·cases h; exact .inl ⟨_, _, rfl, ef92_ok⟩
  ·cases h; exact .inl ⟨_, _, rfl, ef93_ok⟩
  ·cases h; exact .inl ⟨_, _, rfl, ef94_ok⟩
  ·cases h; exact .inl ⟨_, _, rfl, ef95_ok⟩
  ·cases h; exact .inl ⟨_, _, rfl, ef96_ok⟩
  ·cases h; exact .inl ⟨_, _, rfl, ef97_ok⟩
  ·cases h; exact .inl ⟨_, _, rfl, ef98_ok⟩
  ·cases h; exact .inl ⟨_, _, rfl, ef99_ok⟩
  ·cases h; exact .inl ⟨_, _, rfl, ef100_ok⟩
  ·cases h; exact .inl ⟨_, _, rfl, ef114_ok⟩
  ·cases h; exact .inl ⟨_, _, rfl, ef115_ok⟩
  ·cases h; exact .inl ⟨_, _, rfl, ef116_ok⟩
  ·cases h; exact .inl ⟨_, _, rfl, ef117_ok⟩
  ·cases h
end Go.Abs.M
