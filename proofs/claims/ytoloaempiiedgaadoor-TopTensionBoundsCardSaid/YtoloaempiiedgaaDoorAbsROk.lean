--
import Derived.Test.YtoloaempiiedgaaDoorProg
import Derived.Test.YtoloaempiiedgaaDoorAbsR
set_option linter.unusedSimpArgs false
set_option linter.unusedVariables false
set_option maxRecDepth 100000
set_option maxHeartbeats 0
namespace Go.Abs.R
open Go Go.Abs
theorem ef5_ok : compileFun Go.Proofs.Tryd.prog glob 5 [some [4, 12, 14, 15], some [2, 3, 4, 10, 25, 26], some [2, 3, 4, 10, 25, 27], some [2, 3, 4, 10, 25, 27, 28, 29, 30]] .full = some ef5 := by kernel_rfl
theorem ef7_ok : compileFun Go.Proofs.Tryd.prog glob 7 [some [1, 3]] .pure = some ef7 := by kernel_rfl
theorem ef9_ok : compileFun Go.Proofs.Tryd.prog glob 9 [some [6, 9, 11, 39, 40, 41], some [6, 9, 11, 14, 15, 16], some [6, 9, 11, 14, 15, 16, 17, 88, 89, 90]] .full = some ef9 := by kernel_rfl
theorem ef11_ok : compileFun Go.Proofs.Tryd.prog glob 11 [] .pure = some ef11 := by kernel_rfl
theorem ef12_ok : compileFun Go.Proofs.Tryd.prog glob 12 [some [1, 6, 11, 47, 48, 49]] .pure = some ef12 := by kernel_rfl
theorem ef13_ok : compileFun Go.Proofs.Tryd.prog glob 13 [some [2, 3, 6, 24, 25, 26]] .pure = some ef13 := by kernel_rfl
theorem ef20_ok : compileFun Go.Proofs.Tryd.prog glob 20 [] .pure = some ef20 := by kernel_rfl
theorem ef21_ok : compileFun Go.Proofs.Tryd.prog glob 21 [] .pure = some ef21 := by kernel_rfl
theorem ef22_ok : compileFun Go.Proofs.Tryd.prog glob 22 [] .pure = some ef22 := by kernel_rfl
theorem ef23_ok : compileFun Go.Proofs.Tryd.prog glob 23 [some [0, 3]] .pure = some ef23 := by kernel_rfl
theorem ef24_ok : compileFun Go.Proofs.Tryd.prog glob 24 [some [1, 5]] .pure = some ef24 := by kernel_rfl
theorem ef25_ok : compileFun Go.Proofs.Tryd.prog glob 25 [some [4, 8, 9, 10]] .pure = some ef25 := by kernel_rfl
theorem ef26_ok : compileFun Go.Proofs.Tryd.prog glob 26 [] .pure = some ef26 := by kernel_rfl
theorem ef27_ok : compileFun Go.Proofs.Tryd.prog glob 27 [] .pure = some ef27 := by kernel_rfl
theorem ef28_ok : compileFun Go.Proofs.Tryd.prog glob 28 [] .pure = some ef28 := by kernel_rfl
theorem ef29_ok : compileFun Go.Proofs.Tryd.prog glob 29 [] .pure = some ef29 := by kernel_rfl
theorem ef33_ok : compileFun Go.Proofs.Tryd.prog glob 33 [some [0, 3]] .pure = some ef33 := by kernel_rfl
theorem ef34_ok : compileFun Go.Proofs.Tryd.prog glob 34 [] .pure = some ef34 := by kernel_rfl
theorem ef35_ok : compileFun Go.Proofs.Tryd.prog glob 35 [some [2, 3, 4, 12, 45, 46, 47], some [2, 3, 4, 12, 14, 15, 16, 17, 45, 46, 47, 61, 62, 63]] .full = some ef35 := by kernel_rfl
theorem ef36_ok : compileFun Go.Proofs.Tryd.prog glob 36 [some [0, 3, 14, 15, 16], some [0, 3, 4, 6, 14, 15, 16, 24, 25, 26], some [0, 0, 3, 4, 6]] .full = some ef36 := by kernel_rfl
theorem ef37_ok : compileFun Go.Proofs.Tryd.prog glob 37 [some [0, 1, 2, 7, 10, 11, 12]] .pure = some ef37 := by kernel_rfl
theorem ef38_ok : compileFun Go.Proofs.Tryd.prog glob 38 [] .pure = some ef38 := by kernel_rfl
theorem ef39_ok : compileFun Go.Proofs.Tryd.prog glob 39 [] .pure = some ef39 := by kernel_rfl
theorem ef40_ok : compileFun Go.Proofs.Tryd.prog glob 40 [some [1, 23, 24]] .pure = some ef40 := by kernel_rfl
theorem ef41_ok : compileFun Go.Proofs.Tryd.prog glob 41 [some [0, 13, 14, 15]] .pure = some ef41 := by kernel_rfl
theorem ef42_ok : compileFun Go.Proofs.Tryd.prog glob 42 [] .pure = some ef42 := by kernel_rfl
theorem ef43_ok : compileFun Go.Proofs.Tryd.prog glob 43 [] .pure = some ef43 := by kernel_rfl
theorem ef44_ok : compileFun Go.Proofs.Tryd.prog glob 44 [] .pure = some ef44 := by kernel_rfl
theorem ef45_ok : compileFun Go.Proofs.Tryd.prog glob 45 [some [1, 6, 18, 19]] .pure = some ef45 := by kernel_rfl
theorem ef46_ok : compileFun Go.Proofs.Tryd.prog glob 46 [] .pure = some ef46 := by kernel_rfl
theorem ef47_ok : compileFun Go.Proofs.Tryd.prog glob 47 [] .pure = some ef47 := by kernel_rfl
theorem ef48_ok : compileFun Go.Proofs.Tryd.prog glob 48 [] .pure = some ef48 := by kernel_rfl
theorem ef49_ok : compileFun Go.Proofs.Tryd.prog glob 49 [] .pure = some ef49 := by kernel_rfl
theorem ef61_ok : compileFun Go.Proofs.Tryd.prog glob 61 [some [0, 3]] .pure = some ef61 := by kernel_rfl
theorem ef62_ok : compileFun Go.Proofs.Tryd.prog glob 62 [] .pure = some ef62 := by kernel_rfl
theorem ef63_ok : compileFun Go.Proofs.Tryd.prog glob 63 [some [1, 6, 7]] .pure = some ef63 := by kernel_rfl
theorem ef64_ok : compileFun Go.Proofs.Tryd.prog glob 64 [] .pure = some ef64 := by kernel_rfl
theorem ef65_ok : compileFun Go.Proofs.Tryd.prog glob 65 [] .pure = some ef65 := by kernel_rfl
theorem ef66_ok : compileFun Go.Proofs.Tryd.prog glob 66 [some [2, 3, 9, 10]] .pure = some ef66 := by kernel_rfl
theorem ef67_ok : compileFun Go.Proofs.Tryd.prog glob 67 [] .pure = some ef67 := by kernel_rfl
theorem ef68_ok : compileFun Go.Proofs.Tryd.prog glob 68 [some [0, 1, 2], some [0, 1, 2, 7]] .pure = some ef68 := by kernel_rfl
theorem ef69_ok : compileFun Go.Proofs.Tryd.prog glob 69 [] .pure = some ef69 := by kernel_rfl
theorem ef70_ok : compileFun Go.Proofs.Tryd.prog glob 70 [some [0, 1, 5]] .pure = some ef70 := by kernel_rfl
theorem ef71_ok : compileFun Go.Proofs.Tryd.prog glob 71 [] .pure = some ef71 := by kernel_rfl
theorem ef72_ok : compileFun Go.Proofs.Tryd.prog glob 72 [] .pure = some ef72 := by kernel_rfl
theorem ef75_ok : compileFun Go.Proofs.Tryd.prog glob 75 [] .pure = some ef75 := by kernel_rfl
theorem ef76_ok : compileFun Go.Proofs.Tryd.prog glob 76 [] .pure = some ef76 := by kernel_rfl
theorem ef77_ok : compileFun Go.Proofs.Tryd.prog glob 77 [] .pure = some ef77 := by kernel_rfl
theorem ef78_ok : compileFun Go.Proofs.Tryd.prog glob 78 [] .pure = some ef78 := by kernel_rfl
theorem ef79_ok : compileFun Go.Proofs.Tryd.prog glob 79 [some [3, 10, 11, 12]] .pure = some ef79 := by kernel_rfl
theorem ef80_ok : compileFun Go.Proofs.Tryd.prog glob 80 [] .pure = some ef80 := by kernel_rfl
theorem ef81_ok : compileFun Go.Proofs.Tryd.prog glob 81 [] .pure = some ef81 := by kernel_rfl
theorem ef93_ok : compileFun Go.Proofs.Tryd.prog glob 93 [some [0, 1]] .pure = some ef93 := by kernel_rfl
theorem ef94_ok : compileFun Go.Proofs.Tryd.prog glob 94 [] .pure = some ef94 := by kernel_rfl
theorem ef96_ok : compileFun Go.Proofs.Tryd.prog glob 96 [] .pure = some ef96 := by kernel_rfl
theorem ef97_ok : compileFun Go.Proofs.Tryd.prog glob 97 [some [0, 1]] .pure = some ef97 := by kernel_rfl
theorem ef98_ok : compileFun Go.Proofs.Tryd.prog glob 98 [some [0, 3]] .pure = some ef98 := by kernel_rfl
theorem ef99_ok : compileFun Go.Proofs.Tryd.prog glob 99 [some [0, 1, 5]] .pure = some ef99 := by kernel_rfl
theorem ef100_ok : compileFun Go.Proofs.Tryd.prog glob 100 [some [1, 11, 12]] .pure = some ef100 := by kernel_rfl
theorem ef101_ok : compileFun Go.Proofs.Tryd.prog glob 101 [] .pure = some ef101 := by kernel_rfl
theorem ef102_ok : compileFun Go.Proofs.Tryd.prog glob 102 [some [2, 4, 6, 7, 8, 9]] .pure = some ef102 := by kernel_rfl
theorem ef103_ok : compileFun Go.Proofs.Tryd.prog glob 103 [] .pure = some ef103 := by kernel_rfl
theorem ef104_ok : compileFun Go.Proofs.Tryd.prog glob 104 [] .pure = some ef104 := by kernel_rfl
theorem ef105_ok : compileFun Go.Proofs.Tryd.prog glob 105 [] .pure = some ef105 := by kernel_rfl
theorem ef106_ok : compileFun Go.Proofs.Tryd.prog glob 106 [some [1, 5, 6, 17, 18, 19]] .pure = some ef106 := by kernel_rfl
theorem ef107_ok : compileFun Go.Proofs.Tryd.prog glob 107 [] .pure = some ef107 := by kernel_rfl
theorem ef108_ok : compileFun Go.Proofs.Tryd.prog glob 108 [] .pure = some ef108 := by kernel_rfl
theorem ef109_ok : compileFun Go.Proofs.Tryd.prog glob 109 [] .pure = some ef109 := by kernel_rfl
theorem ef110_ok : compileFun Go.Proofs.Tryd.prog glob 110 [] .pure = some ef110 := by kernel_rfl
theorem ef111_ok : compileFun Go.Proofs.Tryd.prog glob 111 [] .pure = some ef111 := by kernel_rfl
theorem ef112_ok : compileFun Go.Proofs.Tryd.prog glob 112 [] .pure = some ef112 := by kernel_rfl
theorem ef113_ok : compileFun Go.Proofs.Tryd.prog glob 113 [some [0, 1, 2, 13, 14], some [0, 1, 2, 4, 13, 14, 25, 26]] .trunc = some ef113 := by kernel_rfl
theorem ef114_ok : compileFun Go.Proofs.Tryd.prog glob 114 [some [0, 7, 8, 9]] .pure = some ef114 := by kernel_rfl
theorem ef115_ok : compileFun Go.Proofs.Tryd.prog glob 115 [] .pure = some ef115 := by kernel_rfl
theorem ef121_ok : compileFun Go.Proofs.Tryd.prog glob 121 [] .pure = some ef121 := by kernel_rfl
theorem ef122_ok : compileFun Go.Proofs.Tryd.prog glob 122 [some [8, 9, 18, 19]] .pure = some ef122 := by kernel_rfl
theorem ef123_ok : compileFun Go.Proofs.Tryd.prog glob 123 [some [0, 1, 5, 6], some [0, 1, 5, 6, 7, 8], some [5]] .pure = some ef123 := by kernel_rfl
theorem ef124_ok : compileFun Go.Proofs.Tryd.prog glob 124 [some [0, 1, 5]] .pure = some ef124 := by kernel_rfl
theorem ef125_ok : compileFun Go.Proofs.Tryd.prog glob 125 [some [0, 3]] .pure = some ef125 := by kernel_rfl
theorem ef126_ok : compileFun Go.Proofs.Tryd.prog glob 126 [some [0, 1, 5]] .pure = some ef126 := by kernel_rfl
theorem ef127_ok : compileFun Go.Proofs.Tryd.prog glob 127 [] .pure = some ef127 := by kernel_rfl
theorem ef128_ok : compileFun Go.Proofs.Tryd.prog glob 128 [] .pure = some ef128 := by kernel_rfl
theorem ef130_ok : compileFun Go.Proofs.Tryd.prog glob 130 [some [0, 1, 7, 8]] .pure = some ef130 := by kernel_rfl
theorem ef131_ok : compileFun Go.Proofs.Tryd.prog glob 131 [] .pure = some ef131 := by kernel_rfl
theorem ef132_ok : compileFun Go.Proofs.Tryd.prog glob 132 [] .pure = some ef132 := by kernel_rfl
theorem ef133_ok : compileFun Go.Proofs.Tryd.prog glob 133 [] .pure = some ef133 := by kernel_rfl
theorem ef148_ok : compileFun Go.Proofs.Tryd.prog glob 148 [] .pure = some ef148 := by kernel_rfl
theorem E_ok : ProgOk Go.Proofs.Tryd.prog E where
 mix := by kernel_rfl
 fn := by
  intro f F h
  replace h : fns f = some F := h
  unfold fns at h
  split at h
  ·cases h; exact .inl ⟨_, _, rfl, ef5_ok⟩
  ·cases h; exact .inl ⟨_, _, rfl, ef7_ok⟩
  ·cases h; exact .inl ⟨_, _, rfl, ef9_ok⟩
  ·cases h; exact .inl ⟨_, _, rfl, ef11_ok⟩
  ·cases h; exact .inl ⟨_, _, rfl, ef12_ok⟩
  ·cases h; exact .inl ⟨_, _, rfl, ef13_ok⟩
  ·cases h; exact .inl ⟨_, _, rfl, ef20_ok⟩
  ·cases h; exact .inl ⟨_, _, rfl, ef21_ok⟩
  ·cases h; exact .inl ⟨_, _, rfl, ef22_ok⟩
  ·cases h; exact .inl ⟨_, _, rfl, ef23_ok⟩
  ·cases h; exact .inl ⟨_, _, rfl, ef24_ok⟩
  ·cases h; exact .inl ⟨_, _, rfl, ef25_ok⟩
  ·cases h; exact .inl ⟨_, _, rfl, ef26_ok⟩
  ·cases h; exact .inl ⟨_, _, rfl, ef27_ok⟩
  ·cases h; exact .inl ⟨_, _, rfl, ef28_ok⟩
  ·cases h; exact .inl ⟨_, _, rfl, ef29_ok⟩
  ·cases h; exact .inl ⟨_, _, rfl, ef33_ok⟩
  ·cases h; exact .inl ⟨_, _, rfl, ef34_ok⟩
  ·cases h; exact .inl ⟨_, _, rfl, ef35_ok⟩
  ·cases h; exact .inl ⟨_, _, rfl, ef36_ok⟩
  ·cases h; exact .inl ⟨_, _, rfl, ef37_ok⟩
  ·cases h; exact .inl ⟨_, _, rfl, ef38_ok⟩
  ·cases h; exact .inl ⟨_, _, rfl, ef39_ok⟩
  ·cases h; exact .inl ⟨_, _, rfl, ef40_ok⟩
  ·cases h; exact .inl ⟨_, _, rfl, ef41_ok⟩
  ·cases h; exact .inl ⟨_, _, rfl, ef42_ok⟩
  ·cases h; exact .inl ⟨_, _, rfl, ef43_ok⟩
  ·cases h; exact .inl ⟨_, _, rfl, ef44_ok⟩
  ·cases h; exact .inl ⟨_, _, rfl, ef45_ok⟩
  ·cases h; exact .inl ⟨_, _, rfl, ef46_ok⟩
  ·cases h; exact .inl ⟨_, _, rfl, ef47_ok⟩
  ·cases h; exact .inl ⟨_, _, rfl, ef48_ok⟩
  ·cases h; exact .inl ⟨_, _, rfl, ef49_ok⟩
  ·cases h; exact .inl ⟨_, _, rfl, ef61_ok⟩
  ·cases h; exact .inl ⟨_, _, rfl, ef62_ok⟩
  ·cases h; exact .inl ⟨_, _, rfl, ef63_ok⟩
  ·cases h; exact .inl ⟨_, _, rfl, ef64_ok⟩
  ·cases h; exact .inl ⟨_, _, rfl, ef65_ok⟩
  ·cases h; exact .inl ⟨_, _, rfl, ef66_ok⟩
  ·cases h; exact .inl ⟨_, _, rfl, ef67_ok⟩
  ·cases h; exact .inl ⟨_, _, rfl, ef68_ok⟩
  ·cases h; exact .inl ⟨_, _, rfl, ef69_ok⟩
  ·cases h; exact .inl ⟨_, _, rfl, ef70_ok⟩
  ·cases h; exact .inl ⟨_, _, rfl, ef71_ok⟩
  ·cases h; exact .inl ⟨_, _, rfl, ef72_ok⟩
  ·cases h; exact .inl ⟨_, _, rfl, ef75_ok⟩
  ·cases h; exact .inl ⟨_, _, rfl, ef76_ok⟩
  ·cases h; exact .inl ⟨_, _, rfl, ef77_ok⟩
  ·cases h; exact .inl ⟨_, _, rfl, ef78_ok⟩
  ·cases h; exact .inl ⟨_, _, rfl, ef79_ok⟩
  ·cases h; exact .inl ⟨_, _, rfl, ef80_ok⟩
  ·cases h; exact .inl ⟨_, _, rfl, ef81_ok⟩
  ·cases h; exact .inl ⟨_, _, rfl, ef93_ok⟩
  ·cases h; exact .inl ⟨_, _, rfl, ef94_ok⟩
  ·cases h; exact .inl ⟨_, _, rfl, ef96_ok⟩
  ·cases h; exact .inl ⟨_, _, rfl, ef97_ok⟩
  ·cases h; exact .inl ⟨_, _, rfl, ef98_ok⟩
  ·cases h; exact .inl ⟨_, _, rfl, ef99_ok⟩
  ·cases h; exact .inl ⟨_, _, rfl, ef100_ok⟩
  ·cases h; exact .inl ⟨_, _, rfl, ef101_ok⟩
  ·cases h; exact .inl ⟨_, _, rfl, ef102_ok⟩
  ·cases h; exact .inl ⟨_, _, rfl, ef103_ok⟩
  ·cases h; exact .inl ⟨_, _, rfl, ef104_ok⟩
  ·cases h; exact .inl ⟨_, _, rfl, ef105_ok⟩
  ·cases h; exact .inl ⟨_, _, rfl, ef106_ok⟩
  ·cases h; exact .inl ⟨_, _, rfl, ef107_ok⟩
  ·cases h; exact .inl ⟨_, _, rfl, ef108_ok⟩
  ·cases h; exact .inl ⟨_, _, rfl, ef109_ok⟩
  ·cases h; exact .inl ⟨_, _, rfl, ef110_ok⟩
  ·cases h; exact .inl ⟨_, _, rfl, ef111_ok⟩
  ·cases h; exact .inl ⟨_, _, rfl, ef112_ok⟩
  ·cases h; exact .inl ⟨_, _, rfl, ef113_ok⟩
  ·cases h; exact .inl ⟨_, _, rfl, ef114_ok⟩
  ·cases h; exact .inl ⟨_, _, rfl, ef115_ok⟩
  ·cases h; exact .inl ⟨_, _, rfl, ef121_ok⟩
  ·cases h; exact .inl ⟨_, _, rfl, ef122_ok⟩
  ·cases h; exact .inl ⟨_, _, rfl, ef123_ok⟩
  ·cases h; exact .inl ⟨_, _, rfl, ef124_ok⟩
  ·cases h; exact .inl ⟨_, _, rfl, ef125_ok⟩
  ·cases h; exact .inl ⟨_, _, rfl, ef126_ok⟩
  ·cases h; exact .inl ⟨_, _, rfl, ef127_ok⟩
  ·cases h; exact .inl ⟨_, _, rfl, ef128_ok⟩
  ·cases h; exact .inl ⟨_, _, rfl, ef130_ok⟩
  ·cases h; exact .inl ⟨_, _, rfl, ef131_ok⟩
  ·cases h; exact .inl ⟨_, _, rfl, ef132_ok⟩
  ·cases h; exact .inl ⟨_, _, rfl, ef133_ok⟩
  ·cases h; exact .inl ⟨_, _, rfl, ef148_ok⟩
  ·cases h
end Go.Abs.R
