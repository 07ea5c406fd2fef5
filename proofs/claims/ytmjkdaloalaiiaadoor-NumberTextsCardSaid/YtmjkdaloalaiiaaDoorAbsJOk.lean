--
import Derived.Test.YtmjkdaloalaiiaaDoorProg
import Derived.Test.YtmjkdaloalaiiaaDoorAbsJ
import Derived.Test.YtmjkdaloalaiiaaDoorAbsJSh
set_option linter.unusedSimpArgs false
set_option linter.unusedVariables false
set_option maxRecDepth 100000
set_option maxHeartbeats 0
namespace Go.Abs.J
open Go Go.Abs
theorem ef3_ok : compileFun Go.Proofs.Tryd.prog glob 3 [] .pure = some ef3 := by kernel_rfl
theorem ef4_ok : compileFun Go.Proofs.Tryd.prog glob 4 [] .pure = some ef4 := by kernel_rfl
theorem ef5_ok : compileFun Go.Proofs.Tryd.prog glob 5 [] .pure = some ef5 := by kernel_rfl
theorem ef6_ok : compileFun Go.Proofs.Tryd.prog glob 6 [] .pure = some ef6 := by kernel_rfl
theorem ef7_ok : compileFun Go.Proofs.Tryd.prog glob 7 [] .pure = some ef7 := by kernel_rfl
theorem ef8_ok : compileFun Go.Proofs.Tryd.prog glob 8 [] .pure = some ef8 := by kernel_rfl
theorem ef9_ok : compileFun Go.Proofs.Tryd.prog glob 9 [] .pure = some ef9 := by kernel_rfl
theorem ef10_ok : compileFun Go.Proofs.Tryd.prog glob 10 [some [4, 8, 9, 10]] .pure = some ef10 := by kernel_rfl
theorem ef11_ok : compileFun Go.Proofs.Tryd.prog glob 11 [] .pure = some ef11 := by kernel_rfl
theorem ef12_ok : compileFun Go.Proofs.Tryd.prog glob 12 [some [0, 1, 8, 9, 10, 23, 24], some [1, 9, 10, 34, 35], some [1, 9, 10, 11, 12]] .pure = some ef12 := by kernel_rfl
theorem ef13_ok : compileFun Go.Proofs.Tryd.prog glob 13 [some [0, 2, 5, 21, 22], some [0, 2, 5, 6, 7, 21, 22], some [0, 2, 5, 6, 7, 8, 21, 22]] .pure = some ef13 := by kernel_rfl
theorem ef14_ok : compileFun Go.Proofs.Tryd.prog glob 14 [some [0, 1, 5]] .pure = some ef14 := by kernel_rfl
theorem ef15_ok : compileFun Go.Proofs.Tryd.prog glob 15 [] .pure = some ef15 := by kernel_rfl
theorem ef16_ok : compileFun Go.Proofs.Tryd.prog glob 16 [] .pure = some ef16 := by kernel_rfl
theorem ef17_ok : compileFun Go.Proofs.Tryd.prog glob 17 [] .pure = some ef17 := by kernel_rfl
theorem ef18_ok : compileFun Go.Proofs.Tryd.prog glob 18 [some [0, 1, 5, 6, 7]] .pure = some ef18 := by kernel_rfl
theorem ef19_ok : compileFun Go.Proofs.Tryd.prog glob 19 [some [0, 6, 7, 8]] .pure = some ef19 := by kernel_rfl
theorem ef21_ok : compileFun Go.Proofs.Tryd.prog glob 21 [some [0, 3, 4]] .pure = some ef21 := by kernel_rfl
theorem ef22_ok : compileFun Go.Proofs.Tryd.prog glob 22 [] .pure = some ef22 := by kernel_rfl
theorem ef23_ok : compileFun Go.Proofs.Tryd.prog glob 23 [] .pure = some ef23 := by kernel_rfl
theorem ef24_ok : compileFun Go.Proofs.Tryd.prog glob 24 [some [1, 6, 7]] .pure = some ef24 := by kernel_rfl
theorem ef25_ok : compileFun Go.Proofs.Tryd.prog glob 25 [] .pure = some ef25 := by kernel_rfl
theorem ef26_ok : compileFun Go.Proofs.Tryd.prog glob 26 [] .pure = some ef26 := by kernel_rfl
theorem ef27_ok : compileFun Go.Proofs.Tryd.prog glob 27 [some [2, 3, 9, 10]] .pure = some ef27 := by kernel_rfl
theorem ef28_ok : compileFun Go.Proofs.Tryd.prog glob 28 [] .pure = some ef28 := by kernel_rfl
theorem ef29_ok : compileFun Go.Proofs.Tryd.prog glob 29 [some [0, 1, 2], some [0, 1, 2, 7]] .pure = some ef29 := by kernel_rfl
theorem ef30_ok : compileFun Go.Proofs.Tryd.prog glob 30 [] .pure = some ef30 := by kernel_rfl
theorem ef31_ok : compileFun Go.Proofs.Tryd.prog glob 31 [some [0, 1, 5]] .pure = some ef31 := by kernel_rfl
theorem ef32_ok : compileFun Go.Proofs.Tryd.prog glob 32 [] .pure = some ef32 := by kernel_rfl
theorem ef33_ok : compileFun Go.Proofs.Tryd.prog glob 33 [some [0, 15, 16, 17]] .pure = some ef33 := by kernel_rfl
theorem ef34_ok : compileFun Go.Proofs.Tryd.prog glob 34 [some [1, 2, 7, 11, 12, 13]] .trunc = some ef34 := by kernel_rfl
theorem ef35_ok : compileFun Go.Proofs.Tryd.prog glob 35 [some [0, 2, 3]] .trunc = some ef35 := by kernel_rfl
theorem ef36_ok : compileFun Go.Proofs.Tryd.prog glob 36 [some [0, 9, 10, 11]] .pure = some ef36 := by kernel_rfl
theorem ef37_ok : compileFun Go.Proofs.Tryd.prog glob 37 [] .pure = some ef37 := by kernel_rfl
theorem ef38_ok : compileFun Go.Proofs.Tryd.prog glob 38 [] .pure = some ef38 := by kernel_rfl
theorem ef39_ok : compileFun Go.Proofs.Tryd.prog glob 39 [] .pure = some ef39 := by kernel_rfl
theorem ef40_ok : compileFun Go.Proofs.Tryd.prog glob 40 [] .pure = some ef40 := by kernel_rfl
theorem ef41_ok : compileFun Go.Proofs.Tryd.prog glob 41 [] .pure = some ef41 := by kernel_rfl
theorem ef43_ok : compileFun Go.Proofs.Tryd.prog glob 43 [] .pure = some ef43 := by kernel_rfl
theorem ef44_ok : compileFun Go.Proofs.Tryd.prog glob 44 [some [0, 1]] .pure = some ef44 := by kernel_rfl
theorem ef45_ok : compileFun Go.Proofs.Tryd.prog glob 45 [] .pure = some ef45 := by kernel_rfl
theorem ef47_ok : compileFun Go.Proofs.Tryd.prog glob 47 [] .pure = some ef47 := by kernel_rfl
theorem ef48_ok : compileFun Go.Proofs.Tryd.prog glob 48 [some [0, 1]] .pure = some ef48 := by kernel_rfl
theorem ef49_ok : compileFun Go.Proofs.Tryd.prog glob 49 [] .pure = some ef49 := by kernel_rfl
theorem ef50_ok : compileFun Go.Proofs.Tryd.prog glob 50 [some [1, 5, 6, 17, 18, 19]] .pure = some ef50 := by kernel_rfl
theorem ef51_ok : compileFun Go.Proofs.Tryd.prog glob 51 [] .pure = some ef51 := by kernel_rfl
theorem ef55_ok : compileFun Go.Proofs.Tryd.prog glob 55 [] .pure = some ef55 := by kernel_rfl
theorem ef67_ok : compileFun Go.Proofs.Tryd.prog glob 67 [] .pure = some ef67 := by kernel_rfl
theorem E_ok : ProgOk Go.Proofs.Tryd.prog E where
 mix := by kernel_rfl
 fn := by
  intro f F h
  replace h : fns f = some F := h
  unfold fns at h
  split at h
  ·cases h; exact .inl ⟨_, _, rfl, ef3_ok⟩
  ·cases h; exact .inl ⟨_, _, rfl, ef4_ok⟩
  ·cases h; exact .inl ⟨_, _, rfl, ef5_ok⟩
  ·cases h; exact .inl ⟨_, _, rfl, ef6_ok⟩
  ·cases h; exact .inl ⟨_, _, rfl, ef7_ok⟩
  ·cases h; exact .inl ⟨_, _, rfl, ef8_ok⟩
  ·cases h; exact .inl ⟨_, _, rfl, ef9_ok⟩
  ·cases h; exact .inl ⟨_, _, rfl, ef10_ok⟩
  ·cases h; exact .inl ⟨_, _, rfl, ef11_ok⟩
  ·cases h; exact .inl ⟨_, _, rfl, ef12_ok⟩
  ·cases h; exact .inl ⟨_, _, rfl, ef13_ok⟩
  ·cases h; exact .inl ⟨_, _, rfl, ef14_ok⟩
  ·cases h; exact .inl ⟨_, _, rfl, ef15_ok⟩
  ·cases h; exact .inl ⟨_, _, rfl, ef16_ok⟩
  ·cases h; exact .inl ⟨_, _, rfl, ef17_ok⟩
  ·cases h; exact .inl ⟨_, _, rfl, ef18_ok⟩
  ·cases h; exact .inl ⟨_, _, rfl, ef19_ok⟩
  ·cases h; exact .inr ⟨_, rfl, (okItoa rfl)⟩ -- ef20_ok
  ·cases h; exact .inl ⟨_, _, rfl, ef21_ok⟩
  ·cases h; exact .inl ⟨_, _, rfl, ef22_ok⟩
  ·cases h; exact .inl ⟨_, _, rfl, ef23_ok⟩
  ·cases h; exact .inl ⟨_, _, rfl, ef24_ok⟩
  ·cases h; exact .inl ⟨_, _, rfl, ef25_ok⟩
  ·cases h; exact .inl ⟨_, _, rfl, ef26_ok⟩
  ·cases h; exact .inl ⟨_, _, rfl, ef27_ok⟩
  ·cases h; exact .inl ⟨_, _, rfl, ef28_ok⟩
  ·cases h; exact .inl ⟨_, _, rfl, ef29_ok⟩
  ·cases h; exact .inl ⟨_, _, rfl, ef30_ok⟩
  ·cases h; exact .inl ⟨_, _, rfl, ef31_ok⟩
  ·cases h; exact .inl ⟨_, _, rfl, ef32_ok⟩
  ·cases h; exact .inl ⟨_, _, rfl, ef33_ok⟩
  ·cases h; exact .inl ⟨_, _, rfl, ef34_ok⟩
  ·cases h; exact .inl ⟨_, _, rfl, ef35_ok⟩
  ·cases h; exact .inl ⟨_, _, rfl, ef36_ok⟩
  ·cases h; exact .inl ⟨_, _, rfl, ef37_ok⟩
  ·cases h; exact .inl ⟨_, _, rfl, ef38_ok⟩
  ·cases h; exact .inl ⟨_, _, rfl, ef39_ok⟩
  ·cases h; exact .inl ⟨_, _, rfl, ef40_ok⟩
  ·cases h; exact .inl ⟨_, _, rfl, ef41_ok⟩
  ·cases h; exact .inr ⟨_, rfl, (okAtoi rfl rfl)⟩ -- ef42_ok
  ·cases h; exact .inl ⟨_, _, rfl, ef43_ok⟩
  ·cases h; exact .inl ⟨_, _, rfl, ef44_ok⟩
  ·cases h; exact .inl ⟨_, _, rfl, ef45_ok⟩
  ·cases h; exact .inl ⟨_, _, rfl, ef47_ok⟩
  ·cases h; exact .inl ⟨_, _, rfl, ef48_ok⟩
  ·cases h; exact .inl ⟨_, _, rfl, ef49_ok⟩
  ·cases h; exact .inl ⟨_, _, rfl, ef50_ok⟩
  ·cases h; exact .inl ⟨_, _, rfl, ef51_ok⟩
  ·cases h; exact .inr ⟨_, rfl, okIndex1⟩ -- ef52_ok
  ·cases h; exact .inl ⟨_, _, rfl, ef55_ok⟩
  ·cases h; exact .inl ⟨_, _, rfl, ef67_ok⟩
  ·cases h
end Go.Abs.J
