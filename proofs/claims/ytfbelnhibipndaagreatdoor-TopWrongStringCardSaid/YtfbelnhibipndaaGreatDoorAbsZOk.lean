/- The functions, compiled for the abstract evaluator. Written by wip/abs/Print.lean. -/
import Derived.Test.YtfbelnhibipndaaGreatDoorProg
import Derived.Test.YtfbelnhibipndaaGreatDoorAbsZ3M
set_option linter.unusedSimpArgs false
set_option linter.unusedVariables false
set_option maxRecDepth 100000
set_option maxHeartbeats 0
namespace Go.Abs.Z
open Go Go.Abs
theorem ef7_ok : compileFun Go.Proofs.Tryz.prog glob 7 [some [1, 3, 5, 14, 15, 16]] .pure = some ef7 := by kernel_rfl
theorem ef9_ok : compileFun Go.Proofs.Tryz.prog glob 9 [] .pure = some ef9 := by kernel_rfl
theorem ef11_ok : compileFun Go.Proofs.Tryz.prog glob 11 [some [0, 9, 10, 11]] .pure = some ef11 := by kernel_rfl
theorem ef13_ok : compileFun Go.Proofs.Tryz.prog glob 13 [some [0, 3], some [0, 3, 5]] .pure = some ef13 := by kernel_rfl
theorem ef19_ok : compileFun Go.Proofs.Tryz.prog glob 19 [some [3, 11, 12, 13]] .pure = some ef19 := by kernel_rfl
theorem ef22_ok : compileFun Go.Proofs.Tryz.prog glob 22 [some [1, 3, 10, 26, 27, 28]] .pure = some ef22 := by kernel_rfl
theorem ef23_ok : compileFun Go.Proofs.Tryz.prog glob 23 [some [0, 1, 5]] .pure = some ef23 := by kernel_rfl
theorem ef35_ok : compileFun Go.Proofs.Tryz.prog glob 35 [] .pure = some ef35 := by kernel_rfl
theorem ef36_ok : compileFun Go.Proofs.Tryz.prog glob 36 [some [1, 3, 4, 5]] .pure = some ef36 := by kernel_rfl
theorem ef37_ok : compileFun Go.Proofs.Tryz.prog glob 37 [] .pure = some ef37 := by kernel_rfl
theorem ef38_ok : compileFun Go.Proofs.Tryz.prog glob 38 [some [1, 3, 5, 8, 9, 10]] .pure = some ef38 := by kernel_rfl
theorem ef39_ok : compileFun Go.Proofs.Tryz.prog glob 39 [some [0, 1, 7, 17, 18, 19]] .pure = some ef39 := by kernel_rfl
theorem ef41_ok : compileFun Go.Proofs.Tryz.prog glob 41 [some [0, 1, 5, 6]] .pure = some ef41 := by kernel_rfl
theorem ef42_ok : compileFun Go.Proofs.Tryz.prog glob 42 [] .pure = some ef42 := by kernel_rfl
theorem ef43_ok : compileFun Go.Proofs.Tryz.prog glob 43 [some [0, 7, 8, 30, 31], some [0, 7, 8, 10], some [0, 7, 8, 10, 11, 46, 47, 48]] .pure = some ef43 := by kernel_rfl
theorem ef47_ok : compileFun Go.Proofs.Tryz.prog glob 47 [some [38, 39]] .pure = some ef47 := by kernel_rfl
theorem ef48_ok : compileFun Go.Proofs.Tryz.prog glob 48 [] .pure = some ef48 := by kernel_rfl
theorem ef49_ok : compileFun Go.Proofs.Tryz.prog glob 49 [] .pure = some ef49 := by kernel_rfl
theorem ef50_ok : compileFun Go.Proofs.Tryz.prog glob 50 [] .pure = some ef50 := by kernel_rfl
theorem ef51_ok : compileFun Go.Proofs.Tryz.prog glob 51 [] .pure = some ef51 := by kernel_rfl
theorem ef54_ok : compileFun Go.Proofs.Tryz.prog glob 54 [] .pure = some ef54 := by kernel_rfl
theorem ef66_ok : compileFun Go.Proofs.Tryz.prog glob 66 [] .pure = some ef66 := by kernel_rfl
theorem ef67_ok : compileFun Go.Proofs.Tryz.prog glob 67 [some [1, 8, 29, 30, 31], some [8, 11, 41, 42, 43]] .pure = some ef67 := by kernel_rfl
theorem ef68_ok : compileFun Go.Proofs.Tryz.prog glob 68 [some [0, 3]] .pure = some ef68 := by kernel_rfl
theorem ef69_ok : compileFun Go.Proofs.Tryz.prog glob 69 [some [1, 2, 3, 4, 5], some [1, 2, 3, 4, 5, 6, 7]] .pure = some ef69 := by kernel_rfl
theorem ef70_ok : compileFun Go.Proofs.Tryz.prog glob 70 [some [0, 3, 4]] .pure = some ef70 := by kernel_rfl
theorem ef71_ok : compileFun Go.Proofs.Tryz.prog glob 71 [] .pure = some ef71 := by kernel_rfl
theorem ef72_ok : compileFun Go.Proofs.Tryz.prog glob 72 [] .pure = some ef72 := by kernel_rfl
theorem ef73_ok : compileFun Go.Proofs.Tryz.prog glob 73 [some [3, 6, 7, 8]] .pure = some ef73 := by kernel_rfl
theorem ef74_ok : compileFun Go.Proofs.Tryz.prog glob 74 [some [1, 2, 7, 14, 15, 16]] .pure = some ef74 := by kernel_rfl
theorem ef76_ok : compileFun Go.Proofs.Tryz.prog glob 76 [some [0, 2, 4, 12, 13, 14], some [0, 2, 4, 6, 7, 12, 13, 14, 25, 26, 27]] .pure = some ef76 := by kernel_rfl
theorem ef77_ok : compileFun Go.Proofs.Tryz.prog glob 77 [some [0, 1, 12, 13]] .pure = some ef77 := by kernel_rfl
theorem ef78_ok : compileFun Go.Proofs.Tryz.prog glob 78 [some [0, 1, 5, 6]] .trunc = some ef78 := by kernel_rfl
theorem ef79_ok : compileFun Go.Proofs.Tryz.prog glob 79 [] .pure = some ef79 := by kernel_rfl
theorem ef82_ok : compileFun Go.Proofs.Tryz.prog glob 82 [] .pure = some ef82 := by kernel_rfl
theorem ef83_ok : compileFun Go.Proofs.Tryz.prog glob 83 [] .pure = some ef83 := by kernel_rfl
theorem ef84_ok : compileFun Go.Proofs.Tryz.prog glob 84 [some [0, 2, 4, 7, 8], some [0, 2, 4, 5, 6, 7, 8]] .pure = some ef84 := by kernel_rfl
theorem ef85_ok : compileFun Go.Proofs.Tryz.prog glob 85 [some [0, 3, 7, 8]] .pure = some ef85 := by kernel_rfl
theorem ef86_ok : compileFun Go.Proofs.Tryz.prog glob 86 [] .pure = some ef86 := by kernel_rfl
theorem ef87_ok : compileFun Go.Proofs.Tryz.prog glob 87 [some [0, 2, 4, 5], some [0, 2, 4, 5, 6]] .pure = some ef87 := by kernel_rfl
theorem ef88_ok : compileFun Go.Proofs.Tryz.prog glob 88 [] .pure = some ef88 := by kernel_rfl
theorem ef89_ok : compileFun Go.Proofs.Tryz.prog glob 89 [] .pure = some ef89 := by kernel_rfl
theorem ef90_ok : compileFun Go.Proofs.Tryz.prog glob 90 [] .pure = some ef90 := by kernel_rfl
theorem ef91_ok : compileFun Go.Proofs.Tryz.prog glob 91 [] .pure = some ef91 := by kernel_rfl
theorem ef106_ok : compileFun Go.Proofs.Tryz.prog glob 106 [some [0, 1, 8, 9, 10]] .trunc = some ef106 := by kernel_rfl
theorem ef107_ok : compileFun Go.Proofs.Tryz.prog glob 107 [some [0, 8, 9, 10]] .pure = some ef107 := by kernel_rfl
theorem ef108_ok : compileFun Go.Proofs.Tryz.prog glob 108 [] .pure = some ef108 := by kernel_rfl
theorem ef109_ok : compileFun Go.Proofs.Tryz.prog glob 109 [] .pure = some ef109 := by kernel_rfl
theorem ef110_ok : compileFun Go.Proofs.Tryz.prog glob 110 [some [2, 4, 5, 6, 7]] .pure = some ef110 := by kernel_rfl
theorem ef111_ok : compileFun Go.Proofs.Tryz.prog glob 111 [] .pure = some ef111 := by kernel_rfl
theorem ef112_ok : compileFun Go.Proofs.Tryz.prog glob 112 [] .pure = some ef112 := by kernel_rfl
theorem ef113_ok : compileFun Go.Proofs.Tryz.prog glob 113 [] .pure = some ef113 := by kernel_rfl
theorem ef114_ok : compileFun Go.Proofs.Tryz.prog glob 114 [some [0, 3]] .pure = some ef114 := by kernel_rfl
theorem ef115_ok : compileFun Go.Proofs.Tryz.prog glob 115 [] .trunc = some ef115 := by kernel_rfl
theorem ef116_ok : compileFun Go.Proofs.Tryz.prog glob 116 [some [0, 3], some [0, 3, 4, 5]] .trunc = some ef116 := by kernel_rfl
theorem ef117_ok : compileFun Go.Proofs.Tryz.prog glob 117 [] .pure = some ef117 := by kernel_rfl
theorem ef118_ok : compileFun Go.Proofs.Tryz.prog glob 118 [some [0, 1, 6, 7, 8]] .pure = some ef118 := by kernel_rfl
theorem ef122_ok : compileFun Go.Proofs.Tryz.prog glob 122 [some [1, 5, 8, 9, 10]] .pure = some ef122 := by kernel_rfl
theorem ef123_ok : compileFun Go.Proofs.Tryz.prog glob 123 [some [0, 1, 7, 8]] .pure = some ef123 := by kernel_rfl
theorem ef127_ok : compileFun Go.Proofs.Tryz.prog glob 127 [] .pure = some ef127 := by kernel_rfl
theorem ef128_ok : compileFun Go.Proofs.Tryz.prog glob 128 [some [0, 7, 8, 9]] .pure = some ef128 := by kernel_rfl
theorem ef129_ok : compileFun Go.Proofs.Tryz.prog glob 129 [some [3, 6, 7, 8]] .pure = some ef129 := by kernel_rfl
theorem ef130_ok : compileFun Go.Proofs.Tryz.prog glob 130 [some [1, 3, 4, 8]] .pure = some ef130 := by kernel_rfl
theorem ef131_ok : compileFun Go.Proofs.Tryz.prog glob 131 [some [0, 3, 9], some [0, 3, 4, 5, 6, 9, 29, 30]] .pure = some ef131 := by kernel_rfl
theorem ef132_ok : compileFun Go.Proofs.Tryz.prog glob 132 [] .pure = some ef132 := by kernel_rfl
theorem ef148_ok : compileFun Go.Proofs.Tryz.prog glob 148 [] .pure = some ef148 := by kernel_rfl
theorem ef149_ok : compileFun Go.Proofs.Tryz.prog glob 149 [] .pure = some ef149 := by kernel_rfl
theorem ef150_ok : compileFun Go.Proofs.Tryz.prog glob 150 [some [1, 3, 5, 6, 7]] .pure = some ef150 := by kernel_rfl
theorem ef151_ok : compileFun Go.Proofs.Tryz.prog glob 151 [] .pure = some ef151 := by kernel_rfl
theorem ef152_ok : compileFun Go.Proofs.Tryz.prog glob 152 [] .pure = some ef152 := by kernel_rfl
theorem ef153_ok : compileFun Go.Proofs.Tryz.prog glob 153 [some [4, 8, 9, 10]] .pure = some ef153 := by kernel_rfl
theorem ef154_ok : compileFun Go.Proofs.Tryz.prog glob 154 [] .pure = some ef154 := by kernel_rfl
theorem ef155_ok : compileFun Go.Proofs.Tryz.prog glob 155 [] .pure = some ef155 := by kernel_rfl
theorem ef156_ok : compileFun Go.Proofs.Tryz.prog glob 156 [some [0, 1, 2, 3, 8, 9]] .trunc = some ef156 := by kernel_rfl
theorem ef157_ok : compileFun Go.Proofs.Tryz.prog glob 157 [] .pure = some ef157 := by kernel_rfl
theorem ef158_ok : compileFun Go.Proofs.Tryz.prog glob 158 [some [0, 1, 7, 8]] .pure = some ef158 := by kernel_rfl
theorem ef159_ok : compileFun Go.Proofs.Tryz.prog glob 159 [] .pure = some ef159 := by kernel_rfl
theorem ef160_ok : compileFun Go.Proofs.Tryz.prog glob 160 [] .pure = some ef160 := by kernel_rfl
theorem ef164_ok : compileFun Go.Proofs.Tryz.prog glob 164 [some [2, 3, 4, 6, 8]] .pure = some ef164 := by kernel_rfl
theorem ef165_ok : compileFun Go.Proofs.Tryz.prog glob 165 [] .pure = some ef165 := by kernel_rfl
theorem ef166_ok : compileFun Go.Proofs.Tryz.prog glob 166 [some [0, 1, 7, 8]] .pure = some ef166 := by kernel_rfl
theorem ef178_ok : compileFun Go.Proofs.Tryz.prog glob 178 [] .pure = some ef178 := by kernel_rfl
theorem ef179_ok : compileFun Go.Proofs.Tryz.prog glob 179 [some [1, 6, 7]] .pure = some ef179 := by kernel_rfl
theorem ef180_ok : compileFun Go.Proofs.Tryz.prog glob 180 [] .pure = some ef180 := by kernel_rfl
theorem ef181_ok : compileFun Go.Proofs.Tryz.prog glob 181 [] .pure = some ef181 := by kernel_rfl
theorem ef182_ok : compileFun Go.Proofs.Tryz.prog glob 182 [some [2, 3, 9, 10]] .pure = some ef182 := by kernel_rfl
theorem ef183_ok : compileFun Go.Proofs.Tryz.prog glob 183 [] .pure = some ef183 := by kernel_rfl
theorem ef184_ok : compileFun Go.Proofs.Tryz.prog glob 184 [some [0, 1, 2], some [0, 1, 2, 7]] .pure = some ef184 := by kernel_rfl
theorem ef185_ok : compileFun Go.Proofs.Tryz.prog glob 185 [] .pure = some ef185 := by kernel_rfl
theorem ef186_ok : compileFun Go.Proofs.Tryz.prog glob 186 [some [0, 1, 5]] .pure = some ef186 := by kernel_rfl
theorem ef187_ok : compileFun Go.Proofs.Tryz.prog glob 187 [] .pure = some ef187 := by kernel_rfl
theorem ef188_ok : compileFun Go.Proofs.Tryz.prog glob 188 [] .pure = some ef188 := by kernel_rfl
theorem ef189_ok : compileFun Go.Proofs.Tryz.prog glob 189 [] .pure = some ef189 := by kernel_rfl
theorem ef190_ok : compileFun Go.Proofs.Tryz.prog glob 190 [some [0, 1, 2, 6], some [0, 1, 2, 6, 7]] .trunc = some ef190 := by kernel_rfl
theorem ef191_ok : compileFun Go.Proofs.Tryz.prog glob 191 [some [0, 6, 7, 8, 9], some [0, 6, 7, 10]] .trunc = some ef191 := by kernel_rfl
theorem ef192_ok : compileFun Go.Proofs.Tryz.prog glob 192 [some [0, 1, 6, 7, 8, 9]] .trunc = some ef192 := by kernel_rfl
theorem ef193_ok : compileFun Go.Proofs.Tryz.prog glob 193 [] .trunc = some ef193 := by kernel_rfl
theorem ef194_ok : compileFun Go.Proofs.Tryz.prog glob 194 [some [0, 6, 7]] .trunc = some ef194 := by kernel_rfl
theorem ef195_ok : compileFun Go.Proofs.Tryz.prog glob 195 [some [0, 1, 2, 7, 8], some [0, 1, 2, 7, 8], some [0, 1, 2, 7, 8, 9], some [0, 1, 2, 7, 8, 10]] .trunc = some ef195 := by kernel_rfl
theorem ef196_ok : compileFun Go.Proofs.Tryz.prog glob 196 [some [0, 1, 9, 10], some [0, 1, 9, 10], some [0, 1, 9, 10]] .trunc = some ef196 := by kernel_rfl
theorem ef197_ok : compileFun Go.Proofs.Tryz.prog glob 197 [some [0, 1, 10, 11], some [0, 1, 10, 11], some [0, 1, 10, 11], some [0, 1, 10, 11], some [0, 1, 10, 11]] .trunc = some ef197 := by kernel_rfl
theorem ef198_ok : compileFun Go.Proofs.Tryz.prog glob 198 [] .pure = some ef198 := by kernel_rfl
theorem ef199_ok : compileFun Go.Proofs.Tryz.prog glob 199 [] .pure = some ef199 := by kernel_rfl
theorem ef200_ok : compileFun Go.Proofs.Tryz.prog glob 200 [] .pure = some ef200 := by kernel_rfl
theorem ef218_ok : compileFun Go.Proofs.Tryz.prog glob 218 [some [0, 1]] .pure = some ef218 := by kernel_rfl
theorem ef219_ok : compileFun Go.Proofs.Tryz.prog glob 219 [] .pure = some ef219 := by kernel_rfl
theorem ef220_ok : compileFun Go.Proofs.Tryz.prog glob 220 [some [1, 5, 6, 17, 18, 19]] .pure = some ef220 := by kernel_rfl
theorem ef221_ok : compileFun Go.Proofs.Tryz.prog glob 221 [] .pure = some ef221 := by kernel_rfl
theorem ef222_ok : compileFun Go.Proofs.Tryz.prog glob 222 [] .pure = some ef222 := by kernel_rfl
theorem ef223_ok : compileFun Go.Proofs.Tryz.prog glob 223 [some [0, 2, 3, 8]] .trunc = some ef223 := by kernel_rfl
theorem ef224_ok : compileFun Go.Proofs.Tryz.prog glob 224 [] .pure = some ef224 := by kernel_rfl
theorem ef225_ok : compileFun Go.Proofs.Tryz.prog glob 225 [] .trunc = some ef225 := by kernel_rfl
theorem ef226_ok : compileFun Go.Proofs.Tryz.prog glob 226 [] .trunc = some ef226 := by kernel_rfl
theorem ef227_ok : compileFun Go.Proofs.Tryz.prog glob 227 [] .trunc = some ef227 := by kernel_rfl
theorem ef241_ok : compileFun Go.Proofs.Tryz.prog glob 241 [] .trunc = some ef241 := by kernel_rfl
theorem E_ok : ProgOk Go.Proofs.Tryz.prog E where
  mix := by kernel_rfl
  fn := by
    intro f F h
    replace h : fns f = some F := h
    unfold fns at h
    split at h
    · cases h; exact ⟨_, ef7_ok⟩
    · cases h; exact ⟨_, ef9_ok⟩
    · cases h; exact ⟨_, ef11_ok⟩
    · cases h; exact ⟨_, ef13_ok⟩
    · cases h; exact ⟨_, ef19_ok⟩
    · cases h; exact ⟨_, ef22_ok⟩
    · cases h; exact ⟨_, ef23_ok⟩
    · cases h; exact ⟨_, ef35_ok⟩
    · cases h; exact ⟨_, ef36_ok⟩
    · cases h; exact ⟨_, ef37_ok⟩
    · cases h; exact ⟨_, ef38_ok⟩
    · cases h; exact ⟨_, ef39_ok⟩
    · cases h; exact ⟨_, ef41_ok⟩
    · cases h; exact ⟨_, ef42_ok⟩
    · cases h; exact ⟨_, ef43_ok⟩
    · cases h; exact ⟨_, ef47_ok⟩
    · cases h; exact ⟨_, ef48_ok⟩
    · cases h; exact ⟨_, ef49_ok⟩
    · cases h; exact ⟨_, ef50_ok⟩
    · cases h; exact ⟨_, ef51_ok⟩
    · cases h; exact ⟨_, ef54_ok⟩
    · cases h; exact ⟨_, ef66_ok⟩
    · cases h; exact ⟨_, ef67_ok⟩
    · cases h; exact ⟨_, ef68_ok⟩
    · cases h; exact ⟨_, ef69_ok⟩
    · cases h; exact ⟨_, ef70_ok⟩
    · cases h; exact ⟨_, ef71_ok⟩
    · cases h; exact ⟨_, ef72_ok⟩
    · cases h; exact ⟨_, ef73_ok⟩
    · cases h; exact ⟨_, ef74_ok⟩
    · cases h; exact ⟨_, ef76_ok⟩
    · cases h; exact ⟨_, ef77_ok⟩
    · cases h; exact ⟨_, ef78_ok⟩
    · cases h; exact ⟨_, ef79_ok⟩
    · cases h; exact ⟨_, ef82_ok⟩
    · cases h; exact ⟨_, ef83_ok⟩
    · cases h; exact ⟨_, ef84_ok⟩
    · cases h; exact ⟨_, ef85_ok⟩
    · cases h; exact ⟨_, ef86_ok⟩
    · cases h; exact ⟨_, ef87_ok⟩
    · cases h; exact ⟨_, ef88_ok⟩
    · cases h; exact ⟨_, ef89_ok⟩
    · cases h; exact ⟨_, ef90_ok⟩
    · cases h; exact ⟨_, ef91_ok⟩
    · cases h; exact ⟨_, ef106_ok⟩
    · cases h; exact ⟨_, ef107_ok⟩
    · cases h; exact ⟨_, ef108_ok⟩
    · cases h; exact ⟨_, ef109_ok⟩
    · cases h; exact ⟨_, ef110_ok⟩
    · cases h; exact ⟨_, ef111_ok⟩
    · cases h; exact ⟨_, ef112_ok⟩
    · cases h; exact ⟨_, ef113_ok⟩
    · cases h; exact ⟨_, ef114_ok⟩
    · cases h; exact ⟨_, ef115_ok⟩
    · cases h; exact ⟨_, ef116_ok⟩
    · cases h; exact ⟨_, ef117_ok⟩
    · cases h; exact ⟨_, ef118_ok⟩
    · cases h; exact ⟨_, ef122_ok⟩
    · cases h; exact ⟨_, ef123_ok⟩
    · cases h; exact ⟨_, ef127_ok⟩
    · cases h; exact ⟨_, ef128_ok⟩
    · cases h; exact ⟨_, ef129_ok⟩
    · cases h; exact ⟨_, ef130_ok⟩
    · cases h; exact ⟨_, ef131_ok⟩
    · cases h; exact ⟨_, ef132_ok⟩
    · cases h; exact ⟨_, ef148_ok⟩
    · cases h; exact ⟨_, ef149_ok⟩
    · cases h; exact ⟨_, ef150_ok⟩
    · cases h; exact ⟨_, ef151_ok⟩
    · cases h; exact ⟨_, ef152_ok⟩
    · cases h; exact ⟨_, ef153_ok⟩
    · cases h; exact ⟨_, ef154_ok⟩
    · cases h; exact ⟨_, ef155_ok⟩
    · cases h; exact ⟨_, ef156_ok⟩
    · cases h; exact ⟨_, ef157_ok⟩
    · cases h; exact ⟨_, ef158_ok⟩
    · cases h; exact ⟨_, ef159_ok⟩
    · cases h; exact ⟨_, ef160_ok⟩
    · cases h; exact ⟨_, ef164_ok⟩
    · cases h; exact ⟨_, ef165_ok⟩
    · cases h; exact ⟨_, ef166_ok⟩
    · cases h; exact ⟨_, ef178_ok⟩
    · cases h; exact ⟨_, ef179_ok⟩
    · cases h; exact ⟨_, ef180_ok⟩
    · cases h; exact ⟨_, ef181_ok⟩
    · cases h; exact ⟨_, ef182_ok⟩
    · cases h; exact ⟨_, ef183_ok⟩
    · cases h; exact ⟨_, ef184_ok⟩
    · cases h; exact ⟨_, ef185_ok⟩
    · cases h; exact ⟨_, ef186_ok⟩
    · cases h; exact ⟨_, ef187_ok⟩
    · cases h; exact ⟨_, ef188_ok⟩
    · cases h; exact ⟨_, ef189_ok⟩
    · cases h; exact ⟨_, ef190_ok⟩
    · cases h; exact ⟨_, ef191_ok⟩
    · cases h; exact ⟨_, ef192_ok⟩
    · cases h; exact ⟨_, ef193_ok⟩
    · cases h; exact ⟨_, ef194_ok⟩
    · cases h; exact ⟨_, ef195_ok⟩
    · cases h; exact ⟨_, ef196_ok⟩
    · cases h; exact ⟨_, ef197_ok⟩
    · cases h; exact ⟨_, ef198_ok⟩
    · cases h; exact ⟨_, ef199_ok⟩
    · cases h; exact ⟨_, ef200_ok⟩
    · cases h; exact ⟨_, ef218_ok⟩
    · cases h; exact ⟨_, ef219_ok⟩
    · cases h; exact ⟨_, ef220_ok⟩
    · cases h; exact ⟨_, ef221_ok⟩
    · cases h; exact ⟨_, ef222_ok⟩
    · cases h; exact ⟨_, ef223_ok⟩
    · cases h; exact ⟨_, ef224_ok⟩
    · cases h; exact ⟨_, ef225_ok⟩
    · cases h; exact ⟨_, ef226_ok⟩
    · cases h; exact ⟨_, ef227_ok⟩
    · cases h; exact ⟨_, ef241_ok⟩
    · cases h
end Go.Abs.Z
