/- The functions, compiled for the abstract evaluator. Written by wip/abs/Print.lean. -/
import Derived.Test.YtllhkifkiabkbaaGreatDoorProg
import Derived.Test.YtllhkifkiabkbaaGreatDoorAbsH
import Derived.Test.YtllhkifkiabkbaaGreatDoorAbsHSh
set_option linter.unusedSimpArgs false
set_option linter.unusedVariables false
set_option maxRecDepth 100000
set_option maxHeartbeats 0
namespace Go.Abs.H
open Go Go.Abs
theorem ef4_ok : compileFun Go.Proofs.Tryz.prog glob 4 [] .pure = some ef4 := by kernel_rfl
theorem ef14_ok : compileFun Go.Proofs.Tryz.prog glob 14 [] .pure = some ef14 := by kernel_rfl
theorem ef15_ok : compileFun Go.Proofs.Tryz.prog glob 15 [] .pure = some ef15 := by kernel_rfl
theorem ef16_ok : compileFun Go.Proofs.Tryz.prog glob 16 [some [0, 3, 4]] .pure = some ef16 := by kernel_rfl
theorem ef17_ok : compileFun Go.Proofs.Tryz.prog glob 17 [] .pure = some ef17 := by kernel_rfl
theorem ef18_ok : compileFun Go.Proofs.Tryz.prog glob 18 [] .pure = some ef18 := by kernel_rfl
theorem ef19_ok : compileFun Go.Proofs.Tryz.prog glob 19 [] .pure = some ef19 := by kernel_rfl
theorem ef20_ok : compileFun Go.Proofs.Tryz.prog glob 20 [] .pure = some ef20 := by kernel_rfl
theorem ef21_ok : compileFun Go.Proofs.Tryz.prog glob 21 [some [0, 3]] .pure = some ef21 := by kernel_rfl
theorem ef22_ok : compileFun Go.Proofs.Tryz.prog glob 22 [some [0, 1, 2, 3, 4, 5]] .pure = some ef22 := by kernel_rfl
theorem ef23_ok : compileFun Go.Proofs.Tryz.prog glob 23 [some [5, 6, 7, 8]] .pure = some ef23 := by kernel_rfl
theorem ef24_ok : compileFun Go.Proofs.Tryz.prog glob 24 [some [0, 1, 5]] .pure = some ef24 := by kernel_rfl
theorem ef26_ok : compileFun Go.Proofs.Tryz.prog glob 26 [] .pure = some ef26 := by kernel_rfl
theorem ef27_ok : compileFun Go.Proofs.Tryz.prog glob 27 [some [0, 3]] .pure = some ef27 := by kernel_rfl
theorem ef28_ok : compileFun Go.Proofs.Tryz.prog glob 28 [some [0, 3, 4], some [0, 3, 4, 6, 7]] .pure = some ef28 := by kernel_rfl
theorem ef34_ok : compileFun Go.Proofs.Tryz.prog glob 34 [some [0, 1, 5]] .pure = some ef34 := by kernel_rfl
theorem ef41_ok : compileFun Go.Proofs.Tryz.prog glob 41 [] .pure = some ef41 := by kernel_rfl
theorem ef44_ok : compileFun Go.Proofs.Tryz.prog glob 44 [] .pure = some ef44 := by kernel_rfl
theorem ef45_ok : compileFun Go.Proofs.Tryz.prog glob 45 [] .pure = some ef45 := by kernel_rfl
theorem ef47_ok : compileFun Go.Proofs.Tryz.prog glob 47 [] .pure = some ef47 := by kernel_rfl
theorem ef49_ok : compileFun Go.Proofs.Tryz.prog glob 49 [some [0, 1, 5, 6, 7]] .pure = some ef49 := by kernel_rfl
theorem ef51_ok : compileFun Go.Proofs.Tryz.prog glob 51 [some [2, 3, 7, 24, 25], some [0, 1, 2, 3, 9]] .pure = some ef51 := by kernel_rfl
theorem ef52_ok : compileFun Go.Proofs.Tryz.prog glob 52 [] .pure = some ef52 := by kernel_rfl
theorem ef53_ok : compileFun Go.Proofs.Tryz.prog glob 53 [some [0, 1, 2, 8]] .pure = some ef53 := by kernel_rfl
theorem ef54_ok : compileFun Go.Proofs.Tryz.prog glob 54 [] .pure = some ef54 := by kernel_rfl
theorem ef55_ok : compileFun Go.Proofs.Tryz.prog glob 55 [some [1, 2, 9, 16, 17, 18]] .pure = some ef55 := by kernel_rfl
theorem ef56_ok : compileFun Go.Proofs.Tryz.prog glob 56 [] .pure = some ef56 := by kernel_rfl
theorem ef57_ok : compileFun Go.Proofs.Tryz.prog glob 57 [some [1, 2, 8, 9, 10]] .pure = some ef57 := by kernel_rfl
theorem ef58_ok : compileFun Go.Proofs.Tryz.prog glob 58 [] .pure = some ef58 := by kernel_rfl
theorem ef59_ok : compileFun Go.Proofs.Tryz.prog glob 59 [some [3, 6, 7, 8]] .pure = some ef59 := by kernel_rfl
theorem ef60_ok : compileFun Go.Proofs.Tryz.prog glob 60 [some [0, 3, 4]] .pure = some ef60 := by kernel_rfl
theorem ef61_ok : compileFun Go.Proofs.Tryz.prog glob 61 [some [3, 11, 12, 13]] .pure = some ef61 := by kernel_rfl
theorem ef62_ok : compileFun Go.Proofs.Tryz.prog glob 62 [some [0, 3], some [0, 3, 5]] .pure = some ef62 := by kernel_rfl
theorem ef80_ok : compileFun Go.Proofs.Tryz.prog glob 80 [some [0, 1]] .full = some ef80 := by kernel_rfl
theorem ef81_ok : compileFun Go.Proofs.Tryz.prog glob 81 [] .pure = some ef81 := by kernel_rfl
theorem ef82_ok : compileFun Go.Proofs.Tryz.prog glob 82 [] .pure = some ef82 := by kernel_rfl
theorem ef84_ok : compileFun Go.Proofs.Tryz.prog glob 84 [some [0, 1, 2, 3, 9, 10]] .pure = some ef84 := by kernel_rfl
theorem ef86_ok : compileFun Go.Proofs.Tryz.prog glob 86 [] .pure = some ef86 := by kernel_rfl
theorem ef87_ok : compileFun Go.Proofs.Tryz.prog glob 87 [some [3, 6, 7, 8]] .pure = some ef87 := by kernel_rfl
theorem ef88_ok : compileFun Go.Proofs.Tryz.prog glob 88 [] .pure = some ef88 := by kernel_rfl
theorem ef89_ok : compileFun Go.Proofs.Tryz.prog glob 89 [some [1, 2, 7, 14, 15, 16]] .pure = some ef89 := by kernel_rfl
theorem ef90_ok : compileFun Go.Proofs.Tryz.prog glob 90 [] .pure = some ef90 := by kernel_rfl
theorem ef91_ok : compileFun Go.Proofs.Tryz.prog glob 91 [] .pure = some ef91 := by kernel_rfl
theorem ef92_ok : compileFun Go.Proofs.Tryz.prog glob 92 [some [0, 0, 5, 6]] .pure = some ef92 := by kernel_rfl
theorem ef93_ok : compileFun Go.Proofs.Tryz.prog glob 93 [] .pure = some ef93 := by kernel_rfl
theorem ef94_ok : compileFun Go.Proofs.Tryz.prog glob 94 [] .pure = some ef94 := by kernel_rfl
theorem ef95_ok : compileFun Go.Proofs.Tryz.prog glob 95 [some [0, 6, 7, 8]] .pure = some ef95 := by kernel_rfl
theorem ef96_ok : compileFun Go.Proofs.Tryz.prog glob 96 [] .pure = some ef96 := by kernel_rfl
theorem ef97_ok : compileFun Go.Proofs.Tryz.prog glob 97 [some [38, 39]] .pure = some ef97 := by kernel_rfl
theorem ef98_ok : compileFun Go.Proofs.Tryz.prog glob 98 [] .pure = some ef98 := by kernel_rfl
theorem ef115_ok : compileFun Go.Proofs.Tryz.prog glob 115 [] .pure = some ef115 := by kernel_rfl
theorem ef124_ok : compileFun Go.Proofs.Tryz.prog glob 124 [] .pure = some ef124 := by kernel_rfl
theorem ef126_ok : compileFun Go.Proofs.Tryz.prog glob 126 [] .pure = some ef126 := by kernel_rfl
theorem ef127_ok : compileFun Go.Proofs.Tryz.prog glob 127 [some [0, 1, 6, 7]] .pure = some ef127 := by kernel_rfl
theorem ef129_ok : compileFun Go.Proofs.Tryz.prog glob 129 [] .pure = some ef129 := by kernel_rfl
theorem ef130_ok : compileFun Go.Proofs.Tryz.prog glob 130 [some [0, 9, 10, 11]] .pure = some ef130 := by kernel_rfl
theorem ef131_ok : compileFun Go.Proofs.Tryz.prog glob 131 [] .pure = some ef131 := by kernel_rfl
theorem ef132_ok : compileFun Go.Proofs.Tryz.prog glob 132 [] .pure = some ef132 := by kernel_rfl
theorem ef133_ok : compileFun Go.Proofs.Tryz.prog glob 133 [some [0, 3]] .pure = some ef133 := by kernel_rfl
theorem ef134_ok : compileFun Go.Proofs.Tryz.prog glob 134 [] .trunc = some ef134 := by kernel_rfl
theorem ef135_ok : compileFun Go.Proofs.Tryz.prog glob 135 [some [0, 3], some [0, 3, 4, 5]] .trunc = some ef135 := by kernel_rfl
theorem ef136_ok : compileFun Go.Proofs.Tryz.prog glob 136 [] .full = some ef136 := by kernel_rfl
theorem ef137_ok : compileFun Go.Proofs.Tryz.prog glob 137 [some [1, 4, 5, 8]] .full = some ef137 := by kernel_rfl
theorem ef138_ok : compileFun Go.Proofs.Tryz.prog glob 138 [] .pure = some ef138 := by kernel_rfl
theorem ef139_ok : compileFun Go.Proofs.Tryz.prog glob 139 [] .pure = some ef139 := by kernel_rfl
theorem ef140_ok : compileFun Go.Proofs.Tryz.prog glob 140 [some [0, 1, 6, 7, 8]] .pure = some ef140 := by kernel_rfl
theorem ef141_ok : compileFun Go.Proofs.Tryz.prog glob 141 [] .pure = some ef141 := by kernel_rfl
theorem ef142_ok : compileFun Go.Proofs.Tryz.prog glob 142 [some [0, 14, 15, 16]] .pure = some ef142 := by kernel_rfl
theorem ef143_ok : compileFun Go.Proofs.Tryz.prog glob 143 [] .pure = some ef143 := by kernel_rfl
theorem ef144_ok : compileFun Go.Proofs.Tryz.prog glob 144 [] .pure = some ef144 := by kernel_rfl
theorem ef145_ok : compileFun Go.Proofs.Tryz.prog glob 145 [] .pure = some ef145 := by kernel_rfl
theorem ef146_ok : compileFun Go.Proofs.Tryz.prog glob 146 [some [0, 2, 4, 7, 8], some [0, 2, 4, 5, 6, 7, 8]] .pure = some ef146 := by kernel_rfl
theorem ef147_ok : compileFun Go.Proofs.Tryz.prog glob 147 [] .pure = some ef147 := by kernel_rfl
theorem ef148_ok : compileFun Go.Proofs.Tryz.prog glob 148 [some [0, 2, 4, 5], some [0, 2, 4, 5, 6]] .pure = some ef148 := by kernel_rfl
theorem ef167_ok : compileFun Go.Proofs.Tryz.prog glob 167 [] .pure = some ef167 := by kernel_rfl
theorem ef169_ok : compileFun Go.Proofs.Tryz.prog glob 169 [] .pure = some ef169 := by kernel_rfl
theorem ef172_ok : compileFun Go.Proofs.Tryz.prog glob 172 [] .pure = some ef172 := by kernel_rfl
theorem ef173_ok : compileFun Go.Proofs.Tryz.prog glob 173 [some [0, 1, 7, 8]] .pure = some ef173 := by kernel_rfl
theorem ef174_ok : compileFun Go.Proofs.Tryz.prog glob 174 [some [0, 1, 2, 3, 8, 9]] .trunc = some ef174 := by kernel_rfl
theorem ef175_ok : compileFun Go.Proofs.Tryz.prog glob 175 [] .pure = some ef175 := by kernel_rfl
theorem ef176_ok : compileFun Go.Proofs.Tryz.prog glob 176 [some [0, 1, 7, 8]] .pure = some ef176 := by kernel_rfl
theorem ef177_ok : compileFun Go.Proofs.Tryz.prog glob 177 [] .pure = some ef177 := by kernel_rfl
theorem ef178_ok : compileFun Go.Proofs.Tryz.prog glob 178 [] .pure = some ef178 := by kernel_rfl
theorem ef179_ok : compileFun Go.Proofs.Tryz.prog glob 179 [some [0, 1, 2, 4, 5]] .trunc = some ef179 := by kernel_rfl
theorem ef180_ok : compileFun Go.Proofs.Tryz.prog glob 180 [] .pure = some ef180 := by kernel_rfl
theorem ef181_ok : compileFun Go.Proofs.Tryz.prog glob 181 [] .pure = some ef181 := by kernel_rfl
theorem ef199_ok : compileFun Go.Proofs.Tryz.prog glob 199 [] .pure = some ef199 := by kernel_rfl
theorem ef204_ok : compileFun Go.Proofs.Tryz.prog glob 204 [some [0, 3, 7, 8]] .pure = some ef204 := by kernel_rfl
theorem ef205_ok : compileFun Go.Proofs.Tryz.prog glob 205 [some [0, 1, 2, 6], some [0, 1, 2, 6, 7]] .trunc = some ef205 := by kernel_rfl
theorem ef206_ok : compileFun Go.Proofs.Tryz.prog glob 206 [some [0, 6, 7, 8, 9], some [0, 6, 7, 10]] .trunc = some ef206 := by kernel_rfl
theorem ef207_ok : compileFun Go.Proofs.Tryz.prog glob 207 [some [0, 1, 6, 7, 8, 9]] .trunc = some ef207 := by kernel_rfl
theorem ef208_ok : compileFun Go.Proofs.Tryz.prog glob 208 [] .trunc = some ef208 := by kernel_rfl
theorem ef209_ok : compileFun Go.Proofs.Tryz.prog glob 209 [some [0, 6, 7]] .trunc = some ef209 := by kernel_rfl
theorem ef210_ok : compileFun Go.Proofs.Tryz.prog glob 210 [some [0, 1, 2, 7, 8], some [0, 1, 2, 7, 8], some [0, 1, 2, 7, 8, 9], some [0, 1, 2, 7, 8, 10]] .trunc = some ef210 := by kernel_rfl
theorem ef211_ok : compileFun Go.Proofs.Tryz.prog glob 211 [some [0, 1, 9, 10], some [0, 1, 9, 10], some [0, 1, 9, 10]] .trunc = some ef211 := by kernel_rfl
theorem ef212_ok : compileFun Go.Proofs.Tryz.prog glob 212 [some [0, 1, 10, 11], some [0, 1, 10, 11], some [0, 1, 10, 11], some [0, 1, 10, 11], some [0, 1, 10, 11]] .trunc = some ef212 := by kernel_rfl
theorem ef213_ok : compileFun Go.Proofs.Tryz.prog glob 213 [] .pure = some ef213 := by kernel_rfl
theorem ef214_ok : compileFun Go.Proofs.Tryz.prog glob 214 [] .pure = some ef214 := by kernel_rfl
theorem ef215_ok : compileFun Go.Proofs.Tryz.prog glob 215 [] .pure = some ef215 := by kernel_rfl
theorem ef216_ok : compileFun Go.Proofs.Tryz.prog glob 216 [some [0, 1, 2, 8, 9, 10]] .pure = some ef216 := by kernel_rfl
theorem ef217_ok : compileFun Go.Proofs.Tryz.prog glob 217 [] .pure = some ef217 := by kernel_rfl
theorem ef227_ok : compileFun Go.Proofs.Tryz.prog glob 227 [some [0, 2, 3, 8]] .trunc = some ef227 := by kernel_rfl
theorem ef228_ok : compileFun Go.Proofs.Tryz.prog glob 228 [] .pure = some ef228 := by kernel_rfl
theorem ef229_ok : compileFun Go.Proofs.Tryz.prog glob 229 [] .trunc = some ef229 := by kernel_rfl
theorem ef230_ok : compileFun Go.Proofs.Tryz.prog glob 230 [] .trunc = some ef230 := by kernel_rfl
theorem ef231_ok : compileFun Go.Proofs.Tryz.prog glob 231 [] .trunc = some ef231 := by kernel_rfl
theorem ef232_ok : compileFun Go.Proofs.Tryz.prog glob 232 [] .pure = some ef232 := by kernel_rfl
theorem ef237_ok : compileFun Go.Proofs.Tryz.prog glob 237 [] .trunc = some ef237 := by kernel_rfl
theorem E_fns (K : LoopKind) (f : FuncId) (F : EFun) (h : E.fn f = some F) : (∃ hints m, modeN m = false ∧ compileFun Go.Proofs.Tryz.prog E.glob f hints m = some F) ∨
    ∃ N, F.mode = .nat N ∧ ∀ lim vs h v h', lim ≤ h.length → N vs h = some (v, h') → CallOk Go.Proofs.Tryz.prog K E.glob f lim vs h v h' := by
    replace h : fns f = some F := h
    unfold fns at h
    split at h
    · cases h; exact .inl ⟨_, _, rfl, ef4_ok⟩
    · cases h; exact .inl ⟨_, _, rfl, ef14_ok⟩
    · cases h; exact .inl ⟨_, _, rfl, ef15_ok⟩
    · cases h; exact .inl ⟨_, _, rfl, ef16_ok⟩
    · cases h; exact .inl ⟨_, _, rfl, ef17_ok⟩
    · cases h; exact .inl ⟨_, _, rfl, ef18_ok⟩
    · cases h; exact .inl ⟨_, _, rfl, ef19_ok⟩
    · cases h; exact .inl ⟨_, _, rfl, ef20_ok⟩
    · cases h; exact .inl ⟨_, _, rfl, ef21_ok⟩
    · cases h; exact .inl ⟨_, _, rfl, ef22_ok⟩
    · cases h; exact .inl ⟨_, _, rfl, ef23_ok⟩
    · cases h; exact .inl ⟨_, _, rfl, ef24_ok⟩
    · cases h; exact .inl ⟨_, _, rfl, ef26_ok⟩
    · cases h; exact .inl ⟨_, _, rfl, ef27_ok⟩
    · cases h; exact .inl ⟨_, _, rfl, ef28_ok⟩
    · cases h; exact .inl ⟨_, _, rfl, ef34_ok⟩
    · cases h; exact .inl ⟨_, _, rfl, ef41_ok⟩
    · cases h; exact .inl ⟨_, _, rfl, ef44_ok⟩
    · cases h; exact .inl ⟨_, _, rfl, ef45_ok⟩
    · cases h; exact .inl ⟨_, _, rfl, ef47_ok⟩
    · cases h; exact .inl ⟨_, _, rfl, ef49_ok⟩
    · cases h; exact .inl ⟨_, _, rfl, ef51_ok⟩
    · cases h; exact .inl ⟨_, _, rfl, ef52_ok⟩
    · cases h; exact .inl ⟨_, _, rfl, ef53_ok⟩
    · cases h; exact .inl ⟨_, _, rfl, ef54_ok⟩
    · cases h; exact .inl ⟨_, _, rfl, ef55_ok⟩
    · cases h; exact .inl ⟨_, _, rfl, ef56_ok⟩
    · cases h; exact .inl ⟨_, _, rfl, ef57_ok⟩
    · cases h; exact .inl ⟨_, _, rfl, ef58_ok⟩
    · cases h; exact .inl ⟨_, _, rfl, ef59_ok⟩
    · cases h; exact .inl ⟨_, _, rfl, ef60_ok⟩
    · cases h; exact .inl ⟨_, _, rfl, ef61_ok⟩
    · cases h; exact .inl ⟨_, _, rfl, ef62_ok⟩
    · cases h; exact .inr ⟨_, rfl, (okItoa rfl)⟩ -- ef71_ok
    · cases h; exact .inr ⟨_, rfl, okJoin⟩ -- ef72_ok
    · cases h; exact .inl ⟨_, _, rfl, ef80_ok⟩
    · cases h; exact .inl ⟨_, _, rfl, ef81_ok⟩
    · cases h; exact .inl ⟨_, _, rfl, ef82_ok⟩
    · cases h; exact .inl ⟨_, _, rfl, ef84_ok⟩
    · cases h; exact .inl ⟨_, _, rfl, ef86_ok⟩
    · cases h; exact .inl ⟨_, _, rfl, ef87_ok⟩
    · cases h; exact .inl ⟨_, _, rfl, ef88_ok⟩
    · cases h; exact .inl ⟨_, _, rfl, ef89_ok⟩
    · cases h; exact .inl ⟨_, _, rfl, ef90_ok⟩
    · cases h; exact .inl ⟨_, _, rfl, ef91_ok⟩
    · cases h; exact .inl ⟨_, _, rfl, ef92_ok⟩
    · cases h; exact .inl ⟨_, _, rfl, ef93_ok⟩
    · cases h; exact .inl ⟨_, _, rfl, ef94_ok⟩
    · cases h; exact .inl ⟨_, _, rfl, ef95_ok⟩
    · cases h; exact .inl ⟨_, _, rfl, ef96_ok⟩
    · cases h; exact .inl ⟨_, _, rfl, ef97_ok⟩
    · cases h; exact .inl ⟨_, _, rfl, ef98_ok⟩
    · cases h; exact .inl ⟨_, _, rfl, ef115_ok⟩
    · cases h; exact .inr ⟨_, rfl, okIndexByte⟩ -- ef123_ok
    · cases h; exact .inl ⟨_, _, rfl, ef124_ok⟩
    · cases h; exact .inr ⟨_, rfl, (okAtoi rfl rfl)⟩ -- ef125_ok
    · cases h; exact .inl ⟨_, _, rfl, ef126_ok⟩
    · cases h; exact .inl ⟨_, _, rfl, ef127_ok⟩
    · cases h; exact .inr ⟨_, rfl, okCount1⟩ -- ef128_ok
    · cases h; exact .inl ⟨_, _, rfl, ef129_ok⟩
    · cases h; exact .inl ⟨_, _, rfl, ef130_ok⟩
    · cases h; exact .inl ⟨_, _, rfl, ef131_ok⟩
    · cases h; exact .inl ⟨_, _, rfl, ef132_ok⟩
    · cases h; exact .inl ⟨_, _, rfl, ef133_ok⟩
    · cases h; exact .inl ⟨_, _, rfl, ef134_ok⟩
    · cases h; exact .inl ⟨_, _, rfl, ef135_ok⟩
    · cases h; exact .inl ⟨_, _, rfl, ef136_ok⟩
    · cases h; exact .inl ⟨_, _, rfl, ef137_ok⟩
    · cases h; exact .inl ⟨_, _, rfl, ef138_ok⟩
    · cases h; exact .inl ⟨_, _, rfl, ef139_ok⟩
    · cases h; exact .inl ⟨_, _, rfl, ef140_ok⟩
    · cases h; exact .inl ⟨_, _, rfl, ef141_ok⟩
    · cases h; exact .inl ⟨_, _, rfl, ef142_ok⟩
    · cases h; exact .inl ⟨_, _, rfl, ef143_ok⟩
    · cases h; exact .inl ⟨_, _, rfl, ef144_ok⟩
    · cases h; exact .inl ⟨_, _, rfl, ef145_ok⟩
    · cases h; exact .inl ⟨_, _, rfl, ef146_ok⟩
    · cases h; exact .inl ⟨_, _, rfl, ef147_ok⟩
    · cases h; exact .inl ⟨_, _, rfl, ef148_ok⟩
    · cases h; exact .inl ⟨_, _, rfl, ef167_ok⟩
    · cases h; exact .inl ⟨_, _, rfl, ef169_ok⟩
    · cases h; exact .inr ⟨_, rfl, okIndex1⟩ -- ef171_ok
    · cases h; exact .inl ⟨_, _, rfl, ef172_ok⟩
    · cases h; exact .inl ⟨_, _, rfl, ef173_ok⟩
    · cases h; exact .inl ⟨_, _, rfl, ef174_ok⟩
    · cases h; exact .inl ⟨_, _, rfl, ef175_ok⟩
    · cases h; exact .inl ⟨_, _, rfl, ef176_ok⟩
    · cases h; exact .inl ⟨_, _, rfl, ef177_ok⟩
    · cases h; exact .inl ⟨_, _, rfl, ef178_ok⟩
    · cases h; exact .inl ⟨_, _, rfl, ef179_ok⟩
    · cases h; exact .inl ⟨_, _, rfl, ef180_ok⟩
    · cases h; exact .inl ⟨_, _, rfl, ef181_ok⟩
    · cases h; exact .inl ⟨_, _, rfl, ef199_ok⟩
    · cases h; exact .inl ⟨_, _, rfl, ef204_ok⟩
    · cases h; exact .inl ⟨_, _, rfl, ef205_ok⟩
    · cases h; exact .inl ⟨_, _, rfl, ef206_ok⟩
    · cases h; exact .inl ⟨_, _, rfl, ef207_ok⟩
    · cases h; exact .inl ⟨_, _, rfl, ef208_ok⟩
    · cases h; exact .inl ⟨_, _, rfl, ef209_ok⟩
    · cases h; exact .inl ⟨_, _, rfl, ef210_ok⟩
    · cases h; exact .inl ⟨_, _, rfl, ef211_ok⟩
    · cases h; exact .inl ⟨_, _, rfl, ef212_ok⟩
    · cases h; exact .inl ⟨_, _, rfl, ef213_ok⟩
    · cases h; exact .inl ⟨_, _, rfl, ef214_ok⟩
    · cases h; exact .inl ⟨_, _, rfl, ef215_ok⟩
    · cases h; exact .inl ⟨_, _, rfl, ef216_ok⟩
    · cases h; exact .inl ⟨_, _, rfl, ef217_ok⟩
    · cases h; exact .inl ⟨_, _, rfl, ef227_ok⟩
    · cases h; exact .inl ⟨_, _, rfl, ef228_ok⟩
    · cases h; exact .inl ⟨_, _, rfl, ef229_ok⟩
    · cases h; exact .inl ⟨_, _, rfl, ef230_ok⟩
    · cases h; exact .inl ⟨_, _, rfl, ef231_ok⟩
    · cases h; exact .inl ⟨_, _, rfl, ef232_ok⟩
    · cases h; exact .inl ⟨_, _, rfl, ef237_ok⟩
    · cases h
theorem E_ok : ProgOk Go.Proofs.Tryz.prog E := ⟨by kernel_rfl, E_fns _⟩
end Go.Abs.H
