--
import Derived.Test.YtllhkifkiabkbaaGreatDoorProg
import Derived.Test.YtllhkifkiabkbaaGreatDoorAbsBTab
import Derived.Test.YtllhkifkiabkbaaGreatDoorAbsBSh
set_option linter.unusedSimpArgs false
set_option linter.unusedVariables false
set_option maxRecDepth 100000
set_option maxHeartbeats 0
namespace Go.Abs.B
open Go Go.Abs
theorem ef3_ok:compileFun Go.Proofs.Tryz.prog glob 3 [] .pure=some ef3:=by kernel_rfl
theorem ef5_ok:compileFun Go.Proofs.Tryz.prog glob 5 [] .pure=some ef5:=by kernel_rfl
theorem ef6_ok:compileFun Go.Proofs.Tryz.prog glob 6 [some [1,3]] .pure=some ef6:=by kernel_rfl
theorem ef8_ok:compileFun Go.Proofs.Tryz.prog glob 8 [] .pure=some ef8:=by kernel_rfl
theorem ef9_ok:compileFun Go.Proofs.Tryz.prog glob 9 [some [1,5]] .pure=some ef9:=by kernel_rfl
theorem ef10_ok:compileFun Go.Proofs.Tryz.prog glob 10 [some [0,1,2,3,4,5,6]] .pure=some ef10:=by kernel_rfl
theorem ef11_ok:compileFun Go.Proofs.Tryz.prog glob 11 [some [1,3,4],some [1,3,6]] .pure=some ef11:=by kernel_rfl
theorem ef12_ok:compileFun Go.Proofs.Tryz.prog glob 12 [some [2,3,5],some [2,3,6]] .pure=some ef12:=by kernel_rfl
theorem ef13_ok:compileFun Go.Proofs.Tryz.prog glob 13 [some [2,5,6,7,8]] .full=some ef13:=by kernel_rfl
theorem ef29_ok:compileFun Go.Proofs.Tryz.prog glob 29 [] .pure=some ef29:=by kernel_rfl
theorem ef30_ok:compileFun Go.Proofs.Tryz.prog glob 30 [] .pure=some ef30:=by kernel_rfl
theorem ef31_ok:compileFun Go.Proofs.Tryz.prog glob 31 [] .pure=some ef31:=by kernel_rfl
theorem ef32_ok:compileFun Go.Proofs.Tryz.prog glob 32 [] .pure=some ef32:=by kernel_rfl
theorem ef33_ok:compileFun Go.Proofs.Tryz.prog glob 33 [some [3,12,38,39,40],some [3,12,51,52],some [3,12,15,51,52]] .pure=some ef33:=by kernel_rfl
theorem ef34_ok:compileFun Go.Proofs.Tryz.prog glob 34 [some [0,1,5]] .pure=some ef34:=by kernel_rfl
theorem ef35_ok:compileFun Go.Proofs.Tryz.prog glob 35 [some [0,3]] .pure=some ef35:=by kernel_rfl
theorem ef36_ok:compileFun Go.Proofs.Tryz.prog glob 36 [] .pure=some ef36:=by kernel_rfl
theorem ef37_ok:compileFun Go.Proofs.Tryz.prog glob 37 [some [1,23,24]] .pure=some ef37:=by kernel_rfl
theorem ef39_ok:compileFun Go.Proofs.Tryz.prog glob 39 [some [3,8,9,10]] .pure=some ef39:=by kernel_rfl
theorem ef41_ok:compileFun Go.Proofs.Tryz.prog glob 41 [] .pure=some ef41:=by kernel_rfl
theorem ef42_ok:compileFun Go.Proofs.Tryz.prog glob 42 [some [0,3]] .pure=some ef42:=by kernel_rfl
theorem ef43_ok:compileFun Go.Proofs.Tryz.prog glob 43 [] .pure=some ef43:=by kernel_rfl
theorem ef44_ok:compileFun Go.Proofs.Tryz.prog glob 44 [] .pure=some ef44:=by kernel_rfl
theorem ef45_ok:compileFun Go.Proofs.Tryz.prog glob 45 [] .pure=some ef45:=by kernel_rfl
theorem ef46_ok:compileFun Go.Proofs.Tryz.prog glob 46 [] .full=some ef46:=by kernel_rfl
theorem ef47_ok:compileFun Go.Proofs.Tryz.prog glob 47 [] .pure=some ef47:=by kernel_rfl
theorem ef48_ok:compileFun Go.Proofs.Tryz.prog glob 48 [some [0,1,5]] .pure=some ef48:=by kernel_rfl
theorem ef49_ok:compileFun Go.Proofs.Tryz.prog glob 49 [some [0,1,5,6,7]] .pure=some ef49:=by kernel_rfl
theorem ef50_ok:compileFun Go.Proofs.Tryz.prog glob 50 [] .full=some ef50:=by kernel_rfl
theorem ef60_ok:compileFun Go.Proofs.Tryz.prog glob 60 [some [0,3,4]] .pure=some ef60:=by kernel_rfl
theorem ef63_ok:compileFun Go.Proofs.Tryz.prog glob 63 [] .pure=some ef63:=by kernel_rfl
theorem ef64_ok:compileFun Go.Proofs.Tryz.prog glob 64 [] .pure=some ef64:=by kernel_rfl
theorem ef65_ok:compileFun Go.Proofs.Tryz.prog glob 65 [some [0,3,16,17,18],some [3,8,9,55,56,57],some [3,8,9,12]] .pure=some ef65:=by kernel_rfl
theorem ef66_ok:compileFun Go.Proofs.Tryz.prog glob 66 [some [0,1,8,9,10,23,24],some [1,9,10,34,35],some [1,9,10,11,12]] .pure=some ef66:=by kernel_rfl
theorem ef67_ok:compileFun Go.Proofs.Tryz.prog glob 67 [] .pure=some ef67:=by kernel_rfl
theorem ef68_ok:compileFun Go.Proofs.Tryz.prog glob 68 [some [3,10,11,12]] .pure=some ef68:=by kernel_rfl
theorem ef69_ok:compileFun Go.Proofs.Tryz.prog glob 69 [] .pure=some ef69:=by kernel_rfl
theorem ef73_ok:compileFun Go.Proofs.Tryz.prog glob 73 [some [0,3]] .pure=some ef73:=by kernel_rfl
theorem ef74_ok:compileFun Go.Proofs.Tryz.prog glob 74 [some [0,1,5]] .pure=some ef74:=by kernel_rfl
theorem ef75_ok:compileFun Go.Proofs.Tryz.prog glob 75 [some [1,11,12]] .pure=some ef75:=by kernel_rfl
theorem ef76_ok:compileFun Go.Proofs.Tryz.prog glob 76 [] .pure=some ef76:=by kernel_rfl
theorem ef77_ok:compileFun Go.Proofs.Tryz.prog glob 77 [some [2,4,6,7,8,9]] .pure=some ef77:=by kernel_rfl
theorem ef78_ok:compileFun Go.Proofs.Tryz.prog glob 78 [] .pure=some ef78:=by kernel_rfl
theorem ef79_ok:compileFun Go.Proofs.Tryz.prog glob 79 [] .pure=some ef79:=by kernel_rfl
theorem ef80_ok:compileFun Go.Proofs.Tryz.prog glob 80 [some [0,1]] .full=some ef80:=by kernel_rfl
theorem ef81_ok:compileFun Go.Proofs.Tryz.prog glob 81 [] .pure=some ef81:=by kernel_rfl
theorem ef82_ok:compileFun Go.Proofs.Tryz.prog glob 82 [] .pure=some ef82:=by kernel_rfl
theorem ef83_ok:compileFun Go.Proofs.Tryz.prog glob 83 [some [4,9,10,11]] .pure=some ef83:=by kernel_rfl
theorem ef84_ok:compileFun Go.Proofs.Tryz.prog glob 84 [some [0,1,2,3,9,10]] .pure=some ef84:=by kernel_rfl
theorem ef85_ok:compileFun Go.Proofs.Tryz.prog glob 85 [some [0,4,5]] .pure=some ef85:=by kernel_rfl
theorem ef95_ok:compileFun Go.Proofs.Tryz.prog glob 95 [some [0,6,7,8]] .pure=some ef95:=by kernel_rfl
theorem ef96_ok:compileFun Go.Proofs.Tryz.prog glob 96 [] .pure=some ef96:=by kernel_rfl
theorem ef99_ok:compileFun Go.Proofs.Tryz.prog glob 99 [] .pure=some ef99:=by kernel_rfl
theorem ef100_ok:compileFun Go.Proofs.Tryz.prog glob 100 [] .pure=some ef100:=by kernel_rfl
theorem ef101_ok:compileFun Go.Proofs.Tryz.prog glob 101 [] .pure=some ef101:=by kernel_rfl
theorem ef102_ok:compileFun Go.Proofs.Tryz.prog glob 102 [] .pure=some ef102:=by kernel_rfl
theorem ef103_ok:compileFun Go.Proofs.Tryz.prog glob 103 [] .pure=some ef103:=by kernel_rfl
theorem ef104_ok:compileFun Go.Proofs.Tryz.prog glob 104 [some [0,15,16,17]] .pure=some ef104:=by kernel_rfl
theorem ef105_ok:compileFun Go.Proofs.Tryz.prog glob 105 [some [1,2,7,11,12,13]] .trunc=some ef105:=by kernel_rfl
theorem ef106_ok:compileFun Go.Proofs.Tryz.prog glob 106 [some [0,2,3]] .trunc=some ef106:=by kernel_rfl
theorem ef107_ok:compileFun Go.Proofs.Tryz.prog glob 107 [some [0,7,8,9]] .pure=some ef107:=by kernel_rfl
theorem ef108_ok:compileFun Go.Proofs.Tryz.prog glob 108 [some [1,6,7]] .pure=some ef108:=by kernel_rfl
theorem ef109_ok:compileFun Go.Proofs.Tryz.prog glob 109 [some [4,8,9,10]] .pure=some ef109:=by kernel_rfl
theorem ef110_ok:compileFun Go.Proofs.Tryz.prog glob 110 [] .pure=some ef110:=by kernel_rfl
theorem ef114_ok:compileFun Go.Proofs.Tryz.prog glob 114 [] .pure=some ef114:=by kernel_rfl
theorem ef115_ok:compileFun Go.Proofs.Tryz.prog glob 115 [] .pure=some ef115:=by kernel_rfl
theorem ef116_ok:compileFun Go.Proofs.Tryz.prog glob 116 [some [8,9,18,19]] .pure=some ef116:=by kernel_rfl
theorem ef117_ok:compileFun Go.Proofs.Tryz.prog glob 117 [some [0,1,5,6],some [0,1,5,6,7,8],some [5]] .pure=some ef117:=by kernel_rfl
theorem ef118_ok:compileFun Go.Proofs.Tryz.prog glob 118 [some [0,1,5]] .pure=some ef118:=by kernel_rfl
theorem ef119_ok:compileFun Go.Proofs.Tryz.prog glob 119 [some [0,3]] .pure=some ef119:=by kernel_rfl
theorem ef120_ok:compileFun Go.Proofs.Tryz.prog glob 120 [some [0,1,5]] .pure=some ef120:=by kernel_rfl
theorem ef121_ok:compileFun Go.Proofs.Tryz.prog glob 121 [] .pure=some ef121:=by kernel_rfl
theorem ef122_ok:compileFun Go.Proofs.Tryz.prog glob 122 [] .pure=some ef122:=by kernel_rfl
theorem ef124_ok:compileFun Go.Proofs.Tryz.prog glob 124 [] .pure=some ef124:=by kernel_rfl
theorem ef126_ok:compileFun Go.Proofs.Tryz.prog glob 126 [] .pure=some ef126:=by kernel_rfl
theorem ef127_ok:compileFun Go.Proofs.Tryz.prog glob 127 [some [0,1,6,7]] .pure=some ef127:=by kernel_rfl
theorem ef129_ok:compileFun Go.Proofs.Tryz.prog glob 129 [] .pure=some ef129:=by kernel_rfl
theorem ef149_ok:compileFun Go.Proofs.Tryz.prog glob 149 [] .pure=some ef149:=by kernel_rfl
theorem ef150_ok:compileFun Go.Proofs.Tryz.prog glob 150 [] .pure=some ef150:=by kernel_rfl
theorem ef151_ok:compileFun Go.Proofs.Tryz.prog glob 151 [] .pure=some ef151:=by kernel_rfl
theorem ef152_ok:compileFun Go.Proofs.Tryz.prog glob 152 [] .pure=some ef152:=by kernel_rfl
theorem ef153_ok:compileFun Go.Proofs.Tryz.prog glob 153 [] .pure=some ef153:=by kernel_rfl
theorem ef154_ok:compileFun Go.Proofs.Tryz.prog glob 154 [some [2,3,9,10]] .pure=some ef154:=by kernel_rfl
theorem ef155_ok:compileFun Go.Proofs.Tryz.prog glob 155 [some [0,1,2],some [0,1,2,7]] .pure=some ef155:=by kernel_rfl
theorem ef156_ok:compileFun Go.Proofs.Tryz.prog glob 156 [] .pure=some ef156:=by kernel_rfl
theorem ef157_ok:compileFun Go.Proofs.Tryz.prog glob 157 [some [0,1,5]] .pure=some ef157:=by kernel_rfl
theorem ef158_ok:compileFun Go.Proofs.Tryz.prog glob 158 [] .pure=some ef158:=by kernel_rfl
theorem ef159_ok:compileFun Go.Proofs.Tryz.prog glob 159 [] .pure=some ef159:=by kernel_rfl
theorem ef160_ok:compileFun Go.Proofs.Tryz.prog glob 160 [] .pure=some ef160:=by kernel_rfl
theorem ef163_ok:compileFun Go.Proofs.Tryz.prog glob 163 [some [0,1]] .pure=some ef163:=by kernel_rfl
theorem ef167_ok:compileFun Go.Proofs.Tryz.prog glob 167 [] .pure=some ef167:=by kernel_rfl
theorem ef169_ok:compileFun Go.Proofs.Tryz.prog glob 169 [] .pure=some ef169:=by kernel_rfl
theorem ef182_ok:compileFun Go.Proofs.Tryz.prog glob 182 [some [0,1,7,8]] .pure=some ef182:=by kernel_rfl
theorem ef183_ok:compileFun Go.Proofs.Tryz.prog glob 183 [] .pure=some ef183:=by kernel_rfl
theorem ef184_ok:compileFun Go.Proofs.Tryz.prog glob 184 [some [0,1]] .pure=some ef184:=by kernel_rfl
theorem ef185_ok:compileFun Go.Proofs.Tryz.prog glob 185 [] .pure=some ef185:=by kernel_rfl
theorem ef186_ok:compileFun Go.Proofs.Tryz.prog glob 186 [some [1,5,6,17,18,19]] .pure=some ef186:=by kernel_rfl
theorem ef187_ok:compileFun Go.Proofs.Tryz.prog glob 187 [] .pure=some ef187:=by kernel_rfl
theorem ef188_ok:compileFun Go.Proofs.Tryz.prog glob 188 [] .pure=some ef188:=by kernel_rfl
theorem ef199_ok:compileFun Go.Proofs.Tryz.prog glob 199 [] .pure=some ef199:=by kernel_rfl
theorem E_fns (K:LoopKind) (f:FuncId) (F:EFun) (h:E.fn f=some F):(∃ hints m,modeN m=false∧compileFun Go.Proofs.Tryz.prog E.glob f hints m=some F) ∨
  ∃ N,F.mode=.nat N∧∀ lim vs h v h',lim≤h.length→N vs h=some (v,h')→CallOk Go.Proofs.Tryz.prog K E.glob f lim vs h v h':=by
  replace h:fns f=some F:=h
  unfold fns at h
  split at h
  ·cases h; exact .inl ⟨_,_,rfl,ef3_ok⟩
  ·cases h; exact .inl ⟨_,_,rfl,ef5_ok⟩
  ·cases h; exact .inl ⟨_,_,rfl,ef6_ok⟩
  ·cases h; exact .inl ⟨_,_,rfl,ef8_ok⟩
  ·cases h; exact .inl ⟨_,_,rfl,ef9_ok⟩
  ·cases h; exact .inl ⟨_,_,rfl,ef10_ok⟩
  ·cases h; exact .inl ⟨_,_,rfl,ef11_ok⟩
  ·cases h; exact .inl ⟨_,_,rfl,ef12_ok⟩
  ·cases h; exact .inl ⟨_,_,rfl,ef13_ok⟩
  ·cases h; exact .inl ⟨_,_,rfl,ef29_ok⟩
  ·cases h; exact .inl ⟨_,_,rfl,ef30_ok⟩
  ·cases h; exact .inl ⟨_,_,rfl,ef31_ok⟩
  ·cases h; exact .inl ⟨_,_,rfl,ef32_ok⟩
  ·cases h; exact .inl ⟨_,_,rfl,ef33_ok⟩
  ·cases h; exact .inl ⟨_,_,rfl,ef34_ok⟩
  ·cases h; exact .inl ⟨_,_,rfl,ef35_ok⟩
  ·cases h; exact .inl ⟨_,_,rfl,ef36_ok⟩
  ·cases h; exact .inl ⟨_,_,rfl,ef37_ok⟩
  ·cases h; exact .inl ⟨_,_,rfl,ef39_ok⟩
  ·cases h; exact .inl ⟨_,_,rfl,ef41_ok⟩
  ·cases h; exact .inl ⟨_,_,rfl,ef42_ok⟩
  ·cases h; exact .inl ⟨_,_,rfl,ef43_ok⟩
  ·cases h; exact .inl ⟨_,_,rfl,ef44_ok⟩
  ·cases h; exact .inl ⟨_,_,rfl,ef45_ok⟩
  ·cases h; exact .inl ⟨_,_,rfl,ef46_ok⟩
  ·cases h; exact .inl ⟨_,_,rfl,ef47_ok⟩
  ·cases h; exact .inl ⟨_,_,rfl,ef48_ok⟩
  ·cases h; exact .inl ⟨_,_,rfl,ef49_ok⟩
  ·cases h; exact .inl ⟨_,_,rfl,ef50_ok⟩
  ·cases h; exact .inl ⟨_,_,rfl,ef60_ok⟩
  ·cases h; exact .inl ⟨_,_,rfl,ef63_ok⟩
  ·cases h; exact .inl ⟨_,_,rfl,ef64_ok⟩
  ·cases h; exact .inl ⟨_,_,rfl,ef65_ok⟩
  ·cases h; exact .inl ⟨_,_,rfl,ef66_ok⟩
  ·cases h; exact .inl ⟨_,_,rfl,ef67_ok⟩
  ·cases h; exact .inl ⟨_,_,rfl,ef68_ok⟩
  ·cases h; exact .inl ⟨_,_,rfl,ef69_ok⟩
  ·cases h; exact .inr ⟨_,rfl,(okItoa rfl)⟩ -- ef71_ok
  ·cases h; exact .inr ⟨_,rfl,okJoin⟩ -- ef72_ok
  ·cases h; exact .inl ⟨_,_,rfl,ef73_ok⟩
  ·cases h; exact .inl ⟨_,_,rfl,ef74_ok⟩
  ·cases h; exact .inl ⟨_,_,rfl,ef75_ok⟩
  ·cases h; exact .inl ⟨_,_,rfl,ef76_ok⟩
  ·cases h; exact .inl ⟨_,_,rfl,ef77_ok⟩
  ·cases h; exact .inl ⟨_,_,rfl,ef78_ok⟩
  ·cases h; exact .inl ⟨_,_,rfl,ef79_ok⟩
  ·cases h; exact .inl ⟨_,_,rfl,ef80_ok⟩
  ·cases h; exact .inl ⟨_,_,rfl,ef81_ok⟩
  ·cases h; exact .inl ⟨_,_,rfl,ef82_ok⟩
  ·cases h; exact .inl ⟨_,_,rfl,ef83_ok⟩
  ·cases h; exact .inl ⟨_,_,rfl,ef84_ok⟩
  ·cases h; exact .inl ⟨_,_,rfl,ef85_ok⟩
  ·cases h; exact .inl ⟨_,_,rfl,ef95_ok⟩
  ·cases h; exact .inl ⟨_,_,rfl,ef96_ok⟩
  ·cases h; exact .inl ⟨_,_,rfl,ef99_ok⟩
  ·cases h; exact .inl ⟨_,_,rfl,ef100_ok⟩
  ·cases h; exact .inl ⟨_,_,rfl,ef101_ok⟩
  ·cases h; exact .inl ⟨_,_,rfl,ef102_ok⟩
  ·cases h; exact .inl ⟨_,_,rfl,ef103_ok⟩
  ·cases h; exact .inl ⟨_,_,rfl,ef104_ok⟩
  ·cases h; exact .inl ⟨_,_,rfl,ef105_ok⟩
  ·cases h; exact .inl ⟨_,_,rfl,ef106_ok⟩
  ·cases h; exact .inl ⟨_,_,rfl,ef107_ok⟩
  ·cases h; exact .inl ⟨_,_,rfl,ef108_ok⟩
  ·cases h; exact .inl ⟨_,_,rfl,ef109_ok⟩
  ·cases h; exact .inl ⟨_,_,rfl,ef110_ok⟩
  ·cases h; exact .inl ⟨_,_,rfl,ef114_ok⟩
  ·cases h; exact .inl ⟨_,_,rfl,ef115_ok⟩
  ·cases h; exact .inl ⟨_,_,rfl,ef116_ok⟩
  ·cases h; exact .inl ⟨_,_,rfl,ef117_ok⟩
  ·cases h; exact .inl ⟨_,_,rfl,ef118_ok⟩
  ·cases h; exact .inl ⟨_,_,rfl,ef119_ok⟩
  ·cases h; exact .inl ⟨_,_,rfl,ef120_ok⟩
  ·cases h; exact .inl ⟨_,_,rfl,ef121_ok⟩
  ·cases h; exact .inl ⟨_,_,rfl,ef122_ok⟩
  ·cases h; exact .inr ⟨_,rfl,okIndexByte⟩ -- ef123_ok
  ·cases h; exact .inl ⟨_,_,rfl,ef124_ok⟩
  ·cases h; exact .inr ⟨_,rfl,(okAtoi rfl rfl)⟩ -- ef125_ok
  ·cases h; exact .inl ⟨_,_,rfl,ef126_ok⟩
  ·cases h; exact .inl ⟨_,_,rfl,ef127_ok⟩
  ·cases h; exact .inr ⟨_,rfl,okCount1⟩ -- ef128_ok
  ·cases h; exact .inl ⟨_,_,rfl,ef129_ok⟩
  ·cases h; exact .inl ⟨_,_,rfl,ef149_ok⟩
  ·cases h; exact .inl ⟨_,_,rfl,ef150_ok⟩
  ·cases h; exact .inl ⟨_,_,rfl,ef151_ok⟩
  ·cases h; exact .inl ⟨_,_,rfl,ef152_ok⟩
  ·cases h; exact .inl ⟨_,_,rfl,ef153_ok⟩
  ·cases h; exact .inl ⟨_,_,rfl,ef154_ok⟩
  ·cases h; exact .inl ⟨_,_,rfl,ef155_ok⟩
  ·cases h; exact .inl ⟨_,_,rfl,ef156_ok⟩
  ·cases h; exact .inl ⟨_,_,rfl,ef157_ok⟩
  ·cases h; exact .inl ⟨_,_,rfl,ef158_ok⟩
  ·cases h; exact .inl ⟨_,_,rfl,ef159_ok⟩
  ·cases h; exact .inl ⟨_,_,rfl,ef160_ok⟩
  ·cases h; exact .inl ⟨_,_,rfl,ef163_ok⟩
  ·cases h; exact .inl ⟨_,_,rfl,ef167_ok⟩
  ·cases h; exact .inl ⟨_,_,rfl,ef169_ok⟩
  ·cases h; exact .inr ⟨_,rfl,okIndex1⟩ -- ef171_ok
  ·cases h; exact .inl ⟨_,_,rfl,ef182_ok⟩
  ·cases h; exact .inl ⟨_,_,rfl,ef183_ok⟩
  ·cases h; exact .inl ⟨_,_,rfl,ef184_ok⟩
  ·cases h; exact .inl ⟨_,_,rfl,ef185_ok⟩
  ·cases h; exact .inl ⟨_,_,rfl,ef186_ok⟩
  ·cases h; exact .inl ⟨_,_,rfl,ef187_ok⟩
  ·cases h; exact .inl ⟨_,_,rfl,ef188_ok⟩
  ·cases h; exact .inl ⟨_,_,rfl,ef199_ok⟩
  ·cases h
theorem E_ok:ProgOk Go.Proofs.Tryz.prog E:=⟨by kernel_rfl,E_fns _⟩
end Go.Abs.B
