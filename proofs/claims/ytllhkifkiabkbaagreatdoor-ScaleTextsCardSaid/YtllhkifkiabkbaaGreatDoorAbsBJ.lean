--
import Derived.Test.YtllhkifkiabkbaaGreatDoorAbsBGM
import Derived.Test.YtllhkifkiabkbaaGreatDoorAbsBArgs
import Derived.Test.YtllhkifkiabkbaaGreatDoorAbsWpM
set_option linter.unusedSimpArgs false
set_option linter.unusedVariables false
namespace Go.Abs.B
open Go Go.Abs
abbrev primesB:Option Blk:=some ⟨[.int .u64 2,.int .u64 3,.int .u64 5],false⟩
set_option maxRecDepth 100000
set_option maxHeartbeats 0
abbrev pt (a b c d:Int):Value:=.agg #[.int .i64 a,.int .i64 b,.int .i64 c,.int .i64 d]
theorem E_fuel:E.fuel=18446744073709551616:=rfl
def isPitch (a b c d:Int):Bool:=within a (-400) 400 && within b (-400) 400 && within c (-400) 400 && within d 1 12
def checkPitch (a b c d:Int):Int:=if isPitch a b c d=true then 0 else 2
theorem c152 {d lim:Nat} {h:Heap} {a b c e:Int}:E.call (d+1) lim 152 [pt a b c e] h=some (.agg #[i64 a,i64 b,i64 c],h):=by
 refine call1 fn152 rfl (by simp[ef152]) ?_
 simp[ef152]
theorem c108 {d lim:Nat} {h:Heap} {a b c e:Int}:E.call (d+2) lim 108 [pt a b c e] h=some (i64 (checkPitch a b c e),h):=by
 refine call1 fn108 rfl (by simp[ef108]) ?_
 simp[ef108,wpC_unroll,wpI_step,E_fuel,c152,c151,St.tidy]
 grind [checkPitch,isPitch]
def redG (a b c e:Int):Int:=gcdL (gcdL a b) (gcdL c e)
theorem R64_gcdL {a b:Int} (ha:R64 a) (hb:R64 b):R64 (gcdL a b):=by rw[gcdL_eq ha hb]; simp
theorem redG_ne {a b c e:Int} (ha:R64 a) (hb:R64 b) (hc:R64 c) (he:R64 e) (h:e≠0):redG a b c e≠0:=gcdL_ne (R64_gcdL ha hb) (R64_gcdL hc he) (gcdL_ne hc he h)
def red (a b c e x:Int):Int:=IntKind.wrap .i64 (qdiv x (redG a b c e))
@[simp] theorem R64_red (a b c e x:Int):R64 (red a b c e x):=by simp[red]
abbrev redV (a b c e:Int):Value:=pt (red a b c e a) (red a b c e b) (red a b c e c) (red a b c e e)
theorem c153 {d lim:Nat} {h:Heap} {a b c e:Int} (ha:R64 a) (hb:R64 b) (hc:R64 c) (he:R64 e) (h0:e≠0):E.call (d+2) lim 153 [pt a b c e] h=some (redV a b c e,h):=by
 have g:=redG_ne ha hb hc he h0
 refine call1 fn153 rfl (by simp[ef153]) ?_
 simp only[redG] at g
 simp[ef153,c184,hb,he,R64_gcdL hc he,g,red,redG]
theorem c121 {d lim:Nat} {h:Heap} {a b c e:Int} (ha:R64 a) (hb:R64 b) (hc:R64 c) (he:R64 e) (h0:e≠0):E.call (d+3) lim 121 [pt a b c e] h=some (redV a b c e,h):=by
 have g:=redG_ne ha hb hc he h0
 refine call1 fn121 rfl (by simp[ef121]) ?_
 simp only[redG] at g
 simp[ef121,c163,hb,he,R64_gcdL hc he,g,red,redG]
def pit2 (a b c e f g i j:Int):Int:=if checkPitch a b c e=0 then checkPitch f g i j else checkPitch a b c e
theorem c159 {d lim:Nat} {h:Heap} {a b c e f g i j:Int}:E.call (d+3) lim 159 [pt a b c e,pt f g i j] h=some (i64 (pit2 a b c e f g i j),h):=by
 refine call1 fn159 rfl (by simp[ef159]) ?_
 simp[ef159,c108]
 grind [pit2]
def jn (x y k e j:Int):Int:=IntKind.wrap .i64 (IntKind.wrap .i64 (x * j)+IntKind.wrap .i64 (IntKind.wrap .i64 (k * y) * e))
abbrev joinV (k a b c e f g i j:Int):Value:=pt (jn a f k e j) (jn b g k e j) (jn c i k e j) (IntKind.wrap .i64 (e * j))
theorem c188 {d lim:Nat} {h:Heap} {k a b c e f g i j:Int}:E.call (d+1) lim 188 [pt a b c e,pt f g i j,i64 k] h=some (joinV k a b c e f g i j,h):=by
 refine call1 fn188 rfl (by simp[ef188]) ?_
 simp[ef188,jn]
theorem c122 {d lim:Nat} {h:Heap} {k a b c e f g i j:Int}:E.call (d+1) lim 122 [pt a b c e,pt f g i j,i64 k] h=some (joinV k a b c e f g i j,h):=by
 refine call1 fn122 rfl (by simp[ef122]) ?_
 simp[ef122,jn]
theorem isPitch_R {a b c e:Int} (h:isPitch a b c e=true):(-400≤a∧a≤400)∧(-400≤b∧b≤400)∧(-400≤c∧c≤400)∧1≤e∧e≤12:=by
 simp[isPitch,within] at h; omega
theorem check0 {a b c e:Int}:checkPitch a b c e=0↔isPitch a b c e=true:=by
 unfold checkPitch; split <;> simp_all
theorem R64s {n:Int} (h:-400≤n∧n≤400):R64 n:=⟨by omega,by omega⟩
@[simp] theorem R64_jn (x y k e j:Int):R64 (jn x y k e j):=by simp[jn]
end Go.Abs.B
