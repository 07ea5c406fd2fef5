--
import Derived.Test.YtllhkifkiabkbaaGreatDoorAbsBTab
import Derived.Test.YtllhkifkiabkbaaGreatDoorAbsWpM
set_option linter.unusedSimpArgs false
set_option linter.unusedVariables false
namespace Go.Abs
theorem call1 {E:EProg} {f:FuncId} {F:EFun} (hf:E.fn f=some F) (hm:F.mode=.pure) {args:List Value} (hl:args.length≤F.n) {d lim:Nat} {h:Heap} {v:Value}
  (hw:wpC ⟨EProg.call E d,h.length,h.length,true,E.glob,E.fuel,EProg.roundOf E (EProg.call E d)⟩ F.code ⟨argFrame 0 args,h.freeze⟩ (KFun h.length F.results v [])) :
  E.call (d+1) lim f args h=some (v,h):=by simpa using call_pure hf hm hl hw
abbrev i64 (n:Int):Value:=.int .i64 n
def R64 (n:Int):Prop:=-9223372036854775808≤n∧n<9223372036854775808
theorem wrapD (n:Int):IntKind.wrap .i64 n=if n % 18446744073709551616 ≥ 9223372036854775808 then n % 18446744073709551616-18446744073709551616 else n % 18446744073709551616:=by
 simp[IntKind.wrap,IntKind.bits,IntKind.signed]
@[simp] theorem R64_wrap (n:Int):R64 (IntKind.wrap .i64 n):=by rw[wrapD]; unfold R64; split <;> omega
theorem wrapR {n:Int} (h:R64 n):IntKind.wrap .i64 n=n:=wrap_eq h.1 h.2
end Go.Abs
namespace Go.Abs.B
open Go Go.Abs
set_option maxRecDepth 100000
set_option maxHeartbeats 0
def gcdL (a b:Int):Int:=if b=0 then (if a<0 then IntKind.wrap .i64 (-a) else a) else gcdL b (qmod a b)
termination_by b.natAbs
decreasing_by
 have:=Int.natAbs_tmod a b
 unfold qmod
 rw[this]
 exact Nat.mod_lt _ (by omega)
theorem qmod_lt {a b:Int} (h:b≠0):(qmod a b).natAbs<b.natAbs:=by
 unfold qmod
 rw[Int.natAbs_tmod]; exact Nat.mod_lt _ (by omega)
theorem c184 {d lim:Nat} {h:Heap} {a b:Int} (hb:R64 b):E.call (d+1) lim 184 [.int .i64 a,.int .i64 b] h=some (.int .i64 (gcdL a b),h):=by
 refine call1 fn184 rfl (by simp[ef184]) ?_
 simp[ef184]
 refine wpC_loop (fun n st=>∃ x y:Int,gcdL x y=gcdL a b∧n=y.natAbs∧st=⟨[(0,.int .i64 x),(1,.int .i64 y)],h.freeze⟩) b.natAbs (by unfold R64 at hb; show _<2 ^ 64; omega) ?_ ?_
 ·simp[St.tidy]
  exact⟨a,b,rfl,rfl,rfl,rfl⟩
 ·rintro m hm _ ⟨x,y,hxy,rfl,rfl⟩
  by_cases hy:y=0
  ·subst hy
   simp[St.tidy]
   rw[← hxy]
   unfold gcdL
   simp
   grind
  ·simp[St.tidy,hy]
   refine⟨_,qmod_lt hy,y,qmod x y,?_,rfl,rfl,rfl⟩
   rw[← hxy]; conv=>rhs; unfold gcdL
   rw[if_neg hy]
def absV (a:Int):Int:=if a<0 then IntKind.wrap .i64 (-a) else a
theorem c96 {d lim:Nat} {h:Heap} {a:Int}:E.call (d+1) lim 96 [.int .i64 a] h=some (.int .i64 (absV a),h):=by
 refine call1 fn96 rfl (by simp[ef96]) ?_
 simp[ef96]
 grind [absV]
theorem c163 {d lim:Nat} {h:Heap} {a b:Int} (hb:R64 b):E.call (d+2) lim 163 [.int .i64 a,.int .i64 b] h=some (.int .i64 (gcdL a b),h):=by
 refine call1 fn163 rfl (by simp[ef163]) ?_
 simp[ef163]
 refine wpC_loop (fun n st=>∃ x y:Int,gcdL x y=gcdL a b∧n=y.natAbs∧st=⟨[(0,.int .i64 x),(1,.int .i64 y)],h.freeze⟩) b.natAbs (by unfold R64 at hb; show _<2 ^ 64; omega) ?_ ?_
 ·simp[St.tidy]
  exact⟨a,b,rfl,rfl,rfl,rfl⟩
 ·rintro m hm _ ⟨x,y,hxy,rfl,rfl⟩
  by_cases hy:y=0
  ·subst hy
   simp[St.tidy,c96]
   rw[← hxy]
   unfold gcdL
   simp[absV]
  ·simp[St.tidy,hy,c96]
   refine⟨_,qmod_lt hy,y,qmod x y,?_,rfl,rfl,rfl⟩
   rw[← hxy]; conv=>rhs; unfold gcdL
   rw[if_neg hy]
theorem gcdL_eq {a b:Int} (ha:R64 a) (hb:R64 b):gcdL a b=IntKind.wrap .i64 (Int.gcd a b):=by
 have key:∀ (n:Nat) (a b:Int),b.natAbs<n→R64 a→R64 b→gcdL a b=IntKind.wrap .i64 (Int.gcd a b):=by
  intro n
  induction n with
  | zero=>intro a b h; omega
  | succ n ih =>
   intro a b h ha hb
   unfold gcdL
   by_cases h0:b=0
   ·subst h0
    rw[if_pos rfl,Int.gcd_zero_right]
    unfold R64 at ha
    by_cases h1:a<0
    ·rw[if_pos h1]; congr 1; omega
    ·rw[if_neg h1,wrap_eq (by omega) (by omega)]; omega
   ·rw[if_neg h0]
    have hlt:=qmod_lt (a:=a) h0
    have e:(qmod a b).natAbs=a.natAbs % b.natAbs:=Int.natAbs_tmod a b
    unfold R64 at ha hb
    rw[ih b (qmod a b) (by omega) hb (by unfold R64; omega)]
    congr 2
    rw[Int.gcd_eq_natAbs_gcd_natAbs,Int.gcd_eq_natAbs_gcd_natAbs,e,Nat.gcd_comm,← Nat.gcd_rec,Nat.gcd_comm]
 exact key _ a b (Nat.lt_succ_self _) ha hb
theorem gcdL_ne {a b:Int} (ha:R64 a) (hb:R64 b) (h:b≠0):gcdL a b≠0:=by
 rw[gcdL_eq ha hb]
 have h1:0<Int.gcd a b:=Int.gcd_pos_of_ne_zero_right _ h
 have h2:Int.gcd a b≤b.natAbs:=Nat.le_of_dvd (by omega) (by rw[Int.gcd_eq_natAbs_gcd_natAbs]; exact Nat.gcd_dvd_right _ _)
 unfold R64 at hb
 rw[wrapD]; split <;> omega
end Go.Abs.B
namespace Go.Abs.B
open Go Go.Abs
set_option maxRecDepth 100000
set_option maxHeartbeats 0
abbrev fr (n m:Int):Value:=.agg #[.int .i64 n,.int .i64 m]
def within (a b c:Int):Bool:=decide (b≤a∧a≤c)
theorem c41 {d lim:Nat} {h:Heap} {a b c:Int}:E.call (d+1) lim 41 [.int .i64 a,.int .i64 b,.int .i64 c] h=some (.bool (within a b c),h):=by
 refine call1 fn41 rfl (by simp[ef41]) ?_
 simp[ef41,within]
 grind
theorem c151 {d lim:Nat} {h:Heap} {a b c:Int}:E.call (d+1) lim 151 [.int .i64 a,.int .i64 b,.int .i64 c] h=some (.bool (within a b c),h):=by
 refine call1 fn151 rfl (by simp[ef151]) ?_
 simp[ef151,within]
 grind
def checkFrac (n m:Int):Int:=if m<1∨gcdL n m≠1 then 3 else if within n (-1000000000) 1000000000=false∨m > 1000000000 then 2 else 0
def two (a b c e:Int):Int:=if checkFrac a b=0 then checkFrac c e else checkFrac a b
end Go.Abs.B
namespace Go.Abs
theorem wrapU (n:Int):IntKind.wrap .u64 n=n % 18446744073709551616:=by
 simp[IntKind.wrap,IntKind.bits,IntKind.signed]
def U64 (n:Int):Prop:=0≤n∧n<18446744073709551616
theorem wrapUR {n:Int} (h:U64 n):IntKind.wrap .u64 n=n:=by rw[wrapU]; unfold U64 at h; omega
theorem bin_mask (a:Int):E.bin .and (.int .u64 a) (.int .u64 4294967295)=some (.int .u64 (a % 4294967296)):=by
 have e:bits .and .u64 a 4294967295=a % 4294967296:=by
  have e0:bits .and .u64 a 4294967295=IntKind.wrap .u64 ((BitVec.ofInt 64 a &&& BitVec.ofInt 64 4294967295).toNat:Int):=rfl
  rw[e0]
  have e1:(BitVec.ofInt 64 a &&& BitVec.ofInt 64 4294967295).toNat=(BitVec.ofInt 64 a).toNat % 4294967296:=by
   rw[BitVec.toNat_and]
   exact Nat.and_two_pow_sub_one_eq_mod _ 32
  rw[e1,BitVec.toNat_ofInt,wrapU]
  omega
 show semPure (binOp .and 0 (.int .u64 a) (.int .u64 4294967295))=_
 rw[show binOp .and 0 (.int .u64 a) (.int .u64 4294967295)=Op.intBits .and .u64 a 4294967295 by simp[binOp]]
 rw[intBits_and,e]; rfl
theorem bin_shr32 (a:Int):E.bin .shr (.int .u64 a) (.int .u64 32)=some (.int .u64 (a / 4294967296)):=by
 show semPure (binOp .shr 0 (.int .u64 a) (.int .u64 32))=_
 rw[show binOp .shr 0 (.int .u64 a) (.int .u64 32)=Op.shift .shr .u64 a .u64 32 by simp[binOp]]
 rw[shift_shr _ _ _ _ (by decide) (by decide)]; rfl
theorem mul_bound {u v:Int} (hu:0≤u∧u<4294967296) (hv:0≤v∧v<4294967296):0≤u * v∧u * v≤18446744065119617025 :=
 ⟨Int.mul_nonneg hu.1 hv.1,Int.mul_le_mul (by omega:u≤4294967295) (by omega:v≤4294967295) hv.1 (by omega)⟩
theorem mul64_eq {x y:Int} (hx:U64 x) (hy:U64 y) :
  IntKind.wrap .u64 (IntKind.wrap .u64 (IntKind.wrap .u64 (x / 4294967296 * (y / 4294967296))+IntKind.wrap .u64 (IntKind.wrap .u64 (x / 4294967296 * (y % 4294967296))+IntKind.wrap .u64 (x % 4294967296 * (y % 4294967296)) / 4294967296) / 4294967296) +
   IntKind.wrap .u64 (IntKind.wrap .u64 (IntKind.wrap .u64 (x / 4294967296 * (y % 4294967296))+IntKind.wrap .u64 (x % 4294967296 * (y % 4294967296)) / 4294967296) % 4294967296+IntKind.wrap .u64 (x % 4294967296 * (y / 4294967296))) / 4294967296)=x * y / 18446744073709551616:=by
 unfold U64 at hx hy
 have b00:=mul_bound (u:=x % 4294967296) (v:=y % 4294967296) (by omega) (by omega)
 have b01:=mul_bound (u:=x % 4294967296) (v:=y / 4294967296) (by omega) (by omega)
 have b10:=mul_bound (u:=x / 4294967296) (v:=y % 4294967296) (by omega) (by omega)
 have b11:=mul_bound (u:=x / 4294967296) (v:=y / 4294967296) (by omega) (by omega)
 have e:x * y=x / 4294967296 * (y / 4294967296) * 18446744073709551616+(x / 4294967296 * (y % 4294967296)+x % 4294967296 * (y / 4294967296)) * 4294967296+x % 4294967296 * (y % 4294967296):=by
  have h1:x=x / 4294967296 * 4294967296+x % 4294967296:=by omega
  have h2:y=y / 4294967296 * 4294967296+y % 4294967296:=by omega
  conv=>lhs; rw[h1,h2]
  generalize x / 4294967296=x1
  generalize x % 4294967296=x0
  generalize y / 4294967296=y1
  generalize y % 4294967296=y0
  rw[Int.add_mul,Int.mul_add,Int.mul_add]
  have a1:x1 * 4294967296 * (y1 * 4294967296)=x1 * y1 * 18446744073709551616:=by
   rw[Int.mul_assoc,Int.mul_left_comm 4294967296,← Int.mul_assoc]; rfl
  have a2:x1 * 4294967296 * y0=x1 * y0 * 4294967296:=by rw[Int.mul_assoc,Int.mul_comm 4294967296,← Int.mul_assoc]
  have a3:x0 * (y1 * 4294967296)=x0 * y1 * 4294967296:=by rw[← Int.mul_assoc]
  rw[a1,a2,a3,Int.add_mul]
  omega
 rw[e]
 simp only[wrapU]
 generalize x / 4294967296 * (y / 4294967296)=p11 at *
 generalize x / 4294967296 * (y % 4294967296)=p10 at *
 generalize x % 4294967296 * (y / 4294967296)=p01 at *
 generalize x % 4294967296 * (y % 4294967296)=p00 at *
 clear e hx hy
 rw[Int.emod_eq_of_lt b00.1 (by omega),Int.emod_eq_of_lt b01.1 (by omega),Int.emod_eq_of_lt b10.1 (by omega),Int.emod_eq_of_lt b11.1 (by omega)]
 rw[Int.emod_eq_of_lt (a:=p10+p00 / 4294967296) (by omega) (by omega)]
 omega
namespace B
set_option maxRecDepth 100000
set_option maxHeartbeats 0
theorem c185 {d lim:Nat} {h:Heap} {x y:Int} (hx:U64 x) (hy:U64 y):E.call (d+1) lim 185 [.int .u64 x,.int .u64 y] h=some (.tuple #[.int .u64 (x * y / 18446744073709551616),.int .u64 (x * y % 18446744073709551616)],h):=by
 refine call1 fn185 rfl (by simp[ef185]) ?_
 simp[ef185,bin_mask,bin_shr32]
 exact⟨mul64_eq hx hy,wrapU _⟩
end B
end Go.Abs
namespace Go.Abs.B
open Go Go.Abs
abbrev rg (lo hi:Int):Value:=.agg #[.int .i64 lo,.int .i64 hi]
abbrev rge (lo hi e:Int):Value:=.tuple #[rg lo hi,i64 e]
set_option maxRecDepth 100000
set_option maxHeartbeats 0
def checkRange (lo hi:Int):Int:=if within lo (-1000000000000000) 1000000000000000=true∧within hi (-1000000000000000) 1000000000000000=true then (if hi<lo then 9 else 0) else 2
theorem c187 {d lim:Nat} {h:Heap} {a b:Int}:E.call (d+2) lim 187 [rg a b] h=some (.int .i64 (checkRange a b),h):=by
 refine call1 fn187 rfl (by simp[ef187]) ?_
 simp[ef187,c151]
 repeat' (first | refine And.intro ?_ ?_ | intro _)
 all_goals grind [checkRange]
def smallE (a b:Int):Int:=if checkRange a b=0 then 0 else 8
def smallL (a b:Int):Int:=if checkRange a b=0 then a else 0
def smallH (a b:Int):Int:=if checkRange a b=0 then b else 0
theorem c158 {d lim:Nat} {h:Heap} {a b:Int}:E.call (d+3) lim 158 [rg a b] h=some (rge (smallL a b) (smallH a b) (smallE a b),h):=by
 refine call1 fn158 rfl (by simp[ef158]) ?_
 by_cases h1:checkRange a b=0 <;> simp[ef158,c187,h1,smallE,smallL,smallH]
end Go.Abs.B
