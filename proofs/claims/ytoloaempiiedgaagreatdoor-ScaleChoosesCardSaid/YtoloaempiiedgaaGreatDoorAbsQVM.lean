--
import Derived.Test.YtoloaempiiedgaaGreatDoorAbsQUN
set_option linter.unusedSimpArgs false
set_option linter.unusedVariables false
namespace Go.Abs
namespace Q
set_option maxRecDepth 100000
set_option maxHeartbeats 0
structure Lm where
 lo:Int
 hi:Int
 sh:Int
 jp:Int
abbrev lmV (L:Lm):Value:=.agg #[i64 L.lo,i64 L.hi,i64 L.sh,i64 L.jp]
def lmE (L:Lm):Int:=if within L.lo 0 1000000000000000=false then 2 else if within L.hi 0 1000000000000000=false then 2 else if within L.jp 0 1000000000000000=false then 2 else if within L.sh 0 1000000=false then 2 else if L.hi<L.lo then 9 else 0
theorem c128 {d lim:Nat} {h:Heap} {L:Lm}:E.call (d+2) lim 128 [lmV L] h=some (i64 (lmE L),h):=by
 have k:=fun lim hh a b c=>c71 (d:=d) (lim:=lim) (h:=hh) (a:=a) (b:=b) (c:=c)
 refine call1 fn128 rfl (by simp[ef128]) ?_
 unfold lmE
 rcases q1:within L.lo 0 1000000000000000 with _ | _
 ·simp[ef128,k,q1]
 rcases q2:within L.hi 0 1000000000000000 with _ | _
 ·simp[ef128,k,q1,q2]
 rcases q3:within L.jp 0 1000000000000000 with _ | _
 ·simp[ef128,k,q1,q2,q3]
 rcases q4:within L.sh 0 1000000 with _ | _
 ·simp[ef128,k,q1,q2,q3,q4]
 by_cases q5:L.hi<L.lo
 ·simp[ef128,k,q1,q2,q3,q4,q5]
 ·simp[ef128,k,q1,q2,q3,q4,q5]
theorem c63 {d lim:Nat} {h:Heap} {L:Lm}:E.call (d+2) lim 63 [lmV L] h=some (i64 (lmE L),h):=by
 have k:=fun lim hh a b c=>c74 (d:=d) (lim:=lim) (h:=hh) (a:=a) (b:=b) (c:=c)
 refine call1 fn63 rfl (by simp[ef63]) ?_
 unfold lmE
 rcases q1:within L.lo 0 1000000000000000 with _ | _
 ·simp[ef63,k,q1]
 rcases q2:within L.hi 0 1000000000000000 with _ | _
 ·simp[ef63,k,q1,q2]
 rcases q3:within L.jp 0 1000000000000000 with _ | _
 ·simp[ef63,k,q1,q2,q3]
 rcases q4:within L.sh 0 1000000 with _ | _
 ·simp[ef63,k,q1,q2,q3,q4]
 by_cases q5:L.hi<L.lo
 ·simp[ef63,k,q1,q2,q3,q4,q5]
 ·simp[ef63,k,q1,q2,q3,q4,q5]
def jmp (p q:XR):Int:=max (IntKind.wrap .i64 (p.2-q.1)) (IntKind.wrap .i64 (q.2-p.1))
theorem c145 {d lim:Nat} {h:Heap} {p q:XR}:E.call (d+1) lim 145 [rgV p.1 p.2,rgV q.1 q.2] h=some (i64 (jmp p q),h):=by
 refine call1 fn145 rfl (by simp[ef145]) ?_
 simp[ef145,jmp]
theorem c146 {d lim:Nat} {h:Heap} {p q:XR}:E.call (d+1) lim 146 [rgV p.1 p.2,rgV q.1 q.2] h=some (i64 (jmp p q),h):=by
 refine call1 fn146 rfl (by simp[ef146]) ?_
 simp[ef146,jmp]
noncomputable def kpB (wl:List Wi) (t:Int) (u:Un) (L:Lm):Bool:=if (ten wl t u).1<L.lo then false else if L.hi<(ten wl t u).2 then false else decide (shH wl u.sd (ten wl t u).2≤L.sh)
theorem c133 {d lim:Nat} {h:Heap} {wl:List Wi} {t:Int} {u:Un} {L:Lm} (O:SdOk wl u.sd) (F:FOk (fL u t) (fH u t)):E.call (d+4) lim 133 [soV wl u.sd (fL u t) (fH u t),lmV L] h=some (.bool (kpB wl t u L),h):=by
 have k90:=fun lim hh=>c195 (d:=d) (lim:=lim) (h:=hh) O F
 refine call1 fn133 rfl (by simp[ef133]) ?_
 unfold kpB ten
 simp only[soV] at k90 ⊢
 generalize hA:tenL wl u.sd (fL u t)=A at *
 generalize hB:tenH wl u.sd (fH u t)=B at *
 by_cases q1:A<L.lo
 ·simp[ef133,q1,Int.not_le.2 q1,hA]
 by_cases q2:L.hi<B
 ·simp[ef133,q1,Int.not_lt.1 q1,q2,Int.not_le.2 q2,hA,hB]
 by_cases q3:shH wl u.sd B≤L.sh
 ·simp[ef133,q1,Int.not_lt.1 q1,q2,Int.not_lt.1 q2,q3,k90,hA,hB]
 ·simp[ef133,q1,Int.not_lt.1 q1,q2,Int.not_lt.1 q2,q3,k90,hA,hB]
end Q
end Go.Abs
namespace Go.Abs
namespace Q
set_option maxRecDepth 100000
set_option maxHeartbeats 0
end Q
end Go.Abs
namespace Go.Abs
namespace Q
set_option maxRecDepth 100000
set_option maxHeartbeats 0
abbrev qL (L:Lm):Option Blk:=some ⟨[i64 L.lo,i64 L.hi,i64 L.sh,i64 L.jp],true⟩
end Q
end Go.Abs
