--
import Derived.Test.YtllhkifkiabkbaaGreatDoorAbsBWM
set_option linter.unusedSimpArgs false
set_option linter.unusedVariables false
namespace Go.Abs
namespace B
set_option maxRecDepth 100000
set_option maxHeartbeats 0
abbrev rgV (a b:Int):Value:=.agg #[i64 a,i64 b]
theorem massW {l:List Wi} {s:Sd} (h:SdOk l s):IntKind.wrap .i64 ((getW l s.wire).mass * s.core)=(getW l s.wire).mass * s.core∧IntKind.wrap .i64 ((getW l s.wire).mass * s.core * s.core)=(getW l s.wire).mass * s.core * s.core ∧
  IntKind.wrap .i64 (s.core * s.core)=s.core * s.core∧(s.over≠0→IntKind.wrap .i64 (s.over * s.over)=s.over * s.over∧IntKind.wrap .i64 (s.over * s.over-s.core * s.core)=s.over * s.over-s.core * s.core ∧
   IntKind.wrap .i64 ((getW l s.wrap).mass * (s.over * s.over-s.core * s.core))=(getW l s.wrap).mass * (s.over * s.over-s.core * s.core) ∧
   IntKind.wrap .i64 ((getW l s.wire).mass * s.core * s.core+(getW l s.wrap).mass * (s.over * s.over-s.core * s.core))=(getW l s.wire).mass * s.core * s.core+(getW l s.wrap).mass * (s.over * s.over-s.core * s.core)):=by
 have c:=coreSq h
 have sw:=strW h.w h.wir h.core.1 h.core.2
 refine⟨sw.2.2.1,sw.2.2.2,wrap_eq (by omega) (by omega),fun ho=>?_⟩
 have o:=overSq h ho
 obtain⟨k1,k2,_⟩:=getW_ok h.w (h.wrp ho).2
 have b:=mulB (a:=(getW l s.wrap).mass) (b:=s.over * s.over-s.core * s.core) (A:=200000) (B:=100000000) (by omega) k2 (by omega) (by omega)
 have m:=mOf_bd h
 unfold mOf at m
 rw[if_neg ho] at m
 exact⟨wrap_eq (by omega) (by omega),wrap_eq (by omega) (by omega),wrap_eq (by omega) (by omega),wrap_eq (by omega) (by omega)⟩
theorem c150 {d lim:Nat} {h:Heap} {v:Value} {l:List Wi} {s:Sd} (t:SlW h v l) (O:SdOk l s):E.call (d+4) lim 150 [v,sdV s] h=some (i64 (mOf l s),h):=by
 have few:=chkW_few O.w
 have k51:=fun lim L n=>c149 (d:=d) (lim:=lim) (n:=n) ((Sl_freeze.2 t).app L) (by omega)
 obtain⟨m1,m2,m3,m4⟩:=massW O
 refine call1 fn150 rfl (by simp[ef150]) ?_
 unfold mOf
 by_cases o:s.over=0
 ·simp[ef150,k51,m1,m2,o]
 ·obtain⟨n1,n2,n3,n4⟩:=m4 o
  simp[ef150,k51,m1,m2,m3,o,n1,n2,n3,n4]
theorem c78 {d lim:Nat} {h:Heap} {a b:Int}:E.call (d+2) lim 78 [rgV a b] h=some (.bool (freqB a b),h):=by
 have k13:=fun lim hh a b c=>c41 (d:=d) (lim:=lim) (h:=hh) (a:=a) (b:=b) (c:=c)
 refine call1 fn78 rfl (by simp[ef78]) ?_
 rcases e:within a 1 b with _ | _
 ·have:freqB a b=false:=by
   simp[within] at e
   simp[freqB]; omega
  simp[ef78,k13,e,this]
 ·have:freqB a b=decide (b≤10000000):=by
   simp[within] at e
   unfold freqB
   rw[Bool.eq_iff_iff]; simp; omega
  simp[ef78,k13,e,this]
theorem c100 {d lim:Nat} {h:Heap} {a b:Int}:E.call (d+1) lim 100 [rgV a b] h=some (i64 (if freqB a b=true then 0 else 2),h):=by
 refine call1 fn100 rfl (by simp[ef100]) ?_
 unfold freqB
 by_cases h1:a<1
 ·have:¬ (1≤a∧a≤b∧b≤10000000):=by omega
  simp[ef100,h1,this]
 ·by_cases h2:b<a
  ·have:¬ (1≤a∧a≤b∧b≤10000000):=by omega
   simp[ef100,h1,h2,this]
  ·by_cases h3:10000000<b
   ·have:¬ (1≤a∧a≤b∧b≤10000000):=by omega
    simp[ef100,h1,h2,h3,this]
   ·have:(1≤a∧a≤b∧b≤10000000):=by omega
    simp[ef100,h1,h2,h3,this]
structure Dv (a b:Int):Prop where
 n0:0≤a
 p:0<b
 lt:a+b<9223372036854775808
theorem Dv.lo {a b:Int} (D:Dv a b):IntKind.wrap .i64 (qdiv a b)=a / b:=by
 have u:=div_bd D.n0 D.p
 rw[qdiv_nn D.n0]; have:=D.lt; have:=D.p; exact wrap_eq (by omega) (by omega)
theorem Dv.hi {a b:Int} (D:Dv a b):IntKind.wrap .i64 (a+b)=a+b∧IntKind.wrap .i64 (a+b-1)=a+b-1∧IntKind.wrap .i64 (qdiv (a+b-1) b)=up a b:=by
 have n0:=D.n0
 have p:=D.p
 have lt:=D.lt
 have u:=up_bd n0 p
 refine⟨wrap_eq (by omega) (by omega),wrap_eq (by omega) (by omega),?_⟩
 rw[qdiv_nn (by omega)]
 unfold up at u ⊢
 exact wrap_eq (by omega) (by omega)
theorem c103 {d lim:Nat} {h:Heap} {a b c e:Int} (D1:Dv a b) (D2:Dv c e):E.call (d+1) lim 103 [i64 a,i64 b,i64 c,i64 e] h=some (rgV (a / b) (up c e),h):=by
 refine call1 fn103 rfl (by simp[ef103]) ?_
 have b0:¬ b=0:=by have:=D1.p; omega
 have e0:¬ e=0:=by have:=D2.p; omega
 obtain⟨h1,h2,h3⟩:=D2.hi
 have l1:=D1.lo
 simp[ef103,b0,e0,l1,h1,h2,h3]
theorem c102 {d lim:Nat} {h:Heap} {a b c:Int} (D1:Dv a c) (D2:Dv b c):E.call (d+2) lim 102 [i64 a,i64 b,i64 c] h=some (rgV (a / c) (up b c),h):=by
 refine call1 fn102 rfl (by simp[ef102]) ?_
 have k:=fun lim hh=>c103 (d:=d) (lim:=lim) (h:=hh) D1 D2
 simp[ef102,k]
structure FOk (a b:Int):Prop where
 h1:1≤a
 h2:a≤b
 h3:b≤10000000
theorem FOk.of {a b:Int} (h:freqB a b=true):FOk a b:=by simp[freqB] at h; exact⟨h.1,h.2.1,h.2.2⟩
end B
end Go.Abs
namespace Go.Abs
namespace B
set_option maxRecDepth 100000
set_option maxHeartbeats 0
abbrev soV (l:List Wi) (s:Sd) (a b:Int):Value:=.agg #[.string (getW l s.wire).name,i64 (getW l s.wire).mass,i64 (getW l s.wire).str,i64 (getW l s.wire).stiff,i64 s.len,i64 s.core,i64 s.over,.string s.wire,.string s.wrap,i64 (wayL s a),i64 (wayH s b),i64 (tenL l s a),i64 (tenH l s b)]
abbrev so0:Value:=.agg #[.string ⟨#[]⟩,i64 0,i64 0,i64 0,i64 0,i64 0,i64 0,.string ⟨#[]⟩,.string ⟨#[]⟩,i64 0,i64 0,i64 0,i64 0]
structure TOk (l:List Wi) (s:Sd) (a b:Int):Prop where
 x1:Dv (a * s.len) 1000000
 x2:Dv (b * s.len) 1000000
 q1:Dv (wayL s a * wayL s a) 10000
 q2:Dv (wayH s b * wayH s b) 10000
 m:Dv (mOf l s) 10000
 t1:Dv ((mOf l s / 10000) * sqL (wayL s a)) 1000000
 t2:Dv (up (mOf l s) 10000 * sqH (wayH s b)) 1000000
theorem TOk.of {l:List Wi} {s:Sd} {a b:Int} (O:SdOk l s) (F:FOk a b):TOk l s a b:=by
 obtain⟨f1,f2,f3⟩:=F
 obtain⟨a1,a2,a3,a4,_⟩:=way_bd O f1 (by omega)
 obtain⟨b1,b2,_,_,b3,b4,_⟩:=way_bd O (show 1≤b by omega) f3
 have q1:=sqL_bd a3 a4
 have q2:=sqH_bd (show 0≤wayH s b by omega) b4
 have m:=mOf_bd O
 have t:=ten_bd O f1 (show 1≤b by omega) (by omega) f3
 exact⟨⟨by omega,by omega,by omega⟩,⟨by omega,by omega,by omega⟩,⟨by omega,by omega,by omega⟩,⟨by omega,by omega,by omega⟩,⟨by omega,by omega,by omega⟩,⟨by omega,by omega,by omega⟩,⟨by omega,by omega,by omega⟩⟩
theorem Dv.w {a b:Int} (D:Dv a b):IntKind.wrap .i64 a=a:=by
 have:=D.n0; have:=D.p; have:=D.lt
 exact wrap_eq (by omega) (by omega)
theorem c101 {d lim:Nat} {h:Heap} {v:Value} {l:List Wi} {s:Sd} {a b:Int} (t:SlW h v l) (O:SdOk l s) (F:FOk a b):E.call (d+5) lim 101 [v,sdV s,rgV a b] h=some (soV l s a b,h):=by
 have few:=chkW_few O.w
 have T:=TOk.of O F
 have k51:=fun lim L n=>c149 (d:=d+1) (lim:=lim) (n:=n) ((Sl_freeze.2 t).app L) (by omega)
 have k46:=fun lim L=>c150 (d:=d) (lim:=lim) ((Sl_freeze.2 t).app L) O
 have kx:=fun lim hh=>c102 (d:=d+2) (lim:=lim) (h:=hh) T.x1 T.x2
 have kq:=fun lim hh=>c102 (d:=d+2) (lim:=lim) (h:=hh) T.q1 T.q2
 have km:=fun lim hh=>c102 (d:=d+2) (lim:=lim) (h:=hh) T.m T.m
 have kt:=fun lim hh=>c102 (d:=d+2) (lim:=lim) (h:=hh) T.t1 T.t2
 rw[show a * s.len / 1000000=wayL s a from rfl,show up (b * s.len) 1000000=wayH s b from rfl] at kx
 rw[show wayL s a * wayL s a / 10000=sqL (wayL s a) from rfl,show up (wayH s b * wayH s b) 10000=sqH (wayH s b) from rfl] at kq
 rw[show (mOf l s / 10000) * sqL (wayL s a) / 1000000=tenL l s a from rfl,show up (up (mOf l s) 10000 * sqH (wayH s b)) 1000000=tenH l s b from rfl] at kt
 refine call1 fn101 rfl (by simp[ef101]) ?_
 simp[ef101,k51,k46,kx,kq,km,kt,T.x1.w,T.x2.w,T.q1.w,T.q2.w,T.m.w,T.t1.w,T.t2.w]
def heardE (l:List Wi) (s:Sd) (a b:Int):Int:=if chkD l s=0 then (if freqB a b=true then 0 else 2) else chkD l s
def heardV (l:List Wi) (s:Sd) (a b:Int):Value:=if heardE l s a b=0 then soV l s a b else so0
theorem heardE_ok {l:List Wi} {s:Sd} {a b:Int} (h:heardE l s a b=0):chkD l s=0∧freqB a b=true:=by
 unfold heardE at h
 split at h
 ·rename_i e
  split at h
  ·rename_i q; exact⟨e,q⟩
  ·cases h
 ·rename_i e; exact absurd h e
theorem c63 {d lim:Nat} {h:Heap} {v:Value} {l:List Wi} {s:Sd} {a b:Int} (t:SlW h v l) (hl:l.length≤1000) (hnm:Nms l) :
  E.call (d+6) lim 63 [v,sdV s,rgV a b] h=some (.tuple #[heardV l s a b,i64 (heardE l s a b)],h):=by
 have k21:=fun lim L=>c99 (d:=d+1) (lim:=lim) (s:=s) ((Sl_freeze.2 t).app L) hl hnm
 have k64:=fun lim hh=>c100 (d:=d+4) (lim:=lim) (h:=hh) (a:=a) (b:=b)
 refine call1 fn63 rfl (by simp[ef63]) ?_
 unfold heardV
 by_cases e:chkD l s=0
 ·by_cases f:freqB a b=true
  ·have e0:heardE l s a b=0:=by simp[heardE,e,f]
   have k65:=fun lim L=>c101 (d:=d) (lim:=lim) ((Sl_freeze.2 t).app L) (SdOk.of e) (FOk.of f)
   rw[e0,if_pos rfl]
   simp[ef63,k21,e,k64,f,k65]
  ·have e0:heardE l s a b=2:=by simp[heardE,e,f]
   rw[e0,if_neg (by omega)]
   simp[ef63,k21,e,k64,f]
 ·have e0:heardE l s a b=chkD l s:=by simp[heardE,e]
  rw[e0,if_neg e]
  simp[ef63,k21,e]
def rgE (e a b:Int):Value:=if e=0 then rgV a b else rgV 0 0
theorem c29 {d lim:Nat} {h:Heap} {v:Value} {l:List Wi} {s:Sd} {a b:Int} (t:SlW h v l) (hl:l.length≤1000) (hnm:Nms l) :
  E.call (d+7) lim 29 [v,sdV s,rgV a b] h=some (.tuple #[rgE (heardE l s a b) (tenL l s a) (tenH l s b),i64 (heardE l s a b)],h):=by
 have k45:=fun lim L=>c63 (d:=d) (lim:=lim) (s:=s) (a:=a) (b:=b) ((Sl_freeze.2 t).app L) hl hnm
 refine call1 fn29 rfl (by simp[ef29]) ?_
 unfold heardV at k45
 unfold rgE
 by_cases e:heardE l s a b=0
 ·simp[ef29,k45,e]
 ·simp[ef29,k45,e]
end B
end Go.Abs
namespace Go.Abs
namespace B
set_option maxRecDepth 100000
set_option maxHeartbeats 0
structure ShOk (l:List Wi) (s:Sd) (a b:Int):Prop where
 w1:IntKind.wrap .i64 ((getW l s.wire).str * s.core)=(getW l s.wire).str * s.core
 n:Dv ((getW l s.wire).str * s.core * s.core) 1000000
 l1:Dv (1000 * tenL l s a) (up ((getW l s.wire).str * s.core * s.core) 1000000)
 h1:Dv (1000 * tenH l s b) ((getW l s.wire).str * s.core * s.core / 1000000)
theorem ShOk.of {l:List Wi} {s:Sd} {a b:Int} (O:SdOk l s) (F:FOk a b):ShOk l s a b:=by
 obtain⟨f1,f2,f3⟩:=F
 have t:=ten_bd O f1 (show 1≤b by omega) (by omega) f3
 have n:=strB O
 have sw:=strW O.w O.wir O.core.1 O.core.2
 refine⟨sw.1,⟨by omega,by omega,by omega⟩,⟨by omega,?_,?_⟩,⟨by omega,by omega,by omega⟩⟩
 ·unfold up; omega
 ·unfold up; omega
structure InOk (l:List Wi) (s:Sd) (a b:Int):Prop where
 w1:IntKind.wrap .i64 (1000 * s.core)=1000 * s.core
 n:Dv (1000 * s.core * s.core) s.len
 r1:Dv (raL s * raL s) 1000
 r2:Dv (raH s * raH s) 1000
 u1:Dv ((getW l s.wire).stiff * (raL s * raL s / 1000)) (1000 * tenH l s b)
 u2:Dv ((getW l s.wire).stiff * up (raH s * raH s) 1000) (1000 * tenL l s a)
 t1:IntKind.wrap .i64 (1000 * tenL l s a)=1000 * tenL l s a
 t2:IntKind.wrap .i64 (1000 * tenH l s b)=1000 * tenH l s b
theorem InOk.of {l:List Wi} {s:Sd} {a b:Int} (O:SdOk l s) (F:FOk a b) (h0:tenL l s a≠0):InOk l s a b:=by
 obtain⟨f1,f2,f3⟩:=F
 have t:=ten_bd O f1 (show 1≤b by omega) (by omega) f3
 obtain⟨n1,n2,a1,a2,b1,b2⟩:=ra_bd O
 have c:=O.core
 have k:=O.len
 obtain⟨_,_,_,_,s1,s2⟩:=getW_ok O.w O.wir
 have qa:=sq_bd a1 a2
 have qb:=sq_bd b1 b2
 have ua:0≤raL s * raL s / 1000∧raL s * raL s / 1000≤81000000000:=by omega
 have ub:0≤up (raH s * raH s) 1000∧up (raH s * raH s) 1000≤81000000000:=by unfold up; omega
 have ma:=mulB s1 s2 ua.1 ua.2
 have mb:=mulB s1 s2 ub.1 ub.2
 exact⟨wrap_eq (by omega) (by omega),⟨by omega,by omega,by omega⟩,⟨by omega,by omega,by omega⟩,⟨by omega,by omega,by omega⟩,⟨by omega,by omega,by omega⟩,⟨by omega,by omega,by omega⟩,wrap_eq (by omega) (by omega),wrap_eq (by omega) (by omega)⟩
def inE (l:List Wi) (s:Sd) (a:Int):Int:=if tenL l s a=0 then 11 else 0
theorem c64 {d lim:Nat} {h:Heap} {l:List Wi} {s:Sd} {a b:Int} (O:SdOk l s) (F:FOk a b) :
  E.call (d+3) lim 64 [soV l s a b] h=some (.tuple #[rgE (inE l s a) (inL l s (tenH l s b)) (inH l s (tenL l s a)),i64 (inE l s a)],h):=by
 refine call1 fn64 rfl (by simp[ef64]) ?_
 by_cases z:tenL l s a=0
 ·have e:inE l s a=11:=by simp[inE,z]
  rw[e]
  simp[ef64,z,rgE]
 ·have e:inE l s a=0:=by simp[inE,z]
  have I:=InOk.of O F z
  have kn:=fun lim hh=>c102 (d:=d) (lim:=lim) (h:=hh) I.n I.n
  have kr:=fun lim hh=>c102 (d:=d) (lim:=lim) (h:=hh) I.r1 I.r2
  have kp:=fun lim hh=>c103 (d:=d+1) (lim:=lim) (h:=hh) I.u1 I.u2
  rw[show 1000 * s.core * s.core / s.len=raL s from rfl,show up (1000 * s.core * s.core) s.len=raH s from rfl] at kn
  rw[e]
  simp[ef64,z,rgE,I.w1,I.n.w,kn,I.r1.w,I.r2.w,kr,I.u1.w,I.u2.w,I.t1,I.t2,kp,inL,inH]
theorem c32 {d lim:Nat} {h:Heap} {v:Value} {l:List Wi} {s:Sd} {a b:Int} (t:SlW h v l) (hl:l.length≤1000) (hnm:Nms l) :
  E.call (d+7) lim 32 [v,sdV s,rgV a b] h=some (if heardE l s a b=0 then .tuple #[rgE (inE l s a) (inL l s (tenH l s b)) (inH l s (tenL l s a)),i64 (inE l s a)] else .tuple #[rgV 0 0,i64 (heardE l s a b)],h):=by
 have k45:=fun lim L=>c63 (d:=d) (lim:=lim) (s:=s) (a:=a) (b:=b) ((Sl_freeze.2 t).app L) hl hnm
 refine call1 fn32 rfl (by simp[ef32]) ?_
 unfold heardV at k45
 by_cases e:heardE l s a b=0
 ·obtain⟨e1,e2⟩:=heardE_ok e
  have k57:=fun lim hh=>c64 (d:=d+3) (lim:=lim) (h:=hh) (SdOk.of e1) (FOk.of e2)
  unfold rgE at k57 ⊢
  by_cases z:inE l s a=0
  ·simp[ef32,k45,e,k57,z]
  ·simp[ef32,k45,e,k57,z]
 ·simp[ef32,k45,e]
structure ImOk (l:List Wi) (s:Sd) (a b:Int):Prop where
 l1:Dv (1000 * tenL l s a) (wayH s b)
 h1:Dv (1000 * tenH l s b) (wayL s a)
theorem ImOk.of {l:List Wi} {s:Sd} {a b:Int} (O:SdOk l s) (F:FOk a b) (h0:wayL s a≠0):ImOk l s a b:=by
 obtain⟨f1,f2,f3⟩:=F
 have t:=ten_bd O f1 (show 1≤b by omega) (by omega) f3
 obtain⟨a1,a2,a3,a4,_⟩:=way_bd O f1 (by omega)
 obtain⟨b1,b2,_,_,b3,b4,_⟩:=way_bd O (show 1≤b by omega) f3
 exact⟨⟨by omega,by omega,by omega⟩,⟨by omega,by omega,by omega⟩⟩
end B
end Go.Abs
