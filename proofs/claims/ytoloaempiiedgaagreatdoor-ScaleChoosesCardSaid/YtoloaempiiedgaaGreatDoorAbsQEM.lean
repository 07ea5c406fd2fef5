--
import Derived.Test.YtoloaempiiedgaaGreatDoorAbsQUN
import Derived.Test.YtoloaempiiedgaaGreatDoorAbsQVM
import Derived.Test.YtoloaempiiedgaaGreatDoorAbsQNM
set_option linter.unusedSimpArgs false
set_option linter.unusedVariables false
namespace Go.Abs
namespace Q
set_option maxRecDepth 100000
set_option maxHeartbeats 0
def fewG (n:Nat):Bool:=decide (n≤6) || (decide (20<n) && decide (n≤25))
theorem c8 {d lim:Nat} {h:Heap} {v:Value} {l:List Int} (s:SlI' h v l):E.call (d+1) lim 12 [v] h=some (.bool (fewG l.length),h):=by
 have r:=s.rules2
 refine call1 fn12 rfl (by simp[ef12]) ?_
 unfold fewG
 by_cases q1:l.length≤6
 ·have q1i:(l.length:Int)≤6:=by omega
  have q1j:¬ (6:Int)<l.length:=by omega
  simp[ef12,r,q1,q1i,q1j]
 have q1i:¬ (l.length:Int)≤6:=by omega
 by_cases q2:20<l.length
 ·have q2i:(20:Int)<l.length:=by omega
  by_cases q3:l.length≤25
  ·have q3i:(l.length:Int)≤25:=by omega
   simp[ef12,r,q1,q1i,q2,q2i,q3,q3i]
  ·have q3i:¬ (l.length:Int)≤25:=by omega
   simp[ef12,r,q1,q1i,q2,q2i,q3,q3i,Int.not_le.1 q1i,Int.not_le.1 q3i]
 ·have q2i:¬ (20:Int)<l.length:=by omega
  simp[ef12,r,q1,q1i,q2,q2i,Int.not_lt.1 q2i]
  omega
noncomputable def erA (t:Int) (wl:List Wi) (l:List Un) (L:Lm) (G:List Int):Int:=if (stE t wl l).2≠0 then (stE t wl l).2 else if lmE L≠0 then lmE L else ggE G
theorem c16 {d lim:Nat} {h:Heap} {v w g:Value} {wl:List Wi} {l:List Un} {t:Int} {L:Lm} {G:List Int} (s:SlW h v wl) (q:SlN h w l) (p:SlI' h g G) (hwl:wl.length≤1000) :
  E.call (d+7) lim 16 [stV t v w,lmV L,g] h=some (i64 (erA t wl l L G),h):=by
 have k30:=fun (M:Heap) lim=>c34 (d:=d) (lim:=lim) (t:=t) ((Sl_freeze.2 s).app M) ((Sl_freeze.2 q).app M) hwl
 have k31:=fun lim hh=>c63 (d:=d+4) (lim:=lim) (h:=hh) (L:=L)
 have k32:=fun (M:Heap) lim=>c64 (d:=d+4) (lim:=lim) ((Sl_freeze.2 p).app M)
 refine call1 fn16 rfl (by simp[ef16]) ?_
 unfold erA
 have a1:=s.low
 by_cases q1:(stE t wl l).2=0
 ·by_cases q2:lmE L=0
  ·simp[ef16,k30,k31,k32,q1,q2]
  ·simp[ef16,k30,k31,k32,q1,q2]
 ·simp[ef16,k30,k31,k32,q1]
def cor (u:Un) (g:Int):Un:={ u with sd:={ u.sd with core:=g } }
theorem c134 {d lim:Nat} {h:Heap} {v w f:Value} {l:List Un} {t g:Int} {i:Nat} (q:SlN h w l) (hi:i<l.length) :
  E.call (d+1) lim 134 [knV t v w f,i64 (i:Int),i64 g] h=some (sdV (cor (atN l i) g).sd,h):=by
 have r:=q.rules2
 have hii:(i:Int)<l.length:=by omega
 have p5:=cN_s5 hi
 have k5:i * 10+5+5≤l.length * 10:=by omega
 refine call1 fn134 rfl (by simp[ef134]) ?_
 simp[ef134,r,hi,hii,p5,k5,cor]
end Q
end Go.Abs
namespace Go.Abs
namespace Q
set_option maxRecDepth 100000
set_option maxHeartbeats 0
theorem c147g {d lim:Nat} {h:Heap} {v w f:Value} {wl:List Wi} {l:List Un} {t:Int} {i:Nat} {c:Int} (s:SlW h v wl) (g:SlR h f (mapU (frq t) l)) (O:StOk t wl l) (hi:i<l.length) (Sx:SdOk wl (cor (atN l i) c).sd) :
  E.call (d+6) lim 147 [knV t v w f,i64 (i:Int),sdV (cor (atN l i) c).sd] h=some (rgV (ten wl t (cor (atN l i) c)).1 (ten wl t (cor (atN l i) c)).2,h):=by
 have rs:=s.rules2
 have gl:i<(mapU (frq t) l).length:=by rw[mapU_len]; exact hi
 have rg:=g.rules2
 have p:=cR_part gl
 rw[mapU_at hi] at p
 rw[mapU_len] at rg
 have U:=O.u i hi
 have k2:i * 2+2≤l.length * 2:=by omega
 have hii:(i:Int)<l.length:=by omega
 have k144:=fun lim L=>c198 (d:=d) (lim:=lim) ((Sl_freeze.2 s).app L) Sx U.f
 simp only[frq] at p
 generalize hu:atN l i=u at *
 have e1:fL (cor u c) t=fL u t:=rfl
 have e2:fH (cor u c) t=fH u t:=rfl
 refine call1 fn147 rfl (by simp[ef147]) ?_
 rcases Nat.eq_zero_or_pos i with z | z
 ·subst z
  have pp:=fun L=>((Sl_freeze.2 g).app L).part (k:=0) (m:=2) (by rw[mapU_len]; omega) (by omega)
  simp only[Nat.zero_mul,List.drop_zero] at p
  simp only[Nat.add_zero,List.drop_zero,p] at pp
  have l0:0<l.length:=by omega
  simp[ef147,rg,l0,hii,k2,pp,p,k144,ten,e1,e2]
 ·simp[ef147,rg,hii,k2,p,k144,ten,e1,e2]
theorem c136g {d lim:Nat} {h:Heap} {v w f:Value} {wl:List Wi} {l:List Un} {t:Int} {i:Nat} {L:Lm} {c:Int} (s:SlW h v wl) (g:SlR h f (mapU (frq t) l)) (O:StOk t wl l) (hi:i<l.length) (Sx:SdOk wl (cor (atN l i) c).sd) :
  E.call (d+7) lim 136 [knV t v w f,i64 (i:Int),sdV (cor (atN l i) c).sd,lmV L] h=some (.bool (kpB wl t (cor (atN l i) c) L),h):=by
 have rs:=s.rules2
 have gl:i<(mapU (frq t) l).length:=by rw[mapU_len]; exact hi
 have rg:=g.rules2
 have p:=cR_part gl
 rw[mapU_at hi] at p
 rw[mapU_len] at rg
 have U:=O.u i hi
 have k2:i * 2+2≤l.length * 2:=by omega
 have hii:(i:Int)<l.length:=by omega
 have k93:=fun lim L=>c196 (d:=d) (lim:=lim) (Sl_freeze.2 ((Sl_freeze.2 s).app L)) Sx U.f
 have k78:=fun lim L=>c147g (d:=d) (lim:=lim) (w:=w) ((Sl_freeze.2 s).app L) ((Sl_freeze.2 g).app L) O hi Sx
 simp only[frq] at p
 refine call1 fn136 rfl (by simp[ef136]) ?_
 unfold kpB
 unfold ten at k78 ⊢
 simp only at k78
 have e1:fL (cor (atN l i) c) t=fL (atN l i) t:=rfl
 have e2:fH (cor (atN l i) c) t=fH (atN l i) t:=rfl
 rw[e1,e2] at k78 ⊢
 generalize hu:atN l i=u at *
 obtain⟨x,hx⟩:∃ x,x=(cor u c).sd:=⟨_,rfl⟩
 rw[← hx] at k93 k78 ⊢
 have pp:=fun (z:i=0) L=>((Sl_freeze.2 g).app L).part (k:=0) (m:=2) (by rw[mapU_len]; omega) (by omega)
 generalize hA:tenL wl x (fL u t)=A at *
 generalize hB:tenH wl x (fH u t)=B at *
 by_cases q1:A<L.lo
 ·simp[ef136,k78,q1,Int.not_le.2 q1]
 by_cases q2:L.hi<B
 ·simp[ef136,k78,q1,Int.not_lt.1 q1,q2,Int.not_le.2 q2]
 rcases Nat.eq_zero_or_pos i with z | z
 ·subst z
  have pp:=pp rfl
  simp only[Nat.zero_mul,List.drop_zero] at p
  simp only[Nat.add_zero,List.drop_zero,p] at pp
  have l0:0<l.length:=by omega
  simp only[Int.ofNat_zero] at k78
  by_cases q3:shH wl x B≤L.sh
  ·simp[ef136,k78,q1,Int.not_lt.1 q1,q2,Int.not_lt.1 q2,q3,k93,rg,l0,hii,k2,pp,p]
  ·simp[ef136,k78,q1,Int.not_lt.1 q1,q2,Int.not_lt.1 q2,q3,k93,rg,l0,hii,k2,pp,p]
 ·by_cases q3:shH wl x B≤L.sh
  ·simp[ef136,k78,q1,Int.not_lt.1 q1,q2,Int.not_lt.1 q2,q3,k93,rg,hii,k2,p]
  ·simp[ef136,k78,q1,Int.not_lt.1 q1,q2,Int.not_lt.1 q2,q3,k93,rg,hii,k2,p]
noncomputable def alB (wl:List Wi) (t:Int) (u:Un) (L:Lm) (c:Int):Bool:=decide (sErr wl (cor u c).sd=0) && kpB wl t (cor u c) L
theorem c65 {d lim:Nat} {h:Heap} {v w f:Value} {wl:List Wi} {l:List Un} {t:Int} {i:Nat} {L:Lm} {c:Int} (s:SlW h v wl) (q:SlN h w l) (g:SlR h f (mapU (frq t) l)) (O:StOk t wl l) (hi:i<l.length) (hw:chkW wl=0) :
  E.call (d+8) lim 65 [knV t v w f,lmV L,i64 (i:Int),i64 c] h=some (.bool (alB wl t (atN l i) L c),h):=by
 have k64:=fun (M:Heap) lim=>c134 (d:=d+6) (lim:=lim) (t:=t) (v:=v) (f:=f) (g:=c) ((Sl_freeze.2 q).app M) hi
 have k65:=fun (M:Heap) lim s'=>c135 (d:=d+5) (lim:=lim) (s:=s') ((Sl_freeze.2 s).app M) hw
 refine call1 fn65 rfl (by simp[ef65]) ?_
 unfold alB
 by_cases q1:sErr wl (cor (atN l i) c).sd=0
 ·have Sx:SdOk wl (cor (atN l i) c).sd:=SdOk.of (by unfold chkD; rw[hw]; simpa using q1)
  have k66:=fun (M:Heap) lim=>c136g (d:=d) (lim:=lim) (w:=w) (L:=L) ((Sl_freeze.2 s).app M) ((Sl_freeze.2 g).app M) O hi Sx
  generalize cor (atN l i) c=u at *
  simp[ef65,k64,k65,k66,q1]
 ·generalize cor (atN l i) c=u at *
  simp[ef65,k64,k65,q1]
end Q
end Go.Abs
namespace Go.Abs
namespace Q
set_option maxRecDepth 100000
set_option maxHeartbeats 0
structure NL (h:Heap) (v:Value) (n:Nat) (vs:Nat→Value) (f:Nat→List Int):Prop where
 sl:Sl 1 h v n ((List.range n).map vs)
 row:∀ i,i<n→SlI' h (vs i) (f i)
end Q
end Go.Abs
