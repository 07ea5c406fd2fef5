--
import Derived.Test.YtoloaempiiedgaaGreatDoorAbsQUN
set_option linter.unusedSimpArgs false
set_option linter.unusedVariables false
namespace Go.Abs
namespace Q
set_option maxRecDepth 100000
set_option maxHeartbeats 0
def ggI (l:List Int) (i:Nat):Int:=if within (gx l i) 100 3000=false then 2 else if i=0 then 0 else if gx l i≤gx l (i-1) then 9 else 0
def ggL (l:List Int) (i:Nat):Int:=if i<l.length then (if ggI l i=0 then ggL l (i+1) else ggI l i) else 0
termination_by l.length-i
theorem ggL_lt {l:List Int} {i:Nat} (h:i<l.length):ggL l i=if ggI l i=0 then ggL l (i+1) else ggI l i:=by rw[ggL,if_pos h]
theorem ggL_ge {l:List Int} {i:Nat} (h:¬ i<l.length):ggL l i=0:=by rw[ggL,if_neg h]
def ggE (l:List Int):Int:=if l.length=0 then 8 else if 20<l.length then 8 else ggL l 0
theorem c129 {d lim:Nat} {h:Heap} {v:Value} {l:List Int} (s:SlI' h v l):E.call (d+2) lim 129 [v] h=some (i64 (ggE l),h):=by
 have r:=s.rules2
 have so:=s.own
 have k69:=fun lim hh a b c=>c71 (d:=d) (lim:=lim) (h:=hh) (a:=a) (b:=b) (c:=c)
 refine call1 fn129 rfl (by simp[ef129]) ?_
 unfold ggE
 by_cases h0:l.length=0
 ·have i0:(l.length:Int)=0:=by omega
  simp[ef129,r,h0,i0]
 have i0:¬ (l.length:Int)=0:=by omega
 by_cases h20:20<l.length
 ·have i1:(20:Int)<l.length:=by omega
  simp[ef129,r,h0,i0,h20,i1,Int.not_le.2 i1,Nat.not_le.2 h20]
 have i1:¬ (20:Int)<l.length:=by omega
 have ne:l≠[]:=fun e=>h0 (by rw[e]; rfl)
 generalize hC:ggL l 0=C0
 simp[ef129,r,h0,i0,ne,h20,i1,Int.not_lt.1 i1,Nat.not_lt.1 h20]
 refine wpC_loop (fun y st=>∃ i,y=l.length-i∧i≤l.length∧ggL l i=C0∧st=⟨[(0,v),(13,v),(14,i64 (l.length:Int)),(15,i64 (i:Nat))],h.freeze⟩) l.length (by show l.length<2 ^ 64; omega) ?_ ?_
 ·simp[St.tidy,so,r]
  exact⟨0,by omega,by omega,hC,rfl⟩
 ·rintro y hy _ ⟨i,rfl,hi,hc,rfl⟩
  by_cases hlt:i<l.length
  ·have w1':=w1 (i:=i) (by omega)
   simp only[W] at w1'
   have hlti:(i:Int)<l.length:=by omega
   have q0:∀ hh,(cI l)[i]'hh=i64 (gx l i):=fun hh=>by simp[cI,gx,List.getD_eq_getElem?_getD,List.getElem?_eq_getElem hlt]
   rw[ggL_lt hlt] at hc
   unfold ggI at hc
   rcases q1:within (gx l i) 100 3000 with _ | _
   ·rw[q1] at hc
    simp at hc
    subst hc
    simp[hlt,hlti,r,q0,k69,q1]
   ·rw[q1] at hc
    rcases Nat.eq_zero_or_pos i with z | z
    ·subst z
     simp at hc
     have l0:0<l.length:=by omega
     have c0:=(Sl_freeze.2 s).cell 0 (by omega)
     have c0':=s.cell 0 (by omega)
     rw[Nat.add_zero,cI_gx l0] at c0 c0'
     simp[l0,ne,hlt,hlti,r,q0,c0,c0',k69,q1,St.tidy,so]
     exact⟨l.length-1,by omega,1,by omega,by omega,hc,by omega⟩
    ·have z0:i≠0:=by omega
     have zi:(0:Int)<i:=by omega
     have wi:=w1s z (by omega)
     have ipl:((i-1:Nat):Int)<l.length:=by omega
     have ipn:i-1<l.length:=by omega
     have qp:∀ hh,(cI l)[i-1]'hh=i64 (gx l (i-1)):=fun hh=>by simp[cI,gx,List.getD_eq_getElem?_getD,List.getElem?_eq_getElem ipn]
     simp only[z0,if_false] at hc
     generalize i-1=m at *
     by_cases q2:gx l i≤gx l m
     ·simp[q2] at hc
      subst hc
      simp[hlt,hlti,r,q0,qp,z,zi,z0,wi,ipl,ipn,k69,q1,q2]
     ·simp[q2] at hc
      simp[hlt,hlti,r,q0,qp,z,zi,z0,wi,ipl,ipn,k69,q1,q2,Int.not_le.1 q2,w1',St.tidy,so]
      exact⟨l.length-(i+1),by omega,i+1,by omega,by omega,hc,by omega⟩
  ·obtain rfl:i=l.length:=by omega
   rw[ggL_ge (by omega)] at hc
   subst hc
   simp
end Q
end Go.Abs
namespace Go.Abs
namespace Q
set_option maxRecDepth 100000
set_option maxHeartbeats 0
end Q
end Go.Abs
namespace Go.Abs
namespace Q
set_option maxRecDepth 100000
set_option maxHeartbeats 0
theorem c64 {d lim:Nat} {h:Heap} {v:Value} {l:List Int} (s:SlI' h v l):E.call (d+2) lim 64 [v] h=some (i64 (ggE l),h):=by
 have r:=s.rules2
 have so:=s.own
 have k18:=fun lim hh a b c=>c74 (d:=d) (lim:=lim) (h:=hh) (a:=a) (b:=b) (c:=c)
 refine call1 fn64 rfl (by simp[ef64]) ?_
 unfold ggE
 by_cases h0:l.length=0
 ·have i0:(l.length:Int)=0:=by omega
  simp[ef64,r,h0,i0]
 have i0:¬ (l.length:Int)=0:=by omega
 by_cases h20:20<l.length
 ·have i1:(20:Int)<l.length:=by omega
  simp[ef64,r,h0,i0,h20,i1,Int.not_le.2 i1,Nat.not_le.2 h20]
 have i1:¬ (20:Int)<l.length:=by omega
 have ne:l≠[]:=fun e=>h0 (by rw[e]; rfl)
 generalize hC:ggL l 0=C0
 simp[ef64,r,h0,i0,ne,h20,i1,Int.not_lt.1 i1,Nat.not_lt.1 h20]
 refine wpC_loop (fun y st=>∃ i,y=l.length-i∧i≤l.length∧ggL l i=C0∧st=⟨[(0,v),(3,i64 (i:Nat))],h.freeze⟩) l.length (by show l.length<2 ^ 64; omega) ?_ ?_
 ·simp[St.tidy,so,r]
  exact⟨0,by omega,by omega,hC,rfl⟩
 ·rintro y hy _ ⟨i,rfl,hi,hc,rfl⟩
  by_cases hlt:i<l.length
  ·have w1':=w1 (i:=i) (by omega)
   simp only[W] at w1'
   have hlti:(i:Int)<l.length:=by omega
   have q0:∀ hh,(cI l)[i]'hh=i64 (gx l i):=fun hh=>by simp[cI,gx,List.getD_eq_getElem?_getD,List.getElem?_eq_getElem hlt]
   rw[ggL_lt hlt] at hc
   unfold ggI at hc
   rcases q1:within (gx l i) 100 3000 with _ | _
   ·rw[q1] at hc
    simp at hc
    subst hc
    rcases Nat.eq_zero_or_pos i with z | z
    ·subst z
     have l0:0<l.length:=by omega
     have c0':=s.cell 0 (by omega)
     rw[Nat.add_zero,cI_gx l0] at c0'
     simp[l0,ne,hlt,Nat.not_le.2 l0,hlti,r,q0,c0',k18,q1]
    ·simp[hlt,Nat.not_le.2 hlt,hlti,r,q0,k18,q1]
   ·rw[q1] at hc
    rcases Nat.eq_zero_or_pos i with z | z
    ·subst z
     simp at hc
     have l0:0<l.length:=by omega
     have c0:=(Sl_freeze.2 s).cell 0 (by omega)
     have c0':=s.cell 0 (by omega)
     rw[Nat.add_zero,cI_gx l0] at c0 c0'
     simp[l0,ne,hlt,Nat.not_le.2 l0,hlti,r,q0,c0,c0',k18,q1,St.tidy,so]
     exact⟨l.length-1,by omega,1,by omega,by omega,hc,by omega⟩
    ·have z0:i≠0:=by omega
     have zi:(0:Int)<i:=by omega
     have wi:=w1s z (by omega)
     have ipl:((i-1:Nat):Int)<l.length:=by omega
     have ipn:i-1<l.length:=by omega
     have qp:∀ hh,(cI l)[i-1]'hh=i64 (gx l (i-1)):=fun hh=>by simp[cI,gx,List.getD_eq_getElem?_getD,List.getElem?_eq_getElem ipn]
     simp only[z0,if_false] at hc
     generalize i-1=m at *
     by_cases q2:gx l i≤gx l m
     ·simp[q2] at hc
      subst hc
      simp[hlt,Nat.not_le.2 hlt,hlti,r,q0,qp,z,zi,z0,wi,ipl,ipn,k18,q1,q2]
     ·simp[q2] at hc
      simp[hlt,Nat.not_le.2 hlt,hlti,r,q0,qp,z,zi,z0,wi,ipl,ipn,k18,q1,q2,Int.not_le.1 q2,w1',St.tidy,so]
      exact⟨l.length-(i+1),by omega,i+1,by omega,by omega,hc,by omega⟩
  ·obtain rfl:i=l.length:=by omega
   rw[ggL_ge (by omega)] at hc
   subst hc
   simp[r]
end Q
end Go.Abs
