--
import Derived.Test.YtoloaempiiedgaaGreatDoorAbsQXM
import Derived.Test.YtoloaempiiedgaaGreatDoorAbsQLM
set_option linter.unusedSimpArgs false
set_option linter.unusedVariables false
namespace Go.Abs
namespace Q
set_option maxRecDepth 100000
set_option maxHeartbeats 0
def encR (r:XR):List Value:=[i64 r.1,i64 r.2]
theorem cR_len (l:List XR):(cS encR l).length=l.length * 2:=cS_len (f:=encR) (es:=2) (fun _=>rfl) l
theorem cR_part {l:List XR} {i:Nat} (h:i<l.length):((cS encR l).drop (i * 2)).take 2=[i64 (atR l i).1,i64 (atR l i).2]:=by
 rw[cS_part (f:=encR) (es:=2) (fun _=>rfl) l i h,atR_get h]; rfl
abbrev SlR (h:Heap) (v:Value) (l:List XR):Prop:=Sl 2 h v l.length (cS encR l)
theorem cBi_plain (l:List Bd):(cB (l.map iB)).all plainV=true:=by simp[cB,cS,List.all_flatMap,encB,plainV]
theorem cBi_len (l:List Bd):(cB (l.map iB)).length=l.length * 3:=by rw[cB_len]; simp
theorem sysA_cells (l:List XR) (i:Nat):cB ((sysA l i).map iB)++[i64 (l.length:Int),i64 (i:Int),i64 (atR l i).2,i64 (i:Int),i64 (l.length:Int),i64 (-(atR l i).1)]=cB ((sysA l (i+1)).map iB):=by
 simp[sysA,cB,cS,encB,iB]
theorem sysB_cells (L:List Bd) (dl dh:Int) (j:Nat):cB ((L++sysB dl dh j).map iB)++[i64 (j:Int),i64 ((j:Int)+1),i64 (-dl),i64 ((j:Int)+1),i64 (j:Int),i64 dh]=cB ((L++sysB dl dh (j+1)).map iB):=by
 simp[sysB,cB,cS,encB,iB]
def sysV (n b:Nat):Value:=if n=0 then .slice none 0 0 else .slice (some ⟨b,0,none⟩) (2 * n+2 * (n-1)) 3
def sysK (l:List XR) (dl dh:Int):List (Option Blk):=if l.length=0 then [] else [some ⟨cB ((sysL l dl dh).map iB),true⟩]
theorem c126 {d lim:Nat} {h:Heap} {v:Value} {l:List XR} {dl dh:Int} (s:SlR h v l):E.call (d+1) lim 126 [v,rgV dl dh] h =
  some (.tuple #[if lenE l dl dh=0 then sysV l.length h.length else .slice none 0 0,i64 (lenE l dl dh)],h++if lenE l dl dh=0 then sysK l dl dh else []):=by
 have r:=s.rules2
 refine call_pure fn126 rfl (by simp[ef126]) ?_
 by_cases h50:50<l.length
 ·have i50:(50:Int)<l.length:=by omega
  have e:lenE l dl dh=8:=by simp[lenE,h50]
  rw[e]
  simp[ef126,r,h50,i50,Int.not_le.2 i50,Nat.not_le.2 h50]
 have i50:¬ (50:Int)<l.length:=by omega
 rcases Nat.eq_zero_or_pos l.length with hz | hz
 ·have el:l=[]:=List.eq_nil_of_length_eq_zero hz
  subst el
  have e:lenE [] dl dh=if dl < -300000∨dh<dl∨300000<dh then 2 else 0:=by simp[lenE,chkRL]
  rw[e]
  rcases s.low with rfl | ⟨bv,o',m',t',rfl,hbv⟩
  ·by_cases q1:dl < -300000
   ·simp[ef126,wpC_unroll,wpI_step,E_fuel',St.tidy,q1]
   ·by_cases q2:dh<dl
    ·simp[ef126,wpC_unroll,wpI_step,E_fuel',St.tidy,q1,q2]
    ·by_cases q3:300000<dh
     ·simp[ef126,wpC_unroll,wpI_step,E_fuel',St.tidy,q1,q2,q3]
     ·simp[ef126,wpC_unroll,wpI_step,E_fuel',St.tidy,q1,q2,q3,sysV,sysK]
  ·obtain rfl:m'=0:=by
    have:=s.len
    simpa using this
   by_cases q1:dl < -300000
   ·simp[ef126,wpC_unroll,wpI_step,E_fuel',St.tidy,q1,hbv]
   ·by_cases q2:dh<dl
    ·simp[ef126,wpC_unroll,wpI_step,E_fuel',St.tidy,q1,q2,hbv]
    ·by_cases q3:300000<dh
     ·simp[ef126,wpC_unroll,wpI_step,E_fuel',St.tidy,q1,q2,q3,hbv]
     ·simp[ef126,wpC_unroll,wpI_step,E_fuel',St.tidy,q1,q2,q3,hbv,sysV,sysK]
 obtain⟨bv,o',rfl⟩:∃ bv o',v=.slice (some ⟨bv,o',none⟩) l.length 2:=⟨_,_,s.addr (by omega)⟩
 have hbv:=s.lt (by omega)
 simp only[slB_some,slO_some] at r hbv
 have n0:l.length≠0:=by omega
 have e0:lenE l dl dh=if chkRL l 0=0 then (if dl < -300000∨dh<dl∨300000<dh then 2 else 0) else chkRL l 0:=by simp[lenE,h50]
 generalize hE:lenE l dl dh=E0 at *
 simp[ef126,r,h50,i50,Int.not_lt.1 i50,Nat.not_lt.1 h50]
 refine wpC_loop (fun q st=>∃ i,q=l.length-i∧i≤l.length∧chkRL l i=chkRL l 0∧st=⟨[(0,.slice (some ⟨bv,o',none⟩) l.length 2),(3,.pointer (some ⟨h.length,0,none⟩)),(16,.slice (some ⟨bv,o',none⟩) l.length 2),(17,i64 (l.length:Int)),(18,i64 (i:Nat))],h.freeze++[some ⟨[i64 dl,i64 dh],true⟩]⟩) l.length (by show l.length<2 ^ 64; omega) ?_ ?_
 ·simp[St.tidy,hbv]
  exact⟨0,by omega,by omega,rfl,rfl⟩
 ·rintro q hq _ ⟨i,rfl,hi,hc,rfl⟩
  by_cases hlt:i<l.length
  ·have w1':=w1 (i:=i) (by omega)
   simp only[W] at w1'
   have p:=cR_part hlt
   have k2:i * 2+2≤l.length * 2:=by omega
   have hlti:(i:Int)<l.length:=by omega
   rw[chkRL_lt hlt] at hc
   generalize atR l i=A at *
   obtain⟨lo,hi'⟩:=A
   simp only at p
   by_cases q1:lo<1000
   ·have re:rErr (lo,hi')=2:=by simp[rErr,q1]
    rw[re] at hc
    rw[← hc] at e0
    simp at e0 hc
    simp[hlt,hlti,r,k2,p,q1,e0]
   ·by_cases q2:hi'<lo
    ·have re:rErr (lo,hi')=2:=by simp[rErr,q2]
     rw[re] at hc
     rw[← hc] at e0
     simp at e0 hc
     simp[hlt,hlti,r,k2,p,q1,q2,e0]
    ·by_cases q3:300000<hi'
     ·have re:rErr (lo,hi')=2:=by simp[rErr,q3]
      rw[re] at hc
      rw[← hc] at e0
      simp at e0 hc
      simp[hlt,hlti,r,k2,p,q1,q2,q3,e0]
     ·have re:rErr (lo,hi')=0:=by simp[rErr]; omega
      rw[re] at hc
      simp at hc
      simp[hlt,hlti,r,k2,p,q1,q2,q3,w1',St.tidy,hbv]
      exact⟨l.length-(i+1),by omega,i+1,by omega,by omega,hc,by omega⟩
  ·obtain rfl:i=l.length:=by omega
   rw[chkRL_ge (by omega)] at hc
   rw[← hc] at e0
   simp only[if_true] at e0
   by_cases q1:dl < -300000
   ·rw[if_pos (.inl q1)] at e0
    simp[r,q1,e0]
   by_cases q2:dh<dl
   ·rw[if_pos (.inr (.inl q2))] at e0
    simp[r,q1,q2,e0]
   by_cases q3:300000<dh
   ·rw[if_pos (.inr (.inr q3))] at e0
    simp[r,q1,q2,q3,e0]
   rw[if_neg (by omega)] at e0
   subst e0
   have O:=LenOk.of hE
   simp[r,q1,q2,q3]
   refine wpC_loop (fun q st=>∃ i,q=l.length-i∧i≤l.length∧st=⟨[(3,.pointer (some ⟨h.length,0,none⟩)),(8,i64 (l.length:Int)),(9,if i=0 then .slice none 0 0 else .slice (some ⟨h.length+1,0,none⟩) (2 * i) 3),(55,.slice (some ⟨bv,o',none⟩) l.length 2),(56,i64 (l.length:Int)),(57,i64 (i:Nat))],
    h.freeze++(some ⟨[i64 dl,i64 dh],true⟩::if i=0 then [] else [some ⟨cB ((sysA l i).map iB),true⟩])⟩) l.length (by show l.length<2 ^ 64; omega) ?_ ?_
   ·simp[St.tidy,hbv]
    exact⟨0,by omega,by omega,⟨rfl,rfl⟩,rfl⟩
   ·rintro q hq _ ⟨i,rfl,hi,rfl⟩
    by_cases hlt:i<l.length
    ·have w1':=w1 (i:=i) (by omega)
     simp only[W] at w1'
     have p:=cR_part hlt
     have k2:i * 2+2≤l.length * 2:=by omega
     have hlti:(i:Int)<l.length:=by omega
     have rg:=O.rng i hlt
     have wn:IntKind.wrap .i64 (-(atR l i).1)=-(atR l i).1:=wrap_eq (by omega) (by omega)
     have sn:=sysA_cells l i
     have pl:=cBi_plain (sysA l (i+1))
     have len:(cB ((sysA l i).map iB)).length=2 * i * 3:=by rw[cBi_len,sysA_len]
     rcases Nat.eq_zero_or_pos i with z | z
     ·subst z
      rw[show cB ((sysA l 0).map iB)=[] from rfl,List.nil_append] at sn
      rw[← sn] at pl
      generalize hA:atR l 0=A at *
      have pp:=s.part (k:=0) (m:=2) (by omega) (by omega)
      simp only[slB_some,slO_some,Nat.add_zero,List.drop_zero] at pp
      simp only[Nat.zero_mul,List.drop_zero] at p
      rw[p] at pp
      simp at pl
      have l0:0<l.length:=by omega
      simp[l0,n0,hlt,hlti,r,k2,pp,wn,E.append,E.added,Value.oneCell',maxLen,zeros,St.tidy,hbv,pl]
      exact⟨l.length-1,by omega,1,by omega,by omega,⟨by rw[if_neg (by omega)],by omega⟩,by rw[if_neg (by omega)]; exact congrArg (fun c=>[some (Blk.mk c true)]) sn⟩
     ·have zi:i≠0:=by omega
      rw[← sn] at pl
      generalize hA:atR l i=A at *
      simp[hlt,hlti,r,k2,p,wn,zi,len,E.append,E.added,Value.oneCell',maxLen,zeros,St.tidy,hbv,pl,Nat.add_assoc,w1']
      exact⟨⟨by omega,by omega⟩,l.length-(i+1),by omega,i+1,by omega,by omega,⟨by rw[if_neg (by omega),show 2 * (i+1)=2 * i+2 by omega],by omega⟩,by rw[if_neg (by omega)]; exact congrArg (fun c=>[some (Blk.mk c true)]) sn⟩
    ·obtain rfl:i=l.length:=by omega
     simp[n0]
     generalize hL:sysA l l.length=L at *
     have lL:L.length=2 * l.length:=by rw[← hL,sysA_len]
     refine wpC_loop (fun q st=>∃ j:Nat,q=l.length-j∧j+1≤l.length∧st=⟨[(3,.pointer (some ⟨h.length,0,none⟩)),(8,i64 (l.length:Int)),(9,.slice (some ⟨h.length+1,0,none⟩) (2 * l.length+2 * j) 3),(12,i64 ((j:Int)+1))],
      h.freeze++[some ⟨[i64 dl,i64 dh],true⟩,some ⟨cB ((L++sysB dl dh j).map iB),true⟩]⟩) l.length (by show l.length<2 ^ 64; omega) ?_ ?_
     ·have pl:=cBi_plain L
      simp[St.tidy,pl]
      exact⟨0,by omega,by omega,⟨by simp,by simp⟩,by simp[sysB]⟩
     ·rintro q hq _ ⟨j,rfl,hj,rfl⟩
      have pl:=cBi_plain (L++sysB dl dh j)
      have d:=O.d
      by_cases hlt:j+1<l.length
      ·have hlti:(j:Int)+1<l.length:=by omega
       have wa:IntKind.wrap .i64 (j:Int)=j:=wrap_eq (by omega) (by omega)
       have wb:IntKind.wrap .i64 ((j:Int)+1+1)=(j:Int)+1+1:=wrap_eq (by omega) (by omega)
       have wn:IntKind.wrap .i64 (-dl)=-dl:=wrap_eq (by omega) (by omega)
       have sn:=sysB_cells L dl dh j
       have pl':=cBi_plain (L++sysB dl dh (j+1))
       rw[← sn] at pl'
       have len:(cB ((L++sysB dl dh j).map iB)).length=(2 * l.length+2 * j) * 3:=by rw[cBi_len,List.length_append,sysB_len,lL]
       generalize cB ((L++sysB dl dh j).map iB)=K at *
       simp[hlti,wa,wb,wn,len,E.append,E.added,Value.oneCell',maxLen,zeros,St.tidy,pl']
       exact⟨⟨by omega,by omega⟩,l.length-(j+1),by omega,j+1,by omega,by omega,⟨by omega,by omega⟩,by rw[← List.map_append]; exact sn⟩
      ·have hlti:¬ (j:Int)+1<l.length:=by omega
       obtain rfl:j=l.length-1:=by omega
       have e1:sysV l.length h.length=.slice (some ⟨h.length,0,none⟩) (2 * l.length+2 * (l.length-1)) 3:=by simp[sysV,n0]
       have e2:sysK l dl dh=[some ⟨cB ((L++sysB dl dh (l.length-1)).map iB),true⟩]:=by simp[sysK,n0,sysL,hL]
       rw[e1,e2]
       generalize cB ((L++sysB dl dh (l.length-1)).map iB)=K at *
       simp[hlti,Int.not_lt.1 hlti,pl]
end Q
end Go.Abs
namespace Go.Abs
namespace Q
set_option maxRecDepth 100000
set_option maxHeartbeats 0
theorem chkS_good {n:Nat} {L:List Bd} (G:Good n L) (h1:1≤n) (h2:n≤60) (hl:L.length≤200):chkS (n:Int) (L.map iB)=0:=by
 have w:within (n:Int) 1 60=true:=by simp[within]; omega
 have ml:(L.map iB).length=L.length:=by simp
 have key:∀ k i,(L.map iB).length-i=k→chkBL (n:Int) (L.map iB) i=0:=by
  intro k
  induction k with
  | zero=>intro i hk; rw[chkBL_ge (by omega)]
  | succ k ih =>
   intro i hk
   rw[chkBL_lt (by omega),ih (i+1) (by omega)]
   have hi:i<L.length:=by omega
   obtain⟨g1,g2,g3,g4⟩:=G.rng i hi
   rw[atB_iB hi]
   generalize L[i]=b at *
   have e1:within ((b.1:Nat):Int) 0 ((n:Int)-1)=true:=by simp[within]; omega
   have e2:within ((b.2.1:Nat):Int) 0 ((n:Int)-1)=true:=by simp[within]; omega
   have e3:within b.2.2 (-1000000000) 1000000000=true:=by simp[within]; omega
   simp[chkB,iB,e1,e2,e3]
 unfold chkS
 rw[if_pos w,if_neg (by omega)]
 exact key _ 0 rfl
end Q
end Go.Abs
namespace Go.Abs
namespace Q
set_option maxRecDepth 100000
set_option maxHeartbeats 0
theorem SlB3_own {h:Heap} {b n:Nat} {L:List Bd} {rw:Bool} (e:h.get b=some ⟨cB (L.map iB),rw⟩) (hn:n=L.length):SlB3 h (.slice (some ⟨b,0,none⟩) n 3) (L.map iB) :=
 Sl_own (f:=encB) (es:=3) (fun _=>rfl) e (by simp[hn])
theorem SlB3_nil (h:Heap):SlB3 h (.slice none 0 0) []:=⟨rfl,rfl,fun q=>absurd rfl q,.inl rfl,fun k hk=>by simp at hk⟩
theorem sysL_len (l:List XR) (dl dh:Int):(sysL l dl dh).length=2 * l.length+2 * (l.length-1):=by simp[sysL,sysA_len,sysB_len]
theorem hi_take {l:List XR} {i:Nat} (h:i<l.length):cI ((hiL l).take i)++[i64 (atR l i).2]=cI ((hiL l).take (i+1)):=by
 rw[List.take_add_one,List.getElem?_eq_getElem (by simp[hiL]; exact h)]
 have:(hiL l)[i]'(by simp[hiL]; exact h)=(atR l i).2:=by simp[hiL,atR,List.getElem?_eq_getElem h]
 rw[this]; simp[cI]
theorem cI_setx' (l:List Int) (i:Nat) (x:Int):(cI l).set i (i64 x)=cI (l.set i x):=by simp[cI,List.map_set]
def smoV (n b:Nat):Value:=if n=0 then .slice none 0 0 else .slice (some ⟨b,0,none⟩) n 1
def smoK (l:List XR) (dl dh:Int):List (Option Blk):=if l.length=0 then [] else [some ⟨cI (smo l dl dh),true⟩]
theorem c58a {d lim:Nat} {h:Heap} {v:Value} {l:List XR} {dl dh:Int} {X:List Int} (s:SlR h v l) (he:lenE l dl dh=0) (ht:tryR (sysL l dl dh) (l.length+1) (l.length+1) 0=some X) :
  E.call (d+4) lim 58 [v,rgV dl dh] h=some (.tuple #[smoV l.length h.length,.slice none 0 0,i64 0],h++smoK l dl dh):=by
 have O:=LenOk.of he
 have G:=good_sys O
 have r:=s.rules2
 have few:=O.few
 have SM:=fun r=>LI.rounds (dl:=dl) (dh:=dh) (o:=hiL l) (H:=fun i=>(atR l i).2) O.d.2.1 (fun i hi=>hiL_get (by simpa [hiL] using hi)) r
 have hlen:(hiL l).length=l.length:=by simp[hiL]
 rw[hlen] at SM
 have k31:=fun lim L=>c126 (d:=d+2) (lim:=lim) (dl:=dl) (dh:=dh) ((Sl_freeze.2 s).app L)
 have sl:=sysL_len l dl dh
 have cs:=chkS_good G (by omega) (by omega) (by rw[sl]; omega)
 have w1n':IntKind.wrap .i64 ((l.length:Int)+1)=((l.length+1:Nat):Int):=by rw[wrap_eq (by omega) (by omega)]; omega
 refine call_pure fn58 rfl (by simp[ef58]) ?_
 rcases Nat.eq_zero_or_pos l.length with hz | hz
 ·have el:l=[]:=List.eq_nil_of_length_eq_zero hz
  subst el
  have k59:=fun lim hh=>c127a (d:=d) (lim:=lim) (SlB3_nil hh) G (by simp) (by simp) (by simp[sysL,sysA,sysB]) cs ht
  simp at k59
  have i1:IntKind.wrap .i64 (0+1)=1:=rfl
  rcases s.low with rfl | ⟨bv,o',m',t',rfl,hbv⟩
  ·simp[ef58,k31,he,sysV,sysK,smoV,smoK,k59,i1]
   rw[wpC_unroll,wpI_step (by simp[E_fuel'])]
   simp[St.tidy]
   rw[wpC_unroll,wpI_step (by simp[E_fuel'])]
   simp[St.tidy]
  ·obtain rfl:m'=0:=by
    have:=s.len
    simpa using this
   simp[ef58,k31,he,sysV,sysK,smoV,smoK,k59,i1]
   rw[wpC_unroll,wpI_step (by simp[E_fuel'])]
   simp[St.tidy,hbv]
   rw[wpC_unroll,wpI_step (by simp[E_fuel'])]
   simp[St.tidy,hbv]
 obtain⟨bv,o',rfl⟩:∃ bv o',v=.slice (some ⟨bv,o',none⟩) l.length 2:=⟨_,_,s.addr (by omega)⟩
 have hbv:=s.lt (by omega)
 simp only[slB_some,slO_some] at r hbv
 have n0:l.length≠0:=by omega
 have gS:∀ L,Heap.get (h.freeze++(some ⟨[i64 dl,i64 dh],true⟩::some ⟨cB ((sysL l dl dh).map iB),true⟩::L)) (h.length+1)=some ⟨cB ((sysL l dl dh).map iB),true⟩:=fun L=>by rw[hget_base (by simp)]; rfl
 have k59:=fun lim L=>c127a (d:=d) (lim:=lim) (SlB3_own (gS L) sl.symm) G (by omega) (by omega) (by rw[sl]; omega) cs ht
 simp at k59
 simp[ef58,k31,he,sysV,sysK,smoV,smoK,n0,w1n',k59,r]
 refine wpC_loop (fun q st=>∃ i,q=l.length-i∧i≤l.length∧st=⟨[(3,.pointer (some ⟨h.length,0,none⟩)),(12,if i=0 then .slice none 0 0 else .slice (some ⟨h.length+1,0,none⟩) i 1),(38,.slice (some ⟨bv,o',none⟩) l.length 2),(39,i64 (l.length:Int)),(40,i64 (i:Nat))],
  h.freeze++(some ⟨[i64 dl,i64 dh],true⟩::if i=0 then [] else [some ⟨cI ((hiL l).take i),true⟩])⟩) l.length (by show l.length<2 ^ 64; omega) ?_ ?_
 ·simp[St.tidy,hbv]
  exact⟨0,by omega,by omega,⟨rfl,rfl⟩,rfl⟩
 ·rintro q hq _ ⟨i,rfl,hi,rfl⟩
  by_cases hlt:i<l.length
  ·have w1':=w1 (i:=i) (by omega)
   simp only[W] at w1'
   have p:=cR_part hlt
   have k2:i * 2+2≤l.length * 2:=by omega
   have hlti:(i:Int)<l.length:=by omega
   have sn:=hi_take hlt
   have pl:=cI_plain ((hiL l).take (i+1))
   have len:(cI ((hiL l).take i)).length=i:=by rw[cI_len,List.length_take,hlen]; omega
   rw[← sn] at pl
   rcases Nat.eq_zero_or_pos i with z | z
   ·subst z
    rw[show cI ((hiL l).take 0)=[] from rfl,List.nil_append] at sn
    generalize hA:atR l 0=A at *
    have pp:=s.part (k:=0) (m:=2) (by omega) (by omega)
    simp only[slB_some,slO_some,Nat.add_zero,List.drop_zero] at pp
    simp only[Nat.zero_mul,List.drop_zero] at p
    rw[p] at pp
    have l0:0<l.length:=by omega
    simp[l0,n0,hlt,hlti,r,k2,pp,E.append,E.added,Value.oneCell',maxLen,zeros,St.tidy,hbv]
    exact⟨l.length-1,by omega,1,by omega,by omega,⟨by rw[if_neg (by omega)],by omega⟩,by rw[if_neg (by omega)]; exact congrArg (fun c=>[some (Blk.mk c true)]) sn⟩
   ·have zi:i≠0:=by omega
    generalize hA:atR l i=A at *
    simp[hlt,hlti,r,k2,p,zi,len,E.append,E.added,Value.oneCell',maxLen,zeros,St.tidy,hbv,pl,Nat.add_assoc,w1']
    exact⟨⟨by omega,by omega⟩,l.length-(i+1),by omega,i+1,by omega,by omega,⟨by rw[if_neg (by omega)],by omega⟩,by rw[if_neg (by omega)]; exact congrArg (fun c=>[some (Blk.mk c true)]) sn⟩
  ·obtain rfl:i=l.length:=by omega
   have tk:(hiL l).take l.length=hiL l:=List.take_of_length_le (by omega)
   have pl:=cI_plain (hiL l)
   simp[n0,tk]
   refine wpC_loop (fun q st=>∃ r:Nat,q=l.length-r∧r≤l.length∧st=⟨[(3,.pointer (some ⟨h.length,0,none⟩)),(12,.slice (some ⟨h.length+1,0,none⟩) l.length 1),(51,i64 (l.length:Int)),(52,i64 (r:Nat))],
    h.freeze++[some ⟨[i64 dl,i64 dh],true⟩,some ⟨cI (rndL dl dh (hiL l) r),true⟩]⟩) l.length (by show l.length<2 ^ 64; omega) ?_ ?_
   ·simp[St.tidy,pl]
    exact⟨0,by omega,by omega,rfl,rfl⟩
   ·rintro q hq _ ⟨m,rfl,hm,rfl⟩
    have pm:=cI_plain (rndL dl dh (hiL l) m)
    by_cases hlt:m<l.length
    ·have wm:=w1 (i:=m) (by omega)
     simp only[W] at wm
     have hlti:(m:Int)<l.length:=by omega
     have L0:=SM m
     simp[hlt,hlti]
     refine wpC_loop (fun q st=>∃ k:Nat,q=l.length-k∧k+1≤l.length∧st=⟨[(3,.pointer (some ⟨h.length,0,none⟩)),(12,.slice (some ⟨h.length+1,0,none⟩) l.length 1),(15,i64 ((k:Int)+1)),(51,i64 (l.length:Int)),(52,i64 (m:Nat))],
      h.freeze++[some ⟨[i64 dl,i64 dh],true⟩,some ⟨cI (passL dl dh (rndL dl dh (hiL l) m) k),true⟩]⟩) l.length (by show l.length<2 ^ 64; omega) ?_ ?_
     ·simp[St.tidy,pm]
      exact⟨0,by omega,by omega,by simp,rfl⟩
     ·rintro q hq _ ⟨k,rfl,hk,rfl⟩
      have Lk:=L0.pass O.d.2.1 k hk
      have bd:=fun {i:Nat} (hi:i<l.length)=>Lk.bd ⟨O.d.1,by have:=O.d; omega⟩ ⟨by have:=O.d; omega,O.d.2.2⟩ (fun i hi=>by have:=O.rng i hi; omega) (by omega) hi
      have pk:=cI_plain (passL dl dh (rndL dl dh (hiL l) m) k)
      have pn:=cI_plain (passL dl dh (rndL dl dh (hiL l) m) (k+1))
      by_cases hk2:k+1<l.length
      ·have b1:=bd hk2
       have b0:=bd (show k<l.length by omega)
       have hki:(k:Int)+1<l.length:=by omega
       have wa:IntKind.wrap .i64 (k:Int)=k:=wrap_eq (by omega) (by omega)
       have wb:IntKind.wrap .i64 ((k:Int)+1+1)=(k:Int)+1+1:=wrap_eq (by omega) (by omega)
       have kt:((k:Int)+1).toNat=k+1:=by omega
       have ki0:(0:Int)≤(k:Int)+1:=by omega
       have ki1:(k:Int)<l.length:=by omega
       have dd:=O.d
       have len:=Lk.len
       rw[passL,stepL] at pn
       generalize hO:passL dl dh (rndL dl dh (hiL l) m) k=o at *
       have c1:=cI_gx (x:=o) (v:=k+1) (by omega)
       have c0:=cI_gx (x:=o) (v:=k) (by omega)
       have wd:IntKind.wrap .i64 (gx o k-dl)=gx o k-dl:=wrap_eq (by omega) (by omega)
       generalize hg1:gx o (k+1)=g1 at *
       generalize hg0:gx o k=g0 at *
       have we:∀ a,a≤300000→-40000000≤a→IntKind.wrap .i64 (a+dh)=a+dh:=fun a h1 h2=>wrap_eq (by omega) (by omega)
       have we':=we (min g1 (g0-dl)) (by omega) (by omega)
       have q1:o[k+1]?=some g1:=by rw[← hg1]; simp[gx,List.getD_eq_getElem?_getD,List.getElem?_eq_getElem (show k+1<o.length by omega)]
       have q0:o[k]?=some g0:=by rw[← hg0]; simp[gx,List.getD_eq_getElem?_getD,List.getElem?_eq_getElem (show k<o.length by omega)]
       have qs:∀ a,(o.set (k+1) a)[k+1]?=some a:=fun a=>by simp[len,hk2]
       have l1:k+1+1≤l.length:=by omega
       have l0:k+1≤l.length:=by omega
       have fin:passL dl dh (rndL dl dh (hiL l) m) (k+1)=(o.set (k+1) (min g1 (g0-dl))).set k (min g0 (min g1 (g0-dl)+dh)):=by rw[passL,hO,stepL,Nat.add_sub_cancel,hg1,hg0]
       simp[hki,Int.not_le.2 hki,kt,ki0,ki1,wa,wb,wd,we',q0,q1,qs,len,l0,l1,cI_setx',St.tidy]
       exact⟨l.length-(k+1),by omega,k+1,by omega,by omega,by omega,by rw[fin]⟩
      ·have hki:¬ (k:Int)+1<l.length:=by omega
       obtain rfl:k=l.length-1:=by omega
       have nx:passL dl dh (rndL dl dh (hiL l) m) (l.length-1)=rndL dl dh (hiL l) (m+1):=by rw[rndL,hlen]
       rw[nx] at pk ⊢
       simp[hki,Int.not_lt.1 hki,wm,St.tidy,pk]
       exact⟨l.length-(m+1),by omega,m+1,by omega,by omega,by omega,rfl⟩
    ·obtain rfl:m=l.length:=by omega
     have e:rndL dl dh (hiL l) l.length=smo l dl dh:=rfl
     rw[e] at pm ⊢
     simp[pm]
end Q
end Go.Abs
namespace Go.Abs
namespace Q
set_option maxRecDepth 100000
set_option maxHeartbeats 0
end Q
end Go.Abs
