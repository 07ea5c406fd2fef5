--
import Derived.Test.YtoloaempiiedgaaGreatDoorAbsQKO
import Derived.Test.YtoloaempiiedgaaGreatDoorAbsQKN
set_option linter.unusedSimpArgs false
set_option linter.unusedVariables false
namespace Go.Abs
namespace Q
set_option maxRecDepth 100000
set_option maxHeartbeats 0
theorem c24 {d lim:Nat} {H:Heap} {v w f gv:Value} {wl:List Wi} {l:List Un} {t:Int} {X:Lm} {G:List Int} (s:SlW H v wl) (q:SlN H w l) (g:SlR H f (mapU (frq t) l)) (p:SlI' H gv G) (O:StOk t wl l) (hG:G.length≤20) (hlim:lim≤H.length) :
  ∃ K,E.call (d+10) lim 24 [knV t v w f,lmV X,gv] H=some (.tuple #[i64 (bstE (fun i=>alR wl t (atN l i) X G) (tgR wl t l X G) G.length l.length 0).1,i64 (bstE (fun i=>alR wl t (atN l i) X G) (tgR wl t l X G) G.length l.length 0).2],H++K):=by
 have key:∃ r H',E.call (d+10) lim 24 [knV t v w f,lmV X,gv] H=some (r,H')∧(r=.tuple #[i64 (bstE (fun i=>alR wl t (atN l i) X G) (tgR wl t l X G) G.length l.length 0).1,i64 (bstE (fun i=>alR wl t (atN l i) X G) (tgR wl t l X G) G.length l.length 0).2]∧∃ K,H'=H++K):=by
  have hp:∀ b,Heap.push H b=H++[some b]:=fun _=>rfl
  obtain⟨ov,K,vs,e18,nl⟩:=c18 (d:=d) (lim:=lim) (X:=X) (s.app [qK t v w f,qL X]) (q.app _) (g.app _) (p.app _) O hG
  obtain⟨B,hB⟩:∃ B:Heap,B=H++(qK t v w f::qL X::K):=⟨_,rfl⟩
  have hB':H++[qK t v w f,qL X]++K=B:=by rw[hB]; simp
  rw[hB'] at e18 nl
  have e3:B.get H.length=some ⟨[i64 t,v,w,f],true⟩:=by rw[hB,hget_base0 rfl]; rfl
  have e4:B.get (H.length+1)=some ⟨[i64 X.lo,i64 X.hi,i64 X.sh,i64 X.jp],true⟩:=by rw[hB,hget_base rfl]; rfl
  have pk3:=fun (M:Heap) o n=>part_get (o:=o) (n:=n) (hget_append (l:=M) e3)
  have pk4:=fun (M:Heap) o n=>part_get (o:=o) (n:=n) (hget_append (l:=M) e4)
  have n90:=O.few
  have sB:SlW B v wl:=hB ▸ s.app _
  have qB':SlN B w l:=hB ▸ q.app _
  have gB:SlR B f (mapU (frq t) l):=hB ▸ g.app _
  have pB':SlI' B gv G:=hB ▸ p.app _
  have rp:=pB'.rules2
  have ro:=nl.sl.rules2
  have w8:=O.w
  obtain⟨A,hA⟩:∃ A:Nat→List Bool,A=fun i=>alR wl t (atN l i) X G:=⟨_,rfl⟩
  obtain⟨tg,htg⟩:∃ tg,tg=tgR wl t l X G:=⟨_,rfl⟩
  obtain⟨m,hm⟩:∃ m,m=G.length:=⟨_,rfl⟩
  have hAi:∀ i,alR wl t (atN l i) X G=A i:=fun i=>by rw[hA]
  have ha:∀ i,(A i).length=m:=fun i=>by rw[hA,alR_len,hm]
  simp only[← htg,← hm,hAi] at nl rp ⊢
  have eA:(fun i=>A i)=A:=rfl
  rw[eA]
  have Sd:∀ i k,i<l.length→k<m→bx (A i) k=true→SdOk wl (cor (atN l i) (gx G k)).sd:=fun i k hi hk hb=>by
   rw[← hAi,bx_al (by omega)] at hb
   unfold alB at hb
   simp only[Bool.and_eq_true,decide_eq_true_eq] at hb
   exact SdOk.of (by unfold chkD; rw[w8]; simpa using hb.1)
  have m20:m≤20:=by omega
  have HK:∀ L,∃ K,B++L=H++K:=fun L=>⟨_,by rw[hB,List.append_assoc]⟩
  generalize hR:bstE A tg m l.length 0=R
  refine full_ex fn24 rfl (by simp[ef24]) ?_
  simp[ef24,hp,e18]
  refine wpC_loop (fun y st=>I24 B H.length gv ov A tg m l.length R y st) l.length (by show l.length<2 ^ 64; omega) ?_ ?_
  ·simp[St.tidy]
   exact⟨⟨0,[],.slice none 0 0,by omega,by omega,.inl ⟨rfl,rfl⟩,hR,by simp⟩⟩
  ·rintro y hy _ ⟨i,L,cv,rfl,hi,co,hR,rfl⟩
   by_cases lt:i<l.length
   ·have lti:(i:Int)<l.length:=by omega
    have w1':=w1 (i:=i) (by omega)
    simp only[W] at w1'
    have g1:8 * (m:Int)≤140737488355328:=by omega
    have g2:(m:Int)≤9223372036854775807:=by omega
    have g0:(0:Int)≤m:=by omega
    have z1:zeros [i64 0] m=cI (List.replicate m 0):=by simp[zeros,cI]
    obtain⟨row,hrow⟩:∃ row,row=refC A tg m i:=⟨_,rfl⟩
    have rl:row.length=m:=by rw[hrow,refC_len]
    have f0:fil 0 row 0=List.replicate m 0:=by rw[fil_0,rl]
    simp[lt,lti,Nat.not_le.2 lt,ro,rp,g0,g1,g2,z1,maxLen]
    refine wpC_loop (fun y st=>I24g B H.length gv ov cv row L i m y st) m (by show m<2 ^ 64; omega) ?_ ?_
    ·simp[St.tidy]
     exact⟨⟨0,by omega,by omega,by rw[f0]; rfl⟩⟩
    ·rintro y hy _ ⟨k,rfl,hk,rfl⟩
     by_cases lt2:k<m
     ·have lti2:(k:Int)<m:=by omega
      have wk:=w1 (i:=k) (by omega)
      simp only[W] at wk
      have a1:=as_get vs lt
      have k80:=fun (M:Heap) lim=>c80 (d:=d+8) (lim:=lim) (x:=(k:Int)) ((nl.row i lt).app M) (by have:=ixR_le (A i) m; omega)
      have mem:decide ((k:Int)∈ixR (A i) m)=bx (A i) k:=by
       rcases e:bx (A i) k with _ | _
       ·exact decide_eq_false fun h=>by have:=(ixR_mem.1 h).2; rw[e] at this; cases this
       ·exact decide_eq_true (ixR_mem.2 ⟨lt2,e⟩)
      rw[mem] at k80
      have fl:(fil 0 row k).length=m:=by rw[fil_len (by omega),rl]
      have na:∀ z,noAddr (i64 z)=true:=fun z=>rfl
      have kr:k<row.length:=by omega
      have rk:row[k]=gx row k:=by simp[gx,kr]
      have fs:=fil_step (z:=(0:Int)) kr
      rw[rk] at fs
      have an1:anyR row (k+1)=(anyR row k || decide (0≤gx row k)):=rfl
      have fk:(fil 0 row (k+1))[k]?=some (gx row k):=by rw[← fs,List.getElem?_set_self (by omega)]
      rcases h1:bx (A i) k with _ | _
      ·rw[h1] at k80
       have e1:gx row k=-1:=by rw[hrow]; exact refC_f lt2 i h1
       rw[e1] at fs an1
       simp at an1
       simp[lt2,lti2,Nat.not_le.2 lt2,ro,rp,lt,lti,a1,k80,wk,St.tidy,lset_right,lset_right0,lget_right,lget_right0,fl,na,cI_set,fs,show k+1≤m by omega]
       exact⟨m-(k+1),by omega,⟨k+1,rfl,by omega,by rw[an1]; rfl⟩⟩
      ·rw[h1] at k80
       have qN:∀ (y:Int) hh,(cI ((fil 0 row k).set k y))[k]'hh=i64 y:=fun y hh=>by
        rw[cI_gxe (by rw[List.length_set,fl]; exact lt2),gxL_set_eq (by omega)]
       have cN:∀ y:Int,(cI ((fil 0 row k).set k y))[k]?=some (i64 y):=fun y=>by
        have:=cI_gx (x:=(fil 0 row k).set k y) (v:=k) (by rw[List.length_set,fl]; exact lt2)
        rw[this,gxL_set_eq (by omega)]
       have lN:∀ y:Int,((fil 0 row k).set k y).length=m:=fun y=>by rw[List.length_set,fl]
       by_cases z:i=0
       ·have e1:gx row k=0:=by rw[hrow,z,refC,refRow_gx lt2,if_pos (by rw[← z]; exact h1),if_pos rfl]
        rw[e1] at fs an1 fk
        have hz:(i=0)=True:=by simp[z]
        have hz2:(0<i)=False:=by simp[z]
        simp[lt2,lti2,Nat.not_le.2 lt2,ro,rp,lt,lti,a1,k80,wk,lset_right,lset_right0,lget_right,lget_right0,fl,na,cI_set,show k+1≤m by omega,hz,qN,cN,lN]
        refine wpC_loop (fun y st=>st=⟨[(2,gv),(3,pB H.length),(4,pB (H.length+1)),(8,ov),(9,cv),(10,i64 (i:Int)),(11,.slice (some ⟨B.length+L.length,0,none⟩) m 1),(12,.bool (anyR row k)),(13,i64 (k:Int)),(14,i64 0)],B++(L++[some ⟨cI ((fil 0 row k).set k 0),true⟩])⟩) 0 (by show 0<2 ^ 64; omega) ?_ ?_
        ·simp[St.tidy]
        ·rintro y hy _ rfl
         have dz:decide (0<(i:Int))=false:=decide_eq_false (by omega)
         rcases ha2:anyR row k with _ | _
         ·rw[ha2] at an1
          simp at an1
          simp[hz2,lt2,lti2,wk,lget_right,lget_right0,fl,fs,fk,cN,qN,lN,St.tidy,show ¬ (0:Int)<i by omega]
          exact⟨m-(k+1),by omega,⟨k+1,rfl,by omega,by rw[an1]; rfl⟩⟩
         ·rw[ha2] at an1
          simp at an1
          simp[hz2,lt2,lti2,wk,lget_right,lget_right0,fl,fs,fk,cN,qN,lN,St.tidy,show ¬ (0:Int)<i by omega]
          exact⟨m-(k+1),by omega,⟨k+1,rfl,by omega,by rw[an1]; rfl⟩⟩
       ·have zp:0<i:=by omega
        have wi:=w1s zp (by omega)
        rcases co with ⟨z2,_⟩ | ⟨j,c,z2,rfl,e⟩
        ·exact absurd z2 z
        have lc:=lget_lt e
        have e1:gx row k=cstH (refC A tg m j) (tg j) k m:=by
         rw[hrow,z2,refC,refRow_gx lt2,if_pos (by rw[← z2]; exact h1),if_neg (by omega)]
        have zi:¬ (i:Int)=0:=by omega
        have zq:(0:Int)<i:=by omega
        have ij:i-1=j:=by omega
        rw[ij] at wi
        obtain⟨prev,hprev⟩:∃ prev,prev=refC A tg m j:=⟨_,rfl⟩
        rw[← hprev] at e1 e
        have pl:prev.length=m:=by rw[hprev,refC_len]
        simp[lt2,lti2,Nat.not_le.2 lt2,ro,rp,lt,lti,a1,k80,wk,lset_right,lset_right0,lget_right,lget_right0,fl,na,cI_set,show k+1≤m by omega,zi,z,qN,cN,lN]
        refine wpC_loop (fun y st=>I24h B H.length gv ov (.slice (some ⟨B.length+c,0,none⟩) m 1) row prev (tg j) L i m k y st) m (by show m<2 ^ 64; omega) ?_ ?_
        ·simp[St.tidy]
         exact⟨⟨0,by omega,by omega,rfl⟩⟩
        ·rintro y hy _ ⟨r,rfl,hr,rfl⟩
         by_cases lt3:r<m
         ·have lti3:(r:Int)<m:=by omega
          have wr:=w1 (i:=r) (by omega)
          simp only[W] at wr
          have cp:=cI_gx (x:=prev) (v:=r) (by omega)
          have qp:=cI_gxe (l:=prev) (k:=r) (by omega)
          have cG:=cI_gx (x:=G) (v:=r) (by omega)
          have qG:=cI_gxe (l:=G) (k:=r) (by omega)
          have cG2:=cI_gx (x:=G) (v:=k) (by omega)
          have qG2:=cI_gxe (l:=G) (k:=k) (by omega)
          have es:cstH prev (tg j) k (r+1)=cstS prev (tg j) k r (cstH prev (tg j) k r):=rfl
          have yb:=cstH_bd (prev:=prev) (tg:=tg j) (b:=1000 * (j:Int)) lt2 (fun h hh=>by rw[hprev]; exact (refC_bd (by omega) j h hh).2) (by omega) r (by omega)
          have pb:=refC_bd (A:=A) (tg:=tg) (m:=m) (by omega) j r lt3
          rw[← hprev] at pb
          have k82:=fun lim hh=>c82 (d:=d+8) (lim:=lim) (h:=hh) (a:=IntKind.wrap .i64 ((k:Int)-r))
          rw[absV_gp (by omega) (by omega)] at k82
          have gb:=gp_bd lt2 lt3
          have wc:IntKind.wrap .i64 (gx prev r+gp k r)=gx prev r+gp k r:=wrap_eq (by omega) (by omega)
          generalize cstH prev (tg j) k r=y0 at *
          unfold cstS at es
          by_cases y1:gx prev r<0
          ·rw[if_neg (by omega)] at es
           simp[zp,zq,lt3,lti3,Nat.not_le.2 lt3,rp,lget_left,lc,e,lgetE e,cp,qp,pl,y1,wr,St.tidy]
           exact⟨m-(r+1),by omega,⟨r+1,rfl,by omega,by rw[es]; rfl⟩⟩
          ·have hb:bx (A j) r=true:=by
            rcases q:bx (A j) r with _ | _
            ·have:=refC_f (tg:=tg) lt3 j q; rw[← hprev] at this; omega
            ·rfl
           have k81:=fun (M:Heap) lim=>c81 (d:=d+2) (lim:=lim) (X:=X) (sB.app M) (qB'.app M) (gB.app M) O (show j+1<l.length by omega) (Sd j r (by omega) lt3 hb) (Sd (j+1) k (by omega) lt2 (by rw[← z2]; exact h1))
           have et:decide (jmp (ten wl t (cor (atN l j) (gx G r))) (ten wl t (cor (atN l (j+1)) (gx G k)))≤X.jp)=tg j r k:=by rw[htg]; rfl
           rw[et] at k81
           rcases ht:tg j r k with _ | _
           ·rw[ht] at k81 es
            rw[if_neg (by simp)] at es
            simp[zp,zq,lt3,lti3,Nat.not_le.2 lt3,rp,lget_left,lc,e,lgetE e,cp,qp,pl,y1,Int.not_lt.1 y1,wr,wi,lt2,lti2,cG,qG,cG2,qG2,pk3,pk4,k81,St.tidy]
            exact⟨m-(r+1),by omega,⟨r+1,rfl,by omega,by rw[es]; rfl⟩⟩
           ·rw[ht] at k81 es
            rw[if_pos ⟨by omega,rfl⟩] at es
            by_cases y2:y0<0
            ·rw[if_pos (.inl y2)] at es
             simp[zp,zq,lt3,lti3,Nat.not_le.2 lt3,rp,lget_left,lget_right,lget_right0,lset_right,lset_right0,lc,e,lgetE e,cp,qp,pl,y1,Int.not_lt.1 y1,wr,wi,lt2,lti2,cG,qG,cG2,qG2,pk3,pk4,k81,k82,wc,qN,cN,lN,cI_set,na,y2,show k+1≤m by omega,St.tidy]
             exact⟨m-(r+1),by omega,⟨r+1,rfl,by omega,by rw[es]; rfl⟩⟩
            ·by_cases y3:gx prev r+gp k r<y0
             ·rw[if_pos (.inr y3)] at es
              simp[zp,zq,lt3,lti3,Nat.not_le.2 lt3,rp,lget_left,lget_right,lget_right0,lset_right,lset_right0,lc,e,lgetE e,cp,qp,pl,y1,Int.not_lt.1 y1,wr,wi,lt2,lti2,cG,qG,cG2,qG2,pk3,pk4,k81,k82,wc,qN,cN,lN,cI_set,na,y2,Int.not_lt.1 y2,y3,show k+1≤m by omega,St.tidy]
              exact⟨m-(r+1),by omega,⟨r+1,rfl,by omega,by rw[es]; rfl⟩⟩
             ·rw[if_neg (fun w=>w.elim y2 y3)] at es
              simp[zp,zq,lt3,lti3,Nat.not_le.2 lt3,rp,lget_left,lget_right,lget_right0,lset_right,lset_right0,lc,e,lgetE e,cp,qp,pl,y1,Int.not_lt.1 y1,wr,wi,lt2,lti2,cG,qG,cG2,qG2,pk3,pk4,k81,k82,wc,qN,cN,lN,cI_set,na,y2,Int.not_lt.1 y2,y3,Int.not_lt.1 y3,show k+1≤m by omega,St.tidy]
              exact⟨m-(r+1),by omega,⟨r+1,rfl,by omega,by rw[es]; rfl⟩⟩
         ·obtain rfl:r=m:=by omega
          rw[← e1,fs]
          rcases ha2:anyR row k with _ | _
          ·rw[ha2] at an1
           simp at an1
           simp[zp,zq,rp,lt2,lti2,wk,lget_right,lget_right0,St.tidy,fk]
           exact⟨r-(k+1),by omega,⟨k+1,rfl,by omega,by rw[an1]; rfl⟩⟩
          ·rw[ha2] at an1
           simp at an1
           simp[zp,zq,rp,lt2,lti2,wk,lget_right,lget_right0,St.tidy,fk]
           exact⟨r-(k+1),by omega,⟨k+1,rfl,by omega,by rw[an1]; rfl⟩⟩
     ·obtain rfl:k=m:=by omega
      have fa:=fil_all (z:=(0:Int)) (l:=row)
      rw[rl] at fa
      rw[bstE_lt lt,← hrow] at hR
      rcases h1:anyR row k with _ | _
      ·rw[h1] at hR
       simp at hR
       subst hR
       simp[rp]
       exact HK _
      ·rw[h1,if_pos rfl] at hR
       simp[rp,St.tidy,w1']
       exact⟨l.length-(i+1),by omega,⟨i+1,_,_,rfl,by omega,.inr ⟨i,L.length,rfl,rfl,by rw[lget_right0 rfl,fa,hrow]; rfl⟩,hR,rfl⟩⟩
   ·obtain rfl:i=l.length:=by omega
    obtain⟨C,hC⟩:∃ C,C=lastC A tg m l.length:=⟨_,rfl⟩
    have sC:SlI' (B++L) cv C:=by
     rcases co with ⟨z,rfl⟩ | ⟨j,c,z,rfl,e⟩
     ·have:C=[]:=by rw[hC]; unfold lastC; rw[if_pos z]
      rw[this]
      exact⟨rfl,rfl,fun q=>absurd rfl q,.inl rfl,fun k hk=>by simp at hk⟩
     ·have e2:C=refC A tg m j:=by rw[hC]; unfold lastC; rw[if_neg (by omega),show l.length-1=j by omega]
      have e3:C.length=m:=by rw[e2,refC_len]
      have:=Sl_one1 (h:=B++L) (b:=B.length+c) (n:=m) (cs:=cI C) (rw:=true) (by rw[hget_base rfl,e,e2]; rfl) (by simp[e3])
      rw[← e3] at this ⊢; exact this
    have Cm:C.length≤20:=by
     rw[hC]; unfold lastC
     split
     ·simp
     ·rw[refC_len]; exact m20
    rw[bstE_ge (by omega),← hC] at hR
    have rC:=sC.rules2
    simp[ro]
    refine wpC_loop (fun y st=>∃ k:Nat,y=C.length-k∧k≤C.length∧st=⟨[(9,cv),(16,i64 (bstF C k)),(17,i64 (k:Int))],B++L⟩) C.length (by show C.length<2 ^ 64; omega) ?_ ?_
    ·simp[St.tidy]
     exact⟨0,by omega,by omega,rfl,rfl⟩
    ·rintro y hy _ ⟨k,rfl,hk,rfl⟩
     by_cases lt2:k<C.length
     ·have lti2:(k:Int)<C.length:=by omega
      have wk:=w1 (i:=k) (by omega)
      simp only[W] at wk
      have c1:=cI_gx lt2
      have q0:=cI_gxe lt2
      have eb:bstF C (k+1)=if 0≤gx C k∧(bstF C k<0∨gx C k<bstF C k) then gx C k else bstF C k:=rfl
      generalize bstF C k=y0 at *
      by_cases y1:0≤gx C k
      ·by_cases y2:y0<0
       ·rw[if_pos ⟨y1,.inl y2⟩] at eb
        simp[lt2,lti2,Nat.not_le.2 lt2,rC,c1,q0,wk,y1,y2,St.tidy]
        exact⟨C.length-(k+1),by omega,k+1,rfl,by omega,by rw[eb],by omega⟩
       ·by_cases y3:gx C k<y0
        ·rw[if_pos ⟨y1,.inr y3⟩] at eb
         simp[lt2,lti2,Nat.not_le.2 lt2,rC,c1,q0,wk,y1,y2,y3,Int.not_lt.1 y2,St.tidy]
         exact⟨C.length-(k+1),by omega,k+1,rfl,by omega,by rw[eb],by omega⟩
        ·rw[if_neg (fun z=>z.2.elim y2 y3)] at eb
         simp[lt2,lti2,Nat.not_le.2 lt2,rC,c1,q0,wk,y1,y2,y3,Int.not_lt.1 y2,Int.not_lt.1 y3,St.tidy]
         exact⟨C.length-(k+1),by omega,k+1,rfl,by omega,by rw[eb],by omega⟩
      ·rw[if_neg (fun z=>y1 z.1)] at eb
       simp[lt2,lti2,Nat.not_le.2 lt2,rC,c1,q0,wk,y1,Int.not_le.1 y1,St.tidy]
       exact⟨C.length-(k+1),by omega,k+1,rfl,by omega,by rw[eb],by omega⟩
     ·obtain rfl:k=C.length:=by omega
      subst hR
      simp[rC]
      exact HK _
 obtain⟨_,_,e,rfl,K,rfl⟩:=key
 exact⟨K,e⟩
end Q
end Go.Abs
namespace Go.Abs
namespace Q
set_option maxRecDepth 100000
set_option maxHeartbeats 0
section
variable {A:Nat→List Bool} {P:Nat→List XR} {jp:Int} {m n:Nat}
theorem pg_last:pg A P jp m (n+1) n=(lsI (A n) (potR A P jp m n) m).toNat:=by
 unfold pg
 rw[show n+1-1-n=0 by omega]; rfl
theorem pg_step {j:Nat} (h:j<n):pg A P jp m (n+1) j=nxA (potR A P jp m j) (potR A P jp m (j+1)) (togB A P jp j) m (pg A P jp m (n+1) (j+1)):=by
 unfold pg
 obtain⟨r,hr⟩:∃ r,n+1-1-j=r+1:=⟨n-1-j,by omega⟩
 rw[hr,show n+1-1-(j+1)=r by omega,pq,show n+1-2-r=j by omega,show n+1-1-r=j+1 by omega]
theorem pg_ok (ha:∀ i,i<n+1→(A i).length=m) (hm:m≤1000) (hb:badR A P jp m n=false) {j:Nat} (h:j<n+1):pg A P jp m (n+1) j<m :=
 (pq_ok (P:=P) (jp:=jp) ha hm (by rwa [Nat.add_sub_cancel]) (n+1-1-j) (by omega)).1
def glS (A:Nat→List Bool) (P:Nat→List XR) (jp:Int) (m n k:Nat):List Int:=(List.range n).map fun j=>if k≤j then (pg A P jp m n j:Int) else 0
theorem glS_len {k:Nat}:(glS A P jp m n k).length=n:=by simp[glS]
theorem glS_gx {k j:Nat} (h:j<n):gx (glS A P jp m n k) j=if k≤j then (pg A P jp m n j:Int) else 0:=by simp[glS,gx,h]
theorem glS_set {j:Nat} (h:j<n):(glS A P jp m n (j+1)).set j (pg A P jp m n j:Int)=glS A P jp m n j:=by
 apply List.ext_getElem?
 intro q
 by_cases e:q=j
 ·subst e; rw[List.getElem?_set_self (by rw[glS_len]; exact h)]; simp[glS,h]
 ·rw[List.getElem?_set_ne (Ne.symm e)]
  by_cases l:q<n
  ·simp only[glS,List.getElem?_map,List.getElem?_range l,Option.map]
   by_cases z:j≤q
   ·rw[if_pos (by omega),if_pos z]
   ·rw[if_neg (by omega),if_neg z]
  ·simp[glS,l]
theorem glS_n:glS A P jp m n n=List.replicate n 0:=by
 apply List.ext_getElem?
 intro q
 by_cases l:q<n
 ·simp only[glS,List.getElem?_map,List.getElem?_range l,Option.map,List.getElem?_replicate,if_pos l]
  rw[if_neg (by omega)]
 ·simp[glS,l]
theorem glS_0 {j:Nat} (h:j<n) (z:pg A P jp m n j=0):glS A P jp m n (j+1)=glS A P jp m n j:=by
 apply List.ext_getElem?
 intro q
 by_cases l:q<n
 ·simp only[glS,List.getElem?_map,List.getElem?_range l,Option.map]
  by_cases e:q=j
  ·subst e; rw[if_neg (by omega),if_pos (Nat.le_refl _),z]; rfl
  ·by_cases z2:j≤q
   ·rw[if_pos (by omega),if_pos z2]
   ·rw[if_neg (by omega),if_neg z2]
 ·simp[glS,l]
end
theorem slKeep {es:Nat} {H:Heap} {L M:List (Option Blk)} {c0:Nat} {x:Option Blk} {v:Value} {n:Nat} {cs:List Value} (s:Sl es (H++L) v n cs) (h:n≠0→H.length+c0<slB v):Sl es (H++(L.set c0 x++M)) v n cs:=by
 refine⟨s.len,s.size,s.addr,?_,fun k hk=>?_⟩
 ·rcases s.low with e | ⟨b,o,m,t,e,hb⟩
  ·exact .inl e
  ·exact .inr ⟨b,o,m,t,e,by simp only[List.length_append,List.length_set] at hb ⊢; omega⟩
 ·have hn:n≠0:=fun e=>by subst e; simp at hk
  have h1:=h hn
  have h2:=s.lt hn
  rw[← s.cell k hk]
  obtain⟨c,hc⟩:∃ c,slB v=H.length+c:=⟨slB v-H.length,by omega⟩
  rw[List.length_append] at h2
  unfold Heap.cell
  rw[hc,hget_base rfl,hget_base rfl,lget_left (by rw[List.length_set]; omega),List.getElem?_set_ne (by omega)]
def choS (A:Nat→List Bool) (P:Nat→List XR) (jp:Int) (m n:Nat) (e:Int) (h:Heap) (ga po:Value) (c e':Int):Prop :=
 if e≠0∨n=0 then ga=.slice none 0 0∧po=.slice none 0 0∧c=0∧e'=e
 else if fsN (badR A P jp m) n 0<n then ga=.slice none 0 0∧po=.slice none 0 0∧c=(fsN (badR A P jp m) n 0:Int)∧e'=12
 else SlI' h ga (glS A P jp m n 0)∧(∃ vs,NL h po n vs (potR A P jp m))∧c=gx (potR A P jp m (n-1)) (pg A P jp m n (n-1))∧e'=0
theorem c23 {d lim:Nat} {H:Heap} {v w gv:Value} {wl:List Wi} {l:List Un} {t:Int} {X:Lm} {G:List Int} (sp:Pr H) (s:SlW H v wl) (q:SlN H w l) (p:SlI' H gv G) (hwl:wl.length≤1000) (hnm:Nms wl) (hlim:lim≤H.length) :
  ∃ ga po c e' K,E.call (d+10) lim 23 [stV t v w,lmV X,gv] H=some (.tuple #[.agg #[ga,po],i64 c,i64 e'],H++K) ∧
   choS (fun i=>alR wl t (atN l i) X G) (fun i=>plR wl t (atN l i) G) X.jp G.length l.length (erA t wl l X G) (H++K) ga po c e':=by
 have key:∃ r h',E.call (d+10) lim 23 [stV t v w,lmV X,gv] H=some (r,h')∧∃ ga po c e' K,r=.tuple #[.agg #[ga,po],i64 c,i64 e']∧h'=H++K ∧
   choS (fun i=>alR wl t (atN l i) X G) (fun i=>plR wl t (atN l i) G) X.jp G.length l.length (erA t wl l X G) (H++K) ga po c e':=by
  have hp:∀ b,Heap.push H b=H++[some b]:=fun _=>rfl
  obtain⟨M3,hM3⟩:∃ M3:List (Option Blk),M3=[some ⟨[i64 t,v,w],true⟩,some ⟨[i64 X.lo,i64 X.hi,i64 X.sh,i64 X.jp],true⟩,some ⟨[.slice none 0 0,.slice none 0 0],true⟩]:=⟨_,rfl⟩
  obtain⟨pv,K1,e62,p1,p2⟩:=c62 (d:=d) (lim:=lim) (t:=t) (X:=X) (sp.app M3) (s.app M3) (q.app M3) (p.app M3) hwl hnm (by rw[List.length_append]; omega)
  have rq:=(q.app (M3++K1)).rules2
  obtain⟨A,hA⟩:∃ A:Nat→List Bool,A=fun i=>alR wl t (atN l i) X G:=⟨_,rfl⟩
  obtain⟨Pl,hPl⟩:∃ Pl:Nat→List XR,Pl=fun i=>plR wl t (atN l i) G:=⟨_,rfl⟩
  simp only[← hA,← hPl] at p2 ⊢
  obtain⟨er,her⟩:∃ er,er=erA t wl l X G:=⟨_,rfl⟩
  rw[← her] at e62 p1 p2 ⊢
  refine full_ex fn23 rfl (by simp[ef23]) ?_
  rw[hM3] at e62
  simp only[List.append_assoc] at e62 rq
  by_cases q1:er=0
  ·obtain⟨b,rfl,g⟩:=p2 q1
   subst q1
   by_cases q2:l.length=0
   ·simp[ef23,hp,e62,rq,q2,show noAddr (Value.slice none 0 0)=true from rfl]
    exact⟨_,_,_,_,⟨⟨rfl,rfl⟩,rfl,rfl⟩,by unfold choS; rw[if_pos (.inr rfl)]; exact⟨rfl,rfl,rfl,rfl⟩⟩
   ·have O:=StOk.of (erA_parts her.symm).1
    have n90:=O.few
    have g20:=(ggE_0 (erA_parts her.symm).2.2).2
    obtain⟨n,hn⟩:∃ n,l.length=n+1:=⟨l.length-1,by omega⟩
    obtain⟨m,hm⟩:∃ m,m=G.length:=⟨_,rfl⟩
    have ha:∀ i,(A i).length=m:=fun i=>by rw[hA,alR_len,hm]
    have hpl:∀ i,(Pl i).length=m:=fun i=>by rw[hPl,plR_len,hm]
    rw[hn] at g rq n90 ⊢
    rw[← hm] at g20 ⊢
    obtain⟨po,K2,vs,e76,nl,rb,ob⟩:=c76 (d:=d+5) (lim:=lim) g (by omega) (fun i _=>ha i) (fun i _=>hpl i) (by omega) (by simp only[List.length_append]; omega)
    obtain⟨B,hB⟩:∃ B:Heap,B=H++M3++K1++K2:=⟨_,rfl⟩
    have gB:GD B b (n+1) A Pl X.jp:=hB ▸ g.app K2
    rw[← hB] at nl e76
    obtain⟨L,hL⟩:∃ L,L=M3++K1++K2:=⟨_,rfl⟩
    have hBL:B=H++L:=by rw[hB,hL]; simp
    have e2:L[2]?=some (some ⟨[.slice none 0 0,.slice none 0 0],true⟩):=by rw[hL,hM3]; rfl
    have l2:=lget_lt e2
    have BL:B.length=H.length+L.length:=by rw[hBL,List.length_append]
    have PB:∀ M x,Heap.put (B++M) (H.length+2) x=H++(L.set 2 x++M):=fun M x=>by
     rw[hBL,List.append_assoc,hput_base rfl,List.set_append_left _ _ l2]
    have PB0:∀ x,Heap.put B (H.length+2) x=H++L.set 2 x:=fun x=>by rw[hBL,hput_base rfl]
    have e3:B.get (H.length+2)=some ⟨[.slice none 0 0,.slice none 0 0],true⟩:=by rw[hBL,hget_base rfl,e2]; rfl
    have s2:∀ x,(L.set 2 x)[2]?=some x:=fun x=>List.getElem?_set_self l2
    have s2':∀ x hh,(L.set 2 x)[2]'hh=x:=fun x hh=>lgetE (s2 x) hh
    have ro:=nl.sl.rules2
    have hpo:=nl.sl.addr (by omega)
    have pc:po.cells=#[po]:=by rw[hpo]; rfl
    have lc:=pc
    simp only[Value.cells] at lc
    have po1:Value.oneCell' po=true:=by rw[hpo]; rfl
    simp only[Value.oneCell'] at po1
    have glB:∀ k,lim≤B.length+k:=fun k=>by omega
    have g1:8 * ((n:Int)+1)≤140737488355328:=by omega
    have g2:(n:Int)+1≤9223372036854775807:=by omega
    have g0:(0:Int)≤(n:Int)+1:=by omega
    have z1:zeros [i64 0] (n+1)=cI (glS A Pl X.jp m (n+1) (n+1)):=by rw[glS_n]; simp[zeros,cI]
    have hpB:∀ b,Heap.push B b=B++[some b]:=fun _=>rfl
    have nn:noAddr (Value.slice none 0 0)=true:=rfl
    have k77:=fun (M:Heap) lim i hi=>c77 (d:=d+8) (lim:=lim) (i:=i) (gB.app M) ((nl.row i hi).app M) hi (by rw[ha,potR_len (n:=n+1) (fun i _=>ha i) i hi]) (by rw[potR_len (n:=n+1) (fun i _=>ha i) i hi]; omega)
    have k77f:=fun (M:Heap) lim i hi=>c77 (d:=d+8) (lim:=lim) (i:=i) (gB.app M).frz (Sl_freeze.2 ((nl.row i hi).app M)) hi (by rw[ha,potR_len (n:=n+1) (fun i _=>ha i) i hi]) (by rw[potR_len (n:=n+1) (fun i _=>ha i) i hi]; omega)
    have wn:IntKind.wrap .i64 (n:Int)=n:=wrap_eq (by omega) (by omega)
    have na:∀ z,noAddr (i64 z)=true:=fun z=>rfl
    have pl:∀ i,i<n+1→(potR A Pl X.jp m i).length=m:=fun i hi=>potR_len (n:=n+1) (fun i _=>ha i) i hi
    rw[hM3] at e76
    simp only[List.append_assoc,List.cons_append,List.nil_append] at e76
    generalize hR0:fsN (badR A Pl X.jp m) (n+1) 0=R
    simp[ef23,hp,e62,rq,e76,ro]
    refine wpC_loop (fun y st=>∃ i:Nat,y=n+1-i∧i≤n+1∧fsN (badR A Pl X.jp m) (n+1) i=R∧st=⟨[(6,pB (H.length+2)),(9,pB b),(11,po),(39,po),(40,i64 ((n:Int)+1)),(41,i64 (i:Int))],B⟩) (n+1) (by show n+1<2 ^ 64; omega) ?_ ?_
    ·simp[St.tidy,ro]
     exact⟨0,by omega,by omega,hR0,rfl⟩
    ·rintro y hy _ ⟨i,rfl,hi,hR,rfl⟩
     by_cases lt:i<n+1
     ·have lti:(i:Int)<(n:Int)+1:=by omega
      have w1':=w1 (i:=i) (by omega)
      simp only[W] at w1'
      have a1:=as_get vs lt
      have k77i:=fun lim=>k77 [] lim i lt
      rw[List.append_nil,pl i lt] at k77i
      rw[fsN_lt lt] at hR
      by_cases bad:lsI (A i) (potR A Pl X.jp m i) m<0
      ·have bd:badR A Pl X.jp m i=true:=decide_eq_true bad
       rw[if_pos bd] at hR
       subst hR
       simp[lt,lti,Nat.not_le.2 lt,ro,a1,k77i,bad,PB0,e3,s2,s2',l2,nn]
       exact⟨_,_,_,_,⟨⟨rfl,rfl⟩,rfl,rfl⟩,by unfold choS; rw[if_neg (by simp),if_pos (by rw[hR0]; exact lt),hR0]; exact⟨rfl,rfl,rfl,rfl⟩⟩
      ·have bd:badR A Pl X.jp m i=false:=decide_eq_false bad
       rw[if_neg (by rw[bd]; decide)] at hR
       simp[lt,lti,Nat.not_le.2 lt,ro,a1,k77i,bad,Int.not_lt.1 bad,w1',St.tidy]
       exact⟨n+1-(i+1),by omega,i+1,rfl,by omega,hR,rfl⟩
     ·obtain rfl:i=n+1:=by omega
      rw[fsN_ge (by omega)] at hR
      subst hR
      have nb:∀ j,j<n+1→badR A Pl X.jp m j=false:=fun j hj=>by
       have:=(fsN_spec (p:=badR A Pl X.jp m) (n:=n+1) (n+1) 0 rfl (Nat.zero_le _)).2.2.2 j (Nat.zero_le _)
       rw[hR0] at this
       exact this hj
      have nbn:=of_decide_eq_false (nb n (by omega))
      have lsn:lsI (A n) (potR A Pl X.jp m n) m=(pg A Pl X.jp m (n+1) n:Int):=by rw[pg_last]; omega
      have pgm:∀ j,j<n+1→pg A Pl X.jp m (n+1) j<m:=fun j hj=>pg_ok (fun i _=>ha i) (by omega) (nb n (by omega)) hj
      have k77n:=fun (M:Heap) lim=>k77f M lim n (by omega)
      simp only[pl n (by omega),lsn] at k77n
      have an:=as_get vs (show n<n+1 by omega)
      have fs:=glS_set (A:=A) (P:=Pl) (jp:=X.jp) (m:=m) (show n<n+1 by omega)
      have w2:IntKind.wrap .i64 ((n:Int)-1)=(n:Int)-1:=wrap_eq (by omega) (by omega)
      have gln:(glS A Pl X.jp m (n+1) (n+1)).length=n+1:=glS_len
      simp[ro,wn,g0,g1,g2,z1,maxLen,lc,hpB,po1,glB,nn,an,k77n,lget_right,lget_right0,lset_right,lset_right0,cI_set,fs,na,gln,w2,show (n:Int)<(n:Int)+1 by omega]
      refine wpC_loop (fun y st=>∃ k:Nat,y=k∧k≤n∧st=⟨[(6,pB (H.length+2)),(9,pB b),(11,po),(14,i64 (n:Int)),(15,pB (B.length+1)),(16,i64 ((k:Int)-1))],B++[some ⟨cI (glS A Pl X.jp m (n+1) k),true⟩,some ⟨[.slice (some ⟨B.length,0,none⟩) (n+1) 1,po],true⟩]⟩) n (by show n<2 ^ 64; omega) ?_ ?_
      ·simp[St.tidy]
      ·rintro k hy _ ⟨_,rfl,hk,rfl⟩
       rcases k with _ | j
       ·have rn:=(nl.row n (by omega)).rules2
        rw[pl n (by omega)] at rn
        have gn:gx (glS A Pl X.jp m (n+1) 0) n=(pg A Pl X.jp m (n+1) n:Int):=by rw[glS_gx (by omega),if_pos (by omega)]
        have cg:=cI_gx (x:=glS A Pl X.jp m (n+1) 0) (v:=n) (by rw[glS_len]; omega)
        have qg:=cI_gxe (l:=glS A Pl X.jp m (n+1) 0) (k:=n) (by rw[glS_len]; omega)
        rw[gn] at cg qg
        have gl0:(glS A Pl X.jp m (n+1) 0).length=n+1:=glS_len
        have zm:=pgm n (by omega)
        have cp:=cI_gx (x:=potR A Pl X.jp m n) (v:=pg A Pl X.jp m (n+1) n) (by rw[pl n (by omega)]; exact zm)
        have qp:=cI_gxe (l:=potR A Pl X.jp m n) (k:=pg A Pl X.jp m (n+1) n) (by rw[pl n (by omega)]; exact zm)
        have rbn:=rb n (by omega)
        have obn:=ob (by omega)
        have M3l:M3.length=3:=by rw[hM3]; rfl
        simp only[List.length_append,M3l] at rbn obn
        have n1:¬ H.length+2=slB (vs n):=by omega
        have n2:¬ H.length+2=slB po:=by omega
        have n3:¬ H.length+2=B.length:=by omega
        have n4:¬ H.length+1=B.length:=by omega
        have s3:∀ x M,(L.set 2 x++M)[2]?=some x:=fun x M=>by rw[lget_left (by rw[List.length_set]; exact l2),s2]
        have glH:lim≤H.length+2:=by omega
        have zmi:(pg A Pl X.jp m (n+1) n:Int)<m:=by omega
        generalize hz:pg A Pl X.jp m (n+1) n=z at *
        simp[ro,an,rn,lget_right,lget_right0,gl0,cg,qg,cp,qp,n1,n2,n3,n4,s3,glH,zm,zmi,hget_append e3,PB,KOp_eq,Log.clash,po1,lc,show (n:Int)<(n:Int)+1 by omega]
        refine⟨_,_,_,_,⟨⟨rfl,rfl⟩,rfl,rfl⟩,?_⟩
        unfold choS
        rw[if_neg (by simp),if_neg (by omega)]
        refine⟨?_,⟨vs,?_⟩,by rw[Nat.add_sub_cancel,hz],rfl⟩
        ·have:=Sl_one1 (h:=H++(L.set 2 (some ⟨[.slice (some ⟨B.length,0,none⟩) (n+1) 1,po],true⟩)++[some ⟨cI (glS A Pl X.jp m (n+1) 0),true⟩,some ⟨[.slice (some ⟨B.length,0,none⟩) (n+1) 1,po],true⟩])) (b:=B.length) (n:=n+1) (cs:=cI (glS A Pl X.jp m (n+1) 0)) (rw:=true) (by rw[BL,hget_base rfl,lget_right0 (by simp)]; rfl) (by simp[gl0])
         have e:=gl0
         unfold SlI'
         rw[e]
         exact this
        ·rw[hBL] at nl
         refine⟨slKeep nl.sl fun _=>by omega,fun i hi=>slKeep (nl.row i hi) fun _=>?_⟩
         have:=rb i hi
         simp only[List.length_append,M3l] at this
         omega
       ·have jn:j<n+1:=by omega
        have jn1:j+1<n+1:=by omega
        have jni:(j:Int)<(n:Int)+1:=by omega
        have jni1:(j:Int)+1<(n:Int)+1:=by omega
        have aj:=as_get vs jn
        have ak:=as_get vs jn1
        have r3:=(nl.row j jn).rules2
        have r4:=(nl.row (j+1) jn1).rules2
        rw[pl j jn] at r3
        rw[pl (j+1) jn1] at r4
        have wj:=w1 (i:=j) (by omega)
        simp only[W] at wj
        have zm:=pgm (j+1) jn1
        have ps:=pg_step (A:=A) (P:=Pl) (jp:=X.jp) (m:=m) (show j<n by omega)
        have gj:gx (glS A Pl X.jp m (n+1) (j+1)) (j+1)=(pg A Pl X.jp m (n+1) (j+1):Int):=by rw[glS_gx jn1,if_pos (Nat.le_refl _)]
        have cg:=cI_gx (x:=glS A Pl X.jp m (n+1) (j+1)) (v:=j+1) (by rw[glS_len]; exact jn1)
        have qg:=cI_gxe (l:=glS A Pl X.jp m (n+1) (j+1)) (k:=j+1) (by rw[glS_len]; exact jn1)
        rw[gj] at cg qg
        have glj:(glS A Pl X.jp m (n+1) (j+1)).length=n+1:=glS_len
        have fsj:=glS_set (A:=A) (P:=Pl) (jp:=X.jp) (m:=m) jn
        have fs0:=glS_0 (A:=A) (P:=Pl) (jp:=X.jp) (m:=m) jn
        generalize pg A Pl X.jp m (n+1) (j+1)=z at *
        unfold nxA at ps
        generalize hQ:fsN (nxB (potR A Pl X.jp m j) (potR A Pl X.jp m (j+1)) (togB A Pl X.jp j) z) m 0=Q at *
        simp[lget_right,lget_right0,glj,cg,qg,wj,jn,jni,jn1,jni1,ro,aj,ak,r3,r4]
        refine⟨by omega,?_⟩
        refine wpC_loop (fun y st=>∃ a:Nat,y=m-a∧a≤m∧fsN (nxB (potR A Pl X.jp m j) (potR A Pl X.jp m (j+1)) (togB A Pl X.jp j) z) m a=Q∧st=⟨[(6,pB (H.length+2)),(9,pB b),(11,po),(14,i64 (n:Int)),(15,pB (B.length+1)),(16,i64 (j:Int)),(17,i64 (z:Int)),(88,vs j),(89,i64 (m:Int)),(90,i64 (a:Int))],B++[some ⟨cI (glS A Pl X.jp m (n+1) (j+1)),true⟩,some ⟨[.slice (some ⟨B.length,0,none⟩) (n+1) 1,po],true⟩]⟩) m (by show m<2 ^ 64; omega) ?_ ?_
        ·simp[St.tidy]
         exact⟨0,by omega,by omega,hQ,rfl⟩
        ·rintro y hy _ ⟨a,rfl,hi,hQ2,rfl⟩
         have jz:(0:Int)≤(j:Int)+1:=by omega
         have tj:IntKind.wrap .i64 ((j:Int)-1)=(j:Int)-1:=wrap_eq (by omega) (by omega)
         by_cases lta:a<m
         ·have ltai:(a:Int)<m:=by omega
          have zmi:(z:Int)<m:=by omega
          have wa:=w1 (i:=a) (by omega)
          simp only[W] at wa
          have cp:=cI_gx (x:=potR A Pl X.jp m j) (v:=a) (by rw[pl j jn]; exact lta)
          have qp:=cI_gxe (l:=potR A Pl X.jp m j) (k:=a) (by rw[pl j jn]; exact lta)
          have cp1:=cI_gx (x:=potR A Pl X.jp m (j+1)) (v:=z) (by rw[pl (j+1) jn1]; exact zm)
          have qp1:=cI_gxe (l:=potR A Pl X.jp m (j+1)) (k:=z) (by rw[pl (j+1) jn1]; exact zm)
          have k78:=fun (M:Heap) lim=>c78 (d:=d+7) (lim:=lim) (i:=j) (x:=a) (y:=z) (gB.app M) (by omega) (by omega) (fun i _=>ha i) (fun i _=>hpl i) lta zm
          have k78f:=fun (M:Heap) lim=>c78 (d:=d+7) (lim:=lim) (i:=j) (x:=a) (y:=z) (gB.app M).frz (by omega) (by omega) (fun i _=>ha i) (fun i _=>hpl i) lta zm
          have k79:=fun lim hh a b=>c79 (d:=d+8) (lim:=lim) (h:=hh) (a:=a) (b:=b)
          rw[fsN_lt lta] at hQ2
          have nxe:nxB (potR A Pl X.jp m j) (potR A Pl X.jp m (j+1)) (togB A Pl X.jp j) z a=(togB A Pl X.jp j a z && decide (IntKind.wrap .i64 (gx (potR A Pl X.jp m j) a+gapV a z)=gx (potR A Pl X.jp m (j+1)) z)):=rfl
          rcases ht:togB A Pl X.jp j a z with _ | _
          ·rw[ht] at k78 k78f nxe
           rw[if_neg (by rw[nxe]; simp)] at hQ2
           simp[lta,ltai,Nat.not_le.2 lta,r3,cp,qp,k78,k78f,wa,St.tidy]
           exact⟨m-(a+1),by omega,a+1,rfl,by omega,hQ2,rfl⟩
          ·rw[ht] at k78 k78f nxe
           by_cases hw:IntKind.wrap .i64 (gx (potR A Pl X.jp m j) a+gapV a z)=gx (potR A Pl X.jp m (j+1)) z
           ·rw[if_pos (by rw[nxe]; simpa using hw)] at hQ2
            subst hQ2
            rw[if_pos lta] at ps
            rw[ps] at fsj
            simp[lta,ltai,Nat.not_le.2 lta,r3,r4,ro,aj,ak,wj,jn,jni,jn1,jni1,jz,zm,zmi,cp,qp,cp1,qp1,k78,k78f,k79,hw,wa,lget_right,lget_right0,lset_right,lset_right0,cI_set,glj,na,glB,fsj,tj,KOp_eq,Log.clash,St.tidy]
            exact⟨by omega,j,by omega,by omega,rfl,rfl⟩
           ·rw[if_neg (by rw[nxe]; simpa using hw)] at hQ2
            simp[lta,ltai,Nat.not_le.2 lta,r3,r4,ro,aj,ak,wj,jn,jni,jn1,jni1,jz,zm,zmi,cp,qp,cp1,qp1,k78,k78f,k79,hw,wa,KOp_eq,Log.clash,St.tidy]
            exact⟨m-(a+1),by omega,a+1,rfl,by omega,hQ2,rfl⟩
         ·obtain rfl:a=m:=by omega
          rw[fsN_ge (by omega)] at hQ2
          subst hQ2
          rw[if_neg (by omega)] at ps
          rw[fs0 ps]
          simp[tj,St.tidy]
          exact⟨j,by omega,by omega,rfl,rfl⟩
  ·simp[ef23,hp,e62,q1,show noAddr (Value.slice none 0 0)=true from rfl]
   exact⟨_,_,_,_,⟨⟨rfl,rfl⟩,rfl,rfl⟩,by unfold choS; rw[if_pos (.inl q1)]; exact⟨rfl,rfl,rfl,rfl⟩⟩
 obtain⟨_,_,e,ga,po,c,e',K,rfl,rfl,h⟩:=key
 exact⟨ga,po,c,e',K,e,h⟩
end Q
end Go.Abs
namespace Go.Abs
namespace Q
set_option maxRecDepth 100000
set_option maxHeartbeats 0
theorem gp_comm (a b:Nat):gp a b=gp b a:=by unfold gp; omega
theorem c73 {d lim:Nat} {h:Heap} {v w f gv cv:Value} {wl:List Wi} {l:List Un} {t:Int} {X:Lm} {G C:List Int} (s:SlW h v wl) (q:SlN h w l) (g:SlR h f (mapU (frq t) l)) (p:SlI' h gv G) (sc:SlI' h cv C) (O:StOk t wl l) (hG:G.length≤20) (hC:C.length≤l.length) :
  E.call (d+9) lim 73 [knV t v w f,lmV X,gv,cv] h=some (.tuple #[i64 (pcE (fun i=>alR wl t (atN l i) X G) (tgR wl t l X G) G.length C 0 0).1,i64 (pcE (fun i=>alR wl t (atN l i) X G) (tgR wl t l X G) G.length C 0 0).2],h):=by
 have n90:=O.few
 have w8:=O.w
 have rs:=s.rules2
 have rq:=q.rules2
 have rg:=g.rules2
 have rp:=p.rules2
 have rc:=sc.rules2
 have so:=s.own
 have qo:=q.own
 have go:=g.own
 have po:=p.own
 have co:=sc.own
 obtain⟨A,hA⟩:∃ A:Nat→List Bool,A=fun i=>alR wl t (atN l i) X G:=⟨_,rfl⟩
 obtain⟨tg,htg⟩:∃ tg,tg=tgR wl t l X G:=⟨_,rfl⟩
 obtain⟨m,hm⟩:∃ m,m=G.length:=⟨_,rfl⟩
 have hAi:∀ i,alR wl t (atN l i) X G=A i:=fun i=>by rw[hA]
 have Sd:∀ i k,i<l.length→k<m→bx (A i) k=true→SdOk wl (cor (atN l i) (gx G k)).sd:=fun i k hi hk hb=>by
  rw[← hAi,bx_al (by omega)] at hb
  unfold alB at hb
  simp only[Bool.and_eq_true,decide_eq_true_eq] at hb
  exact SdOk.of (by unfold chkD; rw[w8]; simpa using hb.1)
 have k65:=fun (M:Heap) lim i c hi=>c65 (d:=d) (lim:=lim) (i:=i) (L:=X) (c:=c) ((Sl_freeze.2 s).app M) ((Sl_freeze.2 q).app M) ((Sl_freeze.2 g).app M) O hi O.w
 have al:∀ i x,x<m→alB wl t (atN l i) X (gx G x)=bx (A i) x:=fun i x hx=>by rw[← hAi,bx_al (by omega)]
 rw[← hA,← htg,← hm]
 rw[← hm] at rp hG
 have wm:IntKind.wrap .i64 ((m:Int)-1)=(m:Int)-1:=wrap_eq (by omega) (by omega)
 have k74:=fun lim hh a b c=>c74 (d:=d+7) (lim:=lim) (h:=hh) (a:=a) (b:=b) (c:=c)
 refine call1 fn73 rfl (by simp[ef73]) ?_
 generalize hR:pcE A tg m C 0 0=R
 simp[ef73,rc]
 refine wpC_loop (fun y st=>∃ (i:Nat) (cost:Int),y=C.length-i∧i≤C.length∧0≤cost∧cost≤1000 * i∧pcE A tg m C i cost=R∧(∀ j,j<i→∃ x:Nat,gx C j=x∧x<m∧bx (A j) x=true) ∧
  st=⟨[(2,gv),(3,cv),(4,pB h.length),(5,pB (h.length+1)),(10,i64 cost),(11,i64 (i:Int))],h.freeze++[some ⟨[i64 t,v,w,f],true⟩,some ⟨[i64 X.lo,i64 X.hi,i64 X.sh,i64 X.jp],true⟩]⟩) C.length (by show C.length<2 ^ 64; omega) ?_ ?_
 ·simp[St.tidy,collect_box,so,qo,go,po,co,rs,rq,rg,rp,rc]
  exact⟨0,by omega,by omega,0,by omega,by omega,hR,fun j hj=>by omega,rfl,rfl⟩
 ·rintro y hy _ ⟨i,cost,rfl,hi,hc0,hc1,hc,hx,rfl⟩
  by_cases lt:i<C.length
  ·have lti:(i:Int)<C.length:=by omega
   have i1:i<l.length:=by omega
   have w1':=w1 (i:=i) (by omega)
   simp only[W] at w1'
   have cc:=cI_gx lt
   have q0:=cI_gxe lt
   rw[pcE_lt lt] at hc
   rcases q1:within (gx C i) 0 ((m:Int)-1) with _ | _
   ·rw[if_pos q1] at hc
    subst hc
    simp[lt,lti,Nat.not_le.2 lt,rc,rp,q0,cc,k74,wm,q1]
   ·rw[if_neg (by rw[q1]; decide)] at hc
    have wi:0≤gx C i∧gx C i≤(m:Int)-1:=by unfold within at q1; exact of_decide_eq_true q1
    obtain⟨x,ex⟩:=Int.eq_ofNat_of_zero_le wi.1
    have xm:x<m:=by omega
    have xmi:(x:Int)<m:=by omega
    rw[ex] at hc q0 cc q1
    simp only[Int.ofNat_eq_natCast,Int.toNat_natCast] at hc q0 cc q1
    have cg:=cI_gx (x:=G) (v:=x) (by omega)
    have qg:=cI_gxe (l:=G) (k:=x) (by omega)
    have k65x:=fun (M:Heap) lim=>k65 M lim i (gx G x) i1
    rw[al i x xm] at k65x
    rcases q2:bx (A i) x with _ | _
    ·rw[if_pos q2] at hc
     rw[q2] at k65x
     subst hc
     simp[lt,lti,Nat.not_le.2 lt,rc,rp,q0,cc,k74,wm,q1,cg,qg,xm,xmi,k65x]
     done
    ·rw[if_neg (by rw[q2]; decide)] at hc
     rw[q2] at k65x
     rcases Nat.eq_zero_or_pos i with z | z
     ·have zi:¬ (0:Int)<i:=by omega
      have zn:¬ 0<i:=by omega
      rw[if_neg (by omega),if_neg (by omega)] at hc
      simp[lt,lti,Nat.not_le.2 lt,rc,rp,q0,cc,k74,wm,q1,cg,qg,xm,xmi,k65x,w1',zi,zn,St.tidy,collect_box,so,qo,go,po,co,rs,rq,rg]
      exact⟨C.length-(i+1),by omega,i+1,rfl,by omega,cost,by omega,by omega,hc,fun j hj=>by
       by_cases e:j=i
       ·subst e; exact⟨x,ex,xm,q2⟩
       ·exact hx j (by omega),rfl,by omega⟩
     ·have zi:(0:Int)<i:=by omega
      have wi:=w1s z (by omega)
      obtain⟨y,ey,ym,yb⟩:=hx (i-1) (by omega)
      have ipl:((i-1:Nat):Int)<C.length:=by omega
      have ipn:i-1<C.length:=by omega
      have cp:=cI_gx ipn
      have qp:=cI_gxe ipn
      rw[ey] at hc qp cp
      simp only[Int.toNat_natCast] at hc
      have ymi:(y:Int)<m:=by omega
      have cgy:=cI_gx (x:=G) (v:=y) (by omega)
      have qgy:=cI_gxe (l:=G) (k:=y) (by omega)
      have k81:=fun (M:Heap) lim=>c81 (d:=d+1) (lim:=lim) (X:=X) (i:=i-1) (a:=gx G y) (b:=gx G x) ((Sl_freeze.2 s).app M) ((Sl_freeze.2 q).app M) ((Sl_freeze.2 g).app M) O (by omega) (Sd _ _ (by omega) ym yb) (by rw[show i-1+1=i by omega]; exact Sd _ _ i1 xm q2)
      have et:decide (jmp (ten wl t (cor (atN l (i-1)) (gx G y))) (ten wl t (cor (atN l (i-1+1)) (gx G x)))≤X.jp)=tg (i-1) y x:=by rw[htg]; rfl
      rw[et] at k81
      have k82:=fun lim hh=>c82 (d:=d+7) (lim:=lim) (h:=hh) (a:=IntKind.wrap .i64 ((x:Int)-y))
      rw[absV_gp (by omega) (by omega),gp_comm] at k82
      have gb:=gp_bd ym xm
      have wc:IntKind.wrap .i64 (cost+gp y x)=cost+gp y x:=wrap_eq (by omega) (by omega)
      generalize i-1=j at *
      rcases q3:tg j y x with _ | _
      ·rw[if_pos ⟨z,q3⟩] at hc
       rw[q3] at k81
       subst hc
       simp[lt,lti,Nat.not_le.2 lt,rc,rp,q0,cc,k74,wm,q1,cg,qg,xm,xmi,k65x,z,zi,wi,ipl,ipn,cp,qp,cgy,qgy,ym,ymi,k81]
       done
      ·rw[if_neg (by rw[q3]; simp),if_pos z] at hc
       rw[q3] at k81
       simp[lt,lti,Nat.not_le.2 lt,rc,rp,q0,cc,k74,wm,q1,cg,qg,xm,xmi,k65x,z,zi,wi,ipl,ipn,cp,qp,cgy,qgy,ym,ymi,k81,k82,wc,w1',St.tidy,collect_box,so,qo,go,po,co,rs,rq,rg]
       exact⟨C.length-(i+1),by omega,i+1,rfl,by omega,cost+gp y x,by omega,by omega,hc,fun j hj=>by
        by_cases e:j=i
        ·subst e; exact⟨x,ex,xm,q2⟩
        ·exact hx j (by omega),rfl,by omega⟩
  ·obtain rfl:i=C.length:=by omega
   rw[pcE_ge (by omega)] at hc
   subst hc
   simp[rc]
end Q
end Go.Abs
namespace Go.Abs
namespace Q
set_option maxRecDepth 100000
set_option maxHeartbeats 0
abbrev fnL (b:Nat):Value:=.func (.func 68) #[] #[pB b]
def difL (p:Nat→List Int) (m i:Nat):Bool:=decide ((p i).length≠m)
theorem c68 {d lim b m:Nat} {h:Heap} {v gv:Value} {l:List Int} {rw':Bool} {G:List Int} (s:SlI' h v l) (p:SlI' h gv G) (e:h.get b=some ⟨[gv],rw'⟩) (hm:m=G.length):E.call (d+1) lim 68 [v,pB b] h=some (.bool (decide (l.length≠m)),h):=by
 subst hm
 have rs:=s.rules2
 have rp:=p.rules2
 have ck:=fun o=>cell_get (o:=o) (hget_freeze e)
 refine call1 fn68 rfl (by simp[ef68]) ?_
 simp[ef68,rs,rp,ck]
 by_cases q:l.length=G.length
 ·simp[q]
 ·have:¬ (l.length:Int)=G.length:=by omega
  simp[q,this]
theorem c142 {d lim b m n:Nat} {h:Heap} {v gv:Value} {rw':Bool} {G:List Int} {vs:Nat→Value} {pp:Nat→List Int} (nl:NL h v n vs pp) (p:SlI' h gv G) (e:h.get b=some ⟨[gv],rw'⟩) (hm:m=G.length) (hn:n≤1000000) :
  E.call (d+2) lim 142 [v,fnL b] h=some (i64 (if fsN (difL pp m) n 0<n then (fsN (difL pp m) n 0:Int) else -1),h):=by
 have r:=nl.sl.rules2
 have so:=nl.sl.own
 have hb:=Heap.get_lt e
 refine call1 fn142 rfl (by simp[ef142]) ?_
 generalize hR:fsN (difL pp m) n 0=R
 simp[ef142,r]
 refine wpC_loop (fun y st=>∃ i:Nat,y=n-i∧i≤n∧fsN (difL pp m) n i=R∧st=⟨[(0,v),(1,fnL b),(7,i64 (n:Int)),(8,i64 (i:Int))],h.freeze⟩) n (by show n<2 ^ 64; omega) ?_ ?_
 ·simp[St.tidy,so,r,hb]
  exact⟨0,by omega,by omega,hR,rfl⟩
 ·rintro y hy _ ⟨i,rfl,hi,hR,rfl⟩
  by_cases lt:i<n
  ·have lti:(i:Int)<n:=by omega
   have w1':=w1 (i:=i) (by omega)
   simp only[W] at w1'
   have a1:=as_get vs lt
   have k68:=fun lim=>c68 (d:=d) (lim:=lim) (b:=b) ((nl.frz).row i lt) (Sl_freeze.2 p) (hget_freeze e) hm
   rw[fsN_lt lt] at hR
   by_cases q:(pp i).length=m
   ·have dq:difL pp m i=false:=decide_eq_false (by simpa using q)
    rw[if_neg (by rw[dq]; decide)] at hR
    rw[decide_eq_false (by simpa using q)] at k68
    simp[lt,lti,Nat.not_le.2 lt,r,a1,k68,w1',St.tidy,so,hb]
    exact⟨n-(i+1),by omega,i+1,rfl,by omega,hR,rfl⟩
   ·have dq:difL pp m i=true:=decide_eq_true q
    rw[if_pos dq] at hR
    subst hR
    rw[decide_eq_true q] at k68
    simp[lt,lti,Nat.not_le.2 lt,r,a1,k68]
  ·obtain rfl:i=n:=by omega
   rw[fsN_ge (by omega)] at hR
   subst hR
   simp[r]
theorem c67 {d lim b m n:Nat} {h:Heap} {v gv:Value} {rw':Bool} {G:List Int} {vs:Nat→Value} {pp:Nat→List Int} (nl:NL h v n vs pp) (p:SlI' h gv G) (e:h.get b=some ⟨[gv],rw'⟩) (hm:m=G.length) (hn:n≤1000000) :
  E.call (d+3) lim 67 [v,fnL b] h=some (.bool (decide (fsN (difL pp m) n 0<n)),h):=by
 have k:=fun lim=>c142 (d:=d) (lim:=lim) nl.frz (Sl_freeze.2 p) (hget_freeze e) hm hn
 refine call1 fn67 rfl (by simp[ef67]) ?_
 by_cases q:fsN (difL pp m) n 0<n
 ·rw[if_pos q] at k
  simp[ef67,k,q]
 ·rw[if_neg q] at k
  simp[ef67,k,q]
end Q
end Go.Abs
namespace Go.Abs
namespace Q
set_option maxRecDepth 100000
set_option maxHeartbeats 0
section
variable (A:Nat→List Bool) (tg:Nat→Nat→Nat→Bool) (p:Nat→List Int) (m:Nat)
def OKg (i g:Nat):Prop:=(i=0→gx (p 0) g≤0)∧∀ j,i=j+1→∀ h,h<m→bx (A j) h=true→tg j h g=true→gx (p i) g≤gx (p j) h+gp h g
def VV (i:Nat):Prop:=∀ j,j<i→∀ g,g<m→bx (A j) g=true→OKg A tg p m j g
def BD (i:Nat) (bd:Int):Prop:=(i=0∧bd=0)∨∃ j,i=j+1∧(∃ g,g<m∧bx (A j) g=true∧gx (p j) g=bd)∧∀ g,g<m→bx (A j) g=true→bd≤gx (p j) g
def VK (R:List Int) (i k:Nat):Prop:=∀ k',k'<k→OKg A tg p m i (gx R k').toNat
def BK (R:List Int) (i k:Nat) (bd:Int):Prop:=k=0∨((∃ k',k'<k∧gx (p i) (gx R k').toNat=bd)∧∀ k',k'<k→bd≤gx (p i) (gx R k').toNat)
def HR (R:List Int) (i j g r:Nat):Prop:=∀ r',r'<r→tg j (gx R r').toNat g=true→gx (p i) g≤gx (p j) (gx R r').toNat+gp (gx R r').toNat g
def PRR (n:Nat) (bd:Int) (ok:Bool):Prop:=(ok=true∧VV A tg p m n∧BD A p m n bd)∨(ok=false∧¬ VV A tg p m n)
end
theorem ixR_gx {r:List Bool} {m k:Nat} (h:k<(ixR r m).length):∃ g:Nat,gx (ixR r m) k=g∧g<m∧bx r g=true:=by
 have:=gx_mem h
 unfold ixR at this
 simp only[List.mem_map,List.mem_filter,List.mem_range] at this
 obtain⟨g,⟨h1,h2⟩,h3⟩:=this
 exact⟨g,h3.symm,h1,h2⟩
theorem ixR_at {r:List Bool} {m g:Nat} (h:g<m) (hb:bx r g=true):∃ k,k<(ixR r m).length∧gx (ixR r m) k=g:=by
 have:=ixR_mem.2 ⟨h,hb⟩
 obtain⟨k,hk,e⟩:=List.getElem_of_mem this
 exact⟨k,hk,by simp[gx,hk,e]⟩
section
variable {A:Nat→List Bool} {tg:Nat→Nat→Nat→Bool} {p:Nat→List Int} {m:Nat}
theorem VV_step {i:Nat} {R:List Int} (h:VV A tg p m i) (hk:VK A tg p m R i R.length) (rat:∀ g,g<m→bx (A i) g=true→∃ k,k<R.length∧gx R k=g):VV A tg p m (i+1):=fun j hj g hg hb=>by
 by_cases e:j=i
 ·subst e
  obtain⟨k,h1,h2⟩:=rat g hg hb
  have:=hk k h1
  rwa [h2,Int.toNat_natCast] at this
 ·exact h j (by omega) g hg hb
theorem BD_step {i:Nat} {R:List Int} {bd:Int} (hk:BK p R i R.length bd) (rgx:∀ k,k<R.length→∃ g:Nat,gx R k=g∧g<m∧bx (A i) g=true) (rat:∀ g,g<m→bx (A i) g=true→∃ k,k<R.length∧gx R k=g) (hne:∃ g,g<m∧bx (A i) g=true):BD A p m (i+1) bd:=by
 obtain⟨g0,h1,h2⟩:=hne
 obtain⟨k0,h3,_⟩:=rat g0 h1 h2
 rcases hk with e | ⟨⟨k,h4,h5⟩,h6⟩
 ·omega
 refine .inr ⟨i,rfl,?_,fun g hg hb=>?_⟩
 ·obtain⟨g,e,hg,hb⟩:=rgx k h4
  rw[e,Int.toNat_natCast] at h5
  exact⟨g,hg,hb,h5⟩
 ·obtain⟨k1,h7,h8⟩:=rat g hg hb
  have:=h6 k1 h7
  rwa [h8,Int.toNat_natCast] at this
theorem VK_step {i k z:Nat} {R:List Int} (h:VK A tg p m R i k) (e:gx R k=(z:Int)) (o:OKg A tg p m i z):VK A tg p m R i (k+1):=fun k' hk'=>by
 by_cases q:k'=k
 ·subst q; rw[e,Int.toNat_natCast]; exact o
 ·exact h k' (by omega)
theorem BK_step {i k z:Nat} {R:List Int} {bd:Int} (h:BK p R i k bd) (e:gx R k=(z:Int)):BK p R i (k+1) (if k=0∨gx (p i) z<bd then gx (p i) z else bd):=by
 refine .inr ?_
 rcases h with q | ⟨⟨k1,h1,h2⟩,h3⟩
 ·rw[if_pos (.inl q)]
  subst q
  refine⟨⟨0,by omega,by rw[e,Int.toNat_natCast]⟩,fun k' hk'=>?_⟩
  obtain rfl:k'=0:=by omega
  rw[e,Int.toNat_natCast]; exact Int.le_refl _
 ·by_cases c:k=0∨gx (p i) z<bd
  ·rw[if_pos c]
   refine⟨⟨k,by omega,by rw[e,Int.toNat_natCast]⟩,fun k' hk'=>?_⟩
   by_cases q:k'=k
   ·subst q; rw[e,Int.toNat_natCast]; exact Int.le_refl _
   ·have:=h3 k' (by omega)
    rcases c with c | c
    ·omega
    ·omega
  ·rw[if_neg c]
   refine⟨⟨k1,by omega,h2⟩,fun k' hk'=>?_⟩
   by_cases q:k'=k
   ·subst q; rw[e,Int.toNat_natCast]; omega
   ·exact h3 k' (by omega)
end
theorem c75 {d lim:Nat} {H:Heap} {v w f gv pv:Value} {wl:List Wi} {l:List Un} {t:Int} {X:Lm} {G:List Int} {us:Nat→Value} {pp:Nat→List Int} (s:SlW H v wl) (q:SlN H w l) (g:SlR H f (mapU (frq t) l)) (p:SlI' H gv G) (np:NL H pv l.length us pp) (O:StOk t wl l) (hG:G.length≤20)
  (hl:∀ i,i<l.length→(pp i).length=G.length) (hb:∀ i,i<l.length→∀ k,k<G.length→-1000000≤gx (pp i) k∧gx (pp i) k≤1000000) (hne:∀ i,i<l.length→∃ g,g<G.length∧bx (alR wl t (atN l i) X G) g=true) :
  ∃ bd ok K,E.call (d+10) lim 75 [knV t v w f,lmV X,gv,pv] H=some (.tuple #[i64 bd,.bool ok],H++K)∧PRR (fun i=>alR wl t (atN l i) X G) (tgR wl t l X G) pp G.length l.length bd ok:=by
 have key:∃ r H',E.call (d+10) lim 75 [knV t v w f,lmV X,gv,pv] H=some (r,H')∧∃ bd ok,r=.tuple #[i64 bd,.bool ok]∧PRR (fun i=>alR wl t (atN l i) X G) (tgR wl t l X G) pp G.length l.length bd ok∧∃ K,H'=H++K:=by
  have hp:∀ b,Heap.push H b=H++[some b]:=fun _=>rfl
  obtain⟨ov,K,vs,e18,nl⟩:=c18 (d:=d) (lim:=lim) (X:=X) (s.app [qK t v w f,qL X]) (q.app _) (g.app _) (p.app _) O hG
  obtain⟨B,hB⟩:∃ B:Heap,B=H++(qK t v w f::qL X::K):=⟨_,rfl⟩
  have hB':H++[qK t v w f,qL X]++K=B:=by rw[hB]; simp
  rw[hB'] at e18 nl
  have e3:B.get H.length=some ⟨[i64 t,v,w,f],true⟩:=by rw[hB,hget_base0 rfl]; rfl
  have e4:B.get (H.length+1)=some ⟨[i64 X.lo,i64 X.hi,i64 X.sh,i64 X.jp],true⟩:=by rw[hB,hget_base rfl]; rfl
  have pk3:=fun o n=>part_get (o:=o) (n:=n) e3
  have pk4:=fun o n=>part_get (o:=o) (n:=n) e4
  have n90:=O.few
  have sB:SlW B v wl:=hB ▸ s.app _
  have qB':SlN B w l:=hB ▸ q.app _
  have gB:SlR B f (mapU (frq t) l):=hB ▸ g.app _
  have pB':SlI' B gv G:=hB ▸ p.app _
  have nB:NL B pv l.length us pp:=hB ▸ np.app _
  have rp:=pB'.rules2
  have ro:=nl.sl.rules2
  have rn:=nB.sl.rules2
  have w8:=O.w
  obtain⟨A,hA⟩:∃ A:Nat→List Bool,A=fun i=>alR wl t (atN l i) X G:=⟨_,rfl⟩
  obtain⟨tg,htg⟩:∃ tg,tg=tgR wl t l X G:=⟨_,rfl⟩
  obtain⟨m,hm⟩:∃ m,m=G.length:=⟨_,rfl⟩
  have hAi:∀ i,alR wl t (atN l i) X G=A i:=fun i=>by rw[hA]
  have ha:∀ i,(A i).length=m:=fun i=>by rw[hA,alR_len,hm]
  simp only[← htg,← hm,hAi] at nl rp hl hb hne hG ⊢
  have eA:(fun i=>A i)=A:=rfl
  rw[eA]
  have Sd:∀ i k,i<l.length→k<m→bx (A i) k=true→SdOk wl (cor (atN l i) (gx G k)).sd:=fun i k hi hk hb=>by
   rw[← hAi,bx_al (by omega)] at hb
   unfold alB at hb
   simp only[Bool.and_eq_true,decide_eq_true_eq] at hb
   exact SdOk.of (by unfold chkD; rw[w8]; simpa using hb.1)
  have HK:∃ K,B=H++K:=⟨_,hB⟩
  refine full_ex fn75 rfl (by simp[ef75]) ?_
  simp[ef75,hp,e18]
  refine wpC_loop (fun y st=>∃ (i:Nat) (bd:Int),y=l.length-i∧i≤l.length∧VV A tg pp m i∧BD A pp m i bd∧st=⟨[(2,gv),(3,pv),(4,pB H.length),(5,pB (H.length+1)),(10,ov),(11,i64 bd),(12,i64 (i:Int))],B⟩) l.length (by show l.length<2 ^ 64; omega) ?_ ?_
  ·simp[St.tidy]
   exact⟨0,by omega,by omega,fun j hj=>by omega,0,.inl ⟨rfl,rfl⟩,rfl,rfl⟩
  ·rintro y hy _ ⟨i,bd,rfl,hi,hV,hBD,rfl⟩
   by_cases lt:i<l.length
   ·have lti:(i:Int)<l.length:=by omega
    have w1':=w1 (i:=i) (by omega)
    simp only[W] at w1'
    have ai:=as_get vs lt
    have ui:=as_get us lt
    have rr:=(nl.row i lt).rules2
    have rpi:=(nB.row i lt).rules2
    rw[hl i lt] at rpi
    have rgx:=fun k=>@ixR_gx (A i) m k
    have rat:=fun g=>@ixR_at (A i) m g
    have rle:=ixR_le (A i) m
    generalize hR:ixR (A i) m=R at *
    simp[lt,lti,Nat.not_le.2 lt,rn,ro]
    refine wpC_loop (fun y st=>∃ (k:Nat) (bd:Int),y=R.length-k∧k≤R.length∧VK A tg pp m R i k∧BK pp R i k bd∧st=⟨[(2,gv),(3,pv),(4,pB H.length),(5,pB (H.length+1)),(10,ov),(11,i64 bd),(12,i64 (i:Int)),(13,.bool (decide (k=0))),(14,i64 (k:Int))],B⟩) R.length (by show R.length<2 ^ 64; omega) ?_ ?_
    ·simp[St.tidy]
     exact⟨0,by omega,by omega,fun j hj=>by omega,bd,.inl rfl,rfl,by simp,rfl⟩
    ·rintro y hy _ ⟨k,bd',rfl,hk,hVK,hBK,rfl⟩
     by_cases lt2:k<R.length
     ·have lti2:(k:Int)<R.length:=by omega
      have wk:=w1 (i:=k) (by omega)
      simp only[W] at wk
      obtain⟨z,ez,zm,zb⟩:=rgx k lt2
      have zmi:(z:Int)<m:=by omega
      have cr:=cI_gx lt2
      have qr:=cI_gxe lt2
      rw[ez] at cr qr
      have cz:=cI_gx (x:=pp i) (v:=z) (by rw[hl i lt]; exact zm)
      have qz:=cI_gxe (l:=pp i) (k:=z) (by rw[hl i lt]; exact zm)
      have cgz:=cI_gx (x:=G) (v:=z) (by omega)
      have qgz:=cI_gxe (l:=G) (k:=z) (by omega)
      have bk:=BK_step hBK ez
      rcases Nat.eq_zero_or_pos i with i0 | ip
      ·have hz:(i=0)=True:=by simp[i0]
       have hz2:(0<i)=False:=by simp[i0]
       have ni:¬ (0:Int)<i:=by omega
       by_cases y1:0<gx (pp i) z
       ·simp[lt,lti,Nat.not_le.2 lt,lt2,lti2,Nat.not_le.2 lt2,rn,ro,ai,ui,rr,rpi,cr,qr,cz,qz,zm,zmi,hz,y1]
        exact⟨.inr ⟨rfl,fun V=>by have:=(V i lt z zm zb).1 i0; rw[i0] at y1; omega⟩,HK⟩
       ·have hVK':=VK_step hVK ez (show OKg A tg pp m i z from ⟨fun _=>by rw[i0] at y1; omega,fun j hj=>by omega⟩)
        simp[lt,lti,Nat.not_le.2 lt,lt2,lti2,Nat.not_le.2 lt2,rn,ro,ai,ui,rr,rpi,cr,qr,cz,qz,zm,zmi,hz,y1,Int.not_lt.1 y1]
        refine wpC_loop (fun y st=>st=⟨[(2,gv),(3,pv),(4,pB H.length),(5,pB (H.length+1)),(10,ov),(11,i64 bd'),(12,i64 (i:Int)),(13,.bool (decide (k=0))),(14,i64 (k:Int)),(15,i64 (z:Int)),(16,i64 0)],B⟩) 0 (by show 0<2 ^ 64; omega) ?_ ?_
        ·simp[St.tidy]
        ·rintro y hy _ rfl
         by_cases k0:k=0
         ·subst k0
          simp at bk
          simp[lt,lti,rn,ui,rpi,cz,qz,zm,zmi,ni,hz2,wk,St.tidy]
          exact⟨R.length-1,by omega,1,rfl,by omega,hVK',_,bk,rfl,by simp,rfl⟩
         ·by_cases c:gx (pp i) z<bd'
          ·rw[if_pos (.inr c)] at bk
           simp[lt,lti,rn,ui,rpi,cz,qz,zm,zmi,ni,hz2,wk,St.tidy,k0,c]
           exact⟨R.length-(k+1),by omega,k+1,rfl,by omega,hVK',_,bk,rfl,by simp,rfl⟩
          ·rw[if_neg (fun e=>e.elim k0 c)] at bk
           simp[lt,lti,rn,ui,rpi,cz,qz,zm,zmi,ni,hz2,wk,St.tidy,k0,c,Int.not_lt.1 c]
           exact⟨R.length-(k+1),by omega,k+1,rfl,by omega,hVK',_,bk,rfl,by simp,rfl⟩
      ·obtain⟨j,ij⟩:∃ j,i=j+1:=⟨i-1,by omega⟩
       have jl:j<l.length:=by omega
       have jli:(j:Int)<l.length:=by omega
       have wi:=w1s ip (by omega)
       have ij2:i-1=j:=by omega
       rw[ij2] at wi
       have ni:¬ (i:Int)=0:=by omega
       have nz:¬ i=0:=by omega
       have zi:(0:Int)<i:=by omega
       have aj:=as_get vs jl
       have uj:=as_get us jl
       have rj:=(nl.row j jl).rules2
       have rpj:=(nB.row j jl).rules2
       rw[hl j jl] at rpj
       have rgx':=fun k=>@ixR_gx (A j) m k
       have rat':=fun g=>@ixR_at (A j) m g
       have rle':=ixR_le (A j) m
       generalize hR':ixR (A j) m=R' at *
       simp[lt,lti,Nat.not_le.2 lt,lt2,lti2,Nat.not_le.2 lt2,rn,ro,ai,ui,rr,rpi,cr,qr,cz,qz,zm,zmi,ni,nz]
       refine wpC_loop (fun y st=>∃ r:Nat,y=R'.length-r∧r≤R'.length∧HR tg pp R' i j z r∧st=⟨[(2,gv),(3,pv),(4,pB H.length),(5,pB (H.length+1)),(10,ov),(11,i64 bd'),(12,i64 (i:Int)),(13,.bool (decide (k=0))),(14,i64 (k:Int)),(15,i64 (z:Int)),(16,i64 (r:Int))],B⟩) R'.length (by show R'.length<2 ^ 64; omega) ?_ ?_
       ·simp[St.tidy]
        exact⟨0,by omega,by omega,fun r' hr'=>by omega,rfl⟩
       ·rintro y hy _ ⟨r,rfl,hr,hH,rfl⟩
        by_cases lt3:r<R'.length
        ·have lti3:(r:Int)<R'.length:=by omega
         have wr:=w1 (i:=r) (by omega)
         simp only[W] at wr
         obtain⟨x,ex,xm,xb⟩:=rgx' r lt3
         have xmi:(x:Int)<m:=by omega
         have cr':=cI_gx lt3
         have qr':=cI_gxe lt3
         rw[ex] at cr' qr'
         have cx:=cI_gx (x:=pp j) (v:=x) (by rw[hl j jl]; exact xm)
         have qx:=cI_gxe (l:=pp j) (k:=x) (by rw[hl j jl]; exact xm)
         have cgx:=cI_gx (x:=G) (v:=x) (by omega)
         have qgx:=cI_gxe (l:=G) (k:=x) (by omega)
         have k81:=fun lim=>c81 (d:=d+2) (lim:=lim) (X:=X) (i:=j) (a:=gx G x) (b:=gx G z) sB qB' gB O (by omega) (Sd _ _ jl xm xb) (by rw[← ij]; exact Sd _ _ lt zm zb)
         have et:decide (jmp (ten wl t (cor (atN l j) (gx G x))) (ten wl t (cor (atN l (j+1)) (gx G z)))≤X.jp)=tg j x z:=by rw[htg]; rfl
         rw[et] at k81
         have k82:=fun lim hh=>c82 (d:=d+8) (lim:=lim) (h:=hh) (a:=IntKind.wrap .i64 ((z:Int)-x))
         rw[absV_gp (by omega) (by omega),gp_comm] at k82
         have gb:=gp_bd xm zm
         have pb:=hb j jl x xm
         have wc:IntKind.wrap .i64 (gx (pp j) x+gp x z)=gx (pp j) x+gp x z:=wrap_eq (by omega) (by omega)
         rcases ht:tg j x z with _ | _
         ·rw[ht] at k81
          have hH':HR tg pp R' i j z (r+1):=fun r' hr' ht'=>by
           by_cases e:r'=r
           ·subst e; rw[ex,Int.toNat_natCast,ht] at ht'; cases ht'
           ·exact hH r' (by omega) ht'
          simp[zi,ip,nz,lt3,lti3,Nat.not_le.2 lt3,lt2,lti2,jl,jli,wi,rn,ro,ai,aj,ui,uj,rr,rj,rpi,rpj,rp,cr',qr',cz,qz,cx,qx,cgz,qgz,cgx,qgx,zm,zmi,xm,xmi,pk3,pk4,k81,wr,St.tidy]
          exact⟨R'.length-(r+1),by omega,r+1,rfl,by omega,hH',rfl⟩
         ·rw[ht] at k81
          by_cases y1:gx (pp j) x+gp x z<gx (pp i) z
          ·simp[zi,ip,nz,lt3,lti3,Nat.not_le.2 lt3,lt2,lti2,jl,jli,lt,lti,wi,rn,ro,ai,aj,ui,uj,rr,rj,rpi,rpj,rp,cr',qr',cz,qz,cx,qx,cgz,qgz,cgx,qgx,zm,zmi,xm,xmi,pk3,pk4,k81,k82,wc,y1]
           exact⟨.inr ⟨rfl,fun V=>by have:=(V i lt z zm zb).2 j ij x xm xb ht; omega⟩,HK⟩
          ·have hH':HR tg pp R' i j z (r+1):=fun r' hr' ht'=>by
            by_cases e:r'=r
            ·subst e; rw[ex,Int.toNat_natCast]; omega
            ·exact hH r' (by omega) ht'
           simp[zi,ip,nz,lt3,lti3,Nat.not_le.2 lt3,lt2,lti2,jl,jli,lt,lti,wi,rn,ro,ai,aj,ui,uj,rr,rj,rpi,rpj,rp,cr',qr',cz,qz,cx,qx,cgz,qgz,cgx,qgx,zm,zmi,xm,xmi,pk3,pk4,k81,k82,wc,y1,Int.not_lt.1 y1,wr,St.tidy]
           exact⟨R'.length-(r+1),by omega,r+1,rfl,by omega,hH',rfl⟩
        ·obtain rfl:r=R'.length:=by omega
         have hVK':=VK_step hVK ez (show OKg A tg pp m i z from ⟨fun e=>by omega,fun j' hj' h hh hb' ht'=>by
          obtain rfl:j'=j:=by omega
          obtain⟨r',h1,h2⟩:=rat' h hh hb'
          have:=hH r' h1
          rw[h2,Int.toNat_natCast] at this
          exact this ht'⟩)
         by_cases k0:k=0
         ·subst k0
          simp at bk
          simp[zi,ip,nz,jl,jli,lt,lti,wi,rn,ro,aj,rj,ui,rpi,cz,qz,zm,zmi,wk,St.tidy]
          exact⟨R.length-1,by omega,1,rfl,by omega,hVK',_,bk,rfl,by simp,rfl⟩
         ·by_cases c:gx (pp i) z<bd'
          ·rw[if_pos (.inr c)] at bk
           simp[zi,ip,nz,jl,jli,lt,lti,wi,rn,ro,aj,rj,ui,rpi,cz,qz,zm,zmi,wk,St.tidy,k0,c]
           exact⟨R.length-(k+1),by omega,k+1,rfl,by omega,hVK',_,bk,rfl,by simp,rfl⟩
          ·rw[if_neg (fun e=>e.elim k0 c)] at bk
           simp[zi,ip,nz,jl,jli,lt,lti,wi,rn,ro,aj,rj,ui,rpi,cz,qz,zm,zmi,wk,St.tidy,k0,c,Int.not_lt.1 c]
           exact⟨R.length-(k+1),by omega,k+1,rfl,by omega,hVK',_,bk,rfl,by simp,rfl⟩
     ·obtain rfl:k=R.length:=by omega
      simp[lt,lti,ai,rr,ro,w1',St.tidy]
      exact⟨l.length-(i+1),by omega,i+1,rfl,by omega,VV_step hV hVK rat,bd',BD_step hBK rgx rat (hne i lt),rfl,rfl⟩
   ·obtain rfl:i=l.length:=by omega
    simp[rn]
    exact⟨.inl ⟨rfl,hV,hBD⟩,HK⟩
 obtain⟨_,_,e,bd,ok,rfl,h,K,rfl⟩:=key
 exact⟨bd,ok,K,e,h⟩
end Q
end Go.Abs
namespace Go.Abs
namespace Q
set_option maxRecDepth 100000
set_option maxHeartbeats 0
def tgA (A:Nat→List Bool) (tg:Nat→Nat→Nat→Bool) (i a b:Nat):Bool:=bx (A i) a && bx (A (i+1)) b && tg i a b
def rgP (p:Nat→List Int) (m n:Nat):Prop:=∀ i,i<n→∀ k,k<m→-1000000≤gx (p i) k∧gx (p i) k≤1000000
open Classical in
noncomputable def chE (A:Nat→List Bool) (tg:Nat→Nat→Nat→Bool) (m n:Nat) (C:List Int) (k:Nat) (p:Nat→List Int):Int × Int :=
 if C.length≠n∨k≠n∨fsN (difL p m) k 0<k then (0,10)
 else if (pcE A tg m C 0 0).2≠0 then (0,(pcE A tg m C 0 0).2)
 else if ¬ rgP p m n then (0,2)
 else if PrvP A (tgA A tg) m n p (pcE A tg m C 0 0).1 then ((pcE A tg m C 0 0).1,0) else (0,22)
section
variable {A:Nat→List Bool} {tg:Nat→Nat→Nat→Bool} {m n:Nat} {C:List Int} {p:Nat→List Int}
theorem pcE_ok:∀ (k i:Nat) (cost c:Int),C.length-i=k→i≤C.length→pcE A tg m C i cost=(c,0)→(∀ j,i≤j→j<C.length→∃ g:Nat,gx C j=g∧g<m∧bx (A j) g=true) ∧
  ∀ D:Nat→Int,(∀ j,j+1<C.length→tg j (gx C j).toNat (gx C (j+1)).toNat=true→D (j+1)≤D j+gp (gx C j).toNat (gx C (j+1)).toNat)→(0<C.length→D (i-1)≤cost)→(0<C.length→D (C.length-1)≤c)
 | 0,i,cost,c,hk,hi,h=>by
  obtain rfl:i=C.length:=by omega
  rw[pcE_ge (by omega)] at h
  simp only[Prod.mk.injEq] at h
  exact⟨fun j h1 h2=>by omega,fun D _ h1 h2=>by have:=h1 h2; omega⟩
 | k+1,i,cost,c,hk,hi,h=>by
  rw[pcE_lt (by omega)] at h
  rcases q1:within (gx C i) 0 ((m:Int)-1) with _ | _
  ·rw[if_pos q1] at h; simp at h
  ·rw[if_neg (by rw[q1]; decide)] at h
   have wi:0≤gx C i∧gx C i≤(m:Int)-1:=by unfold within at q1; exact of_decide_eq_true q1
   rcases q2:bx (A i) (gx C i).toNat with _ | _
   ·rw[if_pos q2] at h; simp at h
   ·rw[if_neg (by rw[q2]; decide)] at h
    by_cases q3:0<i∧tg (i-1) (gx C (i-1)).toNat (gx C i).toNat=false
    ·rw[if_pos q3] at h; simp at h
    ·rw[if_neg q3] at h
     obtain⟨r1,r2⟩:=pcE_ok k (i+1) _ c (by omega) (by omega) h
     refine⟨fun j h1 h2=>?_,fun D hs h0=>r2 D hs fun hl=>?_⟩
     ·by_cases e:j=i
      ·subst e; exact⟨(gx C j).toNat,by omega,by omega,q2⟩
      ·exact r1 j (by omega) h2
     ·rw[Nat.add_sub_cancel]
      by_cases z:0<i
      ·rw[if_pos z]
       have tt:tg (i-1) (gx C (i-1)).toNat (gx C i).toNat=true:=by
        rcases q4:tg (i-1) (gx C (i-1)).toNat (gx C i).toNat with _ | _
        ·exact absurd ⟨z,q4⟩ q3
        ·rfl
       have:=hs (i-1) (by omega)
       rw[show i-1+1=i by omega] at this
       have:=this tt
       have:=h0 hl
       omega
      ·rw[if_neg z]
       have:=h0 hl
       rw[show i-1=i by omega] at this
       exact this
theorem pcE_congr {tg':Nat→Nat→Nat→Bool} (ht:∀ i a b,i+1<C.length→a<m→b<m→bx (A i) a=true→bx (A (i+1)) b=true→tg i a b=tg' i a b):∀ (k i:Nat) (cost:Int),C.length-i=k→(0<i→∃ g:Nat,gx C (i-1)=g∧g<m∧bx (A (i-1)) g=true)→pcE A tg m C i cost=pcE A tg' m C i cost
 | 0,i,cost,hk,h=>by rw[pcE_ge (tg:=tg) (by omega),pcE_ge (tg:=tg') (by omega)]
 | k+1,i,cost,hk,h=>by
  rw[pcE_lt (tg:=tg) (by omega),pcE_lt (tg:=tg') (by omega)]
  rcases q1:within (gx C i) 0 ((m:Int)-1) with _ | _
  ·simp only[if_true]
  ·simp only[reduceCtorEq,if_false]
   have wi:0≤gx C i∧gx C i≤(m:Int)-1:=by unfold within at q1; exact of_decide_eq_true q1
   rcases q2:bx (A i) (gx C i).toNat with _ | _
   ·simp only[if_true]
   ·simp only[reduceCtorEq,if_false]
    have e:(0<i∧tg (i-1) (gx C (i-1)).toNat (gx C i).toNat=false)↔(0<i∧tg' (i-1) (gx C (i-1)).toNat (gx C i).toNat=false):=by
     by_cases z:0<i
     ·obtain⟨g,e,gm,gb⟩:=h z
      have:=ht (i-1) (gx C (i-1)).toNat (gx C i).toNat (by omega) (by omega) (by omega) (by rw[e,Int.toNat_natCast]; exact gb) (by rw[show i-1+1=i by omega]; exact q2)
      rw[this]
     ·simp[z]
    have w:∃ g:Nat,gx C (i+1-1)=g∧g<m∧bx (A (i+1-1)) g=true:=by
     rw[Nat.add_sub_cancel]
     exact⟨(gx C i).toNat,by omega,by omega,q2⟩
    rw[pcE_congr ht k (i+1) _ (by rw[Nat.sub_add_eq,hk]; rfl) fun _=>w]
    by_cases z:0<i∧tg (i-1) (gx C (i-1)).toNat (gx C i).toNat=false
    ·rw[if_pos z,if_pos (e.1 z)]
    ·rw[if_neg z,if_neg fun w=>z (e.2 w)]
theorem prv_iff {cost bd:Int} {ok:Bool} (hp:pcE A tg m C 0 0=(cost,0)) (hC:C.length=n) (R:PRR A tg p m n bd ok):(ok=true∧bd=cost)↔PrvP A (tgA A tg) m n p cost:=by
 obtain⟨r1,r2⟩:=pcE_ok C.length 0 0 cost (by omega) (by omega) hp
 have zs:PrvP A (tgA A tg) m n p cost→VV A tg p m n:=fun P i hi g hg hb=>⟨fun e=>by subst e; exact P.z g hi hg hb,fun j e h hh hb' ht=>by
  subst e
  exact P.s j h g hi hh hg (by unfold tgA; rw[hb',hb,ht]; rfl)⟩
 have up:VV A tg p m n→0<n→gx (p (n-1)) (gx C (n-1)).toNat≤cost:=fun V h0=>by
  have:=r2 (fun i=>gx (p i) (gx C i).toNat) (fun j hj ht=>by
   obtain⟨g,e,gm,gb⟩:=r1 j (by omega) (by omega)
   obtain⟨g',e',gm',gb'⟩:=r1 (j+1) (by omega) (by omega)
   simp only[e,e',Int.toNat_natCast] at ht ⊢
   exact (V (j+1) (by omega) g' gm' gb').2 j rfl g gm gb ht) (fun hl=>by
   obtain⟨g,e,gm,gb⟩:=r1 0 (by omega) hl
   simp only[Nat.zero_sub]
   rw[e,Int.toNat_natCast]
   exact (V 0 (by omega) g gm gb).1 rfl) (by omega)
  rwa [hC] at this
 have c0:n=0→cost=0:=fun e=>by
  rw[pcE_ge (by omega)] at hp
  simp only[Prod.mk.injEq] at hp
  exact hp.1.symm
 rcases R with ⟨r,V,B⟩ | ⟨r,V⟩
 ·constructor
  ·rintro ⟨_,rfl⟩
   refine⟨fun k h0 hk hb=>(V 0 h0 k hk hb).1 rfl,fun k h0 hk hb=>?_,fun i a b hi ha hb ht=>?_⟩
   ·rcases B with ⟨e,_⟩ | ⟨j,e,_,B⟩
    ·omega
    ·subst e; rw[Nat.add_sub_cancel] at *; exact B k hk hb
   ·unfold tgA at ht
    simp only[Bool.and_eq_true] at ht
    exact (V (i+1) hi b hb ht.1.2).2 i rfl a ha ht.1.1 ht.2
  ·intro P
   refine⟨r,?_⟩
   rcases B with ⟨e,B⟩ | ⟨j,e,⟨g,gm,gb,eg⟩,B⟩
   ·rw[B,c0 e]
   ·subst e
    have h1:=P.l g (by omega) gm (by rw[Nat.add_sub_cancel]; exact gb)
    rw[Nat.add_sub_cancel] at h1
    have h2:=up V (by omega)
    rw[Nat.add_sub_cancel] at h2
    obtain⟨x,ex,xm,xb⟩:=r1 j (by omega) (by omega)
    rw[ex,Int.toNat_natCast] at h2
    have h3:=B x xm xb
    omega
 ·constructor
  ·rintro ⟨h,_⟩; rw[r] at h; cases h
  ·intro P; exact absurd (zs P) V
theorem chE_congr {tg':Nat→Nat→Nat→Bool} {k:Nat} (ht:∀ i a b,i+1<n→a<m→b<m→bx (A i) a=true→bx (A (i+1)) b=true→tg i a b=tg' i a b):chE A tg m n C k p=chE A tg' m n C k p:=by
 unfold chE
 by_cases h:C.length≠n∨k≠n∨fsN (difL p m) k 0<k
 ·rw[if_pos h,if_pos h]
 ·rw[if_neg h,if_neg h]
  have hC:C.length=n:=by
   rcases Nat.decEq C.length n with q | q
   ·exact absurd (.inl q) h
   ·exact q
  rw[pcE_congr (tg':=tg') (fun i a b hi=>ht i a b (by omega)) C.length 0 0 (by omega) (by omega)]
  have e:PrvP A (tgA A tg) m n p (pcE A tg' m C 0 0).1=PrvP A (tgA A tg') m n p (pcE A tg' m C 0 0).1:=by
   have tt:∀ i a b,i+1<n→a<m→b<m→tgA A tg i a b=tgA A tg' i a b:=fun i a b hi ha hb=>by
    unfold tgA
    rcases q1:bx (A i) a with _ | _
    ·rfl
    ·rcases q2:bx (A (i+1)) b with _ | _
     ·rfl
     ·rw[ht i a b hi ha hb q1 q2]
   apply propext
   exact⟨fun P=>⟨P.z,P.l,fun i a b h1 h2 h3 h4=>P.s i a b h1 h2 h3 (by rw[tt i a b h1 h2 h3]; exact h4)⟩,fun P=>⟨P.z,P.l,fun i a b h1 h2 h3 h4=>P.s i a b h1 h2 h3 (by rw[← tt i a b h1 h2 h3]; exact h4)⟩⟩
  rw[e]
end
end Q
end Go.Abs
namespace Go.Abs
namespace Q
set_option maxRecDepth 100000
set_option maxHeartbeats 0
theorem c22 {d lim n:Nat} {h:Heap} {v w f gv cv pv:Value} {wl:List Wi} {l:List Un} {t:Int} {X:Lm} {G C:List Int} {us:Nat→Value} {pp:Nat→List Int} (s:SlW h v wl) (q:SlN h w l) (g:SlR h f (mapU (frq t) l)) (p:SlI' h gv G) (sc:SlI' h cv C) (np:NL h pv n us pp) (O:StOk t wl l) (hG:G.length≤20) (hn:n≤1000) (hC1:C.length≤1000) (hpl:∀ i,i<n→(pp i).length≤1000) :
  E.call (d+11) lim 22 [knV t v w f,lmV X,gv,.agg #[cv,pv]] h=some (.tuple #[i64 (chE (fun i=>alR wl t (atN l i) X G) (tgR wl t l X G) G.length l.length C n pp).1,i64 (chE (fun i=>alR wl t (atN l i) X G) (tgR wl t l X G) G.length l.length C n pp).2],h):=by
 have n90:=O.few
 have rs:=s.rules2
 have rq:=q.rules2
 have rg:=g.rules2
 have rp:=p.rules2
 have rc:=sc.rules2
 have rn:=np.sl.rules2
 have so:=s.own
 have qo:=q.own
 have go:=g.own
 have po:=p.own
 have co:=sc.own
 have no:=np.sl.own
 have k74:=fun lim hh a b c=>c74 (d:=d+9) (lim:=lim) (h:=hh) (a:=a) (b:=b) (c:=c)
 obtain⟨A,hA⟩:∃ A:Nat→List Bool,A=fun i=>alR wl t (atN l i) X G:=⟨_,rfl⟩
 obtain⟨tg,htg⟩:∃ tg,tg=tgR wl t l X G:=⟨_,rfl⟩
 obtain⟨m,hm⟩:∃ m,m=G.length:=⟨_,rfl⟩
 have nF:=np.frz
 obtain⟨Z,hZ⟩:∃ Z,Z=chE A tg m l.length C n pp:=⟨_,rfl⟩
 rw[← hA,← htg,← hm,← hZ]
 unfold chE at hZ
 refine call1 fn22 rfl (by simp[ef22]) ?_
 by_cases e1:C.length=l.length
 ·by_cases e2:n=l.length
  ·subst e2
   have k73:=fun (M:Heap) lim=>c73 (d:=d+1) (lim:=lim) (X:=X) ((Sl_freeze.2 s).app M) ((Sl_freeze.2 q).app M) ((Sl_freeze.2 g).app M) ((Sl_freeze.2 p).app M) ((Sl_freeze.2 sc).app M) O hG (by omega)
   rw[← hA,← htg,← hm] at k73
   rw[← hm] at rp
   simp[ef22,rq,rc,rn,e1]
   generalize hR0:fsN (difL pp m) l.length 0=R0 at hZ
   refine wpC_loop (fun y st=>∃ i:Nat,y=l.length-i∧i≤l.length∧fsN (difL pp m) l.length i=R0∧st=⟨[(2,gv),(4,pB h.length),(5,pB (h.length+1)),(7,pB (h.length+2)),(10,i64 l.length),(11,i64 (i:Int))],h.freeze++[some ⟨[i64 t,v,w,f],true⟩,some ⟨[i64 X.lo,i64 X.hi,i64 X.sh,i64 X.jp],true⟩,some ⟨[cv,pv],true⟩]⟩) l.length (by show l.length<2 ^ 64; omega) ?_ ?_
   ·simp[St.tidy,collect_box,so,qo,go,po,co,no,rs,rq,rg,rp,rc,rn]
    exact⟨0,by omega,by omega,hR0,rfl⟩
   ·rintro y hy _ ⟨i,rfl,hi,hR,rfl⟩
    by_cases lt:i<l.length
    ·have lti:(i:Int)<l.length:=by omega
     have w1':=w1 (i:=i) (by omega)
     simp only[W] at w1'
     have ai:=as_get us lt
     have ri:=(np.row i lt).rules2
     rw[fsN_lt lt] at hR
     by_cases qq:(pp i).length=m
     ·have dq:difL pp m i=false:=decide_eq_false (by simpa using qq)
      rw[if_neg (by rw[dq]; decide)] at hR
      simp[lt,lti,Nat.not_le.2 lt,rn,ai,ri,rp,qq,w1',St.tidy,collect_box,so,qo,go,po,co,no,rs,rq,rg,rc]
      exact⟨l.length-(i+1),by omega,i+1,rfl,by omega,hR,rfl⟩
     ·have dq:difL pp m i=true:=decide_eq_true qq
      rw[if_pos dq] at hR
      subst hR
      rw[if_pos (.inr (.inr lt))] at hZ
      subst hZ
      have qi:¬ ((pp i).length:Int)=m:=by omega
      simp[lt,lti,Nat.not_le.2 lt,rn,ai,ri,rp,qq,qi]
    ·obtain rfl:i=l.length:=by omega
     rw[fsN_ge (by omega)] at hR
     subst hR
     have hl:∀ i,i<l.length→(pp i).length=m:=fun i hi=>by
      have:=(fsN_spec (p:=difL pp m) (n:=l.length) l.length 0 rfl (Nat.zero_le _)).2.2.2 i (Nat.zero_le _)
      rw[hR0] at this
      have:=of_decide_eq_false (this hi)
      omega
     rw[if_neg (by simp[e1])] at hZ
     obtain⟨cost,er⟩:∃ ce,ce=pcE A tg m C 0 0:=⟨_,rfl⟩
     obtain⟨c0,e0⟩:=cost
     rw[← er] at k73 hZ
     by_cases z0:e0=0
     ·subst z0
      rw[if_neg (by simp)] at hZ
      simp[k73]
      refine wpC_loop (fun y st=>∃ i:Nat,y=l.length-i∧i≤l.length∧rgP pp m i∧st=⟨[(2,gv),(4,pB h.length),(5,pB (h.length+1)),(7,pB (h.length+2)),(10,i64 l.length),(12,i64 c0),(14,i64 (i:Int))],h.freeze++[some ⟨[i64 t,v,w,f],true⟩,some ⟨[i64 X.lo,i64 X.hi,i64 X.sh,i64 X.jp],true⟩,some ⟨[cv,pv],true⟩]⟩) l.length (by show l.length<2 ^ 64; omega) ?_ ?_
      ·simp[St.tidy,collect_box,so,qo,go,po,co,no,rs,rq,rg,rp,rc,rn]
       exact⟨0,by omega,by omega,fun i hi=>by omega,rfl⟩
      ·rintro y hy _ ⟨i,rfl,hi,hP,rfl⟩
       by_cases lt:i<l.length
       ·have lti:(i:Int)<l.length:=by omega
        have w1':=w1 (i:=i) (by omega)
        simp only[W] at w1'
        have ai:=as_get us lt
        have ri:=(np.row i lt).rules2
        rw[hl i lt] at ri
        simp[lt,lti,Nat.not_le.2 lt]
        refine wpC_loop (fun y st=>∃ k:Nat,y=m-k∧k≤m∧(∀ k',k'<k→-1000000≤gx (pp i) k'∧gx (pp i) k'≤1000000)∧st=⟨[(2,gv),(4,pB h.length),(5,pB (h.length+1)),(7,pB (h.length+2)),(10,i64 l.length),(12,i64 c0),(14,i64 (i:Int)),(15,i64 (k:Int))],h.freeze++[some ⟨[i64 t,v,w,f],true⟩,some ⟨[i64 X.lo,i64 X.hi,i64 X.sh,i64 X.jp],true⟩,some ⟨[cv,pv],true⟩]⟩) m (by show m<2 ^ 64; omega) ?_ ?_
        ·simp[St.tidy,collect_box,so,qo,go,po,co,no,rs,rq,rg,rp,rc,rn]
         exact⟨0,by omega,by omega,fun i hi=>by omega,rfl⟩
        ·rintro y hy _ ⟨k,rfl,hk,hK,rfl⟩
         by_cases lt2:k<m
         ·have lti2:(k:Int)<m:=by omega
          have wk:=w1 (i:=k) (by omega)
          simp only[W] at wk
          have c1:=cI_gx (x:=pp i) (v:=k) (by rw[hl i lt]; exact lt2)
          have q0:=cI_gxe (l:=pp i) (k:=k) (by rw[hl i lt]; exact lt2)
          rcases q1:within (gx (pp i) k) (-1000000) 1000000 with _ | _
          ·have nr:¬ rgP pp m l.length:=fun R=>by
            have:=R i lt k lt2
            unfold within at q1
            exact absurd (of_decide_eq_false q1) (by simp; omega)
           rw[if_pos nr] at hZ
           subst hZ
           simp[lt,lti,lt2,lti2,Nat.not_le.2 lt2,rp,rn,ai,ri,c1,q0,k74,q1]
          ·unfold within at q1
           have q2:=of_decide_eq_true q1
           simp[lt,lti,lt2,lti2,Nat.not_le.2 lt2,rp,rn,ai,ri,c1,q0,k74,within,q2,wk,St.tidy,collect_box,so,qo,go,po,co,no,rs,rq,rg,rc]
           exact⟨m-(k+1),by omega,k+1,rfl,by omega,fun k' hk'=>by
            by_cases e:k'=k
            ·subst e; exact q2
            ·exact hK k' (by omega),rfl⟩
         ·obtain rfl:k=m:=by omega
          simp[rp,w1',St.tidy,collect_box,so,qo,go,po,co,no,rs,rq,rg,rc,rn]
          exact⟨l.length-(i+1),by omega,i+1,rfl,by omega,fun i' hi'=>by
           by_cases e:i'=i
           ·subst e; exact hK
           ·exact hP i' (by omega),rfl⟩
       ·obtain rfl:i=l.length:=by omega
        rw[if_neg (fun w=>w hP)] at hZ
        have hne:∀ i,i<l.length→∃ g,g<m∧bx (A i) g=true:=fun i hi=>by
         obtain⟨r1,_⟩:=pcE_ok C.length 0 0 c0 (by omega) (by omega) er.symm
         obtain⟨g,_,gm,gb⟩:=r1 i (by omega) (by omega)
         exact⟨g,gm,gb⟩
        obtain⟨bd,ok,K,e75,R⟩:=c75 (d:=d) (lim:=h.length) (H:=h.freeze++[some ⟨[i64 t,v,w,f],true⟩,some ⟨[i64 X.lo,i64 X.hi,i64 X.sh,i64 X.jp],true⟩,some ⟨[cv,pv],true⟩]) (X:=X) ((Sl_freeze.2 s).app _) ((Sl_freeze.2 q).app _) ((Sl_freeze.2 g).app _) ((Sl_freeze.2 p).app _) (nF.app _) O hG (fun i hi=>by rw[hl i hi,hm]) (by rw[← hm]; exact hP) (by rw[← hm]; intro i hi; have:=hne i hi; rw[hA] at this; exact this)
        rw[← hA,← htg,← hm] at R
        have pi:=prv_iff er.symm e1 R
        by_cases qP:PrvP A (tgA A tg) m l.length pp c0
        ·obtain⟨o1,o2⟩:=pi.2 qP
         rw[if_pos qP] at hZ
         subst hZ
         rw[o1,o2] at e75
         simp[e75]
        ·rw[if_neg qP] at hZ
         subst hZ
         rcases ok with _ | _
         ·simp[e75]
         ·have nb:¬ bd=c0:=fun e=>qP (pi.1 ⟨rfl,e⟩)
          simp[e75,nb]
     ·rw[if_pos z0] at hZ
      subst hZ
      simp[k73,z0]
  ·have e2i:¬ (n:Int)=l.length:=by omega
   rw[if_pos (.inr (.inl e2))] at hZ
   subst hZ
   simp[ef22,rq,rc,rn,e1,e2,e2i]
 ·have e1i:¬ (C.length:Int)=l.length:=by omega
  rw[if_pos (.inl e1)] at hZ
  subst hZ
  simp[ef22,rq,rc,e1,e1i]
end Q
end Go.Abs
