--
import Derived.Test.YtllhkifkiabkbaaGreatDoorAbsBTX
import Derived.Test.YtllhkifkiabkbaaGreatDoorAbsBUM
set_option linter.unusedSimpArgs false
set_option linter.unusedVariables false
namespace Go.Abs
namespace B.T.U
set_option maxRecDepth 100000
set_option maxHeartbeats 0
abbrev SlT (h:Heap) (v:Value) (ws:List (List UInt8)):Prop:=Sl 1 h v ws.length (T.cT ws)
def nmA (R:List UInt8→Int × Bool) (ws:List (List UInt8)):List Int × Bool:=nmW R ws.length ws
theorem nmA_ok {R:List UInt8→Int × Bool} {ws:List (List UInt8)} (h:∀ j,j<ws.length→(R (wdA ws j)).2=true):nmA R ws=(nmO R ws ws.length,true):=by
 unfold nmA
 rw[nmW_ok h,decide_eq_true rfl]
theorem nmA_bad {R:List UInt8→Int × Bool} {ws:List (List UInt8)} {j:Nat} (hj:j<ws.length) (h:(R (wdA ws j)).2=false):nmA R ws=([],false):=nmW_bad hj h
theorem ixT {ws:List (List UInt8)} {k:Nat} (hk:k<ws.length):(k:Int)<(ws.length:Int)∧(T.cT ws)[k]?=some (tx (wdA ws k))∧(∀ hh,(T.cT ws)[k]'hh=tx (wdA ws k))∧k+1≤ws.length∧k<ws.length:=by
 have g:=wdA_get hk
 refine⟨by omega,g,fun hh=>?_,by omega,hk⟩
 rw[List.getElem?_eq_getElem hh] at g
 exact Option.some.inj g
theorem c85 {d lim:Nat} {h:Heap} {v:Value} {ws:List (List UInt8)} (s:SlT h v ws) (hn:ws.length≤100000) (hw:∀ i,(wdA ws i).length<100000):E.call (d+5) lim 85 [v] h=some (.tuple #[lVI h.length (nmA (rdn 9) ws).1,.bool (nmA (rdn 9) ws).2],h++lBI (nmA (rdn 9) ws).1):=by
 have r:=s.rules2
 refine call_pure fn85 rfl (by simp[ef85]) ?_
 simp[-collect_own1,ef85,r]
 refine wpC_loop (fun y st=>∃ i:Nat,y=ws.length-i∧i≤ws.length∧(∀ j,j<i→(rdn 9 (wdA ws j)).2=true)∧st=⟨[(0,v),(4,lVI h.length (nmO (rdn 9) ws i)),(5,i64 (i:Nat))],h.freeze++lBI (nmO (rdn 9) ws i)⟩) ws.length (by show ws.length<2 ^ 64; omega) ?_ ?_
 ·simp[-collect_own1,St.tidy,r,collect_box,s.own]
  exact⟨0,by omega,by omega,fun j hj=>by omega,⟨rfl,rfl⟩,rfl⟩
 ·rintro y hy _ ⟨i,rfl,hi,ha,rfl⟩
  have ol:=nmO_len (rdn 9) ws i
  have op:=cI_pl (nmO (rdn 9) ws i)
  by_cases hlt:i<ws.length
  ·have w1':IntKind.i64.wrap ((i:Int)+1)=((i+1:Nat):Int):=by rw[wrap_eq (by omega) (by omega)]; rfl
   obtain⟨p1,p2,p3,p4,p5⟩:=ixT hlt
   have hwi:=hw i
   have qn:∀ L:Heap,E.call (d+4) h.length 95 [tx (wdA ws i),i64 (9:Int)] L=some (.tuple #[i64 (rdn 9 (wdA ws i)).1,.bool (rdn 9 (wdA ws i)).2],L):=fun L=>T.c95 (d:=d+1) (k:=9) (by omega) (by omega)
   rcases hx:rdn 9 (wdA ws i) with ⟨x,u⟩
   have on:nmO (rdn 9) ws (i+1)=nmO (rdn 9) ws i++[x]:=by rw[nmO,hx]
   have op2:=cI_pl (nmO (rdn 9) ws (i+1))
   have sn:=cI_snoc (nmO (rdn 9) ws i) x
   rw[← on] at sn
   have ne1:¬ nmO (rdn 9) ws (i+1)=[]:=fun z=>by have:=nmO_len (rdn 9) ws (i+1); rw[z] at this; cases this
   have clen:(cI (nmO (rdn 9) ws i)).length=i:=by simp[cI,ol]
   rw[hx] at qn
   rcases u with _ | _
   ·rw[nmA_bad (R:=rdn 9) hlt (by rw[hx])]
    rcases Nat.eq_zero_or_pos i with z | z
    ·subst z
     have s0:slAt 1 v (i64 0)=some (.pointer (some ⟨slB v,slO v,none⟩)):=by have:=s.at (k:=.i64) (i:=0) (by omega) (by omega); simpa using this
     have cc0:h.cell (slB v) (slO v)=some (tx (wdA ws 0)):=by
      have:=s.cell 0 (by omega)
      rw[Nat.add_zero] at this
      rw[this,p2]
     simp[-collect_own1,nmO,lVI,lBI,hlt,s0,cc0,qn,r]
    ·have ne:¬ nmO (rdn 9) ws i=[]:=fun z=>by rw[z] at ol; simp at ol; omega
     have i0:¬ i=0:=by omega
     simp[-collect_own1,lVI,lBI,ne,i0,ol,hlt,Nat.not_le.2 hlt,p1,p2,p3,p4,qn,r]
   ·rcases Nat.eq_zero_or_pos i with z | z
    ·subst z
     have s0:slAt 1 v (i64 0)=some (.pointer (some ⟨slB v,slO v,none⟩)):=by have:=s.at (k:=.i64) (i:=0) (by omega) (by omega); simpa using this
     have cc0:h.cell (slB v) (slO v)=some (tx (wdA ws 0)):=by
      have:=s.cell 0 (by omega)
      rw[Nat.add_zero] at this
      rw[this,p2]
     have sn0:[i64 x]=cI (nmO (rdn 9) ws 1):=sn
     simp[-collect_own1,nmO,lVI,lBI,hlt,s0,cc0,qn,r,fillL,zeros,E.append,E.added,w1',St.tidy,collect_box,s.own]
     exact⟨by decide,ws.length-1,by omega,1,by omega,by omega,fun j hj=>by
      obtain rfl:j=0:=by omega
      rw[hx],⟨by rw[if_neg ne1,nmO_len],by omega⟩,by rw[if_neg ne1,← sn0]⟩
    ·have ne:¬ nmO (rdn 9) ws i=[]:=fun z=>by rw[z] at ol; simp at ol; omega
     have i0:¬ i=0:=by omega
     simp[-collect_own1,lVI,lBI,ne,i0,ol,hlt,Nat.not_le.2 hlt,p1,p2,p3,p4,qn,r,fillL,zeros,E.append,E.added,clen,sn,op2,w1',Nat.add_assoc,St.tidy,collect_box,s.own]
     exact⟨⟨by omega,by unfold maxLen; omega⟩,ws.length-(i+1),by omega,i+1,by omega,by omega,fun j hj=>by
      by_cases q:j=i
      ·subst q; rw[hx]
      ·exact ha j (by omega),⟨by rw[if_neg ne1,nmO_len],by omega⟩,by rw[if_neg ne1]⟩
  ·obtain rfl:i=ws.length:=by omega
   rw[nmA_ok ha]
   by_cases ne:nmO (rdn 9) ws ws.length=[]
   ·have w0:ws.length=0:=by rw[ne] at ol; exact ol.symm
    obtain rfl:ws=[]:=List.length_eq_zero_iff.1 w0
    simp[nmO,lVI,lBI,r]
   ·simp[lVI,lBI,ne,ol,op,r]
theorem c83 {d lim:Nat} {h:Heap} {v:Value} {ws:List (List UInt8)} (s:SlT h v ws) (e:T.Er h) (hn:ws.length≤100000) (hw:∀ i,(wdA ws i).length<100000):E.call (d+5) lim 83 [v] h=some (.tuple #[lVI h.length (nmA (whl 9) ws).1,.bool (nmA (whl 9) ws).2],h++lBI (nmA (whl 9) ws).1):=by
 have r:=s.rules2
 refine call_pure fn83 rfl (by simp[ef83]) ?_
 simp[-collect_own1,ef83,r]
 refine wpC_loop (fun y st=>∃ i:Nat,y=ws.length-i∧i≤ws.length∧(∀ j,j<i→(whl 9 (wdA ws j)).2=true)∧st=⟨[(4,lVI h.length (nmO (whl 9) ws i)),(9,v),(10,i64 (ws.length:Nat)),(11,i64 (i:Nat))],h.freeze++lBI (nmO (whl 9) ws i)⟩) ws.length (by show ws.length<2 ^ 64; omega) ?_ ?_
 ·simp[-collect_own1,St.tidy,r,collect_box,s.own]
  exact⟨0,by omega,by omega,fun j hj=>by omega,⟨rfl,rfl⟩,rfl⟩
 ·rintro y hy _ ⟨i,rfl,hi,ha,rfl⟩
  have ol:=nmO_len (whl 9) ws i
  have op:=cI_pl (nmO (whl 9) ws i)
  by_cases hlt:i<ws.length
  ·have w1':IntKind.i64.wrap ((i:Int)+1)=((i+1:Nat):Int):=by rw[wrap_eq (by omega) (by omega)]; rfl
   obtain⟨p1,p2,p3,p4,p5⟩:=ixT hlt
   have hwi:=hw i
   rcases hx:whl 9 (wdA ws i) with ⟨x,u⟩
   have on:nmO (whl 9) ws (i+1)=nmO (whl 9) ws i++[x]:=by rw[nmO,hx]
   have op2:=cI_pl (nmO (whl 9) ws (i+1))
   have sn:=cI_snoc (nmO (whl 9) ws i) x
   rw[← on] at sn
   have ne1:¬ nmO (whl 9) ws (i+1)=[]:=fun z=>by have:=nmO_len (whl 9) ws (i+1); rw[z] at this; cases this
   have clen:(cI (nmO (whl 9) ws i)).length=i:=by simp[cI,ol]
   have q125z:=T.c125 (d:=d+3) (lim:=h.length) (l:=wdA ws i) e.freeze (by omega)
   have q125:=fun L:Heap=>T.c125 (d:=d+3) (lim:=h.length) (h:=h.freeze++L) (l:=wdA ws i) e.freeze.app (by omega)
   have hx0:=hx
   unfold whl at hx
   rcases hA:Lib.atoiAll (wdA ws i) with n | _ | _
   ·rw[hA] at q125 q125z hx
    simp only at q125 q125z hx
    have R:=T.R64_ok hA
    have t:=trim_unsg (wdA ws i)
    simp at t
    have q71:=fun L:Heap=>T.c71 (d:=d+3) (lim:=h.length) (h:=L) R
    have q126:∀ L:Heap,E.call (d+4) h.length 126 [tx (wdA ws i),tx [45]] L=some (tx (unsg (wdA ws i)),L):=fun L=>(show _=some (tx (if (wdA ws i).take 1=[45] then (wdA ws i).drop 1 else wdA ws i),L) from c126 (d:=d+1)).trans (by rw[trim_unsg])
    by_cases z0:dec n=wdA ws i
    ·by_cases z1:(unsg (wdA ws i)).length≤9
     ·have z1':¬ (9:Int)<(unsg (wdA ws i)).length:=by omega
      have z1n:((unsg (wdA ws i)).length:Int)≤9:=by omega
      have z0i:(unsg (wdA ws i)).length<10:=by omega
      simp[z0,z1,z1n,z0i] at hx
      obtain⟨rfl,rfl⟩:=hx
      rcases Nat.eq_zero_or_pos i with z | z
      ·subst z
       have s0:slAt 1 v (i64 0)=some (.pointer (some ⟨slB v,slO v,none⟩)):=by have:=s.at (k:=.i64) (i:=0) (by omega) (by omega); simpa using this
       have cc0:h.cell (slB v) (slO v)=some (tx (wdA ws 0)):=by
        have:=s.cell 0 (by omega)
        rw[Nat.add_zero] at this
        rw[this,p2]
       have sn0:[i64 n]=cI (nmO (whl 9) ws 1):=sn
       simp[-collect_own1,nmO,lVI,lBI,hlt,s0,cc0,q125,q125z,q71,q126,z0,z1,z1',z1n,r,fillL,zeros,E.append,E.added,w1',St.tidy,collect_box,s.own]
       exact⟨by decide,ws.length-1,by omega,1,by omega,by omega,fun j hj=>by
        obtain rfl:j=0:=by omega
        rw[hx0],⟨by rw[if_neg ne1,nmO_len],by omega⟩,by rw[if_neg ne1,← sn0]⟩
      ·have ne:¬ nmO (whl 9) ws i=[]:=fun z=>by rw[z] at ol; simp at ol; omega
       have i0:¬ i=0:=by omega
       simp[-collect_own1,lVI,lBI,ne,i0,ol,hlt,Nat.not_le.2 hlt,p1,p2,p3,p4,q125,q125z,q71,q126,z0,z1,z1',z1n,r,fillL,zeros,E.append,E.added,clen,sn,op2,w1',Nat.add_assoc,St.tidy,collect_box,s.own]
       exact⟨⟨by omega,by unfold maxLen; omega⟩,ws.length-(i+1),by omega,i+1,by omega,by omega,fun j hj=>by
        by_cases q:j=i
        ·subst q; rw[hx0]
        ·exact ha j (by omega),⟨by rw[if_neg ne1,nmO_len],by omega⟩,by rw[if_neg ne1]⟩
     ·have z1':(9:Int)<(unsg (wdA ws i)).length:=by omega
      have z1n:¬ ((unsg (wdA ws i)).length:Int)≤9:=by omega
      have z2:9<(unsg (wdA ws i)).length:=by omega
      simp[z0,z1,z1n,z2] at hx
      obtain⟨rfl,rfl⟩:=hx
      rw[nmA_bad (R:=whl 9) hlt (by rw[hx0])]
      rcases Nat.eq_zero_or_pos i with z | z
      ·subst z
       have s0:slAt 1 v (i64 0)=some (.pointer (some ⟨slB v,slO v,none⟩)):=by have:=s.at (k:=.i64) (i:=0) (by omega) (by omega); simpa using this
       have cc0:h.cell (slB v) (slO v)=some (tx (wdA ws 0)):=by
        have:=s.cell 0 (by omega)
        rw[Nat.add_zero] at this
        rw[this,p2]
       simp[-collect_own1,nmO,lVI,lBI,hlt,s0,cc0,q125,q125z,q71,q126,z0,z1,z1',z1n,z2,r]
      ·have ne:¬ nmO (whl 9) ws i=[]:=fun z=>by rw[z] at ol; simp at ol; omega
       have i0:¬ i=0:=by omega
       simp[-collect_own1,lVI,lBI,ne,i0,ol,hlt,Nat.not_le.2 hlt,p1,p2,p3,p4,q125,q125z,q71,q126,z0,z1,z1',z1n,z2,r]
    ·simp[z0] at hx
     obtain⟨rfl,rfl⟩:=hx
     rw[nmA_bad (R:=whl 9) hlt (by rw[hx0])]
     rcases Nat.eq_zero_or_pos i with z | z
     ·subst z
      have s0:slAt 1 v (i64 0)=some (.pointer (some ⟨slB v,slO v,none⟩)):=by have:=s.at (k:=.i64) (i:=0) (by omega) (by omega); simpa using this
      have cc0:h.cell (slB v) (slO v)=some (tx (wdA ws 0)):=by
       have:=s.cell 0 (by omega)
       rw[Nat.add_zero] at this
       rw[this,p2]
      simp[-collect_own1,nmO,lVI,lBI,hlt,s0,cc0,q125,q125z,q71,q126,z0,r]
     ·have ne:¬ nmO (whl 9) ws i=[]:=fun z=>by rw[z] at ol; simp at ol; omega
      have i0:¬ i=0:=by omega
      simp[-collect_own1,lVI,lBI,ne,i0,ol,hlt,Nat.not_le.2 hlt,p1,p2,p3,p4,q125,q125z,q71,q126,z0,r]
   ·rw[hA] at q125 q125z hx
    simp only at q125 q125z hx
    simp at hx
    obtain⟨rfl,rfl⟩:=hx
    rw[nmA_bad (R:=whl 9) hlt (by rw[hx0])]
    rcases Nat.eq_zero_or_pos i with z | z
    ·subst z
     have s0:slAt 1 v (i64 0)=some (.pointer (some ⟨slB v,slO v,none⟩)):=by have:=s.at (k:=.i64) (i:=0) (by omega) (by omega); simpa using this
     have cc0:h.cell (slB v) (slO v)=some (tx (wdA ws 0)):=by
      have:=s.cell 0 (by omega)
      rw[Nat.add_zero] at this
      rw[this,p2]
     simp[-collect_own1,nmO,lVI,lBI,hlt,s0,cc0,q125,q125z,r]
    ·have ne:¬ nmO (whl 9) ws i=[]:=fun z=>by rw[z] at ol; simp at ol; omega
     have i0:¬ i=0:=by omega
     simp[-collect_own1,lVI,lBI,ne,i0,ol,hlt,Nat.not_le.2 hlt,p1,p2,p3,p4,q125,q125z,r]
   ·rw[hA] at q125 q125z hx
    simp only at q125 q125z hx
    simp at hx
    obtain⟨rfl,rfl⟩:=hx
    rw[nmA_bad (R:=whl 9) hlt (by rw[hx0])]
    rcases Nat.eq_zero_or_pos i with z | z
    ·subst z
     have s0:slAt 1 v (i64 0)=some (.pointer (some ⟨slB v,slO v,none⟩)):=by have:=s.at (k:=.i64) (i:=0) (by omega) (by omega); simpa using this
     have cc0:h.cell (slB v) (slO v)=some (tx (wdA ws 0)):=by
      have:=s.cell 0 (by omega)
      rw[Nat.add_zero] at this
      rw[this,p2]
     simp[-collect_own1,nmO,lVI,lBI,hlt,s0,cc0,q125,q125z,r]
    ·have ne:¬ nmO (whl 9) ws i=[]:=fun z=>by rw[z] at ol; simp at ol; omega
     have i0:¬ i=0:=by omega
     simp[-collect_own1,lVI,lBI,ne,i0,ol,hlt,Nat.not_le.2 hlt,p1,p2,p3,p4,q125,q125z,r]
  ·obtain rfl:i=ws.length:=by omega
   rw[nmA_ok ha]
   by_cases ne:nmO (whl 9) ws ws.length=[]
   ·have w0:ws.length=0:=by rw[ne] at ol; exact ol.symm
    obtain rfl:ws=[]:=List.length_eq_zero_iff.1 w0
    simp[nmO,lVI,lBI,r]
   ·simp[lVI,lBI,ne,ol,op,r]
end B.T.U
end Go.Abs
namespace Go.Abs
theorem Sl.sub {es:Nat} {h:Heap} {b o n:Nat} {cs:List Value} (s:Sl es h (.slice (some ⟨b,o,none⟩) n es) n cs) {a c:Nat} (hb:b<h.length) (ha:a≤c) (hc:c≤n) :
  Sl es h (.slice (some ⟨b,o+a * es,none⟩) (c-a) es) (c-a) ((cs.drop (a * es)).take ((c-a) * es)):=by
 have hz:=s.size
 have h1:(c-a) * es+a * es≤n * es:=by rw[← Nat.add_mul]; exact Nat.mul_le_mul_right _ (by omega)
 refine⟨rfl,by rw[List.length_take,List.length_drop,hz]; omega,fun _=>rfl,.inr ⟨_,_,_,_,rfl,hb⟩,fun k hk=>?_⟩
 have:=s.cell (a * es+k) (by omega)
 simp only[slB_some,slO_some] at this ⊢
 rw[Nat.add_assoc,this,List.getElem?_take,if_pos hk,List.getElem?_drop]
namespace B.T.U
set_option maxRecDepth 100000
set_option maxHeartbeats 0
def OutG {α:Type} (f:α→List Value) (es base:Nat) (L:List (Option Blk)) (c:Nat) (v:Value) (l:List α):Prop :=
 (l=[]∧v=.slice none 0 0)∨(l≠[]∧v=.slice (some ⟨base+c,0,none⟩) l.length es∧L[c]?=some (some ⟨cS f l,true⟩))
section
variable {α:Type} {f:α→List Value} {es base:Nat} {L L':List (Option Blk)} {c:Nat} {v:Value} {l:List α}
theorem OutG.keep (g:OutG f es base L c v l) (k:l≠[]→L'[c]?=L[c]?):OutG f es base L' c v l:=by
 rcases g with g | ⟨h1,h2,h3⟩
 ·exact .inl g
 ·exact .inr ⟨h1,h2,by rw[k h1,h3]⟩
theorem OutG.app (g:OutG f es base L c v l) (N:List (Option Blk)):OutG f es base (L++N) c v l:=g.keep fun h=>by
 rcases g with g | ⟨_,_,h3⟩
 ·exact absurd g.1 h
 ·exact lget_left (lget_lt h3)
theorem OutG.lt (g:OutG f es base L c v l) (h:l≠[]):c<L.length:=by
 rcases g with g | ⟨_,_,h3⟩
 ·exact absurd g.1 h
 ·exact lget_lt h3
theorem OutG.sl (hf:∀ a,(f a).length=es) {H:Heap} (hb:H.length=base) (g:OutG f es base L c v l):Sl es (H++L) v l.length (cS f l):=by
 subst hb
 rcases g with ⟨rfl,rfl⟩ | ⟨_,rfl,h⟩
 ·exact⟨rfl,by simp[cS],fun q=>absurd rfl q,.inl rfl,fun k hk=>by simp at hk⟩
 ·exact Sl_own (f:=f) (es:=es) hf (by rw[hget_base rfl,h]; rfl) rfl
theorem OutG.slN (g:OutG f es base L c v l):slN v=some l.length:=by
 rcases g with ⟨rfl,rfl⟩ | ⟨_,rfl,_⟩ <;> rfl
theorem OutG.trim (hf:∀ a,(f a).length=es) {H:Heap} (hb:H.length=base) (g:OutG f es base L c v l) (N:List (Option Blk)):Heap.trim (H++(L++N)) v=H++(L++N):=by
 subst hb
 rcases g with ⟨rfl,rfl⟩ | ⟨_,rfl,h⟩
 ·rfl
 ·have lc:=lget_lt h
  have cl:(cS f l).length=l.length * es:=cS_len hf l
  have gc:Heap.get (H++(L++N)) (H.length+c)=some ⟨cS f l,true⟩:=by rw[hget_base rfl,lget_left lc,h]; rfl
  unfold Heap.trim
  simp only[gc]
  rw[Nat.zero_add,← cl,List.take_length,hput_base rfl]
  congr 1
  apply List.ext_getElem?
  intro j
  by_cases q:c=j
  ·subst q; rw[List.getElem?_set_self (by simp; omega),lget_left lc,h]
  ·rw[List.getElem?_set_ne q]
theorem OutG.ap {bytes:Nat} (hf:∀ a,(f a).length=es) (hes:0<es) (h1:∀ a,(f a).all Value.oneCell'=true) {H:Heap} (hb:H.length=base) (g:OutG f es base L c v l) (N:List (Option Blk)) (u:α) (hby:(l.length+1) * bytes≤140737488355328) (hmx:l.length+1≤9223372036854775807) :
  E.append (H++(L++(N++[some ⟨f u,true⟩]))) es bytes v (.slice (some ⟨base+(L.length+N.length),0,none⟩) 1 es) =
   if l=[] then some ⟨.slice (some ⟨base+(L.length+(N.length+1)),0,none⟩) 1 es,[base+(L.length+N.length)],.push ⟨f u,true⟩⟩
   else some ⟨.slice (some ⟨base+(L.length+(N.length+1)),0,none⟩) (l.length+1) es,[base+c,base+(L.length+N.length)],.move (base+c) ⟨cS f (l++[u]),true⟩⟩:=by
 subst hb
 have gx:Heap.get (H++(L++(N++[some ⟨f u,true⟩]))) (H.length+(L.length+N.length))=some ⟨f u,true⟩:=by
  rw[hget_base rfl,lget_right rfl,lget_right0 rfl]; rfl
 have ln:(H++(L++(N++[some (Blk.mk (f u) true)]))).length=H.length+(L.length+(N.length+1)):=by simp
 rcases g with ⟨rfl,rfl⟩ | ⟨hne,rfl,hg⟩
 ·rw[if_pos rfl]
  have:=app_one0 (es:=es) (bytes:=bytes) gx (hf u) (h1 u) hes (by simpa using hby)
  rw[ln] at this
  exact this
 ·rw[if_neg hne]
  have lc:=lget_lt hg
  have gc:Heap.get (H++(L++(N++[some ⟨f u,true⟩]))) (H.length+c)=some ⟨cS f l,true⟩:=by rw[hget_base rfl,lget_left lc,hg]; rfl
  have cl:(cS f l).length=l.length * es:=cS_len hf l
  have ca:cS f l++f u=cS f (l++[u]):=by simp[cS]
  have:=app_one (es:=es) (bytes:=bytes) (n:=l.length) gc cl.symm hes gx (hf u) (h1 u) hby hmx
  rw[ln,ca] at this
  exact this
end
structure Fam (BB:Int→Value→Value→Heap) (n bx:Nat):Prop where
 len:∀ f w u,(BB f w u).length=n
 get:∀ f w u,(BB f w u).get bx=some ⟨[i64 f,w,u],true⟩
 put:∀ f w u f' w' u',(BB f w u).put bx (some ⟨[i64 f',w',u'],true⟩)=BB f' w' u'
 er:∀ f w u,T.Er (BB f w u)
theorem Fam.lt {BB:Int→Value→Value→Heap} {n bx:Nat} (F:Fam BB n bx):bx<n:=by
 have:=Heap.get_lt (F.get 0 (.slice none 0 0) (.slice none 0 0))
 rwa [F.len] at this
theorem hget_l {H N:Heap} {b:Nat} (h:b<H.length):Heap.get (H++N) b=H.get b:=by
 unfold Heap.get
 rw[List.getElem?_append_left h]
theorem hput_l {H N:Heap} {b:Nat} {x:Option Blk} (h:b<H.length):Heap.put (H++N) b x=H.put b x++N:=by
 unfold Heap.put
 exact List.set_append_left _ _ h
theorem Fam.gets {BB:Int→Value→Value→Heap} {n bx:Nat} (F:Fam BB n bx) (f:Int) (w u:Value) (M:Heap):Heap.get (BB f w u++M) bx=some ⟨[i64 f,w,u],true⟩:=by
 rw[hget_l (by rw[F.len]; exact F.lt),F.get]
theorem Fam.puts {BB:Int→Value→Value→Heap} {n bx:Nat} (F:Fam BB n bx) (f:Int) (w u:Value) (f':Int) (w' u':Value) (M:Heap):Heap.put (BB f w u++M) bx (some ⟨[i64 f',w',u'],true⟩)=BB f' w' u'++M:=by
 rw[hput_l (by rw[F.len]; exact F.lt),F.put]
theorem Fam.cells {BB:Int→Value→Value→Heap} {n bx:Nat} (F:Fam BB n bx) (f:Int) (w u:Value) (M:Heap) (o:Nat):Heap.cell (BB f w u++M) bx o=[i64 f,w,u][o]?:=by
 unfold Heap.cell
 rw[F.gets]; rfl
abbrev S3:=Int × List Wi × List Un
def wFork:List UInt8:=[102,111,114,107]
def wWire:List UInt8:=[119,105,114,101]
def wUni:List UInt8:=[117,110,105,115,111,110]
def gI (g:List Int) (i:Nat):Int:=g.getD i 0
abbrev bt (l:List UInt8):ByteArray:=⟨l.toArray⟩
def mkW (W:List (List UInt8)) (g:List Int):Wi:=⟨bt (wdA W 1),gI g 0,gI g 1,gI g 2⟩
def mkU (W:List (List UInt8)) (g:List Int):Un:=⟨gI g 0,gI g 1,gI g 2,gI g 3,gI g 4,⟨gI g 5,gI g 6,gI g 7,bt (wdA W 9),bt (if wdA W 10=[45] then [] else wdA W 10)⟩⟩
def stp (R:List UInt8→Int × Bool) (s:S3) (W:List (List UInt8)) (k:Nat):Option S3 :=
 if k=0 then (if W.length=2∧wdA W 0=wFork∧(R (wdA W 1)).2=true then some ((R (wdA W 1)).1,s.2) else none)
 else if wdA W 0=wWire∧W.length=5∧s.2.2=[] then (if (nmA R (W.drop 2)).2=true then some (s.1,s.2.1++[mkW W (nmA R (W.drop 2)).1],s.2.2) else none)
 else if wdA W 0=wUni∧W.length=11 then (if (nmA R ((W.drop 1).take 8)).2=true then some (s.1,s.2.1,s.2.2++[mkU W (nmA R ((W.drop 1).take 8)).1]) else none)
 else none
structure St2 (n:Nat) (M:List (Option Blk)) (cw cu:Nat) (wv uv:Value) (wl:List Wi) (l:List Un):Prop where
 w:OutG encW 4 n M cw wv wl
 u:OutG encN 10 n M cu uv l
 ne:wl≠[]→l≠[]→cw≠cu
theorem St2.app {n:Nat} {M:List (Option Blk)} {cw cu:Nat} {wv uv:Value} {wl:List Wi} {l:List Un} (g:St2 n M cw cu wv uv wl l) (N:List (Option Blk)):St2 n (M++N) cw cu wv uv wl l:=⟨g.w.app N,g.u.app N,g.ne⟩
theorem St2.z {n:Nat} {M:List (Option Blk)}:St2 n M 0 0 (.slice none 0 0) (.slice none 0 0) [] []:=⟨.inl ⟨rfl,rfl⟩,.inl ⟨rfl,rfl⟩,fun a=>absurd rfl a⟩
theorem encW_len (w:Wi):(encW w).length=4:=rfl
theorem encN_len (u:Un):(encN u).length=10:=rfl
end B.T.U
end Go.Abs
namespace Go.Abs
namespace B.T.U
set_option maxRecDepth 100000
set_option maxHeartbeats 0
def WdAt (BB:Int→Value→Value→Heap) (M:Heap) (b:Nat) (W:List (List UInt8)):Prop:=∀ f w u N,Heap.get (BB f w u++(M++N)) b=some ⟨T.cT W,true⟩
theorem WdAt.z {BB:Int→Value→Value→Heap} {M:Heap} {b:Nat} {W:List (List UInt8)} (h:WdAt BB M b W) (f:Int) (w u:Value):Heap.get (BB f w u++M) b=some ⟨T.cT W,true⟩:=by
 have:=h f w u []
 rwa [List.append_nil] at this
theorem WdAt.c {BB:Int→Value→Value→Heap} {M:Heap} {b:Nat} {W:List (List UInt8)} (h:WdAt BB M b W) (f:Int) (w u:Value) (N:Heap) (o:Nat):Heap.cell (BB f w u++(M++N)) b o=(T.cT W)[o]?:=by
 unfold Heap.cell
 rw[h]; rfl
theorem WdAt.cz {BB:Int→Value→Value→Heap} {M:Heap} {b:Nat} {W:List (List UInt8)} (h:WdAt BB M b W) (f:Int) (w u:Value) (o:Nat):Heap.cell (BB f w u++M) b o=(T.cT W)[o]?:=by
 unfold Heap.cell
 rw[h.z]; rfl
theorem WdAt.sl {BB:Int→Value→Value→Heap} {M:Heap} {b:Nat} {W:List (List UInt8)} (h:WdAt BB M b W) (f:Int) (w u:Value) {a c:Nat} (ha:a≤c) (hc:c≤W.length):SlT (BB f w u++M) (.slice (some ⟨b,a,none⟩) (c-a) 1) ((W.drop a).take (c-a)):=by
 have s:Sl 1 (BB f w u++M) (.slice (some ⟨b,0,none⟩) W.length 1) W.length (T.cT W):=by
  refine⟨rfl,by rw[T.cT_len,Nat.mul_one],fun _=>rfl,.inr ⟨_,_,_,_,rfl,Heap.get_lt (h.z f w u)⟩,fun k hk=>?_⟩
  simp only[slB_some,slO_some]
  rw[Nat.zero_add,h.cz]
 have q:=s.sub (Heap.get_lt (h.z f w u)) ha hc
 rw[Nat.zero_add,Nat.mul_one,Nat.mul_one] at q
 have e1:((W.drop a).take (c-a)).length=c-a:=by rw[List.length_take,List.length_drop]; omega
 have e2:T.cT ((W.drop a).take (c-a))=((T.cT W).drop a).take (c-a):=by unfold T.cT; rw[← List.map_drop,← List.map_take]
 show Sl 1 _ _ ((W.drop a).take (c-a)).length (T.cT ((W.drop a).take (c-a)))
 rw[e1,e2]
 exact q
theorem len5 {W:List (List UInt8)} (h:W.length=5):∃ a b c d e,W=[a,b,c,d,e]:=by
 match W,h with
 | [a,b,c,d,e],_=>exact⟨a,b,c,d,e,rfl⟩
theorem len3 {l:List Int} (h:l.length=3):∃ a b c,l=[a,b,c]:=by
 match l,h with
 | [a,b,c],_=>exact⟨a,b,c,rfl⟩
theorem nmA_len {R:List UInt8→Int × Bool} {W:List (List UInt8)} (h:(nmA R W).2=true):(nmA R W).1.length=W.length:=by
 by_cases q:∀ j,j<W.length→(R (wdA W j)).2=true
 ·rw[nmA_ok q,nmO_len]
 ·have:∃ j,j<W.length∧¬ (R (wdA W j)).2=true:=by
   refine Classical.byContradiction fun z=>q fun j hj=>Classical.byContradiction fun y=>z ⟨j,hj,y⟩
  obtain⟨j,hj,hb⟩:=this
  rw[nmA_bad hj (by simpa using hb)] at h
  cases h
theorem c46w {d lim n bx b k cw cu:Nat} {BB:Int→Value→Value→Heap} (F:Fam BB n bx) (hlim:lim≤bx) {f:Int} {wv uv:Value} {wl:List Wi} {M:Heap} (g:St2 n M cw cu wv uv wl []) (hwl:wl.length≤100000) {w0 w1 w2 w3 w4:List UInt8} (hW:WdAt BB M b [w0,w1,w2,w3,w4]) (h0:w0=wWire)
  (hs:∀ i,(wdA [w0,w1,w2,w3,w4] i).length<100000) (hk:0<k) (hk2:k<1000000) {n0 n1 n2:Int} (hx:nmA (whl 9) [w2,w3,w4]=([n0,n1,n2],true)) :
  ∃ M' cw' wv',E.call (d+6) lim 46 [pt bx,.slice (some ⟨b,0,none⟩) 5 1,i64 (k:Int)] (BB f wv uv++M)=some (.bool true,BB f wv' uv++M')∧St2 n M' cw' cu wv' uv (wl++[⟨bt w1,n0,n1,n2⟩]) []:=by
 have Fl:=F.len
 have G:=F.gets
 have P:=F.puts
 have C:=F.cells
 have Cw:=hW.c
 have Cz:=hW.cz
 have k0:¬ k=0:=by omega
 have kb:((k:Int) == 0)=false:=by simp; omega
 have k83:∀ f w u,E.call (d+5) lim 83 [.slice (some ⟨b,2,none⟩) 3 1] (BB f w u++M)=some (.tuple #[.slice (some ⟨n+M.length,0,none⟩) 3 1,.bool true],BB f w u++(M++[some ⟨[i64 n0,i64 n1,i64 n2],true⟩])):=fun f w u=>by
  have s:=hW.sl f w u (a:=2) (c:=5) (by omega) (by simp)
  have q:=c83 (d:=d) (lim:=lim) s (F.er f w u).app (by simp) (fun i=>by
   have:=hs (2+i)
   have e:wdA ((List.drop 2 [w0,w1,w2,w3,w4]).take (5-2)) i=wdA [w0,w1,w2,w3,w4] (2+i):=by
    unfold wdA
    rw[Nat.add_comm]
    rfl
   rw[e]; exact this)
  rw[show (List.drop 2 [w0,w1,w2,w3,w4]).take (5-2)=[w2,w3,w4] from rfl,hx] at q
  simp only[lVI,lBI,if_neg (show ¬ [n0,n1,n2]=[] by simp),List.length_append,Fl,List.append_assoc] at q
  exact q
 obtain⟨v,h',e1,e2⟩:∃ v h',E.call (d+6) lim 46 [pt bx,.slice (some ⟨b,0,none⟩) 5 1,i64 (k:Int)] (BB f wv uv++M)=some (v,h')∧(v=.bool true∧∃ M' cw' wv',h'=BB f wv' uv++M'∧St2 n M' cw' cu wv' uv (wl++[⟨bt w1,n0,n1,n2⟩]) []):=by
  refine full_ex fn46 rfl (by simp[ef46]) ?_
  have uvn:slN uv=some 0:=g.u.slN
  have uvz:uv=.slice none 0 0:=by
   rcases g.u with z | z
   ·exact z.2
   ·exact absurd rfl z.1
  subst h0
  have gn:∀ f w u N,Heap.get (BB f w u++(M++(some ⟨[i64 n0,i64 n1,i64 n2],true⟩::N))) (n+M.length)=some ⟨[i64 n0,i64 n1,i64 n2],true⟩:=fun f w u N=>by
   rw[hget_base (Fl f w u).symm,lget_right0 rfl]; rfl
  have cn:∀ f w u N o,Heap.cell (BB f w u++(M++(some ⟨[i64 n0,i64 n1,i64 n2],true⟩::N))) (n+M.length) o=[i64 n0,i64 n1,i64 n2][o]?:=fun f w u N o=>by
   unfold Heap.cell; rw[gn]; rfl
  have tr:=g.w.trim (f:=encW) encW_len (H:=BB f wv uv) (Fl f wv uv)
  have ap:=g.w.ap (bytes:=40) encW_len (by decide) (fun _=>rfl) (Fl f wv uv) [some ⟨[i64 n0,i64 n1,i64 n2],true⟩] ⟨bt w1,n0,n1,n2⟩ (by omega) (by omega)
  simp only[encW,List.cons_append,List.nil_append,List.length_cons,List.length_nil,Nat.zero_add] at ap
  have lb:lim≤bx:=hlim
  by_cases e:wl=[]
  ·simp only[if_pos e] at ap
   simp[ef46,E.bound,k0,kb,Cz,Cw,C,uvn,k83,cn,G,P,Fl,tr,T.cT,wWire,ap,lb]
   exact⟨_,M.length+2,_,rfl,.inr ⟨by simp,by rw[e]; rfl,by rw[lget_right rfl,e]; rfl⟩,.inl ⟨rfl,uvz⟩,fun _ h=>absurd rfl h⟩
  ·simp only[if_neg e] at ap
   have lc:=g.w.lt e
   have PM:∀ f w u N x,Heap.put (BB f w u++(M++N)) (n+cw) x=BB f w u++(M.set cw x++N):=fun f w u N x=>by rw[hput_base (Fl f w u).symm,lset_left lc]
   simp[ef46,E.bound,k0,kb,Cz,Cw,C,uvn,k83,cn,G,P,Fl,tr,T.cT,wWire,ap,lb,PM]
   exact⟨_,M.length+2,_,rfl,.inr ⟨by simp,by simp,by rw[show M.length+2=(M.set cw none).length+2 by simp,lget_right rfl]; rfl⟩,.inl ⟨rfl,uvz⟩,fun _ h=>absurd rfl h⟩
 obtain⟨rfl,M',cw',wv',rfl,g1⟩:=e2
 exact⟨M',cw',wv',e1,g1⟩
end B.T.U
end Go.Abs
namespace Go.Abs
namespace B.T.U
set_option maxRecDepth 100000
set_option maxHeartbeats 0
theorem k83g {d lim n bx b:Nat} {BB:Int→Value→Value→Heap} (F:Fam BB n bx) {M:Heap} {W:List (List UInt8)} (hW:WdAt BB M b W) (hs:∀ i,(wdA W i).length<100000) {a c:Nat} (ha:a≤c) (hc:c≤W.length) (hl:W.length≤100000) (f:Int) (w u:Value) :
  E.call (d+5) lim 83 [.slice (some ⟨b,a,none⟩) (c-a) 1] (BB f w u++M)=some (.tuple #[lVI (n+M.length) (nmA (whl 9) ((W.drop a).take (c-a))).1,.bool (nmA (whl 9) ((W.drop a).take (c-a))).2],BB f w u++(M++lBI (nmA (whl 9) ((W.drop a).take (c-a))).1)):=by
 have s:=hW.sl f w u ha hc
 have q:=c83 (d:=d) (lim:=lim) s (F.er f w u).app (by simp; omega) (fun i=>by
  by_cases z:i<c-a
  ·have e:wdA ((List.drop a W).take (c-a)) i=wdA W (a+i):=by
    unfold wdA
    rw[List.getElem?_take,if_pos z,List.getElem?_drop]
   rw[e]; exact hs _
  ·have e:wdA ((List.drop a W).take (c-a)) i=[]:=by
    unfold wdA
    rw[List.getElem?_take,if_neg z]; rfl
   rw[e]; decide)
 rw[List.length_append,F.len,List.append_assoc] at q
 exact q
theorem c46u {d lim n bx b k cw cu:Nat} {BB:Int→Value→Value→Heap} (F:Fam BB n bx) (hlim:lim≤bx) {f:Int} {wv uv:Value} {wl:List Wi} {l:List Un} {M:Heap} (g:St2 n M cw cu wv uv wl l) (hul:l.length≤100000) {w0 w1 w2 w3 w4 w5 w6 w7 w8 w9 w10:List UInt8} (hW:WdAt BB M b [w0,w1,w2,w3,w4,w5,w6,w7,w8,w9,w10]) (h0:w0=wUni)
  (hs:∀ i,(wdA [w0,w1,w2,w3,w4,w5,w6,w7,w8,w9,w10] i).length<100000) (hk:0<k) (hk2:k<1000000) {n0 n1 n2 n3 n4 n5 n6 n7:Int} (hx:nmA (whl 9) [w1,w2,w3,w4,w5,w6,w7,w8]=([n0,n1,n2,n3,n4,n5,n6,n7],true)) :
  ∃ M' cu' uv',E.call (d+6) lim 46 [pt bx,.slice (some ⟨b,0,none⟩) 11 1,i64 (k:Int)] (BB f wv uv++M)=some (.bool true,BB f wv uv'++M')∧St2 n M' cw cu' wv uv' wl (l++[⟨n0,n1,n2,n3,n4,⟨n5,n6,n7,bt w9,bt (if w10=[45] then [] else w10)⟩⟩]):=by
 have Fl:=F.len
 have G:=F.gets
 have P:=F.puts
 have C:=F.cells
 have Cw:=hW.c
 have Cz:=hW.cz
 have k0:¬ k=0:=by omega
 have kb:((k:Int) == 0)=false:=by simp; omega
 have k83:=k83g (d:=d) (lim:=lim) F hW hs (a:=1) (c:=9) (by omega) (by simp) (by simp)
 rw[show (List.drop 1 [w0,w1,w2,w3,w4,w5,w6,w7,w8,w9,w10]).take (9-1)=[w1,w2,w3,w4,w5,w6,w7,w8] from rfl,hx] at k83
 simp only[lVI,lBI,if_neg (show ¬ [n0,n1,n2,n3,n4,n5,n6,n7]=[] by simp)] at k83
 rw[show 9-1=8 from rfl,show ([n0,n1,n2,n3,n4,n5,n6,n7]).length=8 from rfl,show cI [n0,n1,n2,n3,n4,n5,n6,n7]=[i64 n0,i64 n1,i64 n2,i64 n3,i64 n4,i64 n5,i64 n6,i64 n7] from rfl] at k83
 obtain⟨v,h',e1,e2⟩:∃ v h',E.call (d+6) lim 46 [pt bx,.slice (some ⟨b,0,none⟩) 11 1,i64 (k:Int)] (BB f wv uv++M)=some (v,h')∧(v=.bool true∧∃ M' cu' uv',h'=BB f wv uv'++M'∧St2 n M' cw cu' wv uv' wl (l++[⟨n0,n1,n2,n3,n4,⟨n5,n6,n7,bt w9,bt (if w10=[45] then [] else w10)⟩⟩])):=by
  refine full_ex fn46 rfl (by simp[ef46]) ?_
  subst h0
  have gn:∀ f w u N,Heap.get (BB f w u++(M++(some ⟨[i64 n0,i64 n1,i64 n2,i64 n3,i64 n4,i64 n5,i64 n6,i64 n7],true⟩::N))) (n+M.length)=some ⟨[i64 n0,i64 n1,i64 n2,i64 n3,i64 n4,i64 n5,i64 n6,i64 n7],true⟩:=fun f w u N=>by
   rw[hget_base (Fl f w u).symm,lget_right0 rfl]; rfl
  have cn:∀ f w u N o,Heap.cell (BB f w u++(M++(some ⟨[i64 n0,i64 n1,i64 n2,i64 n3,i64 n4,i64 n5,i64 n6,i64 n7],true⟩::N))) (n+M.length) o=[i64 n0,i64 n1,i64 n2,i64 n3,i64 n4,i64 n5,i64 n6,i64 n7][o]?:=fun f w u N o=>by
   unfold Heap.cell; rw[gn]; rfl
  have gx:∀ f w u X k N,Heap.get (BB f w u++(M++(X::some k::N))) (n+(M.length+1))=some k:=fun f w u X k N=>by
   rw[hget_base (Fl f w u).symm,lget_right rfl]; rfl
  have cx:∀ f w u X k N o,Heap.cell (BB f w u++(M++(X::some k::N))) (n+(M.length+1)) o=k.cells[o]?:=fun f w u X k N o=>by
   unfold Heap.cell; rw[gx]; rfl
  have px:∀ f w u X k N x,Heap.put (BB f w u++(M++(X::k::N))) (n+(M.length+1)) x=BB f w u++(M++(X::x::N)):=fun f w u X k N x=>by
   rw[hput_base (Fl f w u).symm,lset_right rfl]; rfl
  have tr:=g.u.trim (f:=encN) encN_len (H:=BB f wv uv) (Fl f wv uv)
  have lb:lim≤bx:=hlim
  have lx:lim≤n+(M.length+1):=by have:=F.lt; omega
  have APP:=fun x:List UInt8=>g.u.ap (bytes:=96) encN_len (by decide) (fun _=>rfl) (Fl f wv uv) [some ⟨[i64 n0,i64 n1,i64 n2,i64 n3,i64 n4,i64 n5,i64 n6,i64 n7],true⟩,some ⟨[i64 n0,i64 n1,i64 n2,i64 n3,i64 n4,i64 n5,i64 n6,i64 n7]++[tx w9,tx x],true⟩] ⟨n0,n1,n2,n3,n4,⟨n5,n6,n7,bt w9,bt x⟩⟩ (by omega) (by omega)
  by_cases ew:w10=[45]
  ·have ap:=APP []
   simp only[encN,List.cons_append,List.nil_append,List.length_cons,List.length_nil,Nat.zero_add,Nat.reduceAdd] at ap
   subst ew
   by_cases e:l=[]
   ·simp only[if_pos e] at ap
    simp[ef46,E.bound,k0,kb,Cz,Cw,C,k83,cn,gn,gx,cx,px,G,P,Fl,tr,T.cT,wUni,ap,lb,lx,zeros,fillL]
    exact⟨_,M.length+3,_,rfl,g.w.app _,.inr ⟨by simp,by rw[e]; rfl,by rw[lget_right rfl,e]; rfl⟩,fun h _=>by have:=g.w.lt h; omega⟩
   ·simp only[if_neg e] at ap
    have lc:=g.u.lt e
    have PM:∀ f w u N x,Heap.put (BB f w u++(M++N)) (n+cu) x=BB f w u++(M.set cu x++N):=fun f w u N x=>by rw[hput_base (Fl f w u).symm,lset_left lc]
    simp[ef46,E.bound,k0,kb,Cz,Cw,C,k83,cn,gn,gx,cx,px,G,P,Fl,tr,T.cT,wUni,ap,lb,lx,PM,zeros,fillL]
    exact⟨_,M.length+3,_,rfl,(g.w.keep fun h=>by rw[List.getElem?_set_ne (fun q=>g.ne h e q.symm)]).app _,.inr ⟨by simp,by simp,by rw[show M.length+3=(M.set cu none).length+3 by simp,lget_right rfl]; rfl⟩,fun h _=>by have:=g.w.lt h; omega⟩
  ·have ap:=APP w10
   simp only[encN,List.cons_append,List.nil_append,List.length_cons,List.length_nil,Nat.zero_add,Nat.reduceAdd] at ap
   by_cases e:l=[]
   ·simp only[if_pos e] at ap
    simp[ef46,E.bound,k0,kb,Cz,Cw,C,k83,cn,gn,gx,cx,px,G,P,Fl,tr,T.cT,wUni,ap,lb,lx,ew,zeros,fillL]
    exact⟨_,M.length+3,_,rfl,g.w.app _,.inr ⟨by simp,by rw[e]; rfl,by rw[lget_right rfl,e]; rfl⟩,fun h _=>by have:=g.w.lt h; omega⟩
   ·simp only[if_neg e] at ap
    have lc:=g.u.lt e
    have PM:∀ f w u N x,Heap.put (BB f w u++(M++N)) (n+cu) x=BB f w u++(M.set cu x++N):=fun f w u N x=>by rw[hput_base (Fl f w u).symm,lset_left lc]
    simp[ef46,E.bound,k0,kb,Cz,Cw,C,k83,cn,gn,gx,cx,px,G,P,Fl,tr,T.cT,wUni,ap,lb,lx,ew,PM,zeros,fillL]
    exact⟨_,M.length+3,_,rfl,(g.w.keep fun h=>by rw[List.getElem?_set_ne (fun q=>g.ne h e q.symm)]).app _,.inr ⟨by simp,by simp,by rw[show M.length+3=(M.set cu none).length+3 by simp,lget_right rfl]; rfl⟩,fun h _=>by have:=g.w.lt h; omega⟩
 obtain⟨rfl,M',cu',uv',rfl,g1⟩:=e2
 exact⟨M',cu',uv',e1,g1⟩
end B.T.U
end Go.Abs
namespace Go.Abs
namespace B.T.U
set_option maxRecDepth 100000
set_option maxHeartbeats 0
theorem nmA_no {R:List UInt8→Int × Bool} {W:List (List UInt8)} (h:(nmA R W).2=false):(nmA R W).1=[]:=by
 by_cases q:∀ j,j<W.length→(R (wdA W j)).2=true
 ·rw[nmA_ok q] at h; cases h
 ·have:∃ j,j<W.length∧¬ (R (wdA W j)).2=true:=by
   refine Classical.byContradiction fun z=>q fun j hj=>Classical.byContradiction fun y=>z ⟨j,hj,y⟩
  obtain⟨j,hj,hb⟩:=this
  rw[nmA_bad hj (by simpa using hb)]
theorem nmA_one {R:List UInt8→Int × Bool} {w:List UInt8}:nmA R [w]=if (R w).2=true then ([(R w).1],true) else ([],false):=by
 by_cases h:(R w).2=true
 ·rw[if_pos h,nmA_ok]
  ·rfl
  ·intro j hj
   obtain rfl:j=0:=by simp at hj; exact hj
   exact h
 ·rw[if_neg h]
  exact nmA_bad (j:=0) (by simp) (show (R w).2=false by simpa using h)
section
variable {d lim n bx b k cw cu:Nat} {BB:Int→Value→Value→Heap} {f:Int} {wv uv:Value} {wl:List Wi} {l:List Un} {M:Heap}
theorem c46f (F:Fam BB n bx) (hlim:lim≤bx) {w0 w1:List UInt8} (hW:WdAt BB M b [w0,w1]) (h0:w0=wFork) (hs:∀ i,(wdA [w0,w1] i).length<100000) {x:Int} (hx:whl 9 w1=(x,true)) :
  ∃ M',E.call (d+6) lim 46 [pt bx,.slice (some ⟨b,0,none⟩) 2 1,i64 0] (BB f wv uv++M)=some (.bool true,BB x wv uv++(M++M')):=by
 have Fl:=F.len
 have G:=F.gets
 have P:=F.puts
 have C:=F.cells
 have Cw:=hW.c
 have Cz:=hW.cz
 have k83:=k83g (d:=d) (lim:=lim) F hW hs (a:=1) (c:=2) (by omega) (by simp) (by simp)
 rw[show (List.drop 1 [w0,w1]).take (2-1)=[w1] from rfl,nmA_one,hx] at k83
 simp only[if_true,lVI,lBI,if_neg (show ¬ [x]=[] by simp)] at k83
 rw[show 2-1=1 from rfl,show ([x]).length=1 from rfl,show cI [x]=[i64 x] from rfl] at k83
 obtain⟨v,h',e1,e2⟩:∃ v h',E.call (d+6) lim 46 [pt bx,.slice (some ⟨b,0,none⟩) 2 1,i64 0] (BB f wv uv++M)=some (v,h')∧(v=.bool true∧∃ M',h'=BB x wv uv++(M++M')):=by
  refine full_ex fn46 rfl (by simp[ef46]) ?_
  subst h0
  have gn:∀ f w u N,Heap.get (BB f w u++(M++(some ⟨[i64 x],true⟩::N))) (n+M.length)=some ⟨[i64 x],true⟩:=fun f w u N=>by
   rw[hget_base (Fl f w u).symm,lget_right0 rfl]; rfl
  have cn:∀ f w u N o,Heap.cell (BB f w u++(M++(some ⟨[i64 x],true⟩::N))) (n+M.length) o=[i64 x][o]?:=fun f w u N o=>by
   unfold Heap.cell; rw[gn]; rfl
  have lb:lim≤bx:=hlim
  simp[ef46,E.bound,Cz,Cw,C,k83,cn,gn,G,P,Fl,T.cT,wFork,lb]
 obtain⟨rfl,M',rfl⟩:=e2
 exact⟨M',e1⟩
theorem c46n0 (F:Fam BB n bx) {w0:List UInt8} {r:List (List UInt8)} (hW:WdAt BB M b (w0::r)) (hl:r.length≤10000) (hs:∀ i,(wdA (w0::r) i).length<100000) (hx:¬ (w0=wFork∧r.length=1∧(nmA (whl 9) r).2=true)) :
  ∃ M',E.call (d+6) lim 46 [pt bx,.slice (some ⟨b,0,none⟩) (r.length+1) 1,i64 0] (BB f wv uv++M)=some (.bool false,BB f wv uv++(M++M')):=by
 have Fl:=F.len
 have Cw:=hW.c
 have Cz:=hW.cz
 have k83:=k83g (d:=d) (lim:=lim) F hW hs (a:=1) (c:=r.length+1) (by omega) (by simp) (by simp; omega)
 rw[show (List.drop 1 (w0::r)).take (r.length+1-1)=r by simp,Nat.add_sub_cancel] at k83
 obtain⟨v,h',e1,e2⟩:∃ v h',E.call (d+6) lim 46 [pt bx,.slice (some ⟨b,0,none⟩) (r.length+1) 1,i64 0] (BB f wv uv++M)=some (v,h')∧(v=.bool false∧∃ M',h'=BB f wv uv++(M++M')):=by
  refine full_ex fn46 rfl (by simp[ef46]) ?_
  by_cases z:(nmA (whl 9) r).2=true
  ·have ln:=nmA_len z
   rw[z] at k83
   generalize (nmA (whl 9) r).1=L at *
   by_cases e:L=[]
   ·simp only[lVI,lBI,if_pos e,List.append_nil] at k83
    have r0:r.length=0:=by rw[← ln,e]; rfl
    have hM:∃ M',BB f wv uv++M=BB f wv uv++(M++M'):=⟨[],by rw[List.append_nil]⟩
    by_cases q:w0=wFork
    ·subst q
     simp[ef46,E.bound,Cz,Cw,k83,Fl,T.cT,wFork]
     try exact hM
    ·have q':¬ w0=[102,111,114,107]:=q
     simp[ef46,E.bound,Cz,Cw,k83,Fl,T.cT,q']
     try exact hM
   ·simp only[lVI,lBI,if_neg e] at k83
    by_cases q:w0=wFork
    ·subst q
     have l1:¬ L.length=1:=fun y=>hx ⟨rfl,by omega,z⟩
     have l1':¬ (L.length:Int)=1:=by omega
     simp[ef46,E.bound,Cz,Cw,k83,Fl,T.cT,wFork,l1,l1']
     try exact⟨_,rfl⟩
    ·have q':¬ w0=[102,111,114,107]:=q
     simp[ef46,E.bound,Cz,Cw,k83,Fl,T.cT,q']
     try exact⟨_,rfl⟩
  ·have z:(nmA (whl 9) r).2=false:=by simpa using z
   have L0:=nmA_no z
   rw[z,L0] at k83
   simp only[lVI,lBI,if_true,List.append_nil] at k83
   have hM:∃ M',BB f wv uv++M=BB f wv uv++(M++M'):=⟨[],by rw[List.append_nil]⟩
   simp[ef46,E.bound,Cz,Cw,k83,Fl,T.cT]
   try exact hM
 obtain⟨rfl,M',rfl⟩:=e2
 exact⟨M',e1⟩
end
end B.T.U
end Go.Abs
namespace Go.Abs
namespace B.T.U
set_option maxRecDepth 100000
set_option maxHeartbeats 0
section
variable {d lim n bx b k cw cu:Nat} {BB:Int→Value→Value→Heap} {f:Int} {wv uv:Value} {wl:List Wi} {l:List Un} {M:Heap}
theorem c46n1 (F:Fam BB n bx) (uvn:slN uv=some 0) {w0 w1 w2 w3 w4:List UInt8} (hW:WdAt BB M b [w0,w1,w2,w3,w4]) (h0:w0=wWire) (hs:∀ i,(wdA [w0,w1,w2,w3,w4] i).length<100000) (hk:0<k) (hk2:k<1000000) (hx:(nmA (whl 9) [w2,w3,w4]).2=false) :
  E.call (d+6) lim 46 [pt bx,.slice (some ⟨b,0,none⟩) 5 1,i64 (k:Int)] (BB f wv uv++M)=some (.bool false,BB f wv uv++M):=by
 have Fl:=F.len
 have C:=F.cells
 have Cw:=hW.c
 have Cz:=hW.cz
 have k0:¬ k=0:=by omega
 have kb:((k:Int) == 0)=false:=by simp; omega
 have k83:=k83g (d:=d) (lim:=lim) F hW hs (a:=2) (c:=5) (by omega) (by simp) (by simp)
 rw[show (List.drop 2 [w0,w1,w2,w3,w4]).take (5-2)=[w2,w3,w4] from rfl,hx,nmA_no hx] at k83
 simp only[lVI,lBI,if_true,List.append_nil] at k83
 rw[show 5-2=3 from rfl] at k83
 obtain⟨v,h',e1,e2⟩:∃ v h',E.call (d+6) lim 46 [pt bx,.slice (some ⟨b,0,none⟩) 5 1,i64 (k:Int)] (BB f wv uv++M)=some (v,h')∧(v=.bool false∧h'=BB f wv uv++M):=by
  refine full_ex fn46 rfl (by simp[ef46]) ?_
  subst h0
  simp[ef46,E.bound,k0,kb,Cz,Cw,C,k83,Fl,T.cT,wWire,uvn]
 obtain⟨rfl,rfl⟩:=e2
 exact e1
theorem c46n2 (F:Fam BB n bx) {w0 w1 w2 w3 w4 w5 w6 w7 w8 w9 w10:List UInt8} (hW:WdAt BB M b [w0,w1,w2,w3,w4,w5,w6,w7,w8,w9,w10]) (h0:w0=wUni) (hs:∀ i,(wdA [w0,w1,w2,w3,w4,w5,w6,w7,w8,w9,w10] i).length<100000) (hk:0<k) (hk2:k<1000000) (hx:(nmA (whl 9) [w1,w2,w3,w4,w5,w6,w7,w8]).2=false) :
  E.call (d+6) lim 46 [pt bx,.slice (some ⟨b,0,none⟩) 11 1,i64 (k:Int)] (BB f wv uv++M)=some (.bool false,BB f wv uv++M):=by
 have Fl:=F.len
 have C:=F.cells
 have Cw:=hW.c
 have Cz:=hW.cz
 have k0:¬ k=0:=by omega
 have kb:((k:Int) == 0)=false:=by simp; omega
 have k83:=k83g (d:=d) (lim:=lim) F hW hs (a:=1) (c:=9) (by omega) (by simp) (by simp)
 rw[show (List.drop 1 [w0,w1,w2,w3,w4,w5,w6,w7,w8,w9,w10]).take (9-1)=[w1,w2,w3,w4,w5,w6,w7,w8] from rfl,hx,nmA_no hx] at k83
 simp only[lVI,lBI,if_true,List.append_nil] at k83
 rw[show 9-1=8 from rfl] at k83
 obtain⟨v,h',e1,e2⟩:∃ v h',E.call (d+6) lim 46 [pt bx,.slice (some ⟨b,0,none⟩) 11 1,i64 (k:Int)] (BB f wv uv++M)=some (v,h')∧(v=.bool false∧h'=BB f wv uv++M):=by
  refine full_ex fn46 rfl (by simp[ef46]) ?_
  subst h0
  simp[ef46,E.bound,k0,kb,Cz,Cw,C,k83,Fl,T.cT,wUni]
 obtain⟨rfl,rfl⟩:=e2
 exact e1
theorem c46n3 (F:Fam BB n bx) (uvn:slN uv=some l.length) {w0:List UInt8} {r:List (List UInt8)} (hW:WdAt BB M b (w0::r)) (hk:0<k) (hk2:k<1000000) (h1:¬ (w0=wWire∧r.length=4∧l=[])) (h2:¬ (w0=wUni∧r.length=10)) :
  E.call (d+6) lim 46 [pt bx,.slice (some ⟨b,0,none⟩) (r.length+1) 1,i64 (k:Int)] (BB f wv uv++M)=some (.bool false,BB f wv uv++M):=by
 have Fl:=F.len
 have C:=F.cells
 have Cw:=hW.c
 have Cz:=hW.cz
 have k0:¬ k=0:=by omega
 have kb:((k:Int) == 0)=false:=by simp; omega
 obtain⟨v,h',e1,e2⟩:∃ v h',E.call (d+6) lim 46 [pt bx,.slice (some ⟨b,0,none⟩) (r.length+1) 1,i64 (k:Int)] (BB f wv uv++M)=some (v,h')∧(v=.bool false∧h'=BB f wv uv++M):=by
  refine full_ex fn46 rfl (by simp[ef46]) ?_
  by_cases q1:w0=wWire
  ·have q1':w0=[119,105,114,101]:=q1
   have q2':¬ w0=[117,110,105,115,111,110]:=by rw[q1']; decide
   by_cases r4:r.length=4
   ·have l0:¬ l.length=0:=fun z=>h1 ⟨q1,r4,List.eq_nil_of_length_eq_zero z⟩
    have l0b:((l.length:Int) == 0)=false:=by simp; exact fun z=>h1 ⟨q1,r4,z⟩
    have l0n:¬ l=[]:=fun z=>h1 ⟨q1,r4,z⟩
    have r4b:(((r.length+1:Nat):Int) == 5)=true:=by simp; omega
    subst q1'
    simp[ef46,E.bound,k0,kb,Cz,Cw,C,uvn,Fl,T.cT,r4,l0b,l0n]
   ·have r4b:(((r.length+1:Nat):Int) == 5)=false:=by simp; omega
    have r4c:¬ ((r.length:Int)+1)=5:=by omega
    subst q1'
    simp[ef46,E.bound,k0,kb,Cz,Cw,C,uvn,Fl,T.cT,r4,r4c]
  ·have q1':¬ w0=[119,105,114,101]:=q1
   by_cases q2:w0=wUni
   ·have q2':w0=[117,110,105,115,111,110]:=q2
    have r10:¬ r.length=10:=fun z=>h2 ⟨q2,z⟩
    have r10c:¬ ((r.length:Int)+1)=11:=by omega
    subst q2'
    simp[ef46,E.bound,k0,kb,Cz,Cw,C,uvn,Fl,T.cT,r10,r10c]
   ·have q2':¬ w0=[117,110,105,115,111,110]:=q2
    simp[ef46,E.bound,k0,kb,Cz,Cw,C,uvn,Fl,T.cT,q1',q2']
 obtain⟨rfl,rfl⟩:=e2
 exact e1
end
end B.T.U
end Go.Abs
namespace Go.Abs
namespace B.T.U
set_option maxRecDepth 100000
set_option maxHeartbeats 0
theorem len11 {W:List (List UInt8)} (h:W.length=11):∃ a b c d e f g i j k m,W=[a,b,c,d,e,f,g,i,j,k,m]:=by
 match W,h with
 | [a,b,c,d,e,f,g,i,j,k,m],_=>exact⟨a,b,c,d,e,f,g,i,j,k,m,rfl⟩
theorem len8 {l:List Int} (h:l.length=8):∃ a b c d e f g i,l=[a,b,c,d,e,f,g,i]:=by
 match l,h with
 | [a,b,c,d,e,f,g,i],_=>exact⟨a,b,c,d,e,f,g,i,rfl⟩
theorem c46 {d lim n bx b k cw cu:Nat} {BB:Int→Value→Value→Heap} (F:Fam BB n bx) (hlim:lim≤bx) {f:Int} {wv uv:Value} {wl:List Wi} {l:List Un} {M:Heap} (g:St2 n M cw cu wv uv wl l) (hwl:wl.length≤100000) (hul:l.length≤100000)
  {W:List (List UInt8)} (hW:WdAt BB M b W) (w0:W≠[]) (hl:W.length≤10000) (hs:∀ i,(wdA W i).length<100000) (hk2:k<1000000) :
  (∀ s',stp (whl 9) (f,wl,l) W k=some s'→∃ M' cw' cu' wv' uv',E.call (d+6) lim 46 [pt bx,.slice (some ⟨b,0,none⟩) W.length 1,i64 (k:Int)] (BB f wv uv++M)=some (.bool true,BB s'.1 wv' uv'++M')∧St2 n M' cw' cu' wv' uv' s'.2.1 s'.2.2) ∧
  (stp (whl 9) (f,wl,l) W k=none→∃ M',E.call (d+6) lim 46 [pt bx,.slice (some ⟨b,0,none⟩) W.length 1,i64 (k:Int)] (BB f wv uv++M)=some (.bool false,BB f wv uv++(M++M'))):=by
 have M0:BB f wv uv++M=BB f wv uv++(M++[]):=by rw[List.append_nil]
 unfold stp
 rcases Nat.eq_zero_or_pos k with hk | hk
 ·subst hk
  rw[if_pos rfl]
  by_cases q:W.length=2∧wdA W 0=wFork∧(whl 9 (wdA W 1)).2=true
  ·rw[if_pos q]
   refine⟨fun s' e=>?_,fun e=>by cases e⟩
   cases e
   obtain⟨q1,q2,q3⟩:=q
   match W,q1 with
   | [u0,u1],_ =>
    obtain⟨M',e⟩:=c46f (d:=d) (wv:=wv) (uv:=uv) (f:=f) F hlim hW q2 hs (x:=(whl 9 u1).1) (Prod.ext rfl q3)
    exact⟨M++M',cw,cu,wv,uv,e,g.app _⟩
  ·rw[if_neg q]
   refine⟨fun s' e=>(by cases e),fun _=>?_⟩
   match W,w0 with
   | u0::r,_ =>
    refine c46n0 (d:=d) (lim:=lim) (wv:=wv) (uv:=uv) (f:=f) F hW (by simp at hl; omega) hs fun ⟨z1,z2,z3⟩=>q ⟨by simp[z2],z1,?_⟩
    match r,z2 with
    | [u1],_ =>
     rw[nmA_one] at z3
     by_cases y:(whl 9 u1).2=true
     ·exact y
     ·rw[if_neg y] at z3; cases z3
 ·rw[if_neg (by omega)]
  by_cases q:wdA W 0=wWire∧W.length=5∧l=[]
  ·rw[if_pos q]
   obtain⟨q1,q2,rfl⟩:=q
   obtain⟨a0,a1,a2,a3,a4,rfl⟩:=len5 q2
   by_cases z:(nmA (whl 9) [a2,a3,a4]).2=true
   ·refine⟨fun s' e=>?_,fun e=>?_⟩
    ·rw[if_pos (show (nmA (whl 9) (List.drop 2 [a0,a1,a2,a3,a4])).2=true from z)] at e
     cases e
     have ln:=nmA_len z
     obtain⟨n0,n1,n2,e3⟩:=len3 (l:=(nmA (whl 9) [a2,a3,a4]).1) ln
     obtain⟨M',cw',wv',e4,g'⟩:=c46w (d:=d) F hlim (f:=f) g hwl hW q1 hs hk hk2 (n0:=n0) (n1:=n1) (n2:=n2) (Prod.ext e3 z)
     refine⟨M',cw',cu,wv',uv,e4,?_⟩
     have:mkW [a0,a1,a2,a3,a4] (nmA (whl 9) (List.drop 2 [a0,a1,a2,a3,a4])).1=⟨bt a1,n0,n1,n2⟩:=by
      rw[show List.drop 2 [a0,a1,a2,a3,a4]=[a2,a3,a4] from rfl,e3]; rfl
     simp only[this]
     exact g'
    ·rw[if_pos (show (nmA (whl 9) (List.drop 2 [a0,a1,a2,a3,a4])).2=true from z)] at e; cases e
   ·refine⟨fun s' e=>?_,fun e=>?_⟩
    ·rw[if_neg (show ¬ (nmA (whl 9) (List.drop 2 [a0,a1,a2,a3,a4])).2=true from z)] at e; cases e
    ·exact⟨[],by rw[← M0]; exact c46n1 (d:=d) F g.u.slN hW q1 hs hk hk2 (by simpa using z)⟩
  ·rw[if_neg q]
   by_cases q2:wdA W 0=wUni∧W.length=11
   ·rw[if_pos q2]
    obtain⟨q3,q4⟩:=q2
    obtain⟨a0,a1,a2,a3,a4,a5,a6,a7,a8,a9,a10,rfl⟩:=len11 q4
    have td:(List.drop 1 [a0,a1,a2,a3,a4,a5,a6,a7,a8,a9,a10]).take 8=[a1,a2,a3,a4,a5,a6,a7,a8]:=rfl
    rw[td]
    by_cases z:(nmA (whl 9) [a1,a2,a3,a4,a5,a6,a7,a8]).2=true
    ·refine⟨fun s' e=>?_,fun e=>?_⟩
     ·rw[if_pos z] at e
      cases e
      have ln:=nmA_len z
      obtain⟨n0,n1,n2,n3,n4,n5,n6,n7,e3⟩:=len8 (l:=(nmA (whl 9) [a1,a2,a3,a4,a5,a6,a7,a8]).1) ln
      obtain⟨M',cu',uv',e4,g'⟩:=c46u (d:=d) F hlim (f:=f) g hul hW q3 hs hk hk2 (n0:=n0) (n1:=n1) (n2:=n2) (n3:=n3) (n4:=n4) (n5:=n5) (n6:=n6) (n7:=n7) (Prod.ext e3 z)
      refine⟨M',cw,cu',wv,uv',e4,?_⟩
      rw[e3]
      exact g'
     ·rw[if_pos z] at e; cases e
    ·refine⟨fun s' e=>?_,fun e=>?_⟩
     ·rw[if_neg z] at e; cases e
     ·exact⟨[],by rw[← M0]; exact c46n2 (d:=d) F hW q3 hs hk hk2 (by simpa using z)⟩
   ·rw[if_neg q2]
    refine⟨fun s' e=>(by cases e),fun _=>?_⟩
    match W,w0 with
    | u0::r,_ =>
     exact⟨[],by rw[← M0]; exact c46n3 (d:=d) F g.u.slN hW hk hk2 (fun ⟨z1,z2,z3⟩=>q ⟨z1,by simp[z2],z3⟩) (fun ⟨z1,z2⟩=>q2 ⟨z1,by simp[z2]⟩)⟩
end B.T.U
end Go.Abs
