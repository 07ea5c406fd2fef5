--
import Derived.Test.YtoloaempiiedgaaGreatDoorAbsQKO
import Derived.Test.YtoloaempiiedgaaGreatDoorAbsQKN
import Derived.Test.YtoloaempiiedgaaGreatDoorAbsQKP
import Derived.Test.YtoloaempiiedgaaGreatDoorAbsQXM
set_option linter.unusedSimpArgs false
set_option linter.unusedVariables false
namespace Go.Abs
namespace Q
set_option maxRecDepth 100000
set_option maxHeartbeats 0
theorem c143 {d lim:Nat} {vs:List Value} {h:Heap}:E.call (d+1) lim 143 vs h=natGrow vs h:=by
 simp only[EProg.call,fn143]; rfl
def flP (p:Nat→List Int):Nat→List Int
 | 0=>[]
 | i+1=>flP p i++p i
theorem flP_len {p:Nat→List Int} {m:Nat}:∀ n,(∀ i,i<n→(p i).length≤m)→(flP p n).length≤n * m
 | 0,_=>by simp[flP]
 | n+1,h=>by
  have:=flP_len (p:=p) (m:=m) n fun i hi=>h i (by omega)
  have:=h n (by omega)
  rw[flP,List.length_append,Nat.add_mul]
  omega
theorem flP_le {p:Nat→List Int} {i:Nat}:∀ n,i≤n→(flP p i).length≤(flP p n).length
 | 0,h=>by rw[Nat.le_zero.1 h]; exact Nat.le_refl _
 | n+1,h=>by
  by_cases e:i=n+1
  ·subst e; exact Nat.le_refl _
  ·have:=flP_le (p:=p) (i:=i) n (show i≤n by omega)
   rw[flP,List.length_append]; omega
def OutG (base:Nat) (L:List (Option Blk)) (c:Nat) (v:Value) (l:List Int) (tot:Nat):Prop :=
 (tot=0∧v=.slice none 0 0∧l=[])∨(v=.slice (some ⟨base+c,0,none⟩) l.length 1∧L[c]?=some (some ⟨cI l,true⟩))
theorem catT {H:Heap} {L:List (Option Blk)} {c tot:Nat} {vo v:Value} {l x:List Int} (g:OutG H.length L c vo l tot) (s:SlI' (H++L) v x) (ht:l.length+x.length≤tot) (hm:tot≤1000000) :
  ∃ o L' c',E.append (Heap.trim (H++L) vo) 1 8 vo v=some o∧o.eff.apply (H++L)=H++L'∧(∀ b∈o.eff.writes,H.length≤b)∧OutG H.length L' c' o.val (l++x) tot:=by
 have tr:Heap.trim (H++L) vo=H++L:=by
  rcases g with ⟨_,rfl,_⟩ | ⟨rfl,hg⟩
  ·rfl
  ·have lc:=lget_lt hg
   have gc:Heap.get (H++L) (H.length+c)=some ⟨cI l,true⟩:=by rw[hget_base rfl,hg]; rfl
   unfold Heap.trim
   simp only[gc]
   rw[Nat.zero_add,Nat.mul_one,show l.length=(cI l).length by simp[cI],List.take_length,hput_base rfl]
   congr 1
   apply List.ext_getElem?
   intro j
   by_cases q:c=j
   ·subst q; rw[List.getElem?_set_self lc,hg]
   ·rw[List.getElem?_set_ne q]
 rw[tr]
 rcases Nat.eq_zero_or_pos x.length with z | z
 ·have x0:x=[]:=List.eq_nil_of_length_eq_zero z
  subst x0
  have ad:E.added (H++L) 1 v=some (0,[],[]):=by
   rcases s.low with rfl | ⟨b,o,m,t,rfl,hb⟩
   ·rfl
   ·have:m=0:=by have:=s.len; simpa using this
    subst this; rfl
  rw[List.append_nil]
  rcases g with ⟨g0,rfl,g2⟩ | ⟨rfl,hg⟩
  ·exact⟨⟨.slice none 0 0,[],.none⟩,L,c,by simp only[E.append,ad]; rfl,rfl,fun b (hb:b∈[])=>(by cases hb),.inl ⟨g0,rfl,g2⟩⟩
  ·exact⟨⟨.slice (some ⟨H.length+c,0,none⟩) l.length 1,[],.none⟩,L,c,by simp only[E.append,ad]; rfl,rfl,fun b (hb:b∈[])=>(by cases hb),.inr ⟨rfl,hg⟩⟩
 ·obtain⟨b,o,k,e,gk,h1,h2,h3⟩:=s.blk (by omega) (by decide)
  rcases g with ⟨g0,_,g2⟩ | ⟨rfl,hg⟩
  ·omega
  have lc:=lget_lt hg
  have gc:Heap.get (H++L) (H.length+c)=some ⟨cI l,true⟩:=by rw[hget_base rfl,hg]; rfl
  rw[Nat.mul_one] at h1 h2
  have ad:E.added (H++L) 1 v=some (x.length,cI x,[b]):=by
   rw[e]
   simp only[E.added,gk,if_neg (show ¬ x.length=0 by omega),if_true,Nat.mul_one,if_pos h1]
   rw[h2]
  have c1:=cI_one x
  have lk:0+l.length * 1=(cI l).length:=by simp[cI]
  refine⟨⟨.slice (some ⟨(H++L).length,0,none⟩) (l.length+x.length) 1,[H.length+c,b],.move (H.length+c) ⟨cI l++cI x,true⟩⟩,L.set c none++[some ⟨cI (l++x),true⟩],L.length,by
   simp only[E.append,ad,c1,if_true,gc,if_neg (show ¬ x.length=0 by omega),if_neg (show ¬ (1:Nat)=0 by decide),lk,true_and,List.drop_zero]
   rw[if_pos ⟨by omega,by unfold maxLen; omega⟩],?_,fun b' hb'=>?_,.inr ⟨?_,?_⟩⟩
  ·simp only[Eff.apply]
   rw[hput_base rfl,hpush_append]
   simp[cI]
  ·simp only[Eff.writes,List.mem_singleton] at hb'
   omega
  ·simp only[List.length_append]
  ·rw[lget_right0 (by simp)]; rfl
theorem OutG.sl {H:Heap} {L:List (Option Blk)} {c tot:Nat} {v:Value} {l:List Int} (g:OutG H.length L c v l tot):SlI' (H++L) v l:=by
 rcases g with ⟨_,rfl,rfl⟩ | ⟨rfl,h⟩
 ·exact⟨rfl,rfl,fun q=>absurd rfl q,.inl rfl,fun k hk=>by simp at hk⟩
 ·exact Sl_one1 (h:=H++L) (b:=H.length+c) (n:=l.length) (cs:=cI l) (rw:=true) (by rw[hget_base rfl,h]; rfl) (by simp)
theorem growG {H:Heap} {N:Nat} (hN:N≤1000000):∃ L0 v0,natGrow [.slice none 0 0,i64 (N:Int)] H=some (v0,H++L0)∧OutG H.length L0 0 v0 [] N:=by
 by_cases z:N=0
 ·subst z
  exact⟨[],.slice none 0 0,by simp[natGrow],.inl ⟨rfl,rfl,rfl⟩⟩
 ·refine⟨[some ⟨[],true⟩],.slice (some ⟨H.length,0,none⟩) 0 1,?_,.inr ⟨rfl,rfl⟩⟩
  simp only[natGrow]
  rw[if_neg (by omega),if_pos ⟨by omega,by omega⟩]
theorem c70 {d lim n:Nat} {H:Heap} {pv:Value} {us:Nat→Value} {pp:Nat→List Int} (np:NL H pv n us pp) (hn:n≤1000) (hl:∀ i,i<n→(pp i).length≤1000) (hlim:lim≤H.length) :
  ∃ v K,E.call (d+2) lim 70 [pv] H=some (v,H++K)∧SlI' (H++K) v (flP pp n):=by
 have key:∃ v h',E.call (d+2) lim 70 [pv] H=some (v,h')∧∃ K,h'=H++K∧SlI' (H++K) v (flP pp n):=by
  have rn:=np.sl.rules2
  have fl:=flP_len n hl
  have fl6:(flP pp n).length≤1000000:=by omega
  refine full_ex fn70 rfl (by simp[ef70]) ?_
  simp[ef70,rn]
  refine wpC_loop (fun y st=>∃ i:Nat,y=n-i∧i≤n∧st=⟨[(0,pv),(3,i64 (flP pp i).length),(9,pv),(10,i64 (n:Int)),(11,i64 (i:Int))],H⟩) n (by show n<2 ^ 64; omega) ?_ ?_
  ·simp[St.tidy]
   exact⟨0,by omega,by omega,rfl,rfl⟩
  ·rintro y hy _ ⟨i,rfl,hi,rfl⟩
   by_cases lt:i<n
   ·have lti:(i:Int)<n:=by omega
    have w1':=w1 (i:=i) (by omega)
    simp only[W] at w1'
    have ai:=as_get us lt
    have ri:=(np.row i lt).rules2
    have:=flP_le (p:=pp) n hi
    have f1:=flP_le (p:=pp) (i:=i+1) n lt
    have e1:flP pp (i+1)=flP pp i++pp i:=rfl
    rw[e1,List.length_append] at f1
    have wl:IntKind.wrap .i64 (((flP pp i).length:Int)+(pp i).length)=((flP pp i).length:Int)+(pp i).length:=wrap_eq (by omega) (by omega)
    have nn:¬ ((flP pp i).length:Int)+(pp i).length<0:=by omega
    simp[lt,lti,Nat.not_le.2 lt,rn,ai,ri,wl,nn,Int.not_lt.1 nn,w1',St.tidy]
    exact⟨n-(i+1),by omega,i+1,rfl,by omega,by rw[e1,List.length_append]; omega,rfl⟩
   ·obtain rfl:i=n:=by omega
    obtain⟨L0,v0,gr,g0⟩:=growG (H:=H) fl6
    generalize hN:(flP pp i).length=N at *
    simp[rn,c143,gr]
    refine wpC_loop (fun y st=>∃ (k:Nat) (L:List (Option Blk)) (c:Nat) (vo:Value),y=i-k∧k≤i∧OutG H.length L c vo (flP pp k) N∧st=⟨[(6,vo),(25,pv),(26,i64 (i:Int)),(27,i64 (k:Int))],H++L⟩) i (by show i<2 ^ 64; omega) ?_ ?_
    ·simp[St.tidy]
     exact⟨0,by omega,by omega,L0,0,v0,g0,⟨rfl,rfl⟩,rfl⟩
    ·rintro y hy _ ⟨k,L,c,vo,rfl,hk,g,rfl⟩
     by_cases lt:k<i
     ·have lti:(k:Int)<i:=by omega
      have w1':=w1 (i:=k) (by omega)
      simp only[W] at w1'
      have ak:=as_get us lt
      have rk:=(np.row k lt).rules2
      have f1:=flP_le (p:=pp) (i:=k+1) i lt
      have e1:flP pp (k+1)=flP pp k++pp k:=rfl
      rw[e1,List.length_append,hN] at f1
      obtain⟨o,L',c',x1,x2,x3,g'⟩:=catT g ((np.row k lt).app L) f1 fl6
      rw[← e1] at g'
      simp[-Eff.apply,-Eff.writes,lt,lti,Nat.not_le.2 lt,rn,ak,rk,w1',x1,x2,St.tidy]
      exact⟨i-(k+1),by omega,k+1,rfl,by omega,L',c',o.val,g',⟨rfl,rfl⟩,rfl⟩
     ·obtain rfl:k=i:=by omega
      simp[rn]
      exact g.sl
 obtain⟨v,_,e,K,rfl,h⟩:=key
 exact⟨v,K,e,h⟩
end Q
end Go.Abs
namespace Go.Abs
namespace Q
set_option maxRecDepth 100000
set_option maxHeartbeats 0
theorem c197e {σ:Type} {d lim r b1 b2 b n i m N:Nat} {A:Nat→List Bool} {P:Nat→List XR} {jp:Int} {F:σ→Heap} {ok:σ→Nat→Nat→Bool} {step:σ→Nat→Nat→σ} {s0:σ} {Inv:σ→Prop} (hN:∀ s,(F s).length=N) (hr:r<N)
  (g1:∀ s,Inv s→∃ rw,(F s).get b1=some ⟨[pB b],rw⟩) (g2:∀ s,Inv s→∃ rw,(F s).get b2=some ⟨[i64 (i:Int)],rw⟩) (g:∀ s,Inv s→GD (F s) b n A P jp) (hn:n≤1000) (hi:i+1<n) (ha:∀ i,i<n→(A i).length=m) (hp:∀ i,i<n→(P i).length=m) (hm:m≤1000)
  (h0:Inv s0) (hInv:∀ s x y,x<m→y<m→togB A P jp i x y=true→Inv s→ok s x y=true→Inv (step s x y))
  (hround:∀ s x y,x<m→y<m→togB A P jp i x y=true→Inv s→EProg.roundOf E (E.call (d+2)) N r [i64 (x:Int),i64 (y:Int)] (F s)=some (.bool (ok s x y),F (step s x y))) :
  E.call (d+3) lim 197 [yieldVal r,pB b1,pB b2] (F s0)=some (.tuple #[],F (runP (togB A P jp i) ok step (prs m) s0)):=by
 obtain⟨R,hR⟩:∃ R,R=runP (togB A P jp i) ok step (prs m) s0:=⟨_,rfl⟩
 rw[← hR]
 have lb1:b1<N:=by obtain⟨_,e⟩:=g1 s0 h0; rw[← hN s0]; exact Heap.get_lt e
 have lb2:b2<N:=by obtain⟨_,e⟩:=g2 s0 h0; rw[← hN s0]; exact Heap.get_lt e
 have tk:∀ s,List.take N (F s)=F s:=fun s=>by rw[← hN s]; exact List.take_length
 have key:∃ v h',E.call (d+3) lim 197 [yieldVal r,pB b1,pB b2] (F s0)=some (v,h')∧v=.tuple #[]∧h'=F R:=by
  refine call_trunc (Q:=fun v h'=>v=.tuple #[]∧h'=F R) fn197 rfl (by simp[ef197]) ?_
  have i1:i<n:=by omega
  have w1':=w1 (i:=i) (by omega)
  simp only[W] at w1'
  have li:(i:Int)<n:=by omega
  have li3:(i:Int)+1<n:=by omega
  have z3:(0:Int)≤(i:Int)+1:=by omega
  rw[hN s0]
  have S0:∀ s,Inv s→∃ (av:Value) (as:Nat→Value),(∀ o,Heap.cell (F s) b1 o=[pB b][o]?)∧(∀ o,Heap.cell (F s) b2 o=[i64 (i:Int)][o]?)∧Heap.cell (F s) b 0=some av∧(slN av=some n∧(∀ (k:IntKind) (i:Int),0≤i→i<n→slAt 1 av (.int k i)=some (.pointer (some ⟨slB av,slO av+i.toNat * 1,none⟩)))) ∧
    Heap.cell (F s) (slB av) (slO av+i)=some (as i)∧Heap.cell (F s) (slB av) (slO av+(i+1))=some (as (i+1))∧slN (as i)=some m∧slN (as (i+1))=some m:=by
   intro s hs
   obtain⟨_,e1⟩:=g1 s hs
   obtain⟨_,e2⟩:=g2 s hs
   obtain⟨av,pv,rw',as,ps,e,sa,sp,ra,rp⟩:=(g s hs).ex
   have r1:=sa.rules2
   refine⟨av,as,fun o=>cell_get e1,fun o=>cell_get e2,by rw[cell_get e]; rfl,⟨r1.1,r1.2.1⟩,?_,?_,?_,?_⟩
   ·rw[r1.2.2.1 i (by omega),as_get as i1]
   ·rw[r1.2.2.1 (i+1) (by omega),as_get as hi]
   ·have:=(ra i i1).len; rwa [ha i i1] at this
   ·have:=(ra (i+1) hi).len; rwa [ha _ hi] at this
  obtain⟨av,as,c1,c2,c3,c4,c5,c6,c7,c8⟩:=S0 s0 h0
  simp[ef197,c1,c2,c3,c4,c5,c7,li]
  refine wpC_loop (fun q st=>∃ (a:Nat) (s:σ),q=m-a∧a≤m∧Inv s∧runP (togB A P jp i) ok step ((prs m).drop (a * m)) s=R∧st=⟨[(0,yieldVal r),(1,pB b1),(2,pB b2),(13,i64 (m:Int)),(14,i64 (a:Int))],F s⟩) m (by show m<2 ^ 64; omega) ?_ ?_
  ·simp[St.tidy,hr,lb1,lb2,tk]
   exact⟨0,by omega,by omega,s0,h0,by simp[hR],rfl,rfl⟩
  ·rintro q hq _ ⟨a,s,rfl,hA,hs,hc,rfl⟩
   by_cases lt:a<m
   ·have lti:(a:Int)<m:=by omega
    have wa:=w1 (i:=a) (by omega)
    simp only[W] at wa
    obtain⟨av,as,c1,c2,c3,c4,c5,c6,c7,c8⟩:=S0 s hs
    simp[c1,c2,c3,c4,c5,c6,c7,c8,li,li3,z3,w1',lt,lti,Nat.not_le.2 lt]
    refine wpC_loop (fun q st=>∃ (c:Nat) (s:σ),q=m-c∧c≤m∧Inv s∧runP (togB A P jp i) ok step ((prs m).drop (a * m+c)) s=R∧st=⟨[(0,yieldVal r),(1,pB b1),(2,pB b2),(4,i64 (a:Int)),(13,i64 (m:Int)),(14,i64 (a:Int)),(25,i64 (m:Int)),(26,i64 (c:Int))],F s⟩) m (by show m<2 ^ 64; omega) ?_ ?_
    ·simp[St.tidy,hr,lb1,lb2,tk]
     exact⟨0,by omega,by omega,s,hs,by simpa using hc,rfl,rfl⟩
    ·rintro q hq _ ⟨c,s,rfl,hC,hs,hc,rfl⟩
     by_cases lt2:c<m
     ·have lti2:(c:Int)<m:=by omega
      have wc:=w1 (i:=c) (by omega)
      simp only[W] at wc
      obtain⟨av,as,c1,c2,c3,c4,c5,c6,c7,c8⟩:=S0 s hs
      have k46:=fun lim=>c78 (d:=d) (lim:=lim) (x:=a) (y:=c) (g s hs) hn hi ha hp lt lt2
      rw[prs_drop lt lt2] at hc
      unfold runP at hc
      rcases h1:togB A P jp i a c with _ | _
      ·rw[h1] at hc k46
       simp only[Bool.false_eq_true,if_false] at hc
       simp[c1,c2,k46,lt2,lti2,Nat.not_le.2 lt2,wc,St.tidy,hr,lb1,lb2,tk]
       exact⟨m-(c+1),by omega,c+1,by omega,by omega,s,hs,hc,rfl,rfl⟩
      ·rw[h1] at hc k46
       rw[if_pos rfl] at hc
       have rd:=hround s a c lt lt2 h1 hs
       rcases h2:ok s a c with _ | _
       ·rw[h2] at hc rd
        simp only[Bool.false_eq_true,if_false] at hc
        subst hc
        simp[c1,c2,k46,lt2,lti2,Nat.not_le.2 lt2,wc,St.tidy,hr,lb1,lb2,tk,rd]
       ·rw[h2] at hc rd
        rw[if_pos rfl] at hc
        simp[c1,c2,k46,lt2,lti2,Nat.not_le.2 lt2,wc,St.tidy,hr,lb1,lb2,tk,rd]
        exact⟨m-(c+1),by omega,c+1,by omega,by omega,step s a c,hInv s a c lt lt2 h1 hs h2,hc,rfl,rfl⟩
     ·obtain rfl:c=m:=by omega
      simp[wa,St.tidy,hr,lb1,lb2,tk]
      exact⟨c-(a+1),by omega,a+1,by omega,by omega,s,hs,by rw[Nat.add_mul,Nat.one_mul]; exact hc,rfl,rfl⟩
   ·obtain rfl:a=m:=by omega
    rw[prs_end] at hc
    subst hc
    simp[runP,tk]
 obtain⟨_,_,e,rfl,rfl⟩:=key
 exact e
abbrev rec72 (us:List Value) (st:Int):Option Blk:=some ⟨.int .i64 (72:Nat)::.int .i64 (0:Nat)::.int .i64 st::us,true⟩
def stpB (cur prev:List Int) (x y:Nat):Bool:=decide (gx cur y≤gx prev x+gp x y)
theorem r72 {d lim n m j x y r c7:Nat} {H:Heap} {M:List (Option Blk)} {pv:Value} {us:Nat→Value} {pp:Nat→List Int} (np:NL H pv n us pp) (hj:j+1<n) (hn:n≤1000) (hm:m≤1000) (hl:∀ i,i<n→(pp i).length=m) (hb:∀ i,i<n→∀ k,k<m→-1000000≤gx (pp i) k∧gx (pp i) k≤1000000) (hx:x<m) (hy:y<m)
  (e0:M[0]?=some (some ⟨[pv],true⟩)) (e1:M[1]?=some (some ⟨[.bool false],true⟩)) (e7:M[c7]?=some (some ⟨[i64 ((j:Int)+1)],true⟩))
  (er:M[r]?=some (rec72 [pB H.length,pB (H.length+1),pB (H.length+c7)] 0)) (n0:r≠0) (n1:r≠1) (n7:r≠c7) :
  EProg.roundOf E (E.call (d+1)) lim (H.length+r) [i64 (x:Int),i64 (y:Int)] (H++M)=some (.bool (stpB (pp (j+1)) (pp j) x y),H++M.set r (rec72 [pB H.length,pB (H.length+1),pB (H.length+c7)] (if stpB (pp (j+1)) (pp j) x y=true then 0 else 1))):=by
 have key:∃ w h',EProg.roundOf E (E.call (d+1)) lim (H.length+r) [i64 (x:Int),i64 (y:Int)] (H++M)=some (w,h')∧w=.bool (stpB (pp (j+1)) (pp j) x y)∧h'=H++M.set r (rec72 [pB H.length,pB (H.length+1),pB (H.length+c7)] (if stpB (pp (j+1)) (pp j) x y=true then 0 else 1)):=by
  have lr:=lget_lt er
  obtain⟨U,hU⟩:∃ U,U=[pB H.length,pB (H.length+1),pB (H.length+c7)]:=⟨_,rfl⟩
  refine round1 (us:=[pB H.length,pB (H.length+1),pB (H.length+c7)]) (by rw[hget_base rfl,er]; rfl) fn72 rfl rfl ?_
  have G:∀ st,(M.set r (rec72 [pB H.length,pB (H.length+1),pB (H.length+c7)] st))[r]?=some (rec72 [pB H.length,pB (H.length+1),pB (H.length+c7)] st):=fun st=>List.getElem?_set_self lr
  have LS0:Heap.loopSt (H++M) (H.length+r)=some 0:=loopSt_get (by rw[hget_base rfl,er]; rfl)
  have SL0:∀ st,Heap.setLoop (H++M) (H.length+r) st=some (H++M.set r (rec72 [pB H.length,pB (H.length+1),pB (H.length+c7)] st)):=fun st=>by rw[setLoop_get (by rw[hget_base rfl,er]; rfl),hput_base rfl]
  have g0:(M.set r (rec72 [pB H.length,pB (H.length+1),pB (H.length+c7)] (-1)))[0]?=some (some ⟨[pv],true⟩):=by rw[List.getElem?_set_ne n0,e0]
  have g1:(M.set r (rec72 [pB H.length,pB (H.length+1),pB (H.length+c7)] (-1)))[1]?=some (some ⟨[.bool false],true⟩):=by rw[List.getElem?_set_ne n1,e1]
  have g7:(M.set r (rec72 [pB H.length,pB (H.length+1),pB (H.length+c7)] (-1)))[c7]?=some (some ⟨[i64 ((j:Int)+1)],true⟩):=by rw[List.getElem?_set_ne n7,e7]
  have l1:=lget_lt e1
  have s1:(M.set r (rec72 [pB H.length,pB (H.length+1),pB (H.length+c7)] (-1))).set 1 (some ⟨[.bool false],true⟩)=M.set r (rec72 [pB H.length,pB (H.length+1),pB (H.length+c7)] (-1)):=by
   apply List.ext_getElem?
   intro q
   by_cases e:q=1
   ·subst e; rw[List.getElem?_set_self (by rw[List.length_set]; exact l1),g1]
   ·rw[List.getElem?_set_ne (Ne.symm e)]
  have SL1:∀ st,Heap.setLoop (H++M.set r (rec72 [pB H.length,pB (H.length+1),pB (H.length+c7)] (-1))) (H.length+r) st=some (H++M.set r (rec72 [pB H.length,pB (H.length+1),pB (H.length+c7)] st)):=fun st=>by
   rw[setLoop_get (a:=.int .i64 (72:Nat)) (b:=.int .i64 (0:Nat)) (c:=.int .i64 (-1)) (us:=[pB H.length,pB (H.length+1),pB (H.length+c7)]) (by rw[hget_base rfl,G]; rfl),hput_base rfl,List.set_set]
  have tk:∀ X,List.take (H.length+M.length) (H++M.set r X)=H++M.set r X:=fun X=>List.take_of_length_le (by simp)
  have wi:IntKind.wrap .i64 ((j:Int)+1-1)=j:=by rw[wrap_eq (by omega) (by omega)]; omega
  have wj:IntKind.wrap .i64 (j:Int)=j:=wrap_eq (by omega) (by omega)
  have lx:(x:Int)<m:=by omega
  have ly:(y:Int)<m:=by omega
  have lj:(j:Int)<n:=by omega
  have ljn:j<n:=by omega
  have lj1:(j:Int)+1<n:=by omega
  have z1:(0:Int)≤(j:Int)+1:=by omega
  have k47:=fun lim H a b=>c79 (d:=d) (lim:=lim) (h:=H) (a:=a) (b:=b)
  have rn:=np.sl.rules2
  have ai:=as_get us hj
  have aj:=as_get us ljn
  have ri:=(np.row (j+1) hj).rules2
  have rj:=(np.row j ljn).rules2
  rw[hl _ hj] at ri
  rw[hl _ ljn] at rj
  have cx:=cI_gx (x:=pp j) (v:=x) (by rw[hl _ ljn]; exact hx)
  have px:=cI_gxe (l:=pp j) (k:=x) (by rw[hl _ ljn]; exact hx)
  have cy:=cI_gx (x:=pp (j+1)) (v:=y) (by rw[hl _ hj]; exact hy)
  have py:=cI_gxe (l:=pp (j+1)) (k:=y) (by rw[hl _ hj]; exact hy)
  have gv:=gapV_gp (a:=x) (b:=y) (by omega) (by omega)
  have gb:=gp_bd hx hy
  have pb:=hb j ljn x hx
  have wc:IntKind.wrap .i64 (gx (pp j) x+gp x y)=gx (pp j) x+gp x y:=wrap_eq (by omega) (by omega)
  by_cases c:gx (pp (j+1)) y≤gx (pp j) x+gp x y
  ·have sb:stpB (pp (j+1)) (pp j) x y=true:=decide_eq_true c
   rw[sb]
   simp[roundFrame,LS0,SL0,SL1,g0,g1,g7,wi,wj,lx,ly,lj,ljn,lj1,hj,z1,rn,ai,aj,ri,rj,cx,cy,px,py,k47,gv,wc,c,Int.not_lt.2 c,hx,hy,tk]
  ·have sb:stpB (pp (j+1)) (pp j) x y=false:=decide_eq_false c
   rw[sb]
   simp[roundFrame,LS0,SL0,SL1,g0,g1,g7,wi,wj,lx,ly,lj,ljn,lj1,hj,z1,rn,ai,aj,ri,rj,cx,cy,px,py,k47,gv,wc,c,Int.not_le.1 c,hx,hy,tk,s1,l1,lgetE g1,show noAddr (Value.bool false)=true from rfl]
 obtain⟨_,_,e,rfl,rfl⟩:=key
 exact e
def RowOk (A:Nat→List Bool) (p:Nat→List Int) (m n:Nat) (bound:Int) (i:Nat):Prop:=∀ k,k<m→bx (A i) k=true→(i=0→gx (p 0) k≤0)∧(i=n-1→bound≤gx (p (n-1)) k)
def StpOk (tg:Nat→Nat→Nat→Bool) (p:Nat→List Int) (m:Nat) (i:Nat):Prop:=∀ j,i=j+1→∀ a b,a<m→b<m→tg j a b=true→gx (p i) b≤gx (p j) a+gp a b
def QQ (A:Nat→List Bool) (tg:Nat→Nat→Nat→Bool) (p:Nat→List Int) (m n:Nat) (bound:Int) (i:Nat):Prop:=∀ j,j<i→RowOk A p m n bound j∧StpOk tg p m j
theorem QQ_prv {A:Nat→List Bool} {tg:Nat→Nat→Nat→Bool} {p:Nat→List Int} {m n:Nat} {bound:Int}:QQ A tg p m n bound n↔PrvP A tg m n p bound:=by
 constructor
 ·intro q
  refine⟨fun k h hk hb=>((q 0 h).1 k hk hb).1 rfl,fun k h hk hb=>((q (n-1) (by omega)).1 k hk hb).2 rfl,fun i a b hi ha hb ht=>(q (i+1) hi).2 i rfl a b ha hb ht⟩
 ·intro P i hi
  exact⟨fun k hk hb=>⟨fun e=>by subst e; exact P.z k hi hk hb,fun e=>by subst e; exact P.l k (by omega) hk hb⟩,fun j e a b ha hb ht=>by subst e; exact P.s j a b hi ha hb ht⟩
theorem runP_all {tg:Nat→Nat→Bool} {okf:Nat→Nat→Bool}:∀ (l:List (Nat × Nat)),runP tg (fun (_:Bool) x y=>okf x y) (fun _ x y=>okf x y) l true=true↔∀ q∈l,tg q.1 q.2=true→okf q.1 q.2=true
 | []=>by simp[runP]
 | (a,b)::r=>by
  unfold runP
  rcases h:tg a b with _ | _
  ·simp only[reduceCtorEq,if_false]
   rw[runP_all r]
   constructor
   ·intro h1 q hq ht
    rcases List.mem_cons.1 hq with e | e
    ·subst e; rw[h] at ht; cases ht
    ·exact h1 q e ht
   ·exact fun h1 q hq ht=>h1 q (List.mem_cons_of_mem _ hq) ht
  ·simp only[if_true]
   rcases h2:okf a b with _ | _
   ·simp only[reduceCtorEq,if_false,false_iff]
    intro h1
    have:=h1 (a,b) (List.mem_cons_self ..) h
    rw[h2] at this; cases this
   ·simp only[if_true]
    rw[runP_all r]
    constructor
    ·intro h1 q hq ht
     rcases List.mem_cons.1 hq with e | e
     ·subst e; exact h2
     ·exact h1 q e ht
    ·exact fun h1 q hq ht=>h1 q (List.mem_cons_of_mem _ hq) ht
end Q
end Go.Abs
namespace Go.Abs
namespace Q
set_option maxRecDepth 100000
set_option maxHeartbeats 0
def RowK (A:Nat→List Bool) (p:Nat→List Int) (n:Nat) (bound:Int) (i k:Nat):Prop:=∀ k',k'<k→bx (A i) k'=true→(i=0→gx (p 0) k'≤0)∧(i=n-1→bound≤gx (p (n-1)) k')
theorem c72 {d lim b n m:Nat} {H:Heap} {A:Nat→List Bool} {P:Nat→List XR} {jp bound:Int} {pv:Value} {us:Nat→Value} {pp:Nat→List Int} (g:GD H b n A P jp) (np:NL H pv n us pp) (hn:n≤1000) (ha:∀ i,i<n→(A i).length=m) (hp:∀ i,i<n→(P i).length=m) (hm:m≤1000)
  (hl:∀ i,i<n→(pp i).length=m) (hb:∀ i,i<n→∀ k,k<m→-1000000≤gx (pp i) k∧gx (pp i) k≤1000000) (hlim:lim≤H.length) :
  ∃ ok K,E.call (d+4) lim 72 [pB b,pv,i64 bound] H=some (.bool ok,H++K)∧(ok=true↔PrvP A (togB A P jp) m n pp bound):=by
 have key:∃ v h',E.call (d+4) lim 72 [pB b,pv,i64 bound] H=some (v,h')∧∃ ok K,v=.bool ok∧h'=H++K∧(ok=true↔PrvP A (togB A P jp) m n pp bound):=by
  obtain⟨av,qv,rw',as,ps,e,sa,sp,ra,rp⟩:=g.ex
  have ck:=fun o=>cell_get (o:=o) e
  have ckM:=fun (M:Heap) o=>cell_get (o:=o) (hget_append (l:=M) e)
  have r1:=sa.rules2
  have rn:=np.sl.rules2
  have hbl:=Heap.get_lt e
  have glim:∀ k,lim≤H.length+k:=fun k=>by omega
  have na:∀ z,noAddr (i64 z)=true:=fun z=>rfl
  have nab:noAddr (Value.bool false)=true:=rfl
  have nab':noAddr (Value.bool true)=true:=rfl
  have hpu:∀ b,Heap.push H b=H++[some b]:=fun _=>rfl
  have pc:pv.cells=#[pv]:=by rcases np.sl.low with e | ⟨_,_,_,_,e,_⟩ <;> rw[e] <;> rfl
  simp only[Value.cells] at pc
  refine full_ex fn72 rfl (by simp[ef72]) ?_
  simp[ef72,hpu,ck,ckM,r1,pc]
  refine wpC_loop (fun y st=>∃ (i:Nat) (L:List (Option Blk)),y=n-i∧i≤n∧L[0]?=some (some ⟨[pv],true⟩)∧L[1]?=some (some ⟨[.bool false],true⟩)∧QQ A (togB A P jp) pp m n bound i ∧
   st=⟨[(0,pB b),(2,i64 bound),(4,pB H.length),(6,pB (H.length+1)),(16,av),(17,i64 (n:Int)),(18,i64 (i:Int))],H++L⟩) n (by show n<2 ^ 64; omega) ?_ ?_
  ·simp[St.tidy]
   exact⟨0,by omega,by omega,_,rfl,rfl,fun j hj=>by omega,rfl,rfl⟩
  ·rintro y hy _ ⟨i,L,rfl,hi,E0,E1,hQ,rfl⟩
   have L1:=lget_lt E1
   have L0:0<L.length:=by omega
   by_cases lt:i<n
   ·have lti:(i:Int)<n:=by omega
    have w1':=w1 (i:=i) (by omega)
    simp only[W] at w1'
    have a1:=as_get as lt
    have ui:=as_get us lt
    have r3:=(ra i lt).rules2
    rw[ha i lt] at r3
    have ri:=(np.row i lt).rules2
    rw[hl i lt] at ri
    have wn:IntKind.wrap .i64 ((n:Int)-1)=(n:Int)-1:=wrap_eq (by omega) (by omega)
    simp[lt,lti,Nat.not_le.2 lt,r1,a1,r3,lget_left,lget_right,lget_right0,lset_left,lset_right,lset_right0,L0,L1,E0,lgetE E0,E1,lgetE E1,glim,na]
    refine wpC_loop (fun y st=>∃ k:Nat,y=m-k∧k≤m∧RowK A pp n bound i k ∧
     st=⟨[(0,pB b),(2,i64 bound),(4,pB H.length),(6,pB (H.length+1)),(7,pB (H.length+L.length)),(16,av),(17,i64 (n:Int)),(18,i64 (i:Int)),(23,as i),(24,i64 (m:Int)),(25,i64 (k:Int))],H++(L++[some ⟨[i64 (i:Int)],true⟩])⟩) m (by show m<2 ^ 64; omega) ?_ ?_
    ·simp[St.tidy]
     exact⟨0,by omega,by omega,fun k' hk'=>by omega,rfl⟩
    ·rintro y hy _ ⟨k,rfl,hk,hK,rfl⟩
     by_cases lt2:k<m
     ·have lti2:(k:Int)<m:=by omega
      have wk:=w1 (i:=k) (by omega)
      simp only[W] at wk
      have b1:=cBl_bx (l:=A i) (k:=k) (by rw[ha i lt]; exact lt2)
      have qb:=fun hh=>cBl_bxe (l:=A i) (k:=k) hh
      have c1:=cI_gx (x:=pp i) (v:=k) (by rw[hl i lt]; exact lt2)
      have q0:=cI_gxe (l:=pp i) (k:=k) (by rw[hl i lt]; exact lt2)
      have notOk:¬ (bx (A i) k=true→(i=0→gx (pp 0) k≤0)∧(i=n-1→bound≤gx (pp (n-1)) k))→¬ PrvP A (togB A P jp) m n pp bound:=fun h1 P=>h1 fun hb'=>((QQ_prv.2 P) i lt).1 k lt2 hb'
      have nxt:(bx (A i) k=true→(i=0→gx (pp 0) k≤0)∧(i=n-1→bound≤gx (pp (n-1)) k))→RowK A pp n bound i (k+1):=fun h1 k' hk'=>by
       by_cases e:k'=k
       ·subst e; exact h1
       ·exact hK k' (by omega)
      rcases h1:bx (A i) k with _ | _
      ·rw[h1] at b1
       simp only[h1] at qb
       have nx:=nxt (fun e=>by rw[h1] at e; cases e)
       simp[lt,lti,Nat.not_le.2 lt,lt2,lti2,Nat.not_le.2 lt2,r1,r3,b1,qb,rn,ui,ri,c1,q0,wn,lget_left,lget_right,lget_right0,lset_left,lset_right,lset_right0,L0,L1,E0,lgetE E0,E1,lgetE E1,glim,nab,wk,St.tidy]
       exact⟨m-(k+1),by omega,k+1,rfl,by omega,nx,rfl⟩
      ·rw[h1] at b1
       simp only[h1] at qb
       have enI:i=n-1∨¬ i=n-1:=by omega
       by_cases i0:i=0
       ·have hz:(i=0)=True:=by simp[i0]
        by_cases y1:0<gx (pp i) k
        ·have no:=notOk (fun h=>by have:=(h h1).1 i0; rw[i0] at y1; omega)
         simp[lt,lti,Nat.not_le.2 lt,lt2,lti2,Nat.not_le.2 lt2,r1,r3,b1,qb,rn,ui,ri,c1,q0,wn,lget_left,lget_right,lget_right0,lset_left,lset_right,lset_right0,L0,L1,E0,lgetE E0,E1,lgetE E1,glim,nab,hz,y1]
         exact no
        ·by_cases ie:i=n-1
         ·have en:((i:Int)=(n:Int)-1)=True:=by simp; omega
          by_cases y2:gx (pp i) k<bound
          ·have no:=notOk (fun h=>by have:=(h h1).2 ie; rw[ie] at y2; omega)
           simp[lt,lti,Nat.not_le.2 lt,lt2,lti2,Nat.not_le.2 lt2,r1,r3,b1,qb,rn,ui,ri,c1,q0,wn,lget_left,lget_right,lget_right0,lset_left,lset_right,lset_right0,L0,L1,E0,lgetE E0,E1,lgetE E1,glim,nab,hz,y1,Int.not_lt.1 y1,en,y2]
           exact no
          ·have nx:=nxt (fun _=>⟨fun _=>by rw[i0] at y1; omega,fun _=>by rw[ie] at y2; omega⟩)
           simp[lt,lti,Nat.not_le.2 lt,lt2,lti2,Nat.not_le.2 lt2,r1,r3,b1,qb,rn,ui,ri,c1,q0,wn,lget_left,lget_right,lget_right0,lset_left,lset_right,lset_right0,L0,L1,E0,lgetE E0,E1,lgetE E1,glim,nab,hz,y1,Int.not_lt.1 y1,en,y2,Int.not_lt.1 y2,wk,St.tidy]
           exact⟨m-(k+1),by omega,k+1,rfl,by omega,nx,rfl⟩
         ·have en:((i:Int)=(n:Int)-1)=False:=by simp; omega
          have nx:=nxt (fun _=>⟨fun _=>by rw[i0] at y1; omega,fun e=>absurd e ie⟩)
          simp[lt,lti,Nat.not_le.2 lt,lt2,lti2,Nat.not_le.2 lt2,r1,r3,b1,qb,rn,ui,ri,c1,q0,wn,lget_left,lget_right,lget_right0,lset_left,lset_right,lset_right0,L0,L1,E0,lgetE E0,E1,lgetE E1,glim,nab,hz,y1,Int.not_lt.1 y1,en,wk,St.tidy]
          exact⟨m-(k+1),by omega,k+1,rfl,by omega,nx,rfl⟩
       ·by_cases ie:i=n-1
        ·have en:((i:Int)=(n:Int)-1)=True:=by simp; omega
         by_cases y2:gx (pp i) k<bound
         ·have no:=notOk (fun h=>by have:=(h h1).2 ie; rw[ie] at y2; omega)
          simp[lt,lti,Nat.not_le.2 lt,lt2,lti2,Nat.not_le.2 lt2,r1,r3,b1,qb,rn,ui,ri,c1,q0,wn,lget_left,lget_right,lget_right0,lset_left,lset_right,lset_right0,L0,L1,E0,lgetE E0,E1,lgetE E1,glim,nab,i0,en,y2]
          exact no
         ·have nx:=nxt (fun _=>⟨fun e=>absurd e i0,fun _=>by rw[ie] at y2; omega⟩)
          simp[lt,lti,Nat.not_le.2 lt,lt2,lti2,Nat.not_le.2 lt2,r1,r3,b1,qb,rn,ui,ri,c1,q0,wn,lget_left,lget_right,lget_right0,lset_left,lset_right,lset_right0,L0,L1,E0,lgetE E0,E1,lgetE E1,glim,nab,i0,en,y2,Int.not_lt.1 y2,wk,St.tidy]
          exact⟨m-(k+1),by omega,k+1,rfl,by omega,nx,rfl⟩
        ·have en:((i:Int)=(n:Int)-1)=False:=by simp; omega
         have nx:=nxt (fun _=>⟨fun e=>absurd e i0,fun e=>absurd e ie⟩)
         simp[lt,lti,Nat.not_le.2 lt,lt2,lti2,Nat.not_le.2 lt2,r1,r3,b1,qb,rn,ui,ri,c1,q0,wn,lget_left,lget_right,lget_right0,lset_left,lset_right,lset_right0,L0,L1,E0,lgetE E0,E1,lgetE E1,glim,nab,i0,en,wk,St.tidy]
         exact⟨m-(k+1),by omega,k+1,rfl,by omega,nx,rfl⟩
     ·obtain rfl:k=m:=by omega
      have hRow:RowOk A pp k n bound i:=hK
      rcases Nat.eq_zero_or_pos i with i0 | ip
      ·have hz:(i=0)=True:=by simp[i0]
       have hQ':QQ A (togB A P jp) pp k n bound (i+1):=fun j hj=>by
        by_cases e:j=i
        ·subst e; exact⟨hRow,fun j' e=>by omega⟩
        ·exact hQ j (by omega)
       simp[lget_left,lget_right,lget_right0,lset_left,lset_right,lset_right0,L0,L1,E0,lgetE E0,E1,lgetE E1,hz,w1',St.tidy]
       exact⟨n-(i+1),by omega,i+1,rfl,by omega,L++[some ⟨[i64 (i:Int)],true⟩],by rw[lget_left L0]; exact E0,by rw[lget_left L1]; exact E1,hQ',rfl,rfl⟩
      ·obtain⟨j,rfl⟩:∃ j,i=j+1:=⟨i-1,by omega⟩
       have wj:IntKind.wrap .i64 (j:Int)=j:=wrap_eq (by omega) (by omega)
       obtain⟨M4,hM4⟩:∃ M4,M4=L++[some (Blk.mk [i64 ((j:Int)+1)] true)]:=⟨_,rfl⟩
       have M4l:M4.length=L.length+1:=by rw[hM4]; simp
       have m44:M4[L.length]?=some (some ⟨[i64 ((j:Int)+1)],true⟩):=by rw[hM4,lget_right0 rfl]; rfl
       have l44:L.length<M4.length:=by omega
       have jz:¬ (j:Int)+1=0:=by omega
       have k144:=fun lim=>c144 (d:=d+2) (lim:=lim) (h:=H++M4) (i:=(j:Int)) (b:=b) (by rw[List.length_append]; omega)
       simp[M4l,Nat.add_assoc] at k144
       obtain⟨U,hU⟩:∃ U,U=[pB H.length,pB (H.length+1),pB (H.length+L.length)]:=⟨_,rfl⟩
       obtain⟨M5,hM5⟩:∃ M5,M5=M4++[some (Blk.mk [pB b] true),some (Blk.mk [i64 (j:Int)] true),rec72 U 0]:=⟨_,rfl⟩
       have M5l:M5.length=L.length+4:=by rw[hM5]; simp[M4l]
       have low5:∀ q,q<L.length→M5[q]?=L[q]?:=fun q hq=>by rw[hM5,lget_left (by omega),hM4,lget_left hq]
       have n50:M5[0]?=some (some ⟨[pv],true⟩):=by rw[low5 0 L0]; exact E0
       have n51:M5[1]?=some (some ⟨[.bool false],true⟩):=by rw[low5 1 L1]; exact E1
       have n54:M5[L.length]?=some (some ⟨[i64 ((j:Int)+1)],true⟩):=by rw[hM5,lget_left (by omega),hM4,lget_right0 rfl]; rfl
       have n55:M5[L.length+1]?=some (some ⟨[pB b],true⟩):=by rw[hM5,show L.length+1=M4.length by omega,lget_right0 rfl]; rfl
       have n56:M5[L.length+2]?=some (some ⟨[i64 (j:Int)],true⟩):=by rw[hM5,show L.length+2=M4.length+1 by omega,lget_right rfl]; rfl
       have n57:M5[L.length+3]?=some (rec72 U 0):=by rw[hM5,show L.length+3=M4.length+2 by omega,lget_right rfl]; rfl
       have hM5':M4++[some (Blk.mk [pB b] true),some (Blk.mk [i64 (j:Int)] true),some (Blk.mk [.int .i64 72,.int .i64 0,.int .i64 0,pB H.length,pB (H.length+1),pB (H.length+L.length)] true)]=M5:=by rw[hM5,hU]; rfl
       let F:Bool→Heap:=fun s=>H++M5.set (L.length+3) (rec72 U (if s=true then 0 else 1))
       have F0:F true=H++M5:=by
        show H++M5.set _ _=_
        congr 1
        apply List.ext_getElem?
        intro q
        by_cases e:q=L.length+3
        ·subst e; rw[List.getElem?_set_self (by omega),n57]; rfl
        ·rw[List.getElem?_set_ne (Ne.symm e)]
       have k197:=fun lim=>c197e (d:=d) (lim:=lim) (r:=H.length+(L.length+3)) (b1:=H.length+(L.length+1)) (b2:=H.length+(L.length+2)) (N:=H.length+(L.length+4)) (F:=F) (ok:=fun _ x y=>stpB (pp (j+1)) (pp j) x y) (step:=fun _ x y=>stpB (pp (j+1)) (pp j) x y) (s0:=true) (Inv:=fun s=>s=true) (i:=j)
        (fun s=>by show (H++M5.set _ _).length=_; simp[M5l]) (by omega)
        (fun s _=>⟨true,by show Heap.get (H++_) _=_; rw[hget_base rfl,List.getElem?_set_ne (by omega),n55]; rfl⟩)
        (fun s _=>⟨true,by show Heap.get (H++_) _=_; rw[hget_base rfl,List.getElem?_set_ne (by omega),n56]; rfl⟩)
        (fun s _=>g.app _) hn lt ha hp hm rfl
        (fun s x y _ _ _ _ e=>e)
        (fun s x y hx hy _ e=>by
         subst e
         have R:=r72 (d:=d+1) (lim:=H.length+(L.length+4)) (H:=H) (M:=M5.set (L.length+3) (rec72 U 0)) (x:=x) (y:=y) (j:=j) (m:=k) (r:=L.length+3) (c7:=L.length) np lt hn hm hl hb hx hy
          (by rw[List.getElem?_set_ne (by omega),n50]) (by rw[List.getElem?_set_ne (by omega),n51]) (by rw[List.getElem?_set_ne (by omega),n54]) (by rw[List.getElem?_set_self (by omega),hU]) (by omega) (by omega) (by omega)
         rw[List.set_set,← hU] at R
         exact R)
       rw[F0] at k197
       have all:=runP_all (tg:=togB A P jp j) (okf:=fun x y=>stpB (pp (j+1)) (pp j) x y) (prs k)
       generalize hRR:runP (togB A P jp j) (fun (_:Bool) x y=>stpB (pp (j+1)) (pp j) x y) (fun _ x y=>stpB (pp (j+1)) (pp j) x y) (prs k) true=RR at *
       have stp:StpOk (togB A P jp) pp k (j+1)↔RR=true:=by
        rw[all]
        constructor
        ·intro S q hq ht
         obtain⟨h1,h2⟩:=prs_mem.1 hq
         exact decide_eq_true (S j rfl q.1 q.2 h1 h2 ht)
        ·intro S j' e a b' h1 h2 ht
         obtain rfl:j'=j:=by omega
         exact of_decide_eq_true (S (a,b') (prs_mem.2 ⟨h1,h2⟩) ht)
       have RE:∀ f,rangeEnd (H.length+(L.length+3)) f (F RR)=some (if RR=true then .normal else .ret,⟨f,H++M5.set (L.length+3) none⟩):=fun f=>by
        show rangeEnd _ f (H++M5.set _ _)=_
        rw[rangeEnd_get (s:=if RR=true then 0 else 1) (by rw[hget_base rfl,List.getElem?_set_self (by omega)]; rfl),hput_base rfl,List.set_set]
        cases RR <;> rfl
       have h30:(M5.set (L.length+3) none)[0]?=some (some ⟨[pv],true⟩):=by rw[List.getElem?_set_ne (by omega),n50]
       have h31:(M5.set (L.length+3) none)[1]?=some (some ⟨[.bool false],true⟩):=by rw[List.getElem?_set_ne (by omega),n51]
       rcases hRv:RR with _ | _
       ·rw[hRv] at RE stp k197
        have no:¬ PrvP A (togB A P jp) k n pp bound:=fun P=>by
         have:=stp.1 ((QQ_prv.2 P) (j+1) lt).2
         cases this
        simp only[reduceCtorEq,if_false] at RE
        simp[lget_left,lget_right,lget_right0,lset_left,lset_right,lset_right0,L0,L1,E0,lgetE E0,E1,lgetE E1,wj,← hM4,m44,lgetE m44,l44,jz,k144,loopBlk,M4l,hM5',k197,RE,h31,lgetE h31,Nat.add_assoc]
        exact no
       ·rw[hRv] at RE stp k197
        have hQ':QQ A (togB A P jp) pp k n bound (j+1+1):=fun j' hj=>by
         by_cases e:j'=j+1
         ·subst e; exact⟨hRow,stp.2 rfl⟩
         ·exact hQ j' (by omega)
        simp only[if_true] at RE
        simp[lget_left,lget_right,lget_right0,lset_left,lset_right,lset_right0,L0,L1,E0,lgetE E0,E1,lgetE E1,wj,← hM4,m44,lgetE m44,l44,jz,k144,loopBlk,M4l,hM5',k197,RE,Nat.add_assoc,St.tidy]
        exact⟨n-(j+1+1),by omega,j+1+1,rfl,by omega,_,h30,h31,hQ',by rw[wrap_eq (by omega) (by omega)]; omega,rfl⟩
   ·obtain rfl:i=n:=by omega
    simp[lget_left,lget_right,lget_right0,lset_left,lset_right,lset_right0,L0,L1,E0,lgetE E0,E1,lgetE E1,glim,nab']
    exact QQ_prv.1 hQ
 obtain⟨_,_,e,ok,K,rfl,rfl,h⟩:=key
 exact⟨ok,K,e,h⟩
end Q
end Go.Abs
namespace Go.Abs
namespace Q
set_option maxRecDepth 100000
set_option maxHeartbeats 0
theorem tgA_tog {A:Nat→List Bool} {P:Nat→List XR} {jp:Int}:tgA A (togB A P jp)=togB A P jp:=by
 funext i a b
 unfold tgA
 rcases h:togB A P jp i a b with _ | _
 ·simp
 ·have:=tog_A h
  rw[this.1,this.2]; rfl
theorem flP_mem {p:Nat→List Int} {x:Int}:∀ n,x∈flP p n↔∃ i,i<n∧x∈p i
 | 0=>by simp[flP]
 | n+1=>by
  rw[flP,List.mem_append,flP_mem n]
  constructor
  ·rintro (⟨i,h1,h2⟩ | h)
   ·exact⟨i,by omega,h2⟩
   ·exact⟨n,by omega,h⟩
  ·rintro ⟨i,h1,h2⟩
   by_cases e:i=n
   ·subst e; exact .inr h2
   ·exact .inl ⟨i,by omega,h2⟩
theorem flP_rg {p:Nat→List Int} {m n:Nat} (hl:∀ i,i<n→(p i).length=m):rgP p m n↔∀ k,k<(flP p n).length→-1000000≤gx (flP p n) k∧gx (flP p n) k≤1000000:=by
 constructor
 ·intro R k hk
  obtain⟨i,h1,h2⟩:=(flP_mem n).1 (gx_mem hk)
  obtain⟨j,hj,e⟩:=List.getElem_of_mem h2
  have:=R i h1 j (by rw[← hl i h1]; exact hj)
  have e2:gx (p i) j=gx (flP p n) k:=by rw[← e]; simp[gx,hj]
  rw[e2] at this
  exact this
 ·intro R i hi k hk
  have h1:=gx_mem (l:=p i) (k:=k) (by rw[hl i hi]; exact hk)
  have h2:=(flP_mem n).2 ⟨i,hi,h1⟩
  obtain⟨j,hj,e⟩:=List.getElem_of_mem h2
  have:=R j hj
  have e2:gx (flP p n) j=gx (p i) k:=by rw[← e]; simp[gx,hj]
  rw[e2] at this
  exact this
noncomputable def ckE (A:Nat→List Bool) (P:Nat→List XR) (jp:Int) (m n:Nat) (e:Int) (C:List Int) (k:Nat) (p:Nat→List Int):Int × Int:=if e≠0 then (0,e) else chE A (togB A P jp) m n C k p
theorem c20 {d lim kp:Nat} {H:Heap} {v w gv cv pv:Value} {wl:List Wi} {l:List Un} {t:Int} {X:Lm} {G C:List Int} {us:Nat→Value} {pp:Nat→List Int} (sp:Pr H) (s:SlW H v wl) (q:SlN H w l) (p:SlI' H gv G) (sc:SlI' H cv C) (np:NL H pv kp us pp) (hwl:wl.length≤1000) (hnm:Nms wl) (hlim:lim≤H.length) (hk:kp≤1000) (hC:C.length≤1000) (hG:G.length≤1000) (hpl:∀ i,i<kp→(pp i).length≤1000) :
  ∃ K,E.call (d+10) lim 20 [stV t v w,lmV X,gv,.agg #[cv,pv]] H=some (.tuple #[i64 (ckE (fun i=>alR wl t (atN l i) X G) (fun i=>plR wl t (atN l i) G) X.jp G.length l.length (erA t wl l X G) C kp pp).1,i64 (ckE (fun i=>alR wl t (atN l i) X G) (fun i=>plR wl t (atN l i) G) X.jp G.length l.length (erA t wl l X G) C kp pp).2],H++K):=by
 obtain⟨A,hA⟩:∃ A:Nat→List Bool,A=fun i=>alR wl t (atN l i) X G:=⟨_,rfl⟩
 obtain⟨Pl,hPl⟩:∃ Pl:Nat→List XR,Pl=fun i=>plR wl t (atN l i) G:=⟨_,rfl⟩
 obtain⟨er,her⟩:∃ er,er=erA t wl l X G:=⟨_,rfl⟩
 obtain⟨m,hm⟩:∃ m,m=G.length:=⟨_,rfl⟩
 obtain⟨Z,hZ⟩:∃ Z,Z=ckE A Pl X.jp m l.length er C kp pp:=⟨_,rfl⟩
 rw[← hA,← hPl,← her,← hm,← hZ]
 unfold ckE at hZ
 have key:∃ r h',E.call (d+10) lim 20 [stV t v w,lmV X,gv,.agg #[cv,pv]] H=some (r,h')∧r=.tuple #[i64 Z.1,i64 Z.2]∧∃ K,h'=H++K:=by
  have hp:∀ b,Heap.push H b=H++[some b]:=fun _=>rfl
  have gc:gv.cells=#[gv]:=by rcases p.low with e | ⟨_,_,_,_,e,_⟩ <;> rw[e] <;> rfl
  simp only[Value.cells] at gc
  obtain⟨M3,hM3⟩:∃ M3:List (Option Blk),M3=[some ⟨[i64 t,v,w],true⟩,some ⟨[i64 X.lo,i64 X.hi,i64 X.sh,i64 X.jp],true⟩,some ⟨[gv],true⟩,some ⟨[cv,pv],true⟩]:=⟨_,rfl⟩
  obtain⟨gp',K1,e62,p1,p2⟩:=c62 (d:=d) (lim:=lim) (t:=t) (X:=X) (sp.app M3) (s.app M3) (q.app M3) (p.app M3) hwl hnm (by rw[List.length_append]; omega)
  obtain⟨B,hB⟩:∃ B:Heap,B=H++M3++K1:=⟨_,rfl⟩
  have hBK:∀ M,∃ K,B++M=H++K:=fun M=>⟨M3++K1++M,by rw[hB]; simp⟩
  have hBK0:∃ K,B=H++K:=⟨M3++K1,by rw[hB]; simp⟩
  rw[← hB] at e62 p2
  have qB:SlN B w l:=by rw[hB]; exact (q.app M3).app K1
  have cB:SlI' B cv C:=by rw[hB]; exact (sc.app M3).app K1
  have nB:NL B pv kp us pp:=by rw[hB]; exact (np.app M3).app K1
  have pB':SlI' B gv G:=by rw[hB]; exact (p.app M3).app K1
  have rq:=qB.rules2
  have rc:=cB.rules2
  have rn:=nB.sl.rules2
  have g0:B.get H.length=some ⟨[i64 t,v,w],true⟩:=by rw[hB,hM3,List.append_assoc,hget_base0 rfl]; rfl
  have g2:B.get (H.length+2)=some ⟨[gv],true⟩:=by rw[hB,hM3,List.append_assoc,hget_base rfl]; rfl
  have g3:B.get (H.length+3)=some ⟨[cv,pv],true⟩:=by rw[hB,hM3,List.append_assoc,hget_base rfl]; rfl
  have ck0:=fun o=>cell_get (o:=o) g0
  have ck2:=fun o=>cell_get (o:=o) g2
  have ck3:=fun o=>cell_get (o:=o) g3
  have ck3M:=fun (M:Heap) o=>cell_get (o:=o) (hget_append (l:=M) g3)
  simp only[← hA,← hPl,← her] at p1 p2 e62
  rw[hM3] at e62
  refine full_ex fn20 rfl (by simp[ef20]) ?_
  by_cases q1:er=0
  ·obtain⟨b,rfl,g⟩:=p2 q1
   subst q1
   rw[if_neg (by simp)] at hZ
   unfold chE at hZ
   have O:=StOk.of (erA_parts her.symm).1
   have n90:=O.few
   have g20:=(ggE_0 (erA_parts her.symm).2.2).2
   have ha:∀ i,(A i).length=m:=fun i=>by rw[hA,alR_len,hm]
   have hpl':∀ i,(Pl i).length=m:=fun i=>by rw[hPl,plR_len,hm]
   rw[tgA_tog] at hZ
   by_cases e1:C.length=l.length
   ·by_cases e2:kp=l.length
    ·have k67:=fun lim=>c67 (d:=d+6) (lim:=lim) nB pB' g2 hm (by omega)
     by_cases e3:fsN (difL pp m) kp 0<kp
     ·rw[if_pos (.inr (.inr e3))] at hZ
      subst hZ
      rw[decide_eq_true e3] at k67
      simp[ef20,hp,gc,e62,rq,rc,rn,ck0,ck2,ck3,e1,e2,k67,hBK0]
      done
     ·rw[decide_eq_false e3] at k67
      subst e2
      rw[if_neg (by simp[e1]; omega)] at hZ
      have hl:∀ i,i<l.length→(pp i).length=m:=fun i hi=>by
       have:=(fsN_spec (p:=difL pp m) (n:=l.length) l.length 0 rfl (Nat.zero_le _)).2.2.2 i (Nat.zero_le _) (by omega)
       have:=of_decide_eq_false this
       omega
      have k69:=fun lim=>c69 (d:=d+6) (lim:=lim) g (by omega) (fun i _=>ha i) (fun i _=>hpl' i) (by omega) cB (by omega)
      obtain⟨⟨c0,e0⟩,er⟩:∃ ce,ce=pcE A (togB A Pl X.jp) m C 0 0:=⟨_,rfl⟩
      rw[← er] at k69 hZ
      by_cases z0:e0=0
      ·subst z0
       rw[if_neg (by simp)] at hZ
       obtain⟨fv,K2,e70,sf⟩:=c70 (d:=d+7) (lim:=lim) nB (by omega) (fun i hi=>by rw[hl i hi]; omega) (show lim≤B.length by rw[hB]; simp only[List.length_append]; omega)
       have rf:=sf.rules2
       have k71:=fun lim hh a b c=>c71 (d:=d+8) (lim:=lim) (h:=hh) (a:=a) (b:=b) (c:=c)
       have fl:=flP_len (p:=pp) (m:=m) l.length fun i hi=>by rw[hl i hi]; exact Nat.le_refl _
       have fl6:(flP pp l.length).length≤90 * 20:=Nat.le_trans fl (Nat.mul_le_mul (by omega) (by omega))
       simp[ef20,hp,gc,e62,rq,rc,rn,ck0,ck2,ck3,e1,k67,k69,e70,rf]
       refine wpC_loop (fun y st=>∃ k:Nat,y=(flP pp l.length).length-k∧k≤(flP pp l.length).length∧(∀ k',k'<k→-1000000≤gx (flP pp l.length) k'∧gx (flP pp l.length) k'≤1000000) ∧
        st=⟨[(7,Go.Abs.Q.pB (H.length+3)),(10,Go.Abs.Q.pB b),(13,i64 c0),(59,fv),(60,i64 (flP pp l.length).length),(61,i64 (k:Int))],B++K2⟩) (flP pp l.length).length (by show _<2 ^ 64; omega) ?_ ?_
       ·simp[St.tidy]
        exact⟨0,by omega,by omega,fun k' hk'=>by omega,rfl⟩
       ·rintro y hy _ ⟨k,rfl,hkk,hK,rfl⟩
        by_cases lt:k<(flP pp l.length).length
        ·have lti:(k:Int)<(flP pp l.length).length:=by omega
         have wk:=w1 (i:=k) (by omega)
         simp only[W] at wk
         have c1:=cI_gx lt
         have q0:=cI_gxe lt
         rcases qw:within (gx (flP pp l.length) k) (-1000000) 1000000 with _ | _
         ·have nr:¬ rgP pp m l.length:=fun R=>by
           have:=(flP_rg hl).1 R k lt
           unfold within at qw
           exact absurd (of_decide_eq_false qw) (by simp; omega)
          rw[if_pos nr] at hZ
          subst hZ
          simp[lt,lti,Nat.not_le.2 lt,rf,c1,q0,k71,qw]
          exact hBK _
         ·unfold within at qw
          have q2:=of_decide_eq_true qw
          simp[lt,lti,Nat.not_le.2 lt,rf,c1,q0,k71,within,q2,wk,St.tidy]
          exact⟨(flP pp l.length).length-(k+1),by omega,k+1,rfl,by omega,fun k' hk'=>by
           by_cases e:k'=k
           ·subst e; exact q2
           ·exact hK k' (by omega),rfl⟩
        ·obtain rfl:k=(flP pp l.length).length:=by omega
         have hP:rgP pp m l.length:=(flP_rg hl).2 hK
         rw[if_neg (fun w=>w hP)] at hZ
         obtain⟨ok,K3,e72,iff⟩:=c72 (d:=d+5) (lim:=lim) (bound:=c0) (g.app K2) (nB.app K2) (by omega) (fun i _=>ha i) (fun i _=>hpl' i) (by omega) hl hP (by rw[hB]; simp only[List.length_append]; omega)
         rcases ok with _ | _
         ·have nP:¬ PrvP A (togB A Pl X.jp) m l.length pp c0:=fun P=>by have:=iff.2 P; cases this
          rw[if_neg nP] at hZ
          subst hZ
          simp[ck3M,e72]
          exact hBK _
         ·rw[if_pos (iff.1 rfl)] at hZ
          subst hZ
          simp[ck3M,e72]
          exact hBK _
      ·rw[if_pos z0] at hZ
       subst hZ
       simp[ef20,hp,gc,e62,rq,rc,rn,ck0,ck2,ck3,e1,k67,k69,z0,hBK0]
       done
    ·have e2i:¬ (kp:Int)=l.length:=by omega
     rw[if_pos (.inr (.inl e2))] at hZ
     subst hZ
     simp[ef20,hp,gc,e62,rq,rc,rn,ck0,ck2,ck3,e1,e2,e2i,hBK0]
     done
   ·have e1i:¬ (C.length:Int)=l.length:=by omega
    rw[if_pos (.inl e1)] at hZ
    subst hZ
    simp[ef20,hp,gc,e62,rq,rc,ck0,ck3,e1,e1i,hBK0]
    done
  ·rw[if_pos q1] at hZ
   subst hZ
   simp[ef20,hp,gc,e62,q1,hBK0]
   done
 obtain⟨_,_,e,rfl,K,rfl⟩:=key
 exact⟨K,e⟩
end Q
end Go.Abs
namespace Go.Abs
namespace Q
set_option maxRecDepth 100000
set_option maxHeartbeats 0
structure PJ (base i:Nat) (L:List (Option Blk)) (R:Nat→List Int) (vs:Nat→Value) (ov:Value) (bo:Nat) (xv yv:Value):Prop where
 e0:L[0]?=some (some ⟨[xv,yv],true⟩)
 e1:L[1]?=some (some ⟨[.slice none 0 0,.slice none 0 0],true⟩)
 e3:L[3]?=some (some ⟨[.slice (some ⟨base+2,0,none⟩) (R 1000000).length 1,ov],true⟩)
 o:OutS base L bo ov ((List.range i).map vs)
 b4:4≤bo
 e2:L[2]?=some (some ⟨cI (R 1000000),true⟩)
 row:∀ j,j<i→∃ c,4≤c∧c≠bo∧vs j=.slice (some ⟨base+c,0,none⟩) (R j).length 1∧L[c]?=some (some ⟨cI (R j),true⟩)
theorem PJ.step {base i:Nat} {L L':List (Option Blk)} {R:Nat→List Int} {vs:Nat→Value} {ov xv yv:Value} {bo n:Nat} (g:PJ base i L R vs ov bo xv yv)
  (h3:L'[3]?=some (some ⟨[.slice (some ⟨base+2,0,none⟩) (R 1000000).length 1,.slice (some ⟨base+(L.length+2),0,none⟩) n 1],true⟩)) (hn:n=i+1)
  (old:∀ j,j<L.length→j≠3→j≠bo→L'[j]?=L[j]?) (ho:L'[L.length+2]?=some (some ⟨(List.range i).map vs++[.slice (some ⟨base+L.length,0,none⟩) (R i).length 1],true⟩)) (hl:L'[L.length]?=some (some ⟨cI (R i),true⟩)) :
  PJ base (i+1) L' R (updV vs i (.slice (some ⟨base+L.length,0,none⟩) (R i).length 1)) (.slice (some ⟨base+(L.length+2),0,none⟩) n 1) (L.length+2) xv yv:=by
 have b4:=g.b4
 have l0:=lget_lt g.e3
 refine⟨by rw[old 0 (by omega) (by omega) (by omega)]; exact g.e0,by rw[old 1 (by omega) (by omega) (by omega)]; exact g.e1,h3,by rw[updV_map]; exact OutS.mk ho (by simp[hn]) (by simp),by omega,by rw[old 2 (by omega) (by omega) (by omega)]; exact g.e2,fun j hj=>?_⟩
 by_cases q:j=i
 ·subst q
  exact⟨L.length,by omega,by omega,by simp[updV],hl⟩
 ·obtain⟨c,c1,c2,c3,c4⟩:=g.row j (by omega)
  have:=lget_lt c4
  exact⟨c,c1,by omega,by simp[updV,q,c3],by rw[old c this (by omega) c2,c4]⟩
theorem c21 {d lim n:Nat} {H:Heap} {cv pv:Value} {C:List Int} {us:Nat→Value} {pp:Nat→List Int} (sc:SlI' H cv C) (np:NL H pv n us pp) (hC:C.length≤1000) (hn:n≤1000) (hpl:∀ i,i<n→(pp i).length≤1000) (hlim:lim≤H.length) :
  ∃ cv' pv' us' K,E.call (d+2) lim 21 [.agg #[cv,pv]] H=some (.agg #[cv',pv'],H++K)∧SlI' (H++K) cv' C∧NL (H++K) pv' n us' pp:=by
 have key:∃ r h',E.call (d+2) lim 21 [.agg #[cv,pv]] H=some (r,h')∧∃ cv' pv' us' K,r=.agg #[cv',pv']∧h'=H++K∧SlI' (H++K) cv' C∧NL (H++K) pv' n us' pp:=by
  obtain⟨R,hR⟩:∃ R:Nat→List Int,R=fun i=>if i=1000000 then C else pp i:=⟨_,rfl⟩
  have RC:R 1000000=C:=by rw[hR]; rfl
  have Rp:∀ i,i<n→R i=pp i:=fun i hi=>by rw[hR]; exact if_neg (by omega)
  have glim:∀ k,lim≤H.length+k:=fun k=>by omega
  have na:∀ z,noAddr (i64 z)=true:=fun z=>rfl
  have nn:noAddr (Value.slice none 0 0)=true:=rfl
  have hpu:∀ b,Heap.push H b=H++[some b]:=fun _=>rfl
  have rn:=np.sl.rules2
  have k15:=fun (M:Heap) lim=>c15g (d:=d) (lim:=lim) (sc.app M) (by omega)
  refine full_ex fn21 rfl (by simp[ef21]) ?_
  simp[ef21,hpu,k15,nn,glim,lget_left,lget_right,lget_right0,lset_left,lset_right,lset_right0,zeros,fillL]
  refine wpC_loop (fun y st=>∃ (i:Nat) (L:List (Option Blk)) (vs:Nat→Value) (ov:Value) (bo:Nat),y=n-i∧i≤n∧PJ H.length i L R vs ov bo cv pv ∧
   st=⟨[(1,pB H.length),(2,pB (H.length+1)),(3,pB (H.length+3)),(4,i64 (i:Int))],H++L⟩) n (by show n<2 ^ 64; omega) ?_ ?_
  ·simp[St.tidy]
   exact⟨0,by omega,by omega,⟨fun _=>undef,.slice none 0 0,4,⟨rfl,rfl,by rw[RC]; rfl,OutS.nil,by omega,by rw[RC]; rfl,fun j hj=>by omega⟩⟩,rfl⟩
  ·rintro y hy _ ⟨i,L,vs,ov,bo,rfl,hi,g,rfl⟩
   have E0:=g.e0
   have E1:=g.e1
   have E3:=g.e3
   have L3:=lget_lt E3
   have L0:0<L.length:=by omega
   have L1:1<L.length:=by omega
   by_cases lt:i<n
   ·have lti:(i:Int)<n:=by omega
    have w1':=w1 (i:=i) (by omega)
    simp only[W] at w1'
    have ui:=as_get us lt
    have eR:=Rp i lt
    have k15i:=fun (M:Heap) lim=>c15g (d:=d) (lim:=lim) (Sl_freeze.2 ((np.row i lt).app M)) (by have:=hpl i lt; omega)
    rw[← eR] at k15i
    obtain⟨M,hM⟩:∃ M,M=L++[some (Blk.mk (cI (R i)) true)]:=⟨_,rfl⟩
    have Ml:M.length=L.length+1:=by rw[hM]; simp
    have M3:M[3]?=some (some ⟨[.slice (some ⟨H.length+2,0,none⟩) (R 1000000).length 1,ov],true⟩):=by rw[hM,lget_left L3,E3]
    have bol:(List.range i).map vs≠[]→bo<L.length:=fun e=>by
     have h:=g.o; unfold OutS at h; rw[if_neg e] at h; exact lget_lt h.2
    obtain⟨o,o1,o2,o3,o4,o5⟩:=(g.o.keep (L':=M) fun e=>by rw[hM,lget_left (bol e)]).appendT (B:=H) (bytes:=24) (x:=.slice (some ⟨H.length+L.length,0,none⟩) (R i).length 1) rfl (by simp; omega) (by simp; omega)
    have b4:=g.b4
    obtain⟨Ma,hMa⟩:∃ Ma,Ma=outM M bo ((List.range i).map vs)++[some (Blk.mk [.slice (some ⟨H.length+L.length,0,none⟩) (R i).length 1] true),some (Blk.mk ((List.range i).map vs++[.slice (some ⟨H.length+L.length,0,none⟩) (R i).length 1]) true)]:=⟨_,rfl⟩
    rw[← hMa] at o3
    rw[Ml] at o1 o2
    rw[hM] at o1 o3
    simp only[List.append_assoc,List.cons_append,List.nil_append,List.length_map,List.length_range,Nat.add_assoc] at o1 o2 o3
    have Mal:Ma.length=L.length+3:=by rw[hMa]; simp[Ml]
    have ma3:Ma[3]?=some (some ⟨[.slice (some ⟨H.length+2,0,none⟩) (R 1000000).length 1,ov],true⟩):=by rw[hMa,lget_left (by simp[Ml]; omega),outM_ne (by omega),M3]
    have l33:3<Ma.length:=by omega
    obtain⟨L',hL'⟩:∃ L',L'=Ma.set 3 (some (Blk.mk [.slice (some ⟨H.length+2,0,none⟩) (R 1000000).length 1,.slice (some ⟨H.length+(L.length+2),0,none⟩) (i+1) 1] true)):=⟨_,rfl⟩
    have old:∀ j,j<L.length→j≠3→j≠bo→L'[j]?=L[j]?:=fun j h1 h2 h3=>by
     rw[hL',List.getElem?_set_ne (by omega),hMa,lget_left (by simp[Ml]; omega),outM_ne h3,hM,lget_left h1]
    have h33:L'[3]?=some (some ⟨[.slice (some ⟨H.length+2,0,none⟩) (R 1000000).length 1,.slice (some ⟨H.length+(L.length+2),0,none⟩) (i+1) 1],true⟩):=by rw[hL',List.getElem?_set_self l33]
    have ho:L'[L.length+2]?=some (some ⟨(List.range i).map vs++[.slice (some ⟨H.length+L.length,0,none⟩) (R i).length 1],true⟩):=by
     rw[hL',List.getElem?_set_ne (by omega),hMa,show L.length+2=(outM M bo ((List.range i).map vs)).length+1 by simp[Ml],lget_right rfl]; rfl
    have hlr:L'[L.length]?=some (some ⟨cI (R i),true⟩):=by
     have nb:(List.range i).map vs≠[]→L.length≠bo:=fun e=>by have:=bol e; omega
     rw[hL',List.getElem?_set_ne (by omega),hMa,lget_left (by simp[Ml])]
     by_cases z:(List.range i).map vs=[]
     ·rw[z,outM_nil,hM,lget_right0 rfl]; rfl
     ·rw[outM_ne (nb z),hM,lget_right0 rfl]; rfl
    simp[-Eff.apply,-Eff.writes,eff_none,eff_push,eff_write,effw_none,effw_push,effw_write,fillL,zeros,lt,lti,Nat.not_le.2 lt,rn,ui,k15i,E0,lgetE E0,E3,lgetE E3,L0,L1,L3,lget_left,lget_right,lget_right0,lset_left,lset_right,lset_right0,glim,KOp_eq,Log.clash,o1,o2,o3,ma3,lgetE ma3,l33,← hL',w1',St.tidy]
    exact⟨n-(i+1),by omega,i+1,rfl,by omega,⟨_,_,_,g.step h33 rfl old ho hlr⟩,rfl⟩
   ·obtain rfl:i=n:=by omega
    simp[rn,E0,lgetE E0,E1,lgetE E1,E3,lgetE E3,L0,L1,L3,lget_left,lget_right,lget_right0,lset_left,lset_right,lset_right0,glim]
    have b4:=g.b4
    refine⟨?_,_,_,⟨rfl,rfl⟩,?_,vs,?_,fun j hj=>?_⟩
    ·have h:=g.o
     unfold OutS at h
     split at h
     ·rw[h]
     ·rw[h.1]
    ·have e2:=g.e2
     have:=Sl_one1 (h:=H++L.set 1 (some ⟨[.slice (some ⟨H.length+2,0,none⟩) (R 1000000).length 1,ov],true⟩)) (b:=H.length+2) (n:=(R 1000000).length) (cs:=cI (R 1000000)) (rw:=true) (by rw[hget_base rfl,List.getElem?_set_ne (by omega),e2]; rfl) (by simp)
     rw[RC] at this ⊢
     exact this
    ·exact (g.o.keep (L':=L.set 1 (some ⟨[.slice (some ⟨H.length+2,0,none⟩) (R 1000000).length 1,ov],true⟩)) fun _=>List.getElem?_set_ne (by omega)).sl (by simp)
    ·obtain⟨c,c1,c2,c3,c4⟩:=g.row j hj
     rw[c3,Rp j hj]
     rw[Rp j hj] at c4
     exact Sl_one1 (h:=H++L.set 1 (some ⟨[.slice (some ⟨H.length+2,0,none⟩) (R 1000000).length 1,ov],true⟩)) (b:=H.length+c) (n:=(pp j).length) (cs:=cI (pp j)) (rw:=true) (by rw[hget_base rfl,List.getElem?_set_ne (by omega),c4]; rfl) (by simp)
 obtain⟨_,_,e,cv',pv',us',K,rfl,rfl,h⟩:=key
 exact⟨cv',pv',us',K,e,h⟩
end Q
end Go.Abs
namespace Go.Abs
namespace Q
set_option maxRecDepth 100000
theorem tog_tgR {wl:List Wi} {l:List Un} {t:Int} {X:Lm} {G:List Int} (i a b:Nat) (ha:a<G.length) (hb:b<G.length) (h1:bx (alR wl t (atN l i) X G) a=true) (h2:bx (alR wl t (atN l (i+1)) X G) b=true) :
  togB (fun i=>alR wl t (atN l i) X G) (fun i=>plR wl t (atN l i) G) X.jp i a b=tgR wl t l X G i a b:=by
 have key:∀ (u:Un) (k:Nat),k<G.length→bx (alR wl t u X G) k=true→atR (plR wl t u G) k=ten wl t (cor u (gx G k)):=fun u k hk hb=>by
  rw[bx_al hk] at hb
  unfold alB at hb
  simp only[Bool.and_eq_true,decide_eq_true_eq] at hb
  have e:atR (plR wl t u G) k=plX wl t u (gx G k):=by simp[atR,plR,gx,hk]
  rw[e]
  unfold plX
  rw[if_pos hb.1]
 unfold togB tgR
 rw[h1,h2,key _ a ha h1,key _ b hb h2]
 rfl
section
variable {A:Nat→List Bool} {P:Nat→List XR} {jp:Int} {m n:Nat} {tg:Nat→Nat→Nat→Bool}
theorem bad_any (ha:∀ i,i<n→(A i).length=m) (hm:m≤1000) (hn:n≤100) (htg:∀ i a b,i+1<n→a<m→b<m→bx (A i) a=true→bx (A (i+1)) b=true→togB A P jp i a b=tg i a b) {i:Nat} (hi:i<n):badR A P jp m i=! anyR (refC A tg m i) m:=by
 have rp:=ref_pot (P:=P) (jp:=jp) ha hm hn htg i hi
 rcases lsI_spec (R:=A i) (l:=potR A P jp m i) m with ⟨h1,h2⟩ | ⟨b,h1,h2,h3,h4,h5⟩
 ·have e1:badR A P jp m i=true:=decide_eq_true (by omega)
  have e2:anyR (refC A tg m i) m=false:=by
   rcases q:anyR (refC A tg m i) m with _ | _
   ·rfl
   ·obtain⟨g,gm,g0⟩:=(anyR_iff m).1 q
    obtain⟨p1,p2⟩:=rp g gm
    rcases hb:bx (A i) g with _ | _
    ·have:=p1 hb; omega
    ·rcases p2 hb with ⟨q1,_⟩ | ⟨q1,q2,q3⟩
     ·omega
     ·exact absurd (show gx (potR A P jp m i) g<1000000 by omega) (h2 g gm hb)
  rw[e1,e2]; rfl
 ·have e1:badR A P jp m i=false:=decide_eq_false (by omega)
  have e2:anyR (refC A tg m i) m=true:=(anyR_iff m).2 ⟨b,h2,by
   rcases (rp b h2).2 h3 with ⟨_,q2⟩ | ⟨q1,_,_⟩
   ·omega
   ·exact q1⟩
  rw[e1,e2]; rfl
theorem bst_fs (hb:∀ i,i<n→badR A P jp m i=! anyR (refC A tg m i) m):∀ (k i:Nat),n-i=k→i≤n→bstE A tg m n i=if fsN (badR A P jp m) n i<n then (0,(fsN (badR A P jp m) n i:Int)) else (max (bstF (lastC A tg m n) (lastC A tg m n).length) 0,-1)
 | 0,i,hk,hi=>by rw[bstE_ge (by omega),fsN_ge (by omega),if_neg (by omega)]
 | k+1,i,hk,hi=>by
  rw[bstE_lt (by omega),fsN_lt (by omega),hb i (by omega)]
  rcases q:anyR (refC A tg m i) m with _ | _
  ·simp only[reduceCtorEq,if_false,Bool.not_false,if_true]
   rw[if_pos (show i<n by omega)]
  ·simp only[if_true,Bool.not_true,reduceCtorEq,if_false]
   exact bst_fs hb k (i+1) (by omega) (by omega)
theorem bstF_spec {l:List Int}:∀ k,(bstF l k=-1∧∀ j,j<k→gx l j<0)∨(∃ j,j<k∧0≤gx l j∧bstF l k=gx l j∧∀ j',j'<k→0≤gx l j'→gx l j≤gx l j')
 | 0=>.inl ⟨rfl,fun j hj=>by omega⟩
 | k+1=>by
  have e:bstF l (k+1)=if 0≤gx l k∧(bstF l k<0∨gx l k<bstF l k) then gx l k else bstF l k:=rfl
  by_cases c:0≤gx l k∧(bstF l k<0∨gx l k<bstF l k)
  ·rw[if_pos c] at e
   right
   refine⟨k,by omega,c.1,e,fun j' h1 h2=>?_⟩
   by_cases z:j'=k
   ·subst z; exact Int.le_refl _
   ·rcases bstF_spec (l:=l) k with ⟨b1,b2⟩ | ⟨j,b1,b2,b3,b4⟩
    ·have:=b2 j' (by omega); omega
    ·have:=b4 j' (by omega) h2
     rcases c.2 with c | c
     ·omega
     ·omega
  ·rw[if_neg c] at e
   rcases bstF_spec (l:=l) k with ⟨b1,b2⟩ | ⟨j,b1,b2,b3,b4⟩
   ·left
    refine⟨by omega,fun j hj=>?_⟩
    by_cases z:j=k
    ·subst z; omega
    ·exact b2 j (by omega)
   ·right
    refine⟨j,by omega,b2,by omega,fun j' h1 h2=>?_⟩
    by_cases z:j'=k
    ·subst z; omega
    ·exact b4 j' (by omega) h2
theorem cho_law {h:Heap} {ga po:Value} {c e':Int} (ha:∀ i,i<n→(A i).length=m) (hm:m≤1000) (hn:n≤100) (htg:∀ i a b,i+1<n→a<m→b<m→bx (A i) a=true→bx (A (i+1)) b=true→togB A P jp i a b=tg i a b) (S:choS A P jp m n 0 h ga po c e') :
  (∃ R:Nat,bstE A tg m n 0=(0,(R:Int))∧ga=.slice none 0 0∧po=.slice none 0 0∧c=R∧e'=12) ∨
  (bstE A tg m n 0=(c,-1)∧e'=0∧∃ C us,SlI' h ga C∧NL h po n us (potR A P jp m)∧C.length=n∧chE A tg m n C n (potR A P jp m)=(c,0)):=by
 have ba:=fun i hi=>bad_any (P:=P) (jp:=jp) ha hm hn htg (i:=i) hi
 have bf:=bst_fs ba n 0 (by omega) (by omega)
 unfold choS at S
 by_cases n0:n=0
 ·rw[if_pos (.inr n0)] at S
  obtain⟨rfl,rfl,rfl,rfl⟩:=S
  subst n0
  right
  refine⟨by rw[bf,if_neg (by omega)]; rfl,rfl,[],fun _=>undef,⟨rfl,rfl,fun q=>absurd rfl q,.inl rfl,fun k hk=>by simp at hk⟩,⟨⟨rfl,rfl,fun q=>absurd rfl q,.inl rfl,fun k hk=>by simp at hk⟩,fun i hi=>by omega⟩,rfl,?_⟩
  unfold chE
  rw[if_neg (by simp),pcE_ge (by simp),if_neg (by simp),if_neg (fun w=>w fun i hi=>by omega),if_pos ⟨fun k hk=>by omega,fun k hk=>by omega,fun i a b hi=>by omega⟩]
 ·rw[if_neg (by omega)] at S
  by_cases q:fsN (badR A P jp m) n 0<n
  ·rw[if_pos q] at S bf
   obtain⟨rfl,rfl,rfl,rfl⟩:=S
   exact .inl ⟨_,bf,rfl,rfl,rfl,rfl⟩
  ·rw[if_neg q] at S bf
   obtain⟨sg,⟨us,np⟩,rfl,rfl⟩:=S
   have nb:∀ j,j<n→badR A P jp m j=false:=fun j hj=>(fsN_spec (p:=badR A P jp m) (n:=n) n 0 rfl (Nat.zero_le _)).2.2.2 j (Nat.zero_le _) (by omega)
   have nbl:=nb (n-1) (by omega)
   have pk:=fun j hj=>pq_ok (P:=P) (jp:=jp) ha hm nbl j hj
   have pgk:∀ i,i<n→pg A P jp m n i<m∧bx (A i) (pg A P jp m n i)=true∧gx (potR A P jp m i) (pg A P jp m n i)<1000000:=fun i hi=>by
    obtain⟨h1,h2,h3,_⟩:=pk (n-1-i) (by omega)
    rw[show n-1-(n-1-i)=i by omega] at h2 h3
    exact⟨h1,h2,h3⟩
   have pgs:∀ i,i+1<n→togB A P jp i (pg A P jp m n i) (pg A P jp m n (i+1))=true∧gx (potR A P jp m i) (pg A P jp m n i)+gp (pg A P jp m n i) (pg A P jp m n (i+1))=gx (potR A P jp m (i+1)) (pg A P jp m n (i+1)):=fun i hi=>by
    obtain⟨_,_,_,h4⟩:=pk (n-1-i) (by omega)
    have:=h4 (n-1-(i+1)) (by omega)
    rw[show n-1-(n-1-i)=i by omega,show n-1-(n-1-(i+1))=i+1 by omega] at this
    exact this
   obtain⟨D,hD⟩:∃ D:Nat→Int,D=fun i=>gx (potR A P jp m i) (pg A P jp m n i):=⟨_,rfl⟩
   have hDi:∀ i,gx (potR A P jp m i) (pg A P jp m n i)=D i:=fun i=>by rw[hD]
   have Cg:∀ i,i<n→gx (glS A P jp m n 0) i=(pg A P jp m n i:Int):=fun i hi=>by rw[glS_gx hi,if_pos (Nat.zero_le _)]
   have Cl:(glS A P jp m n 0).length=n:=glS_len
   have bd:=fun i hi=>pot_bd (P:=P) (jp:=jp) (n:=n) ha hm i hi
   have nbl':=of_decide_eq_false nbl
   have pgl:(pg A P jp m n (n-1):Int)=lsI (A (n-1)) (potR A P jp m (n-1)) m:=by
    unfold pg
    rw[Nat.sub_self]
    show (((lsI (A (n-1)) (potR A P jp m (n-1)) m).toNat:Nat):Int)=_
    omega
   have mn:∀ j,j<m→bx (A (n-1)) j=true→D (n-1)≤gx (potR A P jp m (n-1)) j:=by
    rcases lsI_spec (R:=A (n-1)) (l:=potR A P jp m (n-1)) m with ⟨h1,_⟩ | ⟨b,h1,h2,h3,h4,h5⟩
    ·omega
    ·intro j hj hb
     rw[← hDi,show pg A P jp m n (n-1)=b by omega]
     exact h5 j hj hb
   have rp:=ref_pot (P:=P) (jp:=jp) ha hm hn htg (n-1) (by omega)
   have co:max (bstF (lastC A tg m n) (lastC A tg m n).length) 0=D (n-1):=by
    have e:lastC A tg m n=refC A tg m (n-1):=by unfold lastC; rw[if_neg n0]
    rw[e,refC_len]
    obtain⟨g1,g2,g3⟩:=pgk (n-1) (by omega)
    rw[hDi] at g3
    have r0:0≤gx (refC A tg m (n-1)) (pg A P jp m n (n-1))∧gx (refC A tg m (n-1)) (pg A P jp m n (n-1))=D (n-1):=by
     rcases (rp _ g1).2 g2 with ⟨_,q2⟩ | ⟨q1,q2,_⟩
     ·rw[hDi] at q2; omega
     ·rw[hDi] at q2; exact⟨q1,q2⟩
    rcases bstF_spec (l:=refC A tg m (n-1)) m with ⟨b1,b2⟩ | ⟨j,b1,b2,b3,b4⟩
    ·have:=b2 _ g1; omega
    ·have h1:=b4 _ g1 r0.1
     have hbj:bx (A (n-1)) j=true:=by
      rcases z:bx (A (n-1)) j with _ | _
      ·have:=(rp j b1).1 z; omega
      ·rfl
     have h2:=mn j b1 hbj
     rcases (rp j b1).2 hbj with ⟨q1,_⟩ | ⟨q1,q2,_⟩
     ·omega
     ·omega
   rw[hDi]
   right
   refine⟨by rw[bf,co],rfl,_,us,sg,np,Cl,?_⟩
   have pc:pcE A tg m (glS A P jp m n 0) 0 0=(D (n-1),0):=by
    have hw:=pcE_way (A:=A) (tg:=tg) (m:=m) (C:=glS A P jp m n 0) (D:=D) (fun i hi=>⟨pg A P jp m n i,Cg i (by omega),(pgk i (by omega)).1,(pgk i (by omega)).2.1⟩) (fun i hi=>by
     have hi':i+1<n:=by omega
     obtain⟨t1,t2⟩:=pgs i hi'
     rw[Cg i (by omega),Cg (i+1) hi',Int.toNat_natCast,Int.toNat_natCast]
     rw[hDi,hDi] at t2
     exact⟨by rw[← htg i _ _ hi' (pgk i (by omega)).1 (pgk (i+1) hi').1 (pgk i (by omega)).2.1 (pgk (i+1) hi').2.1]; exact t1,t2⟩) (n-1) 1 (by omega) (by omega) (by omega)
    rw[Cl] at hw
    obtain⟨g1,g2,_⟩:=pgk 0 (by omega)
    have D0:D 0=0:=by rw[← hDi]; exact pot_0 ha (by omega) g1
    rw[pcE_lt (by omega),Cg 0 (by omega)]
    have wi:within ((pg A P jp m n 0:Nat):Int) 0 ((m:Int)-1)=true:=by unfold within; exact decide_eq_true (by omega)
    rw[if_neg (by rw[wi]; decide),if_neg (by rw[Int.toNat_natCast,g2]; decide),if_neg (by omega),if_neg (by omega)]
    rw[show (1-1:Nat)=0 from rfl,D0] at hw
    exact hw
   unfold chE
   have hl:∀ i,i<n→(potR A P jp m i).length=m:=fun i hi=>potR_len (n:=n) ha i hi
   have fs:¬ fsN (difL (potR A P jp m) m) n 0<n:=fun w=>by
    have:=(fsN_spec (p:=difL (potR A P jp m) m) (n:=n) n 0 rfl (Nat.zero_le _)).2.2.1 w
    exact of_decide_eq_true this (hl _ w)
   rw[if_neg (by simp only[Cl]; omega),pc,if_neg (by simp),if_neg (fun w=>w fun i hi k hk=>by have:=bd i hi k hk; omega),if_pos]
   refine⟨fun k h0 hk hb=>by rw[pot_0 ha h0 hk]; exact Int.le_refl _,fun k h0 hk hb=>mn k hk hb,fun i a b hi hA hB ht=>?_⟩
   unfold tgA at ht
   simp only[Bool.and_eq_true] at ht
   exact (pot_next (P:=P) (jp:=jp) ha hm hi hB).1 ht.1.2 a hA (by rw[htg i a b hi hA hB ht.1.1 ht.1.2]; exact ht.2)
end
end Q
end Go.Abs
namespace Go.Abs
namespace Q
set_option maxRecDepth 100000
set_option maxHeartbeats 0
theorem Sl_unf {es:Nat} {X:Heap} {K:List (Option Blk)} {v:Value} {n:Nat} {cs:List Value} (s:Sl es (X.freeze++K) v n cs):Sl es (X++K) v n cs:=by
 have e:Heap.freeze (X.freeze++K)=Heap.freeze (X++K):=by
  unfold Heap.freeze
  rw[List.map_append,List.map_append,List.map_map]
  congr 1
  apply List.map_congr_left
  intro a _
  cases a <;> rfl
 have t:=Sl_freeze.2 s
 rw[e] at t
 exact Sl_freeze.1 t
theorem NL_unf {X:Heap} {K:List (Option Blk)} {v:Value} {n:Nat} {vs:Nat→Value} {f:Nat→List Int} (s:NL (X.freeze++K) v n vs f):NL (X++K) v n vs f:=⟨Sl_unf s.sl,fun i hi=>Sl_unf (s.row i hi)⟩
theorem put_self {T:Heap} {b:Nat} {k:Blk} (e:T.get b=some k):Heap.put T b (some k)=T:=by
 apply List.ext_getElem?
 intro j
 have hb:=Heap.get_lt e
 unfold Heap.put
 by_cases q:j=b
 ·subst q
  rw[List.getElem?_set_self hb]
  unfold Heap.get at e
  rcases z:T[j]? with _ | x
  ·rw[z] at e; cases e
  ·rw[z] at e; rw[← e]; rfl
 ·rw[List.getElem?_set_ne (Ne.symm q)]
theorem c19g {d:Nat} {h:Heap} {v w:Value} {wl:List Wi} {l:List Un} {t:Int} (s:SlW h v wl) (q:SlN h w l) (he:(stE t wl l).2=0) :
  ∃ fv FK,(∀ lim,E.call (d+5) lim 19 [stV t v w] h=some (knV t v w fv,h++FK))∧SlR (h++FK) fv (mapU (frq t) l):=by
 refine⟨_,_,fun lim=>c19 s q he,?_⟩
 unfold newV newK
 have fl:=mapU_len (frq t) l
 rcases Nat.eq_zero_or_pos l.length with z | z
 ·have el:l=[]:=List.eq_nil_of_length_eq_zero z
  subst el
  exact⟨rfl,rfl,fun q=>absurd rfl q,.inl rfl,fun k hk=>by simp[mapU] at hk⟩
 ·rw[if_neg (by omega),if_neg (by omega)]
  have:=Sl_own (f:=encR) (es:=2) (fun _=>rfl) (h:=h++[qR (mapU (frq t) l)]) (b:=h.length) (n:=(mapU (frq t) l).length) (l:=mapU (frq t) l) (rw:=true) (by rw[hget_base0 rfl]; rfl) rfl
  exact this
theorem c5 {d lim:Nat} {h:Heap} {v w gv:Value} {wl:List Wi} {l:List Un} {t:Int} {L:Lm} {G:List Int} (sp:Pr h) (s:SlW h v wl) (q:SlN h w l) (p:SlI' h gv G):E.call (d+12) lim 5 [stV t v w,lmV L,gv] h=some (.bool true,h):=by
 have rs:=s.rules2
 have rq:=q.rules2
 have rg:=p.rules2
 have k10:=fun lim hh=>c6 (d:=d+3) (lim:=lim) (h:=hh)
 have k11:=fun lim A=>c7 (d:=d+9) (lim:=lim) (t:=t) ((Sl_freeze.2 s).app A) ((Sl_freeze.2 q).app A)
 have k12:=fun lim A=>c8 (d:=d+10) (lim:=lim) ((Sl_freeze.2 p).app A)
 have spA:=fun A=>(Sl_freeze.2 sp).app A
 refine call1 fn5 rfl (by simp[ef5]) ?_
 rcases fw:fewB wl l with _ | _
 ·simp[ef5,k10,k11,fw]
 obtain⟨lw,hnm,l6⟩:=few_ok fw
 rcases fg:fewG G.length with _ | _
 ·simp[ef5,k10,k11,k12,fw,fg]
 have g25:G.length≤25:=by unfold fewG at fg; simp at fg; omega
 have k14:=fun lim A=>c14 (d:=d+10) (lim:=lim) (t:=t) (Sl_freeze.2 ((Sl_freeze.2 s).app A)) (Sl_freeze.2 ((Sl_freeze.2 q).app A)) (by omega) (by omega)
 have k15:=fun lim A=>c15g (d:=d+10) (lim:=lim) (Sl_freeze.2 ((Sl_freeze.2 p).app A)) (by omega)
 obtain⟨ga,po,c,e',K,k23,ch⟩:=c23 (d:=d+1) (lim:=h.length) (t:=t) (X:=L) (Sl_freeze.2 (spA [qB t v w,qL L,qW wl,qN l,qI G])) (Sl_freeze.2 (ownW (h:=h) (l:=wl) [qB t v w,qL L,qW wl,qN l,qI G] (k:=2) rfl)) (Sl_freeze.2 (ownN (h:=h) (l:=l) [qB t v w,qL L,qW wl,qN l,qI G] (k:=3) rfl)) (Sl_freeze.2 (ownI (h:=h) (l:=G) [qB t v w,qL L,qW wl,qN l,qI G] (k:=4) rfl rfl)) (by omega) hnm (by simp)
 have k16:=fun lim A=>c16 (d:=d+4) (lim:=lim) (t:=t) (L:=L) ((Sl_freeze.2 s).app A) ((Sl_freeze.2 q).app A) ((Sl_freeze.2 p).app A) (by omega)
 obtain⟨A,hA⟩:∃ A,A=[qB t v w,qL L,qW wl,qN l,qI G]++(K++[some ⟨[ga,po],true⟩]):=⟨_,rfl⟩
 by_cases he:erA t wl l L G=0
 ·obtain⟨he1,he2,he3⟩:=erA_parts he
  have O:=StOk.of he1
  have gl:=(ggE_0 he3).2
  have n90:=O.few
  obtain⟨As,hAs⟩:∃ As:Nat→List Bool,As=fun i=>alR wl t (atN l i) L G:=⟨_,rfl⟩
  obtain⟨Pl,hPl⟩:∃ Pl:Nat→List XR,Pl=fun i=>plR wl t (atN l i) G:=⟨_,rfl⟩
  obtain⟨tg,htgd⟩:∃ tg,tg=tgR wl t l L G:=⟨_,rfl⟩
  have ha:∀ i,(As i).length=G.length:=fun i=>by rw[hAs,alR_len]
  have htg:∀ i a b,i+1<l.length→a<G.length→b<G.length→bx (As i) a=true→bx (As (i+1)) b=true→togB As Pl L.jp i a b=tg i a b:=fun i a b _ h1 h2 h3 h4=>by
   rw[hAs] at h3 h4
   rw[hAs,hPl,htgd]; exact tog_tgR i a b h1 h2 h3 h4
  rw[← hAs,← hPl,he] at ch
  obtain⟨T0,hT0⟩:∃ T0,T0=h.freeze++A:=⟨_,rfl⟩
  have k16T:=fun lim=>k16 lim A
  rw[← hT0] at k16T
  have sT:SlW T0 v wl:=hT0 ▸ (Sl_freeze.2 s).app A
  have qT:SlN T0 w l:=hT0 ▸ (Sl_freeze.2 q).app A
  have pT:SlI' T0 gv G:=hT0 ▸ (Sl_freeze.2 p).app A
  obtain⟨fv,FK,k19,sR⟩:=c19g (d:=d+6) sT qT he1
  rcases cho_law (fun i _=>ha i) (by omega) (by omega) htg ch with ⟨R,hb,rfl,rfl,rfl,rfl⟩ | ⟨hb,rfl,C,us,sg,np,Cl,chE⟩
  ·have e24:=c24 (d:=d+1) (lim:=h.length) (X:=L) ((sT.app FK).app [qK t v w fv]) ((qT.app FK).app [qK t v w fv]) (sR.app [qK t v w fv]) ((pT.app FK).app [qK t v w fv]) O gl (by rw[hT0]; simp only[List.length_append,Heap.length_freeze]; omega)
   obtain⟨K2,k24⟩:=e24
   rw[← hAs,← htgd,hb] at k24
   have g0:T0.get h.length=some ⟨[i64 t,v,w],true⟩:=by rw[hT0,hA,hget_base0 (by simp)]; rfl
   have g1:T0.get (h.length+1)=some ⟨[i64 L.lo,i64 L.hi,i64 L.sh,i64 L.jp],true⟩:=by rw[hT0,hA,hget_base (by simp)]; rfl
   have g7:T0.get (h.length+(K.length+5))=some ⟨[.slice none 0 0,.slice none 0 0],true⟩:=by
    rw[hT0,hA,hget_base (by simp),show K.length+5=[qB t v w,qL L,qW wl,qN l,qI G].length+K.length by simp; omega,lget_right rfl,lget_right0 rfl]; rfl
   have pk0:=fun (M:Heap) o n=>part_get (o:=o) (n:=n) (hget_append (l:=M) g0)
   have pk1:=fun (M:Heap) o n=>part_get (o:=o) (n:=n) (hget_append (l:=M) g1)
   have pk00:=fun o n=>part_get (o:=o) (n:=n) g0
   have pk10:=fun o n=>part_get (o:=o) (n:=n) g1
   have ck7:=fun (M:Heap) o=>cell_get (o:=o) (hget_append (l:=M) g7)
   have hT:h.freeze++some ⟨[i64 t,v,w],true⟩::some ⟨[i64 L.lo,i64 L.hi,i64 L.sh,i64 L.jp],true⟩::some ⟨cS encW wl,true⟩::some ⟨cS encN l,true⟩::some ⟨cI G,true⟩::(K++[some ⟨[Value.slice none 0 0,Value.slice none 0 0],true⟩])=T0:=by rw[hT0,hA]; rfl
   simp at k23 k14 k16T k19 k24
   simp[ef5,k10,k11,k12,fw,fg,k14,k15,k23,he,Nat.add_assoc,hT,k16T,g7,put_self g7,pk0,pk1,pk00,pk10,ck7,k19,k24]
   exact⟨⟨⟨Sl_one s,Sl_one q,Sl_one sR⟩,.inl (by rw[hT0]; simp; omega)⟩,rfl⟩
  ·obtain⟨T9,hT9⟩:∃ T9,T9=h.freeze++([qB t v w,qL L,qW wl,qN l,qI G]++K):=⟨_,rfl⟩
   have T9l:T9.length=h.length+(K.length+5):=by rw[hT9]; simp
   have hT09:T9++[some ⟨[ga,po],true⟩]=T0:=by rw[hT0,hT9,hA]; simp
   have sg9:SlI' T9 ga C:=by have:=Sl_unf sg; rw[List.append_assoc] at this; rw[hT9]; exact this
   have np9:NL T9 po l.length us (potR As Pl L.jp G.length):=by have:=NL_unf np; rw[List.append_assoc] at this; rw[hT9]; exact this
   have sg0:SlI' T0 ga C:=hT09 ▸ sg9.app _
   have np0:NL T0 po l.length us (potR As Pl L.jp G.length):=hT09 ▸ np9.app _
   have spT:Pr T0:=hT0 ▸ spA A
   obtain⟨K2,k24⟩:=c24 (d:=d+1) (lim:=h.length) (X:=L) ((sT.app FK).app [qK t v w fv]) ((qT.app FK).app [qK t v w fv]) (sR.app [qK t v w fv]) ((pT.app FK).app [qK t v w fv]) O gl (by rw[hT0]; simp only[List.length_append,Heap.length_freeze]; omega)
   rw[← hAs,← htgd,hb] at k24
   obtain⟨Z,hZ⟩:∃ Z,Z=FK++([qK t v w fv]++K2):=⟨_,rfl⟩
   obtain⟨X,hX⟩:∃ X,X=T0++Z:=⟨_,rfl⟩
   have T0l:T0.length=h.length+(K.length+6):=by rw[← hT09,List.length_append,T9l]; rfl
   have Xl:h.length≤X.length:=by rw[hX,List.length_append]; omega
   have sX:SlW X v wl:=hX ▸ sT.app _
   have qX:SlN X w l:=hX ▸ qT.app _
   have pX:SlI' X gv G:=hX ▸ pT.app _
   have sgX:SlI' X ga C:=hX ▸ sg0.app _
   have npX:NL X po l.length us (potR As Pl L.jp G.length):=hX ▸ np0.app _
   have spX:Pr X:=hX ▸ spT.app _
   have k14X:=fun lim=>c14 (d:=d+10) (lim:=lim) (t:=t) (Sl_freeze.2 sX) (Sl_freeze.2 qX) (by omega) (by omega)
   have k15X:=fun lim=>c15g (d:=d+10) (lim:=lim) (Sl_freeze.2 (pX.app [qW wl,qN l])) (by omega)
   have lp:∀ i,i<l.length→(potR As Pl L.jp G.length i).length=G.length:=fun i hi=>potR_len (n:=l.length) (fun i _=>ha i) i hi
   obtain⟨cv',pv',us',K3,k21,sc3,np3⟩:=c21 (d:=d+9) (lim:=h.length) (Sl_freeze.2 (sgX.app [qW wl,qN l,qI G])) (npX.app [qW wl,qN l,qI G]).frz (by omega) (by omega) (fun i hi=>by rw[lp i hi]; omega) (by simp; omega)
   have sc3':=Sl_unf sc3
   have np3':=NL_unf np3
   obtain⟨Y,hY⟩:∃ Y,Y=X++[qW wl,qN l,qI G]++K3:=⟨_,rfl⟩
   rw[← hY] at sc3' np3'
   have yW:SlW Y (.slice (some ⟨X.length,0,none⟩) wl.length 4) wl:=by
    rw[hY,List.append_assoc]
    exact Sl_own (f:=encW) (es:=4) (fun _=>rfl) (by rw[hget_base0 rfl]; rfl) rfl
   have yN:SlN Y (.slice (some ⟨X.length+1,0,none⟩) l.length 10) l:=by
    rw[hY,List.append_assoc]
    exact Sl_own (f:=encN) (es:=10) (fun _=>rfl) (by rw[hget_base rfl]; rfl) rfl
   have yI:SlI' Y (.slice (some ⟨X.length+2,0,none⟩) G.length 1) G:=by
    rw[hY,List.append_assoc]
    exact SlI'_own (by rw[hget_base rfl]; rfl) rfl
   have spY:Pr Y:=by rw[hY,List.append_assoc]; exact spX.app _
   obtain⟨K4,k20⟩:=c20 (d:=d+1) (lim:=h.length) (t:=t) (X:=L) spY yW yN yI sc3' np3' (by omega) hnm (by rw[hY]; simp only[List.length_append]; omega) (by omega) (by omega) (by omega) (fun i hi=>by rw[lp i hi]; omega)
   rw[← hAs,← hPl,he] at k20
   have ck:ckE As Pl L.jp G.length l.length 0 C l.length (potR As Pl L.jp G.length)=(c,0):=by
    unfold ckE
    rw[if_neg (by simp),chE_congr htg,chE]
   rw[ck] at k20
   have k22:=fun lim=>c22 (d:=d) (lim:=lim) (X:=L) (f:=fv) (h:=Y++K4) (cv:=ga) (pv:=po) (gv:=gv) (by rw[hY,List.append_assoc,List.append_assoc]; exact sX.app _) (by rw[hY,List.append_assoc,List.append_assoc]; exact qX.app _) (by rw[hY,hX,hZ]; have:=((sR.app ([qK t v w fv]++K2)).app ([qW wl,qN l,qI G]++K3++K4)); simpa using this) (by rw[hY,List.append_assoc,List.append_assoc]; exact pX.app _) (by rw[hY,List.append_assoc,List.append_assoc]; exact sgX.app _) (by rw[hY,List.append_assoc,List.append_assoc]; exact npX.app _) O gl (by omega) (by omega) (fun i hi=>by rw[lp i hi]; omega)
   rw[← hAs,← htgd,chE] at k22
   have g0:T0.get h.length=some ⟨[i64 t,v,w],true⟩:=by rw[hT0,hA,hget_base0 (by simp)]; rfl
   have g1:T0.get (h.length+1)=some ⟨[i64 L.lo,i64 L.hi,i64 L.sh,i64 L.jp],true⟩:=by rw[hT0,hA,hget_base (by simp)]; rfl
   have g7:T0.get T9.length=some ⟨[ga,po],true⟩:=by rw[← hT09,hget_base0 rfl]; rfl
   have g11:(T0++Z).get (T0.length+FK.length)=some ⟨[i64 t,v,w,fv],true⟩:=by rw[hZ,hget_base rfl,lget_right0 rfl]; rfl
   have pk0:=fun (M:Heap) o n=>part_get (o:=o) (n:=n) (hget_append (l:=M) g0)
   have pk1:=fun (M:Heap) o n=>part_get (o:=o) (n:=n) (hget_append (l:=M) g1)
   have pk7:=fun (M:Heap) o n=>part_get (o:=o) (n:=n) (hget_append (l:=M) g7)
   have pk00:=fun o n=>part_get (o:=o) (n:=n) g0
   have pk10:=fun o n=>part_get (o:=o) (n:=n) g1
   have ck7:=fun (M:Heap) o=>cell_get (o:=o) (hget_append (l:=M) g7)
   have hT:h.freeze++some ⟨[i64 t,v,w],true⟩::some ⟨[i64 L.lo,i64 L.hi,i64 L.sh,i64 L.jp],true⟩::some ⟨cS encW wl,true⟩::some ⟨cS encN l,true⟩::some ⟨cI G,true⟩::K=T9:=by rw[hT9]; rfl
   have hpu9:∀ b,Heap.push T9 b=T9++[some b]:=fun _=>rfl
   have hXe:T0++(FK++qK t v w fv::K2)=X:=by rw[hX,hZ]; rfl
   have hYe:X++qW wl::qN l::qI G::K3=Y:=by rw[hY,List.append_assoc]; rfl
   have g0X:X.get h.length=_:=hX ▸ hget_append (l:=Z) g0
   have g1X:X.get (h.length+1)=_:=hX ▸ hget_append (l:=Z) g1
   have g7X:X.get T9.length=_:=hX ▸ hget_append (l:=Z) g7
   have g11X:X.get (T0.length+FK.length)=_:=hX ▸ g11
   have X0:=fun o n=>part_get (o:=o) (n:=n) g0X
   have X1:=fun o n=>part_get (o:=o) (n:=n) g1X
   have X0M:=fun (M:Heap) o n=>part_get (o:=o) (n:=n) (hget_append (l:=M) g0X)
   have X1M:=fun (M:Heap) o n=>part_get (o:=o) (n:=n) (hget_append (l:=M) g1X)
   have X7M:=fun (M:Heap) o n=>part_get (o:=o) (n:=n) (hget_append (l:=M) g7X)
   have hY2:Y=X++([qW wl,qN l,qI G]++K3):=by rw[hY,List.append_assoc]
   have Y1:=fun (M:Heap) o n=>part_get (o:=o) (n:=n) (hget_append (l:=M) (show Y.get (h.length+1)=_ from hY2 ▸ hget_append g1X))
   have Y7:=fun (M:Heap) o n=>part_get (o:=o) (n:=n) (hget_append (l:=M) (show Y.get T9.length=_ from hY2 ▸ hget_append g7X))
   have Y11:=fun (M:Heap) o n=>part_get (o:=o) (n:=n) (hget_append (l:=M) (show Y.get (T0.length+FK.length)=_ from hY2 ▸ hget_append g11X))
   have le9:h.length≤T9.length:=by omega
   have le0:h.length≤T0.length+FK.length:=by omega
   have o1:=Sl_one s
   have o2:=Sl_one q
   have o3:=Sl_one sR
   have o4:=Sl_one sg
   have o5:=Sl_one np.sl
   simp only[Value.oneCell'] at o1 o2 o3 o4 o5
   simp at k23 k14 k16T k19 k24 k14X k15X k21 k20 k22
   simp[ef5,k10,k11,k12,fw,fg,k14,k15,k23,he,Nat.add_assoc,hT,hpu9,hT09,k16T,pk0,pk1,pk00,pk10,ck7,k19,k24,o1,o2,o3,o4,o5,le9,le0,hXe,hYe,X0,X1,X0M,X1M,X7M,Y1,Y7,Y11,k14X,k15X,k21,k20,k22]
 ·unfold choS at ch
  rw[if_pos (.inl he)] at ch
  obtain⟨rfl,rfl,rfl,rfl⟩:=ch
  simp at k23 k14 k16
  simp[ef5,k10,k11,k12,fw,fg,k14,k15,k23,k16,he,Nat.add_assoc]
  rfl
end Q
end Go.Abs
