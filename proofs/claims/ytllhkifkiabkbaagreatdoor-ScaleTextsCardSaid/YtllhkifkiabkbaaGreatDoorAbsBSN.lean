--
import Derived.Test.YtllhkifkiabkbaaGreatDoorAbsBSM
import Derived.Test.YtllhkifkiabkbaaGreatDoorAbsTypM
set_option linter.unusedSimpArgs false
set_option linter.unusedVariables false
namespace Go.Abs
namespace B
set_option maxRecDepth 100000
set_option maxHeartbeats 0
def tryR (l:List Bd) (n:Nat):Nat→Nat→Option (List Int)
 | 0,_=>none
 | m+1,k=>if (iterR l n (k+1)).low=none then some (iterR l n (k+1)).x else tryR l n m (k+1)
theorem iter_ok {n:Nat} {l:List Bd} (G:Good n l):∀ k,(iterR l n k).x.length=n∧(iterR l n k).by_.length=n∧BxR n (k * l.length) (iterR l n k).x
 | 0=>⟨by simp[iterR,zerosI],by simp[iterR,zerosN],fun v _=>by show _≤gx (zerosI n) v∧gx (zerosI n) v≤0; rw[gx_zeros]; omega⟩
 | k+1=>by
  obtain⟨a1,a2,a3⟩:=iter_ok G k
  have:=relF_ok G a1 a2 a3 l.length (Nat.le_refl _)
  rw[show (k+1) * l.length=k * l.length+l.length from Nat.succ_mul k l.length]
  exact this
theorem z0 (n:Nat):zeros [Value.int .i64 0] n=cI (zerosI n):=by
 unfold zeros cI zerosI
 induction n with
 | zero=>rfl
 | succ n ih=>simp_all [List.replicate_succ]
end B
end Go.Abs
namespace Go.Abs
namespace B
set_option maxRecDepth 100000
set_option maxHeartbeats 0
@[simp] theorem cN_plain (l:List Nat):(cN l).all plainV=true:=by simp[cN,plainV]
theorem zN (n:Nat):cN (zerosN n)=cI (zerosI n):=by simp[cN,cI,zerosN,zerosI]
theorem k97 {d lim:Nat} {h:Heap} {v:Value} {n c:Nat} {l:List Bd} {x:List Int} {b:List Nat}
  (s:SlB3 h v (l.map iB)) (G:Good n l) (lx:x.length=n) (lb:b.length=n) (B:BxR n c x) (hc:c≤100000) (hl:l.length≤1000) (hn:n≤1000) :
  E.call (d+1) lim 105 [v,.slice (some ⟨h.length,0,none⟩) n 1,.slice (some ⟨h.length+1,0,none⟩) n 1] (h.freeze++[some ⟨cI x,true⟩,some ⟨cN b,true⟩]) =
   some (.int .i64 (lowV (relax l x b).low),h.freeze++[some ⟨cI (relax l x b).x,true⟩,some ⟨cN (relax l x b).by_,true⟩]):=by
 have g1:Heap.get (h.freeze++[some ⟨cI x,true⟩,some ⟨cN b,true⟩]) h.length=some ⟨cI x,true⟩:=by rw[hget_base0 (by simp)]; rfl
 have g2:Heap.get (h.freeze++[some ⟨cI x,true⟩,some ⟨cN b,true⟩]) (h.length+1)=some ⟨cN b,true⟩:=by rw[hget_base (by simp)]; rfl
 have pp:∀ X Y,Heap.put (Heap.put (h.freeze++[some ⟨cI x,true⟩,some ⟨cN b,true⟩]) h.length X) (h.length+1) Y=h.freeze++[X,Y]:=fun X Y=>by
  rw[hput_base0 (by simp),hput_base (by simp)]; rfl
 rw[c105 g1 g2 (by omega) (fun X Y=>by rw[pp]; exact (Sl_freeze.2 s).app [X,Y]) G lx lb B hc hl hn,pp]
theorem c66a {d lim:Nat} {h:Heap} {v:Value} {n:Nat} {l:List Bd} {X:List Int} (s:SlB3 h v (l.map iB)) (G:Good n l) (h1:1≤n) (h2:n≤60) (hl:l.length≤210) (he:chkS n (l.map iB)=0) (ht:tryR l n n 0=some X) :
  E.call (d+3) lim 66 [i6 (n:Int),v] h=some (.tuple #[.slice (some ⟨h.length,0,none⟩) n 1,.slice none 0 0,i6 0],h++[some ⟨cI X,true⟩]):=by
 have ml:(l.map iB).length=l.length:=by simp
 have r:=s.rules2
 rw[ml] at r
 have n0:n≠0:=by omega
 have zz:=z0 n
 have m1:8 * (n:Int)≤140737488355328:=by omega
 have m2:n≤maxLen:=by unfold maxLen; omega
 have lz:(cI (zerosI n)).length=n:=by simp[cI,zerosI]
 have lzN:(cN (zerosN n)).length=n:=by simp[cN,zerosN]
 have k36:=fun lim=>c104 (d:=d) (lim:=lim) (n:=(n:Int)) (Sl_freeze.2 s)
 have np:0<n:=by omega
 refine call_pure fn66 rfl (by simp[ef66]) ?_
 rcases Nat.eq_zero_or_pos l.length with hz | hz
 ·have el:l=[]:=List.eq_nil_of_length_eq_zero hz
  subst el
  have et:tryR [] n n 0=some (zerosI n):=by
   obtain⟨m,hm⟩:∃ m,n=m+1:=⟨n-1,by omega⟩
   have:tryR [] n (m+1) 0=some (zerosI n):=by simp[tryR,iterR,relax,relF]
   rw[← hm] at this; exact this
  obtain rfl:zerosI n=X:=Option.some.inj (et.symm.trans ht)
  simp only[List.map_nil] at he k36
  have k:=fun lim=>k97 (d:=d+1) (lim:=lim) (c:=0) s G (x:=zerosI n) (b:=zerosN n) (by simp[zerosI]) (by simp[zerosN]) (fun v _=>by rw[gx_zeros]; omega) (by omega) (by simp) (by omega)
  have er:relax [] (zerosI n) (zerosN n)=⟨zerosI n,zerosN n,none⟩:=rfl
  rw[er] at k
  simp only[lowV,zN] at k
  rcases s.low with rfl | ⟨bv,o',m',t',rfl,hbv⟩
  ·simp[ef66,k36,he,zz,m1,m2,lz,n0,wpC_unroll,wpI_step,E_fuel',St.tidy,k,np]
  ·obtain rfl:m'=0:=by
    have:=s.len
    simpa using this
   simp[ef66,k36,he,zz,m1,m2,lz,n0,wpC_unroll,wpI_step,E_fuel',St.tidy,k,np,hbv]
 obtain⟨bv,o',rfl⟩:∃ bv o',v=.slice (some ⟨bv,o',none⟩) l.length 3:=⟨_,_,by have:=s.addr (by rw[ml]; omega); rw[ml] at this; exact this⟩
 have hbv:=s.lt (by rw[ml]; omega)
 simp only[slB_some,slO_some] at r hbv
 simp[ef66,k36,he,zz,m1,m2,lz,n0]
 refine wpC_loop (fun q st=>∃ (k:Nat) (Xq:List Int) (B:List Nat) (lw:Option Nat) (tv:Nat),q=n-k∧k≤n∧iterR l n k=⟨Xq,B,lw⟩∧tryR l n (n-k) k=some X∧(1≤k→lw=some tv) ∧
  st=⟨[(0,i6 (n:Int)),(1,.slice (some ⟨bv,o',none⟩) l.length 3),(8,.slice (some ⟨h.length,0,none⟩) n 1),(9,.slice (some ⟨h.length+1,0,none⟩) n 1),(10,i6 (tv:Int)),(23,i6 (n:Int)),(24,i6 (k:Int))],
   h.freeze++[some ⟨cI Xq,true⟩,some ⟨cN B,true⟩]⟩) n (by show n<2 ^ 64; omega) ?_ ?_
 ·simp[St.tidy,hbv]
  exact⟨0,by omega,by omega,zerosI n,zerosN n,none,rfl,ht,0,fun z=>absurd z (by omega),⟨rfl,rfl⟩,rfl,(zN n).symm⟩
 ·rintro q hq _ ⟨k,X',B,lw,tv,rfl,hk,hit,htr,hlw,rfl⟩
  have io:=iter_ok G k
  rw[hit] at io
  obtain⟨o1,o2,o3⟩:=io
  simp only at o1 o2 o3
  have wk:=w1n (i:=k) (by omega)
  by_cases hlt:k<n
  ·have hle:(k:Int)<n:=by omega
   have kl:k * l.length≤60 * 210:=Nat.mul_le_mul (by omega) hl
   rw[show n-k=(n-k-1)+1 by omega] at htr
   have nit:iterR l n (k+1)=relax l X' B:=by
    show relax l (iterR l n k).x (iterR l n k).by_=_
    rw[hit]
   have k97':=fun lim=>k97 (d:=d+1) (lim:=lim) s G o1 o2 o3 (by omega) (by omega) (by omega)
   rcases hR:relax l X' B with ⟨X2,B2,lw2⟩
   rw[hR] at nit k97'
   simp only[tryR,nit] at htr
   simp only at k97'
   rcases lw2 with _ | w2
   ·simp only[if_true] at htr
    simp only[lowV] at k97'
    obtain rfl:X2=X:=Option.some.inj htr
    simp[hlt,hle,k97',hbv]
   ·simp only[reduceCtorEq,if_false] at htr
    simp only[lowV] at k97'
    have w20:¬ ((w2:Int)<0):=by omega
    simp[hlt,hle,k97',w20,Int.not_lt.1 w20,wk,St.tidy,hbv]
    exact⟨n-(k+1),by omega,k+1,by omega,by omega,_,_,_,nit,by rw[show n-(k+1)=n-k-1 by omega]; exact htr,w2,fun _=>rfl,⟨rfl,by omega⟩,rfl,rfl⟩
  ·obtain rfl:n=k:=by omega
   rw[Nat.sub_self] at htr
   cases htr
end B
end Go.Abs
namespace Go.Abs
namespace B
set_option maxRecDepth 100000
set_option maxHeartbeats 0
abbrev SlI' (h:Heap) (v:Value) (l:List Int):Prop:=Sl 1 h v l.length (cI l)
theorem SlI'_own {h:Heap} {b n:Nat} {l:List Int} {rw:Bool} (e:h.get b=some ⟨cI l,rw⟩) (hn:n=l.length):SlI' h (.slice (some ⟨b,0,none⟩) n 1) l:=by
 subst hn
 exact⟨by simp,by simp[cI],fun _=>rfl,.inr ⟨b,0,l.length,1,rfl,Heap.get_lt e⟩,fun k hk=>by simp only[slB_some,slO_some,Nat.zero_add]; rw[cell_get e]⟩
theorem c34 {d lim:Nat} {h:Heap} {v w:Value} {l:List Int} (s:SlI' h v l) (t:SlI' h w l) (hl:l.length≤1000):E.call (d+1) lim 34 [v,w] h=some (.bool true,h):=by
 have r:=s.rules2
 have r':=t.rules2
 refine call1 fn34 rfl (by simp[ef34]) ?_
 simp[ef34,r,r']
 refine wpC_loop (fun q st=>∃ i:Nat,q=l.length-i∧i≤l.length∧st=⟨[(0,v),(1,w),(5,i6 (i:Int))],h.freeze⟩) l.length (by show l.length<2 ^ 64; omega) ?_ ?_
 ·simp[St.tidy,r,r']
  exact⟨0,by omega,by omega,rfl⟩
 ·rintro q hq _ ⟨i,rfl,hi,rfl⟩
  by_cases hlt:i<l.length
  ·have w1':=w1n (i:=i) (by omega)
   have h4:(i:Int)<l.length:=by omega
   have cv:∀ hh,(cI l)[i]'hh=.int .i64 l[i]:=fun hh=>by simp[cI]
   simp[hlt,h4,r,r',cv,w1',St.tidy]
   exact⟨l.length-(i+1),by omega,i+1,by omega,by omega,by omega⟩
  ·obtain rfl:i=l.length:=by omega
   simp[r,r']
structure Way (n:Nat) (l:List Bd) (r:List Int) (f:Nat→Nat):Prop where
 p1:1≤r.length
 pn:r.length≤60
 at_:∀ i,i<r.length→r[i]?=some ((f i:Nat):Int)
 lt:∀ i,i<r.length→f i<l.length
end B
end Go.Abs
namespace Go.Abs
namespace B
set_option maxRecDepth 100000
set_option maxHeartbeats 0
end B
end Go.Abs
