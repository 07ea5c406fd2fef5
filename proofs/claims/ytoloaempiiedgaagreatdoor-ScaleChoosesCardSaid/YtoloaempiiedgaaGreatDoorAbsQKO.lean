--
import Derived.Test.YtoloaempiiedgaaGreatDoorAbsQKM
import Derived.Test.YtoloaempiiedgaaGreatDoorAbsQZ1
import Derived.Test.YtoloaempiiedgaaGreatDoorAbsQVM
import Derived.Test.YtoloaempiiedgaaGreatDoorAbsQKN
set_option linter.unusedSimpArgs false
set_option linter.unusedVariables false
namespace Go.Abs
namespace Q
set_option maxRecDepth 100000
set_option maxHeartbeats 0
abbrev qI (l:List Int):Option Blk:=some ⟨cI l,true⟩
theorem erA_parts {t:Int} {wl:List Wi} {l:List Un} {L:Lm} {G:List Int} (h:erA t wl l L G=0):(stE t wl l).2=0∧lmE L=0∧ggE G=0:=by
 unfold erA at h
 by_cases a:(stE t wl l).2≠0
 ·rw[if_pos a] at h; exact absurd h a
 rw[if_neg a] at h
 by_cases b:lmE L≠0
 ·rw[if_pos b] at h; exact absurd h b
 rw[if_neg b] at h
 exact⟨by omega,by omega,h⟩
end Q
end Go.Abs
namespace Go.Abs
namespace Q
set_option maxRecDepth 100000
set_option maxHeartbeats 0
theorem gx_mem {l:List Int} {k:Nat} (h:k<l.length):gx l k∈l:=by
 have:gx l k=l[k]:=by simp[gx,List.getD_eq_getElem?_getD,List.getElem?_eq_getElem h]
 rw[this]; exact List.getElem_mem h
theorem cI_gxe {l:List Int} {k:Nat} (h:k<l.length):∀ hh,(cI l)[k]'hh=i64 (gx l k):=fun hh=>by simp[cI,gx,List.getD_eq_getElem?_getD,List.getElem?_eq_getElem h]
theorem c80 {d lim:Nat} {h:Heap} {v:Value} {l:List Int} {x:Int} (s:SlI' h v l) (hl:l.length≤100000):E.call (d+1) lim 80 [v,i64 x] h=some (.bool (decide (x∈l)),h):=by
 have r:=s.rules2
 have so:=s.own
 refine call1 fn80 rfl (by simp[ef80]) ?_
 simp[ef80]
 refine wpC_loop (fun q st=>∃ k:Nat,q=l.length-k∧k≤l.length∧(∀ j,j<k→gx l j≠x)∧st=⟨[(0,v),(1,i64 x),(5,i64 (k:Int))],h.freeze⟩) l.length (by show l.length<2 ^ 64; omega) ?_ ?_
 ·simp[St.tidy,r,so]
  exact⟨0,by omega,by omega,fun j hj=>by omega,rfl⟩
 ·rintro q hq _ ⟨k,rfl,hk,hn,rfl⟩
  by_cases lt:k<l.length
  ·have lti:(k:Int)<l.length:=by omega
   have w1':=w1 (i:=k) (by omega)
   simp only[W] at w1'
   have c1:=cI_gx lt
   have q0:=cI_gxe lt
   by_cases e:gx l k=x
   ·have m:x∈l:=e ▸ gx_mem lt
    simp[lt,lti,Nat.not_le.2 lt,r,c1,q0,w1',e,m]
   ·simp[lt,lti,Nat.not_le.2 lt,r,c1,q0,w1',e,St.tidy,r,so]
    exact⟨l.length-(k+1),by omega,k+1,rfl,by omega,fun j hj=>by
     by_cases z:j=k
     ·subst z; exact e
     ·exact hn j (by omega),by omega⟩
  ·obtain rfl:k=l.length:=by omega
   have m:x ∉ l:=fun m=>by
    obtain⟨j,hj,rfl⟩:=List.getElem_of_mem m
    exact hn j hj (by simp[gx,hj])
   simp[r,m]
theorem ixR_mem {r:List Bool} {m k:Nat}:((k:Int)∈ixR r m)↔k<m∧bx r k=true:=by
 unfold ixR
 simp only[List.mem_map,List.mem_filter,List.mem_range]
 constructor
 ·rintro ⟨a,⟨h1,h2⟩,h3⟩
  obtain rfl:a=k:=by omega
  exact⟨h1,h2⟩
 ·rintro ⟨h1,h2⟩
  exact⟨k,⟨h1,h2⟩,rfl⟩
noncomputable def tgR (wl:List Wi) (t:Int) (l:List Un) (X:Lm) (G:List Int) (i a b:Nat):Bool:=decide (jmp (ten wl t (cor (atN l i) (gx G a))) (ten wl t (cor (atN l (i+1)) (gx G b)))≤X.jp)
theorem c81 {d lim:Nat} {h:Heap} {v w f:Value} {wl:List Wi} {l:List Un} {t:Int} {X:Lm} {i:Nat} {a b:Int} (s:SlW h v wl) (q:SlN h w l) (g:SlR h f (mapU (frq t) l)) (O:StOk t wl l) (hi:i+1<l.length)
  (Sa:SdOk wl (cor (atN l i) a).sd) (Sb:SdOk wl (cor (atN l (i+1)) b).sd) :
  E.call (d+7) lim 81 [knV t v w f,lmV X,i64 (i:Int),i64 a,i64 b] h=some (.bool (decide (jmp (ten wl t (cor (atN l i) a)) (ten wl t (cor (atN l (i+1)) b))≤X.jp)),h):=by
 have l90:=O.few
 have w1':=w1 (i:=i) (by omega)
 simp only[W] at w1'
 have k1:=fun lim A=>c134 (d:=d+5) (lim:=lim) (v:=v) (f:=f) (t:=t) (g:=a) (Sl_freeze.2 ((Sl_freeze.2 q).app A)) (show i<l.length by omega)
 have k2:=fun lim A=>c134 (d:=d+5) (lim:=lim) (v:=v) (f:=f) (t:=t) (g:=b) (Sl_freeze.2 ((Sl_freeze.2 q).app A)) hi
 have k3:=fun lim A=>c147g (d:=d) (lim:=lim) (w:=w) (Sl_freeze.2 ((Sl_freeze.2 s).app A)) (Sl_freeze.2 ((Sl_freeze.2 g).app A)) O (show i<l.length by omega) Sa
 have k4:=fun lim A=>c147g (d:=d) (lim:=lim) (w:=w) (Sl_freeze.2 ((Sl_freeze.2 s).app A)) (Sl_freeze.2 ((Sl_freeze.2 g).app A)) O hi Sb
 have k5:=fun lim hh p q=>c146 (d:=d+5) (lim:=lim) (h:=hh) (p:=p) (q:=q)
 generalize (cor (atN l i) a).sd=A1 at *
 generalize (cor (atN l (i+1)) b).sd=B1 at *
 generalize ten wl t (cor (atN l i) a)=A2 at *
 generalize ten wl t (cor (atN l (i+1)) b)=B2 at *
 have w2:((i+1:Nat):Int)=(i:Int)+1:=by omega
 rw[w2] at k2 k4 w1'
 refine call1 fn81 rfl (by simp[ef81]) ?_
 simp[ef81,k1,k2,k3,k4,k5,w1']
 done
end Q
end Go.Abs
namespace Go.Abs
namespace Q
set_option maxRecDepth 100000
set_option maxHeartbeats 0
theorem absV_gp {a b:Nat} (ha:a<1000) (hb:b<1000):absV (IntKind.wrap .i64 ((a:Int)-b))=gp a b:=by
 rw[wrap_eq (by omega) (by omega)]
 unfold absV gp
 split
 ·rw[wrap_eq (by omega) (by omega)]; omega
 ·omega
def anyR (l:List Int):Nat→Bool
 | 0=>false
 | g+1=>anyR l g || decide (0≤gx l g)
theorem anyR_iff {l:List Int}:∀ k,anyR l k=true↔∃ g,g<k∧0≤gx l g
 | 0=>⟨fun h=>(by cases h),fun ⟨g,h,_⟩=>(by omega)⟩
 | k+1=>by
  unfold anyR
  rw[Bool.or_eq_true,anyR_iff k,decide_eq_true_eq]
  constructor
  ·rintro (⟨g,h1,h2⟩ | h)
   ·exact⟨g,by omega,h2⟩
   ·exact⟨k,by omega,h⟩
  ·rintro ⟨g,h1,h2⟩
   by_cases e:g=k
   ·subst e; exact .inr h2
   ·exact .inl ⟨g,by omega,h2⟩
def bstF (l:List Int):Nat→Int
 | 0=>-1
 | g+1=>if 0≤gx l g∧(bstF l g<0∨gx l g<bstF l g) then gx l g else bstF l g
def lastC (A:Nat→List Bool) (tg:Nat→Nat→Nat→Bool) (m n:Nat):List Int:=if n=0 then [] else refC A tg m (n-1)
def bstE (A:Nat→List Bool) (tg:Nat→Nat→Nat→Bool) (m n i:Nat):Int × Int :=
 if i<n then (if anyR (refC A tg m i) m=true then bstE A tg m n (i+1) else (0,i)) else (max (bstF (lastC A tg m n) (lastC A tg m n).length) 0,-1)
termination_by n-i
theorem bstE_lt {A:Nat→List Bool} {tg:Nat→Nat→Nat→Bool} {m n i:Nat} (h:i<n):bstE A tg m n i=if anyR (refC A tg m i) m=true then bstE A tg m n (i+1) else (0,(i:Int)):=by rw[bstE,if_pos h]
theorem bstE_ge {A:Nat→List Bool} {tg:Nat→Nat→Nat→Bool} {m n i:Nat} (h:¬ i<n):bstE A tg m n i=(max (bstF (lastC A tg m n) (lastC A tg m n).length) 0,-1):=by rw[bstE,if_neg h]
def CO (base:Nat) (A:Nat→List Bool) (tg:Nat→Nat→Nat→Bool) (m i:Nat) (L:List (Option Blk)) (cv:Value):Prop :=
 (i=0∧cv=.slice none 0 0)∨∃ j c,i=j+1∧cv=.slice (some ⟨base+c,0,none⟩) m 1∧L[c]?=some (some ⟨cI (refC A tg m j),true⟩)
structure I24 (B:Heap) (b0:Nat) (gv av:Value) (A:Nat→List Bool) (tg:Nat→Nat→Nat→Bool) (m n:Nat) (R:Int × Int) (q:Nat) (st:St):Prop where
 ex:∃ (i:Nat) (L:List (Option Blk)) (cv:Value),q=n-i∧i≤n∧CO B.length A tg m i L cv∧bstE A tg m n i=R ∧
  st=⟨[(2,gv),(3,pB b0),(4,pB (b0+1)),(8,av),(9,cv),(10,i64 (i:Int))],B++L⟩
structure I24g (B:Heap) (b0:Nat) (gv av cv:Value) (row:List Int) (L:List (Option Blk)) (i m q:Nat) (st:St):Prop where
 ex:∃ g:Nat,q=m-g∧g≤m ∧
  st=⟨[(2,gv),(3,pB b0),(4,pB (b0+1)),(8,av),(9,cv),(10,i64 (i:Int)),(11,.slice (some ⟨B.length+L.length,0,none⟩) m 1),(12,.bool (anyR row g)),(13,i64 (g:Int))],B++(L++[some ⟨cI (fil 0 row g),true⟩])⟩
structure I24h (B:Heap) (b0:Nat) (gv av cv:Value) (row prev:List Int) (tg:Nat→Nat→Bool) (L:List (Option Blk)) (i m g q:Nat) (st:St):Prop where
 ex:∃ k:Nat,q=m-k∧k≤m ∧
  st=⟨[(2,gv),(3,pB b0),(4,pB (b0+1)),(8,av),(9,cv),(10,i64 (i:Int)),(11,.slice (some ⟨B.length+L.length,0,none⟩) m 1),(12,.bool (anyR row g)),(13,i64 (g:Int)),(14,i64 (k:Int))],B++(L++[some ⟨cI ((fil 0 row g).set g (cstH prev tg g k)),true⟩])⟩
theorem refRow_len {R:List Bool} {prev:List Int} {tg:Nat→Nat→Bool} {m i:Nat}:(refRow R prev tg m i).length=m:=by simp[refRow]
theorem refC_len {A:Nat→List Bool} {tg:Nat→Nat→Nat→Bool} {m:Nat}:∀ i,(refC A tg m i).length=m
 | 0=>by rw[refC,refRow_len]
 | i+1=>by rw[refC,refRow_len]
theorem refC_f {A:Nat→List Bool} {tg:Nat→Nat→Nat→Bool} {m g:Nat} (hg:g<m):∀ i,bx (A i) g=false→gx (refC A tg m i) g=-1
 | 0,h=>by rw[refC,refRow_gx hg,h]; rfl
 | i+1,h=>by rw[refC,refRow_gx hg,h]; rfl
theorem cstH_bd {prev:List Int} {tg:Nat→Nat→Bool} {g m:Nat} {b:Int} (hg:g<m) (hb:∀ h,h<m→gx prev h≤b) (h0:0≤b):∀ k,k≤m→-1≤cstH prev tg g k∧cstH prev tg g k≤b+m:=by
 intro k hk
 rcases cstH_spec (prev:=prev) (tg:=tg) (g:=g) k with ⟨h1,_⟩ | ⟨h,h1,h2,_,h4,_⟩
 ·omega
 ·have:=hb h (by omega)
  have:=gp_bd hg (show h<m by omega)
  omega
theorem refC_bd {A:Nat→List Bool} {tg:Nat→Nat→Nat→Bool} {m:Nat} (hm:m≤1000):∀ i g,g<m→-1≤gx (refC A tg m i) g∧gx (refC A tg m i) g≤1000 * (i:Int)
 | 0,g,h=>by rw[refC,refRow_gx h]; split <;> simp
 | i+1,g,h=>by
  rw[refC,refRow_gx h]
  split
  ·rw[if_neg (by omega)]
   have:=cstH_bd (prev:=refC A tg m i) (tg:=tg i) h (fun g hg=>(refC_bd hm i g hg).2) (by omega) m (Nat.le_refl _)
   omega
  ·omega
theorem gxL_set_eq {l:List Int} {k:Nat} {x:Int} (h:k<l.length):gx (l.set k x) k=x:=by simp[gx,h]
end Q
end Go.Abs
