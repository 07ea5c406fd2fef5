--
import Derived.Test.YtllhkifkiabkbaaGreatDoorAbsBSM
import Derived.Test.YtllhkifkiabkbaaGreatDoorAbsBSN
import Derived.Test.YtllhkifkiabkbaaGreatDoorAbsBXM
set_option linter.unusedSimpArgs false
set_option linter.unusedVariables false
namespace Go.Abs
namespace B
set_option maxRecDepth 100000
set_option maxHeartbeats 0
def stepL (dl dh:Int) (o:List Int) (i:Nat):List Int:=(o.set i (min (gx o i) (gx o (i-1)-dl))).set (i-1) (min (gx o (i-1)) (min (gx o i) (gx o (i-1)-dl)+dh))
def passL (dl dh:Int) (o:List Int):Nat→List Int
 | 0=>o
 | k+1=>stepL dl dh (passL dl dh o k) (k+1)
def rndL (dl dh:Int) (o:List Int):Nat→List Int
 | 0=>o
 | r+1=>passL dl dh (rndL dl dh o r) (o.length-1)
theorem stepL_len (dl dh:Int) (o:List Int) (i:Nat):(stepL dl dh o i).length=o.length:=by simp[stepL]
def term (dl dh:Int) (H:Nat→Int) (i j:Nat):Int:=if j≤i then H j-((i:Int)-j) * dl else H j+((j:Int)-i) * dh
section
variable {dl dh:Int} {H:Nat→Int}
theorem term_self (i:Nat):term dl dh H i i=H i:=by simp[term]
theorem term_up {i j:Nat} (h:j≤i):term dl dh H (i+1) j=term dl dh H i j-dl:=by
 unfold term
 rw[if_pos (by omega),if_pos h]
 have:(((i+1:Nat):Int)-j) * dl=((i:Int)-j) * dl+dl:=by
  rw[show ((i+1:Nat):Int)-(j:Int)=((i:Int)-j)+1 by omega,Int.add_mul,Int.one_mul]
 omega
theorem term_dn {i j:Nat} (h:i<j):term dl dh H i j=term dl dh H (i+1) j+dh:=by
 unfold term
 rw[if_neg (by omega)]
 by_cases q:j≤i+1
 ·obtain rfl:j=i+1:=by omega
  rw[if_pos (by omega)]
  have e1:(((i+1:Nat):Int)-(i:Int))=1:=by omega
  have e2:(((i+1:Nat):Int)-((i+1:Nat):Int))=0:=by omega
  rw[e1,e2,Int.one_mul,Int.zero_mul]; omega
 ·rw[if_neg q]
  have:((j:Int)-i) * dh=((j:Int)-((i+1:Nat):Int)) * dh+dh:=by
   rw[show (j:Int)-(i:Int)=((j:Int)-((i+1:Nat):Int))+1 by omega,Int.add_mul,Int.one_mul]
  omega
theorem term_up_le (hd:dl≤dh) (i j:Nat):term dl dh H (i+1) j≤term dl dh H i j-dl:=by
 by_cases q:j≤i
 ·rw[term_up q]; omega
 ·have:=term_dn (dl:=dl) (dh:=dh) (H:=H) (show i<j by omega)
  omega
theorem term_dn_le (hd:dl≤dh) (i j:Nat):term dl dh H i j≤term dl dh H (i+1) j+dh:=by
 by_cases q:j≤i
 ·have:=term_up (dl:=dl) (dh:=dh) (H:=H) q
  omega
 ·have:=term_dn (dl:=dl) (dh:=dh) (H:=H) (show i<j by omega)
  omega
theorem gx_step {o:List Int} {m:Nat} (h0:1≤m) (hm:m<o.length) (i:Nat):gx (stepL dl dh o m) i =
  if i=m then min (gx o m) (gx o (m-1)-dl) else if i=m-1 then min (gx o (m-1)) (min (gx o m) (gx o (m-1)-dl)+dh) else gx o i:=by
 unfold stepL
 rw[gx_set (by simp; omega),gx_set hm]
 by_cases q:i=m
 ·rw[if_neg (by omega),if_pos q.symm,if_pos q]
 ·rw[if_neg q]
  by_cases q2:i=m-1
  ·rw[if_pos q2.symm,if_pos q2]
  ·rw[if_neg (fun e=>q2 e.symm),if_neg q2,if_neg (fun e=>q e.symm)]
structure LI (dl dh:Int) (H:Nat→Int) (n r k:Nat) (o:List Int):Prop where
 len:o.length=n
 at_:∀ i,i<n→∃ j,j<n∧term dl dh H i j≤gx o i
 own:∀ i,i<n→gx o i≤H i
 low:∀ i j,i<n→j<i→1≤r∨i≤k→gx o i≤term dl dh H i j
 hig:∀ i j,j<n→i<j→j≤i+r+(if i<k then 1 else 0)→gx o i≤term dl dh H i j
theorem LI.step {n r k:Nat} {o:List Int} (hd:dl≤dh) (L:LI dl dh H n r k o) (hk:k+1<n):LI dl dh H n r (k+1) (stepL dl dh o (k+1)):=by
 have g:=fun i=>gx_step (dl:=dl) (dh:=dh) (o:=o) (m:=k+1) (by omega) (by rw[L.len]; exact hk) i
 simp only[Nat.add_sub_cancel] at g
 have mono:∀ i,gx (stepL dl dh o (k+1)) i≤gx o i:=fun i=>by
  rw[g i]; split
  ·rename_i e; subst e; omega
  ·split
   ·rename_i e; subst e; omega
   ·omega
 refine⟨by rw[stepL_len]; exact L.len,fun i hi=>?_,fun i hi=>Int.le_trans (mono i) (L.own i hi),fun i j hi hj hq=>?_,fun i j hj hij hq=>?_⟩
 ·obtain⟨j0,hj0,t0⟩:=L.at_ k (by omega)
  obtain⟨j1,hj1,t1⟩:=L.at_ (k+1) (by omega)
  have a0:=term_up_le (H:=H) hd k j0
  have a1:=term_dn_le (H:=H) hd k j1
  have a2:=term_dn_le (H:=H) hd k j0
  rw[g i]
  split
  ·rename_i e; subst e
   rcases Int.lt_or_le (gx o k-dl) (gx o (k+1)) with z | z
   ·exact⟨j0,hj0,by omega⟩
   ·exact⟨j1,hj1,by omega⟩
  ·split
   ·rename_i e; subst e
    rcases Int.lt_or_le (min (gx o (i+1)) (gx o i-dl)+dh) (gx o i) with z | z
    ·rcases Int.lt_or_le (gx o i-dl) (gx o (i+1)) with z2 | z2
     ·exact⟨j0,hj0,by omega⟩
     ·exact⟨j1,hj1,by omega⟩
    ·exact⟨j0,hj0,by omega⟩
   ·exact L.at_ i hi
 ·by_cases e:i=k+1
  ·subst e
   have a:=term_up (dl:=dl) (dh:=dh) (H:=H) (show j≤k by omega)
   have b:gx o k≤term dl dh H k j:=by
    rcases Nat.lt_or_ge j k with z | z
    ·exact L.low k j (by omega) z (.inr (Nat.le_refl _))
    ·obtain rfl:j=k:=by omega
     rw[term_self]; exact L.own j (by omega)
   rw[g,if_pos rfl]; omega
  ·exact Int.le_trans (mono i) (L.low i j hi hj (by omega))
 ·by_cases e:j≤i+r+(if i<k then 1 else 0)
  ·exact Int.le_trans (mono i) (L.hig i j hj hij e)
  ·have ek:i=k:=by
    by_cases q:i<k
    ·rw[if_pos q] at e; split at hq <;> omega
    ·rw[if_neg q] at e
     split at hq <;> omega
   subst ek
   have a:=term_dn (dl:=dl) (dh:=dh) (H:=H) hij
   have b:gx o (i+1)≤term dl dh H (i+1) j:=by
    rcases Nat.lt_or_ge (i+1) j with z | z
    ·refine L.hig (i+1) j hj z ?_
     rw[if_pos (by omega)] at hq
     omega
    ·obtain rfl:j=i+1:=by omega
     rw[term_self]; exact L.own _ (by omega)
   rw[g,if_neg (by omega),if_pos rfl]; omega
theorem LI.pass {n r:Nat} {o:List Int} (hd:dl≤dh) (L:LI dl dh H n r 0 o):∀ k,k+1≤n→LI dl dh H n r k (passL dl dh o k)
 | 0,_=>L
 | k+1,hk=>(LI.pass hd L k (by omega)).step hd (by omega)
theorem LI.next {n r:Nat} {o:List Int} (L:LI dl dh H n r (n-1) o):LI dl dh H n (r+1) 0 o :=
 ⟨L.len,L.at_,L.own,fun i j hi hj _=>L.low i j hi hj (.inr (by omega)),fun i j hj hij hq=>L.hig i j hj hij (by rw[if_pos (by omega)]; simp at hq; omega)⟩
theorem LI.start {o:List Int} (h:∀ i,i<o.length→gx o i=H i):LI dl dh H o.length 0 0 o :=
 ⟨rfl,fun i hi=>⟨i,hi,by rw[term_self,h i hi]; exact Int.le_refl _⟩,fun i hi=>by rw[h i hi]; exact Int.le_refl _,fun i j hi hj hq=>absurd hq (by omega),fun i j hj hij hq=>by simp at hq; omega⟩
theorem LI.rounds {o:List Int} (hd:dl≤dh) (h:∀ i,i<o.length→gx o i=H i):∀ r,LI dl dh H o.length r 0 (rndL dl dh o r)
 | 0=>LI.start h
 | r+1=>by
  have L:=LI.rounds hd h r
  rcases Nat.eq_zero_or_pos o.length with z | z
  ·have e:rndL dl dh o (r+1)=rndL dl dh o r:=by rw[rndL,z]; rfl
   rw[e]
   exact⟨L.len,L.at_,L.own,fun i j hi=>absurd hi (by omega),fun i j hj=>absurd hj (by omega)⟩
  ·exact (L.pass hd _ (by omega)).next
structure LSm (dl dh:Int) (H:Nat→Int) (n:Nat) (o:List Int):Prop where
 len:o.length=n
 own:∀ i,i<n→gx o i≤H i
 dn:∀ i,i+1<n→gx o (i+1)≤gx o i-dl
 up:∀ i,i+1<n→gx o i≤gx o (i+1)+dh
 tight:∀ i,i<n→gx o i=H i∨(0<i∧gx o i=gx o (i-1)-dl)∨(i+1<n∧gx o i=gx o (i+1)+dh)
 great:∀ y:Nat→Int,(∀ i,i<n→y i≤H i)→(∀ i,i+1<n→y (i+1)≤y i-dl)→(∀ i,i+1<n→y i≤y (i+1)+dh)→∀ i,i<n→y i≤gx o i
theorem LSm.of {n:Nat} {o:List Int} (hd:dl≤dh) (L:LI dl dh H n n 0 o):LSm dl dh H n o:=by
 have ub:∀ i j,i<n→j<n→gx o i≤term dl dh H i j:=fun i j hi hj=>by
  rcases Nat.lt_trichotomy i j with z | z | z
  ·exact L.hig i j hj z (by simp; omega)
  ·subst z; rw[term_self]; exact L.own i hi
  ·exact L.low i j hi z (.inl (by omega))
 have d1:∀ i,i+1<n→gx o (i+1)≤gx o i-dl:=fun i hi=>by
  obtain⟨j,hj,t⟩:=L.at_ i (by omega)
  have a:=ub (i+1) j hi hj
  have b:=term_up_le (H:=H) hd i j
  omega
 have u1:∀ i,i+1<n→gx o i≤gx o (i+1)+dh:=fun i hi=>by
  obtain⟨j,hj,t⟩:=L.at_ (i+1) hi
  have a:=ub i j (by omega) hj
  have b:=term_dn_le (H:=H) hd i j
  omega
 refine⟨L.len,L.own,d1,u1,fun i hi=>?_,fun y y0 y1 y2 i hi=>?_⟩
 ·obtain⟨j,hj,t⟩:=L.at_ i hi
  rcases Nat.lt_trichotomy i j with z | z | z
  ·refine .inr (.inr ⟨by omega,?_⟩)
   have a:=term_dn (dl:=dl) (dh:=dh) (H:=H) z
   have b:=ub (i+1) j (by omega) hj
   have c:=u1 i (by omega)
   omega
  ·subst z; rw[term_self] at t; have:=L.own i hi; exact .inl (by omega)
  ·refine .inr (.inl ⟨by omega,?_⟩)
   obtain⟨k,rfl⟩:∃ k,i=k+1:=⟨i-1,by omega⟩
   have a:=term_up (dl:=dl) (dh:=dh) (H:=H) (show j≤k by omega)
   have b:=ub k j (by omega) hj
   have c:=d1 k (by omega)
   simp only[Nat.add_sub_cancel]
   omega
 ·obtain⟨j,hj,t⟩:=L.at_ i hi
  have key1:∀ m,i+m<n→y i≤y (i+m)+(m:Int) * dh:=fun m=>by
   induction m with
   | zero=>intro _; simp
   | succ m ih =>
    intro q
    have a:=ih (by omega)
    have b:=y2 (i+m) (by omega)
    have e:((m+1:Nat):Int) * dh=(m:Int) * dh+dh:=by rw[show ((m+1:Nat):Int)=(m:Int)+1 by omega,Int.add_mul,Int.one_mul]
    rw[show i+(m+1)=i+m+1 by omega]
    omega
  have key2:∀ m,m≤i→y i≤y (i-m)-(m:Int) * dl:=fun m=>by
   induction m with
   | zero=>intro _; simp
   | succ m ih =>
    intro q
    have a:=ih (by omega)
    have b:=y1 (i-(m+1)) (by omega)
    have e:((m+1:Nat):Int) * dl=(m:Int) * dl+dl:=by rw[show ((m+1:Nat):Int)=(m:Int)+1 by omega,Int.add_mul,Int.one_mul]
    rw[show i-(m+1)+1=i-m by omega] at b
    omega
  by_cases q:j≤i
  ·have a:=key2 (i-j) (by omega)
   rw[show i-(i-j)=j by omega,show ((i-j:Nat):Int)=(i:Int)-j by omega] at a
   unfold term at t
   rw[if_pos q] at t
   have:=y0 j hj
   omega
  ·have a:=key1 (j-i) (by omega)
   rw[show i+(j-i)=j by omega,show ((j-i:Nat):Int)=(j:Int)-i by omega] at a
   unfold term at t
   rw[if_neg q] at t
   have:=y0 j hj
   omega
theorem LSm.still {n:Nat} {o:List Int} (S:LSm dl dh H n o):∀ k,k+1≤n→passL dl dh o k=o
 | 0,_=>rfl
 | k+1,hk=>by
  rw[passL,S.still k (by omega)]
  have a:=S.dn k (by omega)
  have b:=S.up k (by omega)
  unfold stepL
  simp only[Nat.add_sub_cancel]
  have e1:min (gx o (k+1)) (gx o k-dl)=gx o (k+1):=by omega
  have e2:min (gx o k) (gx o (k+1)+dh)=gx o k:=by omega
  rw[e1,e2]
  have s1:∀ j,j<o.length→o.set j (gx o j)=o:=fun j hj=>by
   have:gx o j=o[j]:=by simp[gx,List.getD_eq_getElem?_getD,List.getElem?_eq_getElem hj]
   rw[this]; exact List.set_getElem_self hj
  rw[s1 (k+1) (by rw[S.len]; omega),s1 k (by rw[S.len]; omega)]
theorem LI.bd {n r k:Nat} {o:List Int} (L:LI dl dh H n r k o) (h1:-300000≤dl∧dl≤300000) (h2:-300000≤dh∧dh≤300000) (hH:∀ i,i<n→0≤H i∧H i≤300000) (hn:n≤100) {i:Nat} (hi:i<n):-30000000≤gx o i∧gx o i≤300000:=by
 obtain⟨j,hj,t⟩:=L.at_ i hi
 have a:=L.own i hi
 have b:=hH i hi
 have c:=hH j hj
 have m:∀ (e x:Int),0≤e→e≤100→-300000≤x→x≤300000→-30000000≤e * x∧e * x≤30000000:=fun e x e0 e1 x0 x1=>by
  have p:=Int.mul_le_mul_of_nonneg_left x1 e0
  have q:=Int.mul_le_mul_of_nonneg_left x0 e0
  omega
 refine⟨?_,by omega⟩
 unfold term at t
 split at t
 ·have:=m ((i:Int)-j) dl (by omega) (by omega) h1.1 h1.2; omega
 ·have:=m ((j:Int)-i) dh (by omega) (by omega) h2.1 h2.2; omega
end
end B
end Go.Abs
namespace Go.Abs
namespace B
set_option maxRecDepth 100000
set_option maxHeartbeats 0
abbrev XR:=Int × Int
def atR (l:List XR) (i:Nat):XR:=l[i]?.getD (0,0)
theorem atR_get {l:List XR} {i:Nat} (h:i<l.length):l[i]=atR l i:=by unfold atR; rw[List.getElem?_eq_getElem h]; rfl
def rErr (r:XR):Int:=if r.1<1000∨r.2<r.1∨300000<r.2 then 2 else 0
def chkRL (l:List XR) (i:Nat):Int:=if i<l.length then (if rErr (atR l i)=0 then chkRL l (i+1) else rErr (atR l i)) else 0
termination_by l.length-i
theorem chkRL_lt {l:List XR} {i:Nat} (h:i<l.length):chkRL l i=if rErr (atR l i)=0 then chkRL l (i+1) else rErr (atR l i):=by rw[chkRL,if_pos h]
theorem chkRL_ge {l:List XR} {i:Nat} (h:¬ i<l.length):chkRL l i=0:=by rw[chkRL,if_neg h]
theorem chkRL_all {l:List XR}:∀ (k i:Nat),l.length-i=k→chkRL l i=0→∀ j,i≤j→j<l.length→rErr (atR l j)=0
 | 0,i,hk,_,j,h1,h2=>by omega
 | k+1,i,hk,h,j,h1,h2=>by
  rw[chkRL_lt (by omega)] at h
  split at h
  ·rename_i e
   rcases Nat.eq_or_lt_of_le h1 with rfl | h3
   ·exact e
   ·exact chkRL_all k (i+1) (by omega) h j h3 h2
  ·rename_i e; exact absurd h e
def lenE (l:List XR) (dl dh:Int):Int:=if 50<l.length then 8 else if chkRL l 0=0 then (if dl < -300000∨dh<dl∨300000<dh then 2 else 0) else chkRL l 0
structure LenOk (l:List XR) (dl dh:Int):Prop where
 few:l.length≤50
 rng:∀ i,i<l.length→1000≤(atR l i).1∧(atR l i).1≤(atR l i).2∧(atR l i).2≤300000
 d:-300000≤dl∧dl≤dh∧dh≤300000
theorem LenOk.of {l:List XR} {dl dh:Int} (h:lenE l dl dh=0):LenOk l dl dh:=by
 unfold lenE at h
 split at h
 ·cases h
 ·split at h
  ·rename_i q1 q2
   split at h
   ·cases h
   ·refine⟨by omega,fun i hi=>?_,by omega⟩
    have:=chkRL_all _ 0 rfl q2 i (by omega) hi
    unfold rErr at this
    split at this
    ·cases this
    ·omega
  ·rename_i q; exact absurd h q
def sysA (l:List XR):Nat→List Bd
 | 0=>[]
 | k+1=>sysA l k++[(l.length,k,(atR l k).2),(k,l.length,-(atR l k).1)]
def sysB (dl dh:Int):Nat→List Bd
 | 0=>[]
 | k+1=>sysB dl dh k++[(k,k+1,-dl),(k+1,k,dh)]
def sysL (l:List XR) (dl dh:Int):List Bd:=sysA l l.length++sysB dl dh (l.length-1)
theorem sysA_len (l:List XR):∀ k,(sysA l k).length=2 * k
 | 0=>rfl
 | k+1=>by simp[sysA,sysA_len l k]; omega
theorem sysB_len (dl dh:Int):∀ k,(sysB dl dh k).length=2 * k
 | 0=>rfl
 | k+1=>by simp[sysB,sysB_len dl dh k]; omega
theorem mem_sysA {l:List XR} {b:Bd}:∀ {k},b∈sysA l k↔∃ i,i<k∧(b=(l.length,i,(atR l i).2)∨b=(i,l.length,-(atR l i).1))
 | 0=>by simp[sysA]
 | k+1=>by
  rw[sysA,List.mem_append,mem_sysA]
  constructor
  ·rintro (⟨i,hi,q⟩ | q)
   ·exact⟨i,by omega,q⟩
   ·exact⟨k,by omega,by simpa using q⟩
  ·rintro ⟨i,hi,q⟩
   rcases Nat.lt_or_ge i k with z | z
   ·exact .inl ⟨i,z,q⟩
   ·obtain rfl:i=k:=by omega
    exact .inr (by simpa using q)
theorem mem_sysB {dl dh:Int} {b:Bd}:∀ {k},b∈sysB dl dh k↔∃ i,i<k∧(b=(i,i+1,-dl)∨b=(i+1,i,dh))
 | 0=>by simp[sysB]
 | k+1=>by
  rw[sysB,List.mem_append,mem_sysB]
  constructor
  ·rintro (⟨i,hi,q⟩ | q)
   ·exact⟨i,by omega,q⟩
   ·exact⟨k,by omega,by simpa using q⟩
  ·rintro ⟨i,hi,q⟩
   rcases Nat.lt_or_ge i k with z | z
   ·exact .inl ⟨i,z,q⟩
   ·obtain rfl:i=k:=by omega
    exact .inr (by simpa using q)
theorem good_sys {l:List XR} {dl dh:Int} (O:LenOk l dl dh):Good (l.length+1) (sysL l dl dh):=by
 refine⟨fun i hi=>?_⟩
 have h:=List.getElem_mem hi
 generalize (sysL l dl dh)[i]=b at h
 have d:=O.d
 rcases List.mem_append.1 h with q | q
 ·obtain⟨i,hi,rfl | rfl⟩:=mem_sysA.1 q
  ·have:=O.rng i hi; simp only; omega
  ·have:=O.rng i hi; simp only; omega
 ·obtain⟨i,hi,rfl | rfl⟩:=mem_sysB.1 q
  ·simp only; omega
  ·simp only; omega
def hiL (l:List XR):List Int:=l.map (·.2)
theorem hiL_get {l:List XR} {i:Nat} (h:i<l.length):gx (hiL l) i=(atR l i).2:=by
 simp[gx,hiL,atR,List.getD_eq_getElem?_getD,List.getElem?_eq_getElem h]
def smo (l:List XR) (dl dh:Int):List Int:=rndL dl dh (hiL l) l.length
end B
end Go.Abs
namespace Go.Abs
namespace B
set_option maxRecDepth 100000
set_option maxHeartbeats 0
def encR (r:XR):List Value:=[i64 r.1,i64 r.2]
theorem cR_part {l:List XR} {i:Nat} (h:i<l.length):((cS encR l).drop (i * 2)).take 2=[i64 (atR l i).1,i64 (atR l i).2]:=by
 rw[cS_part (f:=encR) (es:=2) (fun _=>rfl) l i h,atR_get h]; rfl
abbrev SlR (h:Heap) (v:Value) (l:List XR):Prop:=Sl 2 h v l.length (cS encR l)
theorem cBi_plain (l:List Bd):(cB (l.map iB)).all plainV=true:=by simp[cB,cS,List.all_flatMap,encB,plainV]
theorem cBi_len (l:List Bd):(cB (l.map iB)).length=l.length * 3:=by rw[cB_len]; simp
theorem sysA_cells (l:List XR) (i:Nat):cB ((sysA l i).map iB)++[i64 (l.length:Int),i64 (i:Int),i64 (atR l i).2,i64 (i:Int),i64 (l.length:Int),i64 (-(atR l i).1)]=cB ((sysA l (i+1)).map iB):=by
 simp[sysA,cB,cS,encB,iB]
theorem sysB_cells (L:List Bd) (dl dh:Int) (j:Nat):cB ((L++sysB dl dh j).map iB)++[i64 (j:Int),i64 ((j:Int)+1),i64 (-dl),i64 ((j:Int)+1),i64 (j:Int),i64 dh]=cB ((L++sysB dl dh (j+1)).map iB):=by
 simp[sysB,cB,cS,encB,iB]
def sysV (n b:Nat):Value:=if n=0 then .slice none 0 0 else .slice (some ⟨b,0,none⟩) (2 * n+2 * (n-1)) 3
def sysK (l:List XR) (dl dh:Int):List (Option Blk):=if l.length=0 then [] else [some ⟨cB ((sysL l dl dh).map iB),true⟩]
theorem c65 {d lim:Nat} {h:Heap} {v:Value} {l:List XR} {dl dh:Int} (s:SlR h v l):E.call (d+1) lim 65 [v,rgV dl dh] h =
  some (.tuple #[if lenE l dl dh=0 then sysV l.length h.length else .slice none 0 0,i64 (lenE l dl dh)],h++if lenE l dl dh=0 then sysK l dl dh else []):=by
 have r:=s.rules2
 refine call_pure fn65 rfl (by simp[ef65]) ?_
 by_cases h50:50<l.length
 ·have i50:(50:Int)<l.length:=by omega
  have e:lenE l dl dh=8:=by simp[lenE,h50]
  rw[e]
  simp[ef65,r,h50,i50,Int.not_le.2 i50,Nat.not_le.2 h50]
 have i50:¬ (50:Int)<l.length:=by omega
 rcases Nat.eq_zero_or_pos l.length with hz | hz
 ·have el:l=[]:=List.eq_nil_of_length_eq_zero hz
  subst el
  have e:lenE [] dl dh=if dl < -300000∨dh<dl∨300000<dh then 2 else 0:=by simp[lenE,chkRL]
  rw[e]
  rcases s.low with rfl | ⟨bv,o',m',t',rfl,hbv⟩
  ·by_cases q1:dl < -300000
   ·simp[ef65,wpC_unroll,wpI_step,E_fuel',St.tidy,q1]
   ·by_cases q2:dh<dl
    ·simp[ef65,wpC_unroll,wpI_step,E_fuel',St.tidy,q1,q2]
    ·by_cases q3:300000<dh
     ·simp[ef65,wpC_unroll,wpI_step,E_fuel',St.tidy,q1,q2,q3]
     ·simp[ef65,wpC_unroll,wpI_step,E_fuel',St.tidy,q1,q2,q3,sysV,sysK]
  ·obtain rfl:m'=0:=by
    have:=s.len
    simpa using this
   by_cases q1:dl < -300000
   ·simp[ef65,wpC_unroll,wpI_step,E_fuel',St.tidy,q1,hbv]
   ·by_cases q2:dh<dl
    ·simp[ef65,wpC_unroll,wpI_step,E_fuel',St.tidy,q1,q2,hbv]
    ·by_cases q3:300000<dh
     ·simp[ef65,wpC_unroll,wpI_step,E_fuel',St.tidy,q1,q2,q3,hbv]
     ·simp[ef65,wpC_unroll,wpI_step,E_fuel',St.tidy,q1,q2,q3,hbv,sysV,sysK]
 obtain⟨bv,o',rfl⟩:∃ bv o',v=.slice (some ⟨bv,o',none⟩) l.length 2:=⟨_,_,s.addr (by omega)⟩
 have hbv:=s.lt (by omega)
 simp only[slB_some,slO_some] at r hbv
 have n0:l.length≠0:=by omega
 have e0:lenE l dl dh=if chkRL l 0=0 then (if dl < -300000∨dh<dl∨300000<dh then 2 else 0) else chkRL l 0:=by simp[lenE,h50]
 generalize hE:lenE l dl dh=E0 at *
 simp[ef65,r,h50,i50,Int.not_lt.1 i50,Nat.not_lt.1 h50]
 refine wpC_loop (fun q st=>∃ i,q=l.length-i∧i≤l.length∧chkRL l i=chkRL l 0∧st=⟨[(0,.slice (some ⟨bv,o',none⟩) l.length 2),(3,.pointer (some ⟨h.length,0,none⟩)),(16,.slice (some ⟨bv,o',none⟩) l.length 2),(17,i64 (l.length:Int)),(18,i64 (i:Nat))],h.freeze++[some ⟨[i64 dl,i64 dh],true⟩]⟩) l.length (by show l.length<2 ^ 64; omega) ?_ ?_
 ·simp[St.tidy,hbv]
  exact⟨0,by omega,by omega,rfl,rfl⟩
 ·rintro q hq _ ⟨i,rfl,hi,hc,rfl⟩
  by_cases hlt:i<l.length
  ·have w1':=w1 (i:=i) (by omega)
   simp only[W] at w1'
   have p:=cR_part hlt
   have k2:i * 2+2≤l.length * 2:=by omega
   have hlti:(i:Int)<l.length:=by omega
   rw[chkRL_lt hlt] at hc
   generalize atR l i=A at *
   obtain⟨lo,hi'⟩:=A
   simp only at p
   by_cases q1:lo<1000
   ·have re:rErr (lo,hi')=2:=by simp[rErr,q1]
    rw[re] at hc
    rw[← hc] at e0
    simp at e0 hc
    simp[hlt,hlti,r,k2,p,q1,e0]
   ·by_cases q2:hi'<lo
    ·have re:rErr (lo,hi')=2:=by simp[rErr,q2]
     rw[re] at hc
     rw[← hc] at e0
     simp at e0 hc
     simp[hlt,hlti,r,k2,p,q1,q2,e0]
    ·by_cases q3:300000<hi'
     ·have re:rErr (lo,hi')=2:=by simp[rErr,q3]
      rw[re] at hc
      rw[← hc] at e0
      simp at e0 hc
      simp[hlt,hlti,r,k2,p,q1,q2,q3,e0]
     ·have re:rErr (lo,hi')=0:=by simp[rErr]; omega
      rw[re] at hc
      simp at hc
      simp[hlt,hlti,r,k2,p,q1,q2,q3,w1',St.tidy,hbv]
      exact⟨l.length-(i+1),by omega,i+1,by omega,by omega,hc,by omega⟩
  ·obtain rfl:i=l.length:=by omega
   rw[chkRL_ge (by omega)] at hc
   rw[← hc] at e0
   simp only[if_true] at e0
   by_cases q1:dl < -300000
   ·rw[if_pos (.inl q1)] at e0
    simp[r,q1,e0]
   by_cases q2:dh<dl
   ·rw[if_pos (.inr (.inl q2))] at e0
    simp[r,q1,q2,e0]
   by_cases q3:300000<dh
   ·rw[if_pos (.inr (.inr q3))] at e0
    simp[r,q1,q2,q3,e0]
   rw[if_neg (by omega)] at e0
   subst e0
   have O:=LenOk.of hE
   simp[r,q1,q2,q3]
   refine wpC_loop (fun q st=>∃ i,q=l.length-i∧i≤l.length∧st=⟨[(3,.pointer (some ⟨h.length,0,none⟩)),(8,i64 (l.length:Int)),(9,if i=0 then .slice none 0 0 else .slice (some ⟨h.length+1,0,none⟩) (2 * i) 3),(55,.slice (some ⟨bv,o',none⟩) l.length 2),(56,i64 (l.length:Int)),(57,i64 (i:Nat))],
    h.freeze++(some ⟨[i64 dl,i64 dh],true⟩::if i=0 then [] else [some ⟨cB ((sysA l i).map iB),true⟩])⟩) l.length (by show l.length<2 ^ 64; omega) ?_ ?_
   ·simp[St.tidy,hbv]
    exact⟨0,by omega,by omega,⟨rfl,rfl⟩,rfl⟩
   ·rintro q hq _ ⟨i,rfl,hi,rfl⟩
    by_cases hlt:i<l.length
    ·have w1':=w1 (i:=i) (by omega)
     simp only[W] at w1'
     have p:=cR_part hlt
     have k2:i * 2+2≤l.length * 2:=by omega
     have hlti:(i:Int)<l.length:=by omega
     have rg:=O.rng i hlt
     have wn:IntKind.wrap .i64 (-(atR l i).1)=-(atR l i).1:=wrap_eq (by omega) (by omega)
     have sn:=sysA_cells l i
     have pl:=cBi_plain (sysA l (i+1))
     have len:(cB ((sysA l i).map iB)).length=2 * i * 3:=by rw[cBi_len,sysA_len]
     rcases Nat.eq_zero_or_pos i with z | z
     ·subst z
      rw[show cB ((sysA l 0).map iB)=[] from rfl,List.nil_append] at sn
      rw[← sn] at pl
      generalize hA:atR l 0=A at *
      have pp:=s.part (k:=0) (m:=2) (by omega) (by omega)
      simp only[slB_some,slO_some,Nat.add_zero,List.drop_zero] at pp
      simp only[Nat.zero_mul,List.drop_zero] at p
      rw[p] at pp
      simp at pl
      have l0:0<l.length:=by omega
      simp[l0,n0,hlt,hlti,r,k2,pp,wn,E.append,E.added,Value.oneCell',maxLen,zeros,St.tidy,hbv,pl]
      exact⟨l.length-1,by omega,1,by omega,by omega,⟨by rw[if_neg (by omega)],by omega⟩,by rw[if_neg (by omega)]; exact congrArg (fun c=>[some (Blk.mk c true)]) sn⟩
     ·have zi:i≠0:=by omega
      rw[← sn] at pl
      generalize hA:atR l i=A at *
      simp[hlt,hlti,r,k2,p,wn,zi,len,E.append,E.added,Value.oneCell',maxLen,zeros,St.tidy,hbv,pl,Nat.add_assoc,w1']
      exact⟨⟨by omega,by omega⟩,l.length-(i+1),by omega,i+1,by omega,by omega,⟨by rw[if_neg (by omega),show 2 * (i+1)=2 * i+2 by omega],by omega⟩,by rw[if_neg (by omega)]; exact congrArg (fun c=>[some (Blk.mk c true)]) sn⟩
    ·obtain rfl:i=l.length:=by omega
     simp[n0]
     generalize hL:sysA l l.length=L at *
     have lL:L.length=2 * l.length:=by rw[← hL,sysA_len]
     refine wpC_loop (fun q st=>∃ j:Nat,q=l.length-j∧j+1≤l.length∧st=⟨[(3,.pointer (some ⟨h.length,0,none⟩)),(8,i64 (l.length:Int)),(9,.slice (some ⟨h.length+1,0,none⟩) (2 * l.length+2 * j) 3),(12,i64 ((j:Int)+1))],
      h.freeze++[some ⟨[i64 dl,i64 dh],true⟩,some ⟨cB ((L++sysB dl dh j).map iB),true⟩]⟩) l.length (by show l.length<2 ^ 64; omega) ?_ ?_
     ·have pl:=cBi_plain L
      simp[St.tidy,pl]
      exact⟨0,by omega,by omega,⟨by simp,by simp⟩,by simp[sysB]⟩
     ·rintro q hq _ ⟨j,rfl,hj,rfl⟩
      have pl:=cBi_plain (L++sysB dl dh j)
      have d:=O.d
      by_cases hlt:j+1<l.length
      ·have hlti:(j:Int)+1<l.length:=by omega
       have wa:IntKind.wrap .i64 (j:Int)=j:=wrap_eq (by omega) (by omega)
       have wb:IntKind.wrap .i64 ((j:Int)+1+1)=(j:Int)+1+1:=wrap_eq (by omega) (by omega)
       have wn:IntKind.wrap .i64 (-dl)=-dl:=wrap_eq (by omega) (by omega)
       have sn:=sysB_cells L dl dh j
       have pl':=cBi_plain (L++sysB dl dh (j+1))
       rw[← sn] at pl'
       have len:(cB ((L++sysB dl dh j).map iB)).length=(2 * l.length+2 * j) * 3:=by rw[cBi_len,List.length_append,sysB_len,lL]
       generalize cB ((L++sysB dl dh j).map iB)=K at *
       simp[hlti,wa,wb,wn,len,E.append,E.added,Value.oneCell',maxLen,zeros,St.tidy,pl']
       exact⟨⟨by omega,by omega⟩,l.length-(j+1),by omega,j+1,by omega,by omega,⟨by omega,by omega⟩,by rw[← List.map_append]; exact sn⟩
      ·have hlti:¬ (j:Int)+1<l.length:=by omega
       obtain rfl:j=l.length-1:=by omega
       have e1:sysV l.length h.length=.slice (some ⟨h.length,0,none⟩) (2 * l.length+2 * (l.length-1)) 3:=by simp[sysV,n0]
       have e2:sysK l dl dh=[some ⟨cB ((L++sysB dl dh (l.length-1)).map iB),true⟩]:=by simp[sysK,n0,sysL,hL]
       rw[e1,e2]
       generalize cB ((L++sysB dl dh (l.length-1)).map iB)=K at *
       simp[hlti,Int.not_lt.1 hlti,pl]
end B
end Go.Abs
namespace Go.Abs
namespace B
set_option maxRecDepth 100000
set_option maxHeartbeats 0
theorem chkS_good {n:Nat} {L:List Bd} (G:Good n L) (h1:1≤n) (h2:n≤60) (hl:L.length≤200):chkS (n:Int) (L.map iB)=0:=by
 have w:within (n:Int) 1 60=true:=by simp[within]; omega
 have ml:(L.map iB).length=L.length:=by simp
 have key:∀ k i,(L.map iB).length-i=k→chkBL (n:Int) (L.map iB) i=0:=by
  intro k
  induction k with
  | zero=>intro i hk; rw[chkBL_ge (by omega)]
  | succ k ih =>
   intro i hk
   rw[chkBL_lt (by omega),ih (i+1) (by omega)]
   have hi:i<L.length:=by omega
   obtain⟨g1,g2,g3,g4⟩:=G.rng i hi
   rw[atB_iB hi]
   generalize L[i]=b at *
   have e1:within ((b.1:Nat):Int) 0 ((n:Int)-1)=true:=by simp[within]; omega
   have e2:within ((b.2.1:Nat):Int) 0 ((n:Int)-1)=true:=by simp[within]; omega
   have e3:within b.2.2 (-1000000000) 1000000000=true:=by simp[within]; omega
   simp[chkB,iB,e1,e2,e3]
 unfold chkS
 rw[if_pos w,if_neg (by omega)]
 exact key _ 0 rfl
end B
end Go.Abs
namespace Go.Abs
namespace B
set_option maxRecDepth 100000
set_option maxHeartbeats 0
theorem SlB3_own {h:Heap} {b n:Nat} {L:List Bd} {rw:Bool} (e:h.get b=some ⟨cB (L.map iB),rw⟩) (hn:n=L.length):SlB3 h (.slice (some ⟨b,0,none⟩) n 3) (L.map iB) :=
 Sl_own (f:=encB) (es:=3) (fun _=>rfl) e (by simp[hn])
theorem SlB3_nil (h:Heap):SlB3 h (.slice none 0 0) []:=⟨rfl,rfl,fun q=>absurd rfl q,.inl rfl,fun k hk=>by simp at hk⟩
theorem sysL_len (l:List XR) (dl dh:Int):(sysL l dl dh).length=2 * l.length+2 * (l.length-1):=by simp[sysL,sysA_len,sysB_len]
theorem hi_take {l:List XR} {i:Nat} (h:i<l.length):cI ((hiL l).take i)++[i64 (atR l i).2]=cI ((hiL l).take (i+1)):=by
 rw[List.take_add_one,List.getElem?_eq_getElem (by simp[hiL]; exact h)]
 have:(hiL l)[i]'(by simp[hiL]; exact h)=(atR l i).2:=by simp[hiL,atR,List.getElem?_eq_getElem h]
 rw[this]; simp[cI]
theorem cI_setx' (l:List Int) (i:Nat) (x:Int):(cI l).set i (i64 x)=cI (l.set i x):=by simp[cI,List.map_set]
def smoV (n b:Nat):Value:=if n=0 then .slice none 0 0 else .slice (some ⟨b,0,none⟩) n 1
def smoK (l:List XR) (dl dh:Int):List (Option Blk):=if l.length=0 then [] else [some ⟨cI (smo l dl dh),true⟩]
theorem c33a {d lim:Nat} {h:Heap} {v:Value} {l:List XR} {dl dh:Int} {X:List Int} (s:SlR h v l) (he:lenE l dl dh=0) (ht:tryR (sysL l dl dh) (l.length+1) (l.length+1) 0=some X) :
  E.call (d+4) lim 33 [v,rgV dl dh] h=some (.tuple #[smoV l.length h.length,.slice none 0 0,i64 0],h++smoK l dl dh):=by
 have O:=LenOk.of he
 have G:=good_sys O
 have r:=s.rules2
 have few:=O.few
 have SM:=fun r=>LI.rounds (dl:=dl) (dh:=dh) (o:=hiL l) (H:=fun i=>(atR l i).2) O.d.2.1 (fun i hi=>hiL_get (by simpa [hiL] using hi)) r
 have hlen:(hiL l).length=l.length:=by simp[hiL]
 rw[hlen] at SM
 have k31:=fun lim L=>c65 (d:=d+2) (lim:=lim) (dl:=dl) (dh:=dh) ((Sl_freeze.2 s).app L)
 have sl:=sysL_len l dl dh
 have cs:=chkS_good G (by omega) (by omega) (by rw[sl]; omega)
 have w1n':IntKind.wrap .i64 ((l.length:Int)+1)=((l.length+1:Nat):Int):=by rw[wrap_eq (by omega) (by omega)]; omega
 refine call_pure fn33 rfl (by simp[ef33]) ?_
 rcases Nat.eq_zero_or_pos l.length with hz | hz
 ·have el:l=[]:=List.eq_nil_of_length_eq_zero hz
  subst el
  have k59:=fun lim hh=>c66a (d:=d) (lim:=lim) (SlB3_nil hh) G (by simp) (by simp) (by simp[sysL,sysA,sysB]) cs ht
  simp at k59
  have i1:IntKind.wrap .i64 (0+1)=1:=rfl
  rcases s.low with rfl | ⟨bv,o',m',t',rfl,hbv⟩
  ·simp[ef33,k31,he,sysV,sysK,smoV,smoK,k59,i1]
   rw[wpC_unroll,wpI_step (by simp[E_fuel'])]
   simp[St.tidy]
   rw[wpC_unroll,wpI_step (by simp[E_fuel'])]
   simp[St.tidy]
  ·obtain rfl:m'=0:=by
    have:=s.len
    simpa using this
   simp[ef33,k31,he,sysV,sysK,smoV,smoK,k59,i1]
   rw[wpC_unroll,wpI_step (by simp[E_fuel'])]
   simp[St.tidy,hbv]
   rw[wpC_unroll,wpI_step (by simp[E_fuel'])]
   simp[St.tidy,hbv]
 obtain⟨bv,o',rfl⟩:∃ bv o',v=.slice (some ⟨bv,o',none⟩) l.length 2:=⟨_,_,s.addr (by omega)⟩
 have hbv:=s.lt (by omega)
 simp only[slB_some,slO_some] at r hbv
 have n0:l.length≠0:=by omega
 have gS:∀ L,Heap.get (h.freeze++(some ⟨[i64 dl,i64 dh],true⟩::some ⟨cB ((sysL l dl dh).map iB),true⟩::L)) (h.length+1)=some ⟨cB ((sysL l dl dh).map iB),true⟩:=fun L=>by rw[hget_base (by simp)]; rfl
 have k59:=fun lim L=>c66a (d:=d) (lim:=lim) (SlB3_own (gS L) sl.symm) G (by omega) (by omega) (by rw[sl]; omega) cs ht
 simp at k59
 simp[ef33,k31,he,sysV,sysK,smoV,smoK,n0,w1n',k59,r]
 refine wpC_loop (fun q st=>∃ i,q=l.length-i∧i≤l.length∧st=⟨[(3,.pointer (some ⟨h.length,0,none⟩)),(12,if i=0 then .slice none 0 0 else .slice (some ⟨h.length+1,0,none⟩) i 1),(38,.slice (some ⟨bv,o',none⟩) l.length 2),(39,i64 (l.length:Int)),(40,i64 (i:Nat))],
  h.freeze++(some ⟨[i64 dl,i64 dh],true⟩::if i=0 then [] else [some ⟨cI ((hiL l).take i),true⟩])⟩) l.length (by show l.length<2 ^ 64; omega) ?_ ?_
 ·simp[St.tidy,hbv]
  exact⟨0,by omega,by omega,⟨rfl,rfl⟩,rfl⟩
 ·rintro q hq _ ⟨i,rfl,hi,rfl⟩
  by_cases hlt:i<l.length
  ·have w1':=w1 (i:=i) (by omega)
   simp only[W] at w1'
   have p:=cR_part hlt
   have k2:i * 2+2≤l.length * 2:=by omega
   have hlti:(i:Int)<l.length:=by omega
   have sn:=hi_take hlt
   have pl:=cI_plain ((hiL l).take (i+1))
   have len:(cI ((hiL l).take i)).length=i:=by rw[cI_len,List.length_take,hlen]; omega
   rw[← sn] at pl
   rcases Nat.eq_zero_or_pos i with z | z
   ·subst z
    rw[show cI ((hiL l).take 0)=[] from rfl,List.nil_append] at sn
    generalize hA:atR l 0=A at *
    have pp:=s.part (k:=0) (m:=2) (by omega) (by omega)
    simp only[slB_some,slO_some,Nat.add_zero,List.drop_zero] at pp
    simp only[Nat.zero_mul,List.drop_zero] at p
    rw[p] at pp
    have l0:0<l.length:=by omega
    simp[l0,n0,hlt,hlti,r,k2,pp,E.append,E.added,Value.oneCell',maxLen,zeros,St.tidy,hbv]
    exact⟨l.length-1,by omega,1,by omega,by omega,⟨by rw[if_neg (by omega)],by omega⟩,by rw[if_neg (by omega)]; exact congrArg (fun c=>[some (Blk.mk c true)]) sn⟩
   ·have zi:i≠0:=by omega
    generalize hA:atR l i=A at *
    simp[hlt,hlti,r,k2,p,zi,len,E.append,E.added,Value.oneCell',maxLen,zeros,St.tidy,hbv,pl,Nat.add_assoc,w1']
    exact⟨⟨by omega,by omega⟩,l.length-(i+1),by omega,i+1,by omega,by omega,⟨by rw[if_neg (by omega)],by omega⟩,by rw[if_neg (by omega)]; exact congrArg (fun c=>[some (Blk.mk c true)]) sn⟩
  ·obtain rfl:i=l.length:=by omega
   have tk:(hiL l).take l.length=hiL l:=List.take_of_length_le (by omega)
   have pl:=cI_plain (hiL l)
   simp[n0,tk]
   refine wpC_loop (fun q st=>∃ r:Nat,q=l.length-r∧r≤l.length∧st=⟨[(3,.pointer (some ⟨h.length,0,none⟩)),(12,.slice (some ⟨h.length+1,0,none⟩) l.length 1),(51,i64 (l.length:Int)),(52,i64 (r:Nat))],
    h.freeze++[some ⟨[i64 dl,i64 dh],true⟩,some ⟨cI (rndL dl dh (hiL l) r),true⟩]⟩) l.length (by show l.length<2 ^ 64; omega) ?_ ?_
   ·simp[St.tidy,pl]
    exact⟨0,by omega,by omega,rfl,rfl⟩
   ·rintro q hq _ ⟨m,rfl,hm,rfl⟩
    have pm:=cI_plain (rndL dl dh (hiL l) m)
    by_cases hlt:m<l.length
    ·have wm:=w1 (i:=m) (by omega)
     simp only[W] at wm
     have hlti:(m:Int)<l.length:=by omega
     have L0:=SM m
     simp[hlt,hlti]
     refine wpC_loop (fun q st=>∃ k:Nat,q=l.length-k∧k+1≤l.length∧st=⟨[(3,.pointer (some ⟨h.length,0,none⟩)),(12,.slice (some ⟨h.length+1,0,none⟩) l.length 1),(15,i64 ((k:Int)+1)),(51,i64 (l.length:Int)),(52,i64 (m:Nat))],
      h.freeze++[some ⟨[i64 dl,i64 dh],true⟩,some ⟨cI (passL dl dh (rndL dl dh (hiL l) m) k),true⟩]⟩) l.length (by show l.length<2 ^ 64; omega) ?_ ?_
     ·simp[St.tidy,pm]
      exact⟨0,by omega,by omega,by simp,rfl⟩
     ·rintro q hq _ ⟨k,rfl,hk,rfl⟩
      have Lk:=L0.pass O.d.2.1 k hk
      have bd:=fun {i:Nat} (hi:i<l.length)=>Lk.bd ⟨O.d.1,by have:=O.d; omega⟩ ⟨by have:=O.d; omega,O.d.2.2⟩ (fun i hi=>by have:=O.rng i hi; omega) (by omega) hi
      have pk:=cI_plain (passL dl dh (rndL dl dh (hiL l) m) k)
      have pn:=cI_plain (passL dl dh (rndL dl dh (hiL l) m) (k+1))
      by_cases hk2:k+1<l.length
      ·have b1:=bd hk2
       have b0:=bd (show k<l.length by omega)
       have hki:(k:Int)+1<l.length:=by omega
       have wa:IntKind.wrap .i64 (k:Int)=k:=wrap_eq (by omega) (by omega)
       have wb:IntKind.wrap .i64 ((k:Int)+1+1)=(k:Int)+1+1:=wrap_eq (by omega) (by omega)
       have kt:((k:Int)+1).toNat=k+1:=by omega
       have ki0:(0:Int)≤(k:Int)+1:=by omega
       have ki1:(k:Int)<l.length:=by omega
       have dd:=O.d
       have len:=Lk.len
       rw[passL,stepL] at pn
       generalize hO:passL dl dh (rndL dl dh (hiL l) m) k=o at *
       have c1:=cI_gx (x:=o) (v:=k+1) (by omega)
       have c0:=cI_gx (x:=o) (v:=k) (by omega)
       have wd:IntKind.wrap .i64 (gx o k-dl)=gx o k-dl:=wrap_eq (by omega) (by omega)
       generalize hg1:gx o (k+1)=g1 at *
       generalize hg0:gx o k=g0 at *
       have we:∀ a,a≤300000→-40000000≤a→IntKind.wrap .i64 (a+dh)=a+dh:=fun a h1 h2=>wrap_eq (by omega) (by omega)
       have we':=we (min g1 (g0-dl)) (by omega) (by omega)
       have q1:o[k+1]?=some g1:=by rw[← hg1]; simp[gx,List.getD_eq_getElem?_getD,List.getElem?_eq_getElem (show k+1<o.length by omega)]
       have q0:o[k]?=some g0:=by rw[← hg0]; simp[gx,List.getD_eq_getElem?_getD,List.getElem?_eq_getElem (show k<o.length by omega)]
       have qs:∀ a,(o.set (k+1) a)[k+1]?=some a:=fun a=>by simp[len,hk2]
       have l1:k+1+1≤l.length:=by omega
       have l0:k+1≤l.length:=by omega
       have fin:passL dl dh (rndL dl dh (hiL l) m) (k+1)=(o.set (k+1) (min g1 (g0-dl))).set k (min g0 (min g1 (g0-dl)+dh)):=by rw[passL,hO,stepL,Nat.add_sub_cancel,hg1,hg0]
       simp[hki,Int.not_le.2 hki,kt,ki0,ki1,wa,wb,wd,we',q0,q1,qs,len,l0,l1,cI_setx',St.tidy]
       exact⟨l.length-(k+1),by omega,k+1,by omega,by omega,by omega,by rw[fin]⟩
      ·have hki:¬ (k:Int)+1<l.length:=by omega
       obtain rfl:k=l.length-1:=by omega
       have nx:passL dl dh (rndL dl dh (hiL l) m) (l.length-1)=rndL dl dh (hiL l) (m+1):=by rw[rndL,hlen]
       rw[nx] at pk ⊢
       simp[hki,Int.not_lt.1 hki,wm,St.tidy,pk]
       exact⟨l.length-(m+1),by omega,m+1,by omega,by omega,by omega,rfl⟩
    ·obtain rfl:m=l.length:=by omega
     have e:rndL dl dh (hiL l) l.length=smo l dl dh:=rfl
     rw[e] at pm ⊢
     simp[pm]
end B
end Go.Abs
namespace Go.Abs
namespace B
set_option maxRecDepth 100000
set_option maxHeartbeats 0
end B
end Go.Abs
