--
import Derived.Test.YtllhkifkiabkbaaGreatDoorAbsBGM
import Derived.Test.YtllhkifkiabkbaaGreatDoorAbsWpM
import Derived.Test.YtllhkifkiabkbaaGreatDoorAbsWpN
set_option linter.unusedSimpArgs false
set_option linter.unusedVariables false
namespace Go.Abs
abbrev Bd:=Nat × Nat × Int
structure RS where
 x:List Int
 by_:List Nat
 low:Option Nat
def gx (x:List Int) (v:Nat):Int:=x.getD v 0
def gb (b:List Nat) (v:Nat):Nat:=b.getD v 0
def stepR (s:RS) (i:Nat) (b:Bd):RS :=
 if gx s.x b.1+b.2.2<gx s.x b.2.1 then ⟨s.x.set b.2.1 (gx s.x b.1+b.2.2),s.by_.set b.2.1 i,some b.2.1⟩ else s
def relF (l:List Bd) (s:RS):Nat→RS
 | 0=>s
 | k+1=>match l[k]? with
  | some b=>stepR (relF l s k) k b
  | none=>relF l s k
def relax (l:List Bd) (x:List Int) (b:List Nat):RS:=relF l ⟨x,b,none⟩ l.length
structure Good (n:Nat) (l:List Bd):Prop where
 rng:∀ i (h:i<l.length),l[i].1<n∧l[i].2.1<n∧-1000000000≤l[i].2.2∧l[i].2.2≤1000000000
structure Sys (n:Nat) (l:List Bd) (k i:Nat) (s:RS) (rd T:Nat→Nat) (c:Nat):Prop where
 lx:s.x.length=n
 lb:s.by_.length=n
 bys:∀ v,v<n→gb s.by_ v<l.length∨gb s.by_ v=0
 by_ok:∀ v,v<n→1≤rd v→∃ h:gb s.by_ v<l.length,l[gb s.by_ v].2.1=v ∧
  (gx s.x l[gb s.by_ v].1+l[gb s.by_ v].2.2<gx s.x v∨(gx s.x l[gb s.by_ v].1+l[gb s.by_ v].2.2=gx s.x v∧T l[gb s.by_ v].1<T v))∧rd v≤rd l[gb s.by_ v].1+1
 t0:∀ v,rd v=0→T v=0
 tc:∀ v,T v≤c
 rk:∀ v,rd v≤k
 done_:∀ j (h:j<l.length),j<i→rd l[j].1<k→gx s.x l[j].2.1≤gx s.x l[j].1+l[j].2.2
 todo:∀ j (h:j<l.length),i≤j→rd l[j].1+1<k→gx s.x l[j].2.1≤gx s.x l[j].1+l[j].2.2
 bd:∀ v,v<n→-1000000000 * (c:Int)≤gx s.x v∧gx s.x v≤0
 lowS:∀ v,s.low=some v→v<n∧rd v=k
 lowN:s.low=none→∀ v,v<n→rd v<k
theorem gx_set {x:List Int} {v u:Nat} {a:Int} (h:v<x.length):gx (x.set v a) u=if v=u then a else gx x u:=by
 unfold gx
 rw[List.getD_eq_getElem?_getD,List.getD_eq_getElem?_getD,List.getElem?_set]
 by_cases e:v=u
 ·subst e; rw[if_pos rfl,if_pos rfl,if_pos h]; rfl
 ·rw[if_neg e,if_neg e]
theorem gb_set {x:List Nat} {v u a:Nat} (h:v<x.length):gb (x.set v a) u=if v=u then a else gb x u:=by
 unfold gb
 rw[List.getD_eq_getElem?_getD,List.getD_eq_getElem?_getD,List.getElem?_set]
 by_cases e:v=u
 ·subst e; rw[if_pos rfl,if_pos rfl,if_pos h]; rfl
 ·rw[if_neg e,if_neg e]
theorem Sys.step {n:Nat} {l:List Bd} {k i:Nat} {s:RS} {rd T:Nat→Nat} {c:Nat} (G:Good n l) (S:Sys n l k i s rd T c) (hi:i<l.length) (hk:1≤k) :
  ∃ rd' T',Sys n l k (i+1) (stepR s i l[i]) rd' T' (c+1):=by
 obtain⟨gf,gt,gm1,gm2⟩:=G.rng i hi
 unfold stepR
 by_cases q:gx s.x l[i].1+l[i].2.2<gx s.x l[i].2.1
 ·rw[if_pos q]
  generalize hu:l[i].1=u at *
  generalize hv:l[i].2.1=v at *
  generalize hm:l[i].2.2=m at *
  have hvx:v<s.x.length:=by rw[S.lx]; exact gt
  have hvb:v<s.by_.length:=by rw[S.lb]; exact gt
  have hru:k≤rd u+1:=by
   rcases Nat.lt_or_ge (rd u+1) k with z | z
   ·have:=S.todo i hi (Nat.le_refl i) (by rw[hu]; exact z)
    rw[hu,hv,hm] at this; omega
   ·exact z
  refine⟨fun w=>if w=v then k else rd w,fun w=>if w=v then c+1 else T w,?_⟩
  have gX:∀ w,gx (s.x.set v (gx s.x u+m)) w=if v=w then gx s.x u+m else gx s.x w:=fun w=>gx_set hvx
  have gB:∀ w,gb (s.by_.set v i) w=if v=w then i else gb s.by_ w:=fun w=>gb_set hvb
  have gle:∀ w,gx (s.x.set v (gx s.x u+m)) w≤gx s.x w:=fun w=>by
   rw[gX]; split
   ·rename_i e; subst e; omega
   ·omega
  refine⟨by simp[S.lx],by simp[S.lb],fun w hw=>?_,fun w hw h1=>?_,fun w h0=>?_,fun w=>?_,fun w=>?_,fun j hj hlt h1=>?_,fun j hj hge h1=>?_,fun w hw=>?_,fun w hw=>?_,fun q=>by cases q⟩
  ·simp only[gB]; split
   ·exact .inl hi
   ·exact S.bys w hw
  ·simp only[gB]
   by_cases e:v=w
   ·subst e
    simp only[if_pos]
    refine⟨hi,hv,?_,?_⟩
    ·rw[gX,gX,hu,hm,if_pos rfl]
     by_cases e2:v=u
     ·subst e2
      rw[if_pos rfl]; left; omega
     ·rw[if_neg e2]; right
      refine⟨rfl,?_⟩
      rw[if_neg (fun z=>e2 z.symm)]
      have:=S.tc u; omega
    ·rw[hu]; split <;> omega
   ·simp only[if_neg e]
    have e':¬ w=v:=fun z=>e z.symm
    simp only[if_neg e'] at h1 ⊢
    obtain⟨p1,p2,p3,p4⟩:=S.by_ok w hw h1
    refine⟨p1,p2,?_,?_⟩
    ·have hgw:gx (s.x.set v (gx s.x u+m)) w=gx s.x w:=by rw[gX,if_neg e]
     rw[hgw]
     generalize l[gb s.by_ w].1=a at *
     rw[gX a]
     by_cases e3:v=a
     ·subst e3
      rw[if_pos rfl]; left
      rcases p3 with z | z <;> omega
     ·have ne3:¬ a=v:=fun z=>e3 z.symm
      simp only[if_neg e3,if_neg ne3]; exact p3
    ·split
     ·have:=S.rk w; omega
     ·exact p4
  ·try simp only at h0 ⊢
   split at h0
   ·omega
   ·rename_i e; rw[if_neg e]; exact S.t0 w h0
  ·try simp only
   split
   ·omega
   ·have:=S.tc w; omega
  ·try simp only
   split
   ·omega
   ·exact S.rk w
  ·try simp only at h1
   split at h1
   ·omega
   ·rename_i e
    have hx1:gx (s.x.set v (gx s.x u+m)) l[j].1=gx s.x l[j].1:=by rw[gX,if_neg (fun z=>e z.symm)]
    rw[hx1]
    by_cases ej:j=i
    ·subst ej
     rw[hu,hv,hm,gX,if_pos rfl]; omega
    ·have:=S.done_ j hj (by omega) h1
     have:=gle l[j].2.1
     show gx (s.x.set v (gx s.x u+m)) l[j].2.1≤gx s.x l[j].1+l[j].2.2
     omega
  ·try simp only at h1
   split at h1
   ·omega
   ·rename_i e
    have hx1:gx (s.x.set v (gx s.x u+m)) l[j].1=gx s.x l[j].1:=by rw[gX,if_neg (fun z=>e z.symm)]
    rw[hx1]
    have:=S.todo j hj (by omega) h1
    have:=gle l[j].2.1
    show gx (s.x.set v (gx s.x u+m)) l[j].2.1≤gx s.x l[j].1+l[j].2.2
    omega
  ·have b1:=S.bd w hw
   have b2:=S.bd u gf
   have b3:=S.bd v gt
   rw[gX]; split <;> constructor <;> omega
  ·cases hw; exact⟨gt,by simp⟩
 ·rw[if_neg q]
  refine⟨rd,T,S.lx,S.lb,S.bys,S.by_ok,S.t0,fun v=>by have:=S.tc v; omega,S.rk,fun j hj hlt h1=>?_,fun j hj hge h1=>S.todo j hj (by omega) h1,fun v hv=>by have:=S.bd v hv; constructor <;> omega,S.lowS,S.lowN⟩
  by_cases ej:j=i
  ·subst ej; omega
  ·exact S.done_ j hj (by omega) h1
theorem Sys.round {n:Nat} {l:List Bd} {k:Nat} {s:RS} {rd T:Nat→Nat} {c:Nat} (G:Good n l) (S:Sys n l k 0 s rd T c) (hk:1≤k):∀ i,i≤l.length →
  ∃ rd' T',Sys n l k i (relF l s i) rd' T' (c+i)
 | 0,_=>⟨rd,T,S⟩
 | i+1,h=>by
  obtain⟨rd',T',S'⟩:=Sys.round G S hk i (by omega)
  have e:relF l s (i+1)=stepR (relF l s i) i l[i]:=by simp[relF,List.getElem?_eq_getElem (show i<l.length from h)]
  rw[e]
  exact S'.step G h hk
theorem Sys.next {n:Nat} {l:List Bd} {k:Nat} {s:RS} {rd T:Nat→Nat} {c:Nat} (S:Sys n l k l.length s rd T c):Sys n l (k+1) 0 ⟨s.x,s.by_,none⟩ rd T c :=
 ⟨S.lx,S.lb,S.bys,S.by_ok,S.t0,S.tc,fun v=>by have:=S.rk v; omega,fun j hj h=>by omega,fun j hj _ h1=>S.done_ j hj hj (by omega),S.bd,fun v q=>(by cases q),fun _ v _=>by have:=S.rk v; omega⟩
def zerosI (n:Nat):List Int:=List.replicate n 0
def zerosN (n:Nat):List Nat:=List.replicate n 0
theorem gx_zeros (n v:Nat):gx (zerosI n) v=0:=by
 unfold gx zerosI; rw[List.getD_eq_getElem?_getD,List.getElem?_replicate]; split <;> rfl
theorem gb_zeros (n v:Nat):gb (zerosN n) v=0:=by
 unfold gb zerosN; rw[List.getD_eq_getElem?_getD,List.getElem?_replicate]; split <;> rfl
theorem Sys.start (n:Nat) (l:List Bd):Sys n l 1 0 ⟨zerosI n,zerosN n,none⟩ (fun _=>0) (fun _=>0) 0 :=
 ⟨by simp[zerosI],by simp[zerosN],fun v _=>.inr (gb_zeros n v),fun v _ h=>by omega,fun _ _=>rfl,fun _=>Nat.le_refl 0,fun _=>by omega,fun j _ h=>by omega,fun j _ _ h=>by omega,
  fun v _=>by simp only[gx_zeros]; omega,fun v q=>(by cases q),fun _ v _=>by omega⟩
theorem Sys.solved {n:Nat} {l:List Bd} {k:Nat} {s:RS} {rd T:Nat→Nat} {c:Nat} (G:Good n l) (S:Sys n l k l.length s rd T c) (h:s.low=none):∀ j (hj:j<l.length),gx s.x l[j].2.1≤gx s.x l[j].1+l[j].2.2 :=
 fun j hj=>S.done_ j hj hj (S.lowN h _ (G.rng j hj).1)
def prev (l:List Bd) (b:List Nat) (v:Nat):Nat:=match l[gb b v]? with
 | some e=>e.1
 | none=>0
def wgt (l:List Bd) (b:List Nat) (v:Nat):Int:=match l[gb b v]? with
 | some e=>e.2.2
 | none=>0
def back (l:List Bd) (b:List Nat) (v:Nat):Nat→Nat
 | 0=>v
 | k+1=>prev l b (back l b v k)
def sumB (l:List Bd) (b:List Nat) (v:Nat):Nat→Int
 | 0=>0
 | k+1=>sumB l b v k+wgt l b (back l b v k)
theorem Sys.prev_ok {n:Nat} {l:List Bd} {k i:Nat} {s:RS} {rd T:Nat→Nat} {c:Nat} (G:Good n l) (S:Sys n l k i s rd T c) {v:Nat} (hv:v<n) (h1:1≤rd v) :
  prev l s.by_ v<n∧rd v≤rd (prev l s.by_ v)+1∧(gx s.x (prev l s.by_ v)+wgt l s.by_ v) * ((c:Int)+1)+T (prev l s.by_ v)+1≤gx s.x v * ((c:Int)+1)+T v:=by
 obtain⟨p1,p2,p3,p4⟩:=S.by_ok v hv h1
 have e1:prev l s.by_ v=l[gb s.by_ v].1:=by simp[prev,p1]
 have e2:wgt l s.by_ v=l[gb s.by_ v].2.2:=by simp[wgt,p1]
 rw[e1,e2]
 refine⟨(G.rng _ p1).1,p4,?_⟩
 generalize l[gb s.by_ v].1=u at *
 generalize l[gb s.by_ v].2.2=m at *
 have t1:=S.tc u
 rcases p3 with z | ⟨z,t⟩
 ·have h2:(gx s.x u+m+1) * ((c:Int)+1)≤gx s.x v * ((c:Int)+1):=Int.mul_le_mul_of_nonneg_right (by omega) (by omega)
  rw[Int.add_mul (gx s.x u+m) 1] at h2
  omega
 ·rw[z]; omega
theorem Sys.cycle_neg {n:Nat} {l:List Bd} {k i:Nat} {s:RS} {rd T:Nat→Nat} {c:Nat} (G:Good n l) (S:Sys n l k i s rd T c) {v m:Nat} (hm:1≤m) (hv:∀ j,j<m→back l s.by_ v j<n∧1≤rd (back l s.by_ v j)) (hc:back l s.by_ v m=v):sumB l s.by_ v m<0:=by
 have key:∀ j,j≤m→(gx s.x (back l s.by_ v j)+sumB l s.by_ v j) * ((c:Int)+1)+T (back l s.by_ v j)+j≤gx s.x v * ((c:Int)+1)+T v:=by
  intro j
  induction j with
  | zero=>intro _; simp[back,sumB]
  | succ j ih =>
   intro hj
   have h1:=ih (by omega)
   obtain⟨a1,a2⟩:=hv j (by omega)
   obtain⟨_,_,h2⟩:=S.prev_ok G a1 a2
   simp only[back,sumB]
   generalize back l s.by_ v j=u at *
   have e:(gx s.x (prev l s.by_ u)+(sumB l s.by_ v j+wgt l s.by_ u)) * ((c:Int)+1)=(gx s.x (prev l s.by_ u)+wgt l s.by_ u) * ((c:Int)+1)+sumB l s.by_ v j * ((c:Int)+1):=by
    rw[← Int.add_mul]; congr 1; omega
   rw[e]
   rw[Int.add_mul (gx s.x u)] at h1
   omega
 have h:=key m (Nat.le_refl m)
 rw[hc,Int.add_mul] at h
 rcases Int.lt_or_le (sumB l s.by_ v m) 0 with z | z
 ·exact z
 ·have:=Int.mul_nonneg z (show 0≤(c:Int)+1 by omega)
  omega
end Go.Abs
namespace Go.Abs
def iterR (l:List Bd) (n:Nat):Nat→RS
 | 0=>⟨zerosI n,zerosN n,none⟩
 | k+1=>relax l (iterR l n k).x (iterR l n k).by_
theorem iter_sys {n:Nat} {l:List Bd} (G:Good n l):∀ k,∃ rd T,Sys n l (k+1) l.length (iterR l n (k+1)) rd T ((k+1) * l.length)
 | 0=>by
  obtain⟨rd,T,S⟩:=Sys.round G (Sys.start n l) (Nat.le_refl 1) l.length (Nat.le_refl _)
  refine⟨rd,T,?_⟩
  have e:0+l.length=(0+1) * l.length:=by omega
  rw[e] at S
  exact S
 | k+1=>by
  obtain⟨rd,T,S⟩:=iter_sys G k
  obtain⟨rd',T',S'⟩:=Sys.round G (Sys.next S) (by omega) l.length (Nat.le_refl _)
  refine⟨rd',T',?_⟩
  have e:(k+1) * l.length+l.length=(k+1+1) * l.length:=(Nat.succ_mul (k+1) l.length).symm
  rw[e] at S'
  exact S'
theorem pigeon:∀ (n:Nat) (f:Nat→Nat),(∀ i,i≤n→f i<n)→∃ i j,i<j∧j≤n∧f i=f j
 | 0,f,h=>absurd (h 0 (Nat.le_refl 0)) (by omega)
 | n+1,f,h=>by
  by_cases q:∃ i,i≤n∧f i=f (n+1)
  ·obtain⟨i,hi,e⟩:=q
   exact⟨i,n+1,by omega,Nat.le_refl _,e⟩
  ·have hn:=h (n+1) (Nat.le_refl _)
   have ne:∀ i,i≤n→f i≠f (n+1):=fun i hi e=>q ⟨i,hi,e⟩
   obtain⟨i,j,h1,h2,h3⟩:=pigeon n (fun i=>if f i<f (n+1) then f i else f i-1) (fun i hi=>by
    have a:=ne i hi
    have b:=h i (by omega)
    try dsimp only
    split <;> omega)
   refine⟨i,j,h1,by omega,?_⟩
   have a:=ne i (by omega)
   have b:=ne j h2
   try dsimp only at h3
   split at h3 <;> split at h3 <;> omega
theorem back_add (l:List Bd) (b:List Nat) (v n:Nat):∀ k,back l b (back l b v n) k=back l b v (n+k)
 | 0=>rfl
 | k+1=>by
  show prev l b (back l b (back l b v n) k)=prev l b (back l b v (n+k))
  rw[back_add l b v n k]
structure Cyc (n:Nat) (l:List Bd) (b:List Nat) (w p:Nat):Prop where
 p1:1≤p
 pn:p≤n
 ok:∀ q,q≤p→back l b w q<n∧∃ h:gb b (back l b w q)<l.length,l[gb b (back l b w q)].2.1=back l b w q
 close:back l b w p=w
 first:∀ q,1≤q→q<p→back l b w q≠w
 neg:sumB l b w p<0
theorem least {P:Nat→Prop} (hP:∃ m,P m):∃ m,P m∧∀ q,q<m→¬ P q:=by
 obtain⟨m,hm⟩:=hP
 induction m using Nat.strongRecOn with
 | _ m ih =>
  by_cases h:∃ q,q<m∧P q
  ·obtain⟨q,hq,hp⟩:=h
   exact ih q hq hp
  ·exact⟨m,hm,fun q hq hp=>h ⟨q,hq,hp⟩⟩
theorem Sys.cyc {n:Nat} {l:List Bd} {s:RS} {rd T:Nat→Nat} {c:Nat} (G:Good n l) (S:Sys n l n l.length s rd T c) {v:Nat} (hv:s.low=some v) :
  (∀ j,j<n→back l s.by_ v j<n∧∃ h:gb s.by_ (back l s.by_ v j)<l.length,l[gb s.by_ (back l s.by_ v j)].2.1=back l s.by_ v j)∧∃ p,Cyc n l s.by_ (back l s.by_ v n) p:=by
 obtain⟨v1,v2⟩:=S.lowS v hv
 have br:∀ j,j≤n→back l s.by_ v j<n∧n≤rd (back l s.by_ v j)+j:=by
  intro j
  induction j with
  | zero=>intro _; exact⟨v1,by show n≤rd v+0; omega⟩
  | succ j ih =>
   intro hj
   obtain⟨a1,a2⟩:=ih (by omega)
   obtain⟨b1,b2,_⟩:=S.prev_ok G a1 (by omega)
   exact⟨b1,by show n≤rd (prev l s.by_ (back l s.by_ v j))+(j+1); omega⟩
 have okj:∀ j,j<n→back l s.by_ v j<n∧1≤rd (back l s.by_ v j)∧∃ h:gb s.by_ (back l s.by_ v j)<l.length,l[gb s.by_ (back l s.by_ v j)].2.1=back l s.by_ v j:=fun j hj=>by
  obtain⟨a1,a2⟩:=br j (by omega)
  obtain⟨b1,b2,_⟩:=S.by_ok _ a1 (by omega)
  exact⟨a1,by omega,b1,b2⟩
 refine⟨fun j hj=>⟨(okj j hj).1,(okj j hj).2.2⟩,?_⟩
 obtain⟨i,j,h1,h2,h3⟩:=pigeon n (fun k=>back l s.by_ v k) (fun k hk=>(br k hk).1)
 have per:∀ t,back l s.by_ v (i+t)=back l s.by_ v (j+t):=fun t=>by
  rw[← back_add,← back_add,h3]
 have red:∀ a,i≤a→∃ a',a'<n∧back l s.by_ v a=back l s.by_ v a':=by
  intro a
  induction a using Nat.strongRecOn with
  | _ a ih =>
   intro ha
   by_cases q:a<j
   ·exact⟨a,by omega,rfl⟩
   ·obtain⟨a',e1,e2⟩:=ih (a-(j-i)) (by omega) (by omega)
    refine⟨a',e1,?_⟩
    rw[← e2]
    have:=per (a-j)
    rw[show j+(a-j)=a by omega,show i+(a-j)=a-(j-i) by omega] at this
    exact this.symm
 have okw:∀ q,back l s.by_ (back l s.by_ v n) q<n∧1≤rd (back l s.by_ (back l s.by_ v n) q)∧∃ h:gb s.by_ (back l s.by_ (back l s.by_ v n) q)<l.length,l[gb s.by_ (back l s.by_ (back l s.by_ v n) q)].2.1=back l s.by_ (back l s.by_ v n) q:=fun q=>by
  rw[back_add]
  obtain⟨a',e1,e2⟩:=red (n+q) (by omega)
  rw[e2]; exact okj a' e1
 obtain⟨p,⟨p1,p2⟩,p3⟩:=least (P:=fun p=>1≤p∧back l s.by_ (back l s.by_ v n) p=back l s.by_ v n) ⟨j-i,by omega,by
  rw[back_add]
  have:=per (n-i)
  rw[show i+(n-i)=n by omega,show j+(n-i)=n+(j-i) by omega] at this
  exact this.symm⟩
 have pm:p≤j-i:=by
  rcases Nat.lt_or_ge (j-i) p with z | z
  ·exact absurd ⟨by omega,by
    rw[back_add]
    have:=per (n-i)
    rw[show i+(n-i)=n by omega,show j+(n-i)=n+(j-i) by omega] at this
    exact this.symm⟩ (p3 (j-i) z)
  ·exact z
 exact⟨p,p1,by omega,fun q _=>⟨(okw q).1,(okw q).2.2⟩,p2,fun q a b e=>p3 q b ⟨a,e⟩,S.cycle_neg G p1 (fun q _=>⟨(okw q).1,(okw q).2.1⟩) p2⟩
theorem Cyc.none {n:Nat} {l:List Bd} {b:List Nat} {w p:Nat} (C:Cyc n l b w p) (x:List Int):¬ ∀ j (hj:j<l.length),gx x l[j].2.1≤gx x l[j].1+l[j].2.2:=fun h=>by
 have key:∀ q,q≤p→gx x w≤gx x (back l b w q)+sumB l b w q:=by
  intro q
  induction q with
  | zero=>intro _; simp[back,sumB]
  | succ q ih =>
   intro hq
   have h1:=ih (by omega)
   obtain⟨_,a2,a3⟩:=C.ok q (by omega)
   have h2:=h _ a2
   rw[a3] at h2
   have e1:prev l b (back l b w q)=l[gb b (back l b w q)].1:=by simp[prev,a2]
   have e2:wgt l b (back l b w q)=l[gb b (back l b w q)].2.2:=by simp[wgt,a2]
   simp only[back,sumB]
   rw[e1,e2]; omega
 have:=key p (Nat.le_refl p)
 rw[C.close] at this
 have:=C.neg
 omega
theorem never {n:Nat} {l:List Bd} (G:Good n l) (h1:1≤n) {v:Nat} (h:(iterR l n n).low=some v):(iterR l n (n+1)).low≠none ∧
  (∀ j,j<n→back l (iterR l n n).by_ v j<n∧∃ h:gb (iterR l n n).by_ (back l (iterR l n n).by_ v j)<l.length,l[gb (iterR l n n).by_ (back l (iterR l n n).by_ v j)].2.1=back l (iterR l n n).by_ v j) ∧
  ∃ p,Cyc n l (iterR l n n).by_ (back l (iterR l n n).by_ v n) p:=by
 obtain⟨rd,T,S⟩:=iter_sys G (n-1)
 rw[show n-1+1=n by omega] at S
 obtain⟨a,p,C⟩:=S.cyc G h
 refine⟨fun e=>?_,a,p,C⟩
 obtain⟨rd',T',S'⟩:=iter_sys G n
 exact C.none _ (S'.solved G e)
end Go.Abs
namespace Go.Abs
namespace B
set_option maxRecDepth 100000
set_option maxHeartbeats 0
abbrev B3i:=Int × Int × Int
def encB (x:B3i):List Value:=[.int .i64 x.1,.int .i64 x.2.1,.int .i64 x.2.2]
def cB (l:List B3i):List Value:=cS encB l
theorem cB_len (l:List B3i):(cB l).length=l.length * 3:=cS_len (f:=encB) (es:=3) (fun _=>rfl) l
def atB (l:List B3i) (i:Nat):B3i:=l[i]?.getD (0,0,0)
theorem cB_part {l:List B3i} {i:Nat} (h:i<l.length):((cB l).drop (i * 3)).take 3=[.int .i64 (atB l i).1,.int .i64 (atB l i).2.1,.int .i64 (atB l i).2.2]:=by
 have:=cS_part (f:=encB) (es:=3) (fun _=>rfl) l i h
 unfold cB atB; rw[this,List.getElem?_eq_getElem h]; rfl
abbrev SlB3 (h:Heap) (v:Value) (l:List B3i):Prop:=Sl 3 h v l.length (cB l)
def chkB (n:Int) (x:B3i):Int:=if within x.1 0 (n-1)=true then (if within x.2.1 0 (n-1)=true then (if within x.2.2 (-1000000000) 1000000000=true then 0 else 2) else 6) else 6
def chkBL (n:Int) (l:List B3i) (i:Nat):Int:=if i<l.length then (if chkB n (atB l i)=0 then chkBL n l (i+1) else chkB n (atB l i)) else 0
termination_by l.length-i
theorem chkBL_lt {n:Int} {l:List B3i} {i:Nat} (h:i<l.length):chkBL n l i=if chkB n (atB l i)=0 then chkBL n l (i+1) else chkB n (atB l i):=by rw[chkBL,if_pos h]
theorem chkBL_ge {n:Int} {l:List B3i} {i:Nat} (h:¬ i<l.length):chkBL n l i=0:=by rw[chkBL,if_neg h]
def chkS (n:Int) (l:List B3i):Int:=if within n 1 60=true then (if 200<l.length then 8 else chkBL n l 0) else 2
theorem w1n {i:Nat} (h:i<1000000):IntKind.wrap .i64 ((i:Int)+1)=((i+1:Nat):Int):=by rw[wrap_eq (by omega) (by omega)]; rfl
theorem c104 {d lim:Nat} {h:Heap} {v:Value} {l:List B3i} {n:Int} (s:SlB3 h v l):E.call (d+2) lim 104 [.int .i64 n,v] h=some (.int .i64 (chkS n l),h):=by
 have r:=s.rules2
 refine call1 fn104 rfl (by simp[ef104]) ?_
 by_cases hn:within n 1 60=true
 case neg=>simp[ef104,c151,hn,chkS]
 by_cases hl:200<l.length
 case pos =>
  have h4:(200:Int)<l.length:=by omega
  simp[ef104,c151,hn,chkS,r,hl,h4,Int.not_le.2 h4]
 have h4:¬ (200:Int)<l.length:=by omega
 have wn:IntKind.wrap .i64 (n-1)=n-1:=by
  simp[within] at hn
  rw[wrap_eq (by omega) (by omega)]
 simp[ef104,c151,hn,chkS,r,hl,h4,Int.not_lt.1 h4]
 refine wpC_loop (fun q st=>∃ i:Nat,q=l.length-i∧i≤l.length∧chkBL n l i=chkBL n l 0∧st=⟨[(0,.int .i64 n),(15,v),(16,.int .i64 (l.length:Int)),(17,.int .i64 (i:Int))],h.freeze⟩) l.length (by show l.length<2 ^ 64; omega) ?_ ?_
 ·simp[St.tidy,r]
  exact⟨0,by omega,by omega,rfl,rfl⟩
 ·rintro q hq _ ⟨i,rfl,hi,hc,rfl⟩
  by_cases hlt:i<l.length
  ·have w1':=w1n (i:=i) (by omega)
   have h4:(i:Int)<l.length:=by omega
   have p1:=cB_part hlt
   have k1:i * 3+3≤l.length * 3:=by omega
   rw[chkBL_lt hlt] at hc
   unfold chkB at hc
   generalize atB l i=x at *
   obtain⟨f,t,m⟩:=x
   simp only at p1 hc
   by_cases q1:within f 0 (n-1)=true
   ·by_cases q2:within t 0 (n-1)=true
    ·by_cases q3:within m (-1000000000) 1000000000=true
     ·simp only[q1,q2,q3,if_true] at hc
      simp[hlt,h4,r,k1,p1,c151,wn,q1,q2,q3,w1',St.tidy]
      exact⟨l.length-(i+1),by omega,i+1,by omega,by omega,hc,by omega⟩
     ·simp[q1,q2,q3] at hc
      simp[hlt,h4,r,k1,p1,c151,wn,q1,q2,q3,← hc]
    ·simp[q1,q2] at hc
     simp[hlt,h4,r,k1,p1,c151,wn,q1,q2,← hc]
   ·simp[q1] at hc
    simp[hlt,h4,r,k1,p1,c151,wn,q1,← hc]
  ·obtain rfl:i=l.length:=by omega
   rw[chkBL_ge hlt] at hc
   simp[r,← hc]
end B
end Go.Abs
namespace Go.Abs
namespace B
set_option maxRecDepth 100000
set_option maxHeartbeats 0
abbrev i6 (n:Int):Value:=.int .i64 n
theorem E_fuel':E.fuel=18446744073709551616:=rfl
theorem hput_self {h:Heap} {b:Nat} {k:Blk} (e:h.get b=some k):h.put b (some k)=h:=by
 unfold Heap.get at e
 unfold Heap.put
 rcases q:h[b]? with _ | o
 ·simp[q] at e
 ·simp[q] at e
  subst e
  have hb:b<h.length:=by
   rcases Nat.lt_or_ge b h.length with z | z
   ·exact z
   ·rw[List.getElem?_eq_none z] at q; cases q
  rw[List.getElem?_eq_getElem hb] at q
  have:=Option.some.inj q
  rw[← this]; exact List.set_getElem_self hb
def RevI (l r:List Int) (i:Nat):Prop:=r.length=l.length∧∀ k,k<l.length→r[k]?=if k<i∨l.length-i≤k then l[l.length-1-k]? else l[k]?
theorem RevI.zero (l:List Int):RevI l l 0:=⟨rfl,fun k hk=>by rw[if_neg (by omega)]⟩
theorem RevI.next {l r:List Int} {i:Nat} (h:RevI l r i) (hi:i<l.length-1-i):∃ a b,r[i]?=some a∧r[l.length-1-i]?=some b∧RevI l ((r.set i b).set (l.length-1-i) a) (i+1):=by
 obtain⟨h1,h2⟩:=h
 have e1:=h2 i (by omega)
 have e2:=h2 (l.length-1-i) (by omega)
 rw[if_neg (by omega)] at e1 e2
 refine⟨l[i]'(by omega),l[l.length-1-i]'(by omega),by rw[e1,List.getElem?_eq_getElem],by rw[e2,List.getElem?_eq_getElem],by simp[h1],fun k hk=>?_⟩
 rw[List.getElem?_set,List.getElem?_set,List.length_set,h1]
 by_cases q1:l.length-1-i=k
 ·rw[if_pos q1,if_pos (by omega),if_pos (by omega)]
  have:l.length-1-k=i:=by omega
  rw[this,List.getElem?_eq_getElem]
 ·rw[if_neg q1]
  by_cases q2:i=k
  ·rw[if_pos q2,if_pos (by omega),if_pos (by omega)]
   subst q2
   rw[List.getElem?_eq_getElem]
  ·rw[if_neg q2,h2 k hk]
   by_cases q3:k<i∨l.length-i≤k
   ·rw[if_pos q3,if_pos (by omega)]
   ·rw[if_neg q3,if_neg (by omega)]
theorem RevI.done {l r:List Int} {i:Nat} (h:RevI l r i) (hi:¬ i+1<l.length-i):r=l.reverse:=by
 obtain⟨h1,h2⟩:=h
 apply List.ext_getElem?
 intro k
 by_cases hk:k<l.length
 ·rw[h2 k hk,List.getElem?_reverse hk]
  split
  ·rfl
  ·congr 1; omega
 ·rw[List.getElem?_eq_none (by omega),List.getElem?_eq_none (by simp; omega)]
def iB (b:Bd):B3i:=((b.1:Int),(b.2.1:Int),b.2.2)
def lowV:Option Nat→Int
 | none=>-1
 | some v=>(v:Int)
def cN (l:List Nat):List Value:=l.map fun k:Nat=>.int .i64 (k:Int)
theorem cN_set (l:List Nat) (i x:Nat):(cN l).set i (.int .i64 (x:Int))=cN (l.set i x):=by simp[cN,List.map_set]
theorem cI_setx (l:List Int) (i:Nat) (x:Int):(cI l).set i (.int .i64 x)=cI (l.set i x):=by simp[cI,List.map_set]
theorem cI_gx {x:List Int} {v:Nat} (h:v<x.length):(cI x)[v]?=some (.int .i64 (gx x v)):=by
 simp[cI,gx,List.getD_eq_getElem?_getD,List.getElem?_eq_getElem h]
theorem atB_iB {l:List Bd} {i:Nat} (h:i<l.length):atB (l.map iB) i=iB l[i]:=by
 unfold atB; rw[List.getElem?_map,List.getElem?_eq_getElem h]; rfl
def BxR (n c:Nat) (x:List Int):Prop:=∀ v,v<n→-1000000000 * (c:Int)≤gx x v∧gx x v≤0
theorem step_ok {n:Nat} {l:List Bd} (G:Good n l) {s:RS} {i c:Nat} (hi:i<l.length) (hx:s.x.length=n) (hb:s.by_.length=n) (h:BxR n c s.x) :
  (stepR s i l[i]).x.length=n∧(stepR s i l[i]).by_.length=n∧BxR n (c+1) (stepR s i l[i]).x:=by
 obtain⟨g1,g2,g3,g4⟩:=G.rng i hi
 unfold stepR
 split
 ·refine⟨by simp[hx],by simp[hb],fun v hv=>?_⟩
  have a:=h v hv
  have b:=h _ g1
  have c:=h _ g2
  simp only
  rw[gx_set (by omega)]
  split <;> constructor <;> omega
 ·exact⟨hx,hb,fun v hv=>by have:=h v hv; constructor <;> omega⟩
theorem relF_ok {n:Nat} {l:List Bd} (G:Good n l) {x:List Int} {b:List Nat} {c:Nat} (hx:x.length=n) (hb:b.length=n) (h:BxR n c x):∀ i,i≤l.length →
  (relF l ⟨x,b,none⟩ i).x.length=n∧(relF l ⟨x,b,none⟩ i).by_.length=n∧BxR n (c+i) (relF l ⟨x,b,none⟩ i).x
 | 0,_=>⟨hx,hb,h⟩
 | i+1,hi=>by
  obtain⟨a1,a2,a3⟩:=relF_ok G hx hb h i (by omega)
  have e:relF l ⟨x,b,none⟩ (i+1)=stepR (relF l ⟨x,b,none⟩ i) i l[i]:=by simp[relF,List.getElem?_eq_getElem (show i<l.length from hi)]
  rw[e]
  exact step_ok G hi a1 a2 a3
theorem c105 {d lim:Nat} {h:Heap} {v:Value} {bx bb n c:Nat} {l:List Bd} {x:List Int} {b:List Nat} (hx:h.get bx=some ⟨cI x,true⟩) (hb:h.get bb=some ⟨cN b,true⟩) (hne:bx≠bb)
  (s:∀ X Y,SlB3 ((h.put bx X).put bb Y) v (l.map iB)) (G:Good n l) (lx:x.length=n) (lb:b.length=n) (B:BxR n c x) (hc:c≤100000) (hl:l.length≤1000) (hn:n≤1000) :
  E.call (d+1) lim 105 [v,.slice (some ⟨bx,0,none⟩) n 1,.slice (some ⟨bb,0,none⟩) n 1] h =
   some (.int .i64 (lowV (relax l x b).low),(h.put bx (some ⟨cI (relax l x b).x,true⟩)).put bb (some ⟨cN (relax l x b).by_,true⟩)):=by
 have hxl:=Heap.get_lt hx
 have hbl:=Heap.get_lt hb
 have r:=fun X Y=>(s X Y).rules2
 have ml:(l.map iB).length=l.length:=by simp
 rw[ml] at r
 have e0:(h.put bx (some ⟨cI x,true⟩)).put bb (some ⟨cN b,true⟩)=h:=by
  rw[hput_self hx,hput_self hb]
 have key:∃ u h',E.call (d+1) lim 105 [v,.slice (some ⟨bx,0,none⟩) n 1,.slice (some ⟨bb,0,none⟩) n 1] h=some (u,h')∧u=.int .i64 (lowV (relax l x b).low)∧h'=(h.put bx (some ⟨cI (relax l x b).x,true⟩)).put bb (some ⟨cN (relax l x b).by_,true⟩):=by
  refine call_trunc (Q:=fun u h'=>u=.int .i64 (lowV (relax l x b).low)∧h'=(h.put bx (some ⟨cI (relax l x b).x,true⟩)).put bb (some ⟨cN (relax l x b).by_,true⟩)) fn105 rfl (by simp[ef105]) ?_
  conv=>rw[← e0]
  have r0:=r (some ⟨cI x,true⟩) (some ⟨cN b,true⟩)
  have gX:∀ (X:List Value) (Y:Option Blk) L,Heap.get (((h.put bx (some ⟨X,true⟩)).put bb Y)++L) bx=some ⟨X,true⟩:=fun X Y L=>by
   rw[Heap.get_append_lt (by simp; exact hxl),Heap.get_put_ne _ hne.symm,Heap.get_put_eq _ hxl]
  have gB:∀ (X:Option Blk) (Y:List Value) L,Heap.get (((h.put bx X).put bb (some ⟨Y,true⟩))++L) bb=some ⟨Y,true⟩:=fun X Y L=>by
   rw[Heap.get_append_lt (by simp; exact hbl),Heap.get_put_eq _ (by simp; exact hbl)]
  have cX0:∀ (X:List Value) (Y:Option Blk) o,Heap.cell ((h.put bx (some ⟨X,true⟩)).put bb Y) bx o=X[o]?:=fun X Y o=>by
   have:=gX X Y []; rw[List.append_nil] at this; rw[cell_get this]
  have cB0:∀ (X:Option Blk) (Y:List Value) o,Heap.cell ((h.put bx X).put bb (some ⟨Y,true⟩)) bb o=Y[o]?:=fun X Y o=>by
   have:=gB X Y []; rw[List.append_nil] at this; rw[cell_get this]
  have pX:∀ (X Y:Option Blk) L Z,Heap.put (((h.put bx X).put bb Y)++L) bx Z=((h.put bx Z).put bb Y)++L:=fun X Y L Z=>by
   unfold Heap.put
   rw[List.set_append_left _ _ (by simp; exact hxl),List.set_comm _ _ hne.symm,List.set_set]
  have pB:∀ (X Y:Option Blk) L Z,Heap.put (((h.put bx X).put bb Y)++L) bb Z=((h.put bx X).put bb Z)++L:=fun X Y L Z=>by
   unfold Heap.put
   rw[List.set_append_left _ _ (by simp; exact hbl),List.set_set]
  have tk:∀ X Y L,List.take h.length (((h.put bx X).put bb Y)++L)=(h.put bx X).put bb Y:=fun X Y L=>by
   rw[List.take_append_of_le_length (by simp),List.take_of_length_le (by simp)]
  have tk0:∀ X Y,List.take h.length ((h.put bx X).put bb Y)=(h.put bx X).put bb Y:=fun X Y=>List.take_of_length_le (by simp)
  have pX0:∀ (X Y:Option Blk) Z,Heap.put ((h.put bx X).put bb Y) bx Z=(h.put bx Z).put bb Y:=fun X Y Z=>by
   have:=pX X Y [] Z; rw[List.append_nil,List.append_nil] at this; exact this
  have pB0:∀ (X Y:Option Blk) Z,Heap.put ((h.put bx X).put bb Y) bb Z=(h.put bx X).put bb Z:=fun X Y Z=>by
   have:=pB X Y [] Z; rw[List.append_nil,List.append_nil] at this; exact this
  have pH:∀ X Y k,Heap.push ((h.put bx X).put bb Y) k=((h.put bx X).put bb Y)++[some k]:=fun X Y k=>rfl
  have s0:=s (some ⟨cI x,true⟩) (some ⟨cN b,true⟩)
  rcases Nat.eq_zero_or_pos l.length with hz | hz
  ·have el:l=[]:=List.eq_nil_of_length_eq_zero hz
   subst el
   rcases s0.low with rfl | ⟨bv,o',m',t',rfl,hbv⟩
   ·simp[ef105,wpC_unroll,wpI_step,E_fuel',St.tidy,relax,relF,lowV,tk0,pX0,pB0,hxl,hbl]
   ·obtain rfl:m'=0:=by
     have:=s0.len
     simpa using this
    have hbv':bv<h.length:=by simpa using hbv
    simp[ef105,wpC_unroll,wpI_step,E_fuel',St.tidy,relax,relF,lowV,tk0,pX0,pB0,hxl,hbl,hbv']
  obtain⟨bv,o',rfl⟩:∃ bv o',v=.slice (some ⟨bv,o',none⟩) l.length 3:=⟨_,_,by have:=s0.addr (by rw[ml]; omega); rw[ml] at this; exact this⟩
  have hbv:bv<h.length:=by have:=s0.lt (by rw[ml]; omega); simpa using this
  simp only[slB_some,slO_some] at r r0
  simp[ef105,r0]
  refine wpC_loop (fun q st=>∃ (i:Nat) (X:List Int) (Bb:List Nat) (lw:Option Nat),q=l.length-i∧i≤l.length∧relF l ⟨x,b,none⟩ i=⟨X,Bb,lw⟩ ∧
   st=⟨[(1,.slice (some ⟨bx,0,none⟩) n 1),(2,.slice (some ⟨bb,0,none⟩) n 1),(7,i6 (lowV lw)),(11,.slice (some ⟨bv,o',none⟩) l.length 3),(12,i6 (l.length:Int)),(13,i6 (i:Int))],(h.put bx (some ⟨cI X,true⟩)).put bb (some ⟨cN Bb,true⟩)⟩) l.length (by show l.length<2 ^ 64; omega) ?_ ?_
  ·simp[St.tidy,hxl,hbl,hbv,r0]
   exact⟨0,by omega,by omega,x,b,none,rfl,⟨rfl,rfl⟩,tk0 _ _⟩
  ·rintro q hq _ ⟨i,X,Bb,lw,rfl,hi,hs,rfl⟩
   obtain⟨o1,o2,o3⟩:=relF_ok G lx lb B i hi
   rw[hs] at o1 o2 o3
   simp only at o1 o2 o3
   have r1:=r (some ⟨cI X,true⟩) (some ⟨cN Bb,true⟩)
   by_cases hlt:i<l.length
   ·have hm:i<(l.map iB).length:=by rw[ml]; exact hlt
    have p1:=cB_part hm
    rw[atB_iB hlt] at p1
    obtain⟨g1,g2,g3,g4⟩:=G.rng i hlt
    have nx:relF l ⟨x,b,none⟩ (i+1)=stepR ⟨X,Bb,lw⟩ i l[i]:=by simp[relF,hs,List.getElem?_eq_getElem hlt]
    unfold stepR at nx
    have w1':=w1n (i:=i) (by omega)
    have k1:i * 3+3≤l.length * 3:=by omega
    have h4:(i:Int)<l.length:=by omega
    have cm:=cB_len (l.map iB)
    rw[ml] at cm
    generalize l[i]=e at *
    obtain⟨f,t,m⟩:=e
    simp only[iB] at p1 nx g1 g2 g3 g4
    have cf:=cI_gx (x:=X) (v:=f) (by omega)
    have ct:=cI_gx (x:=X) (v:=t) (by omega)
    have bf:=o3 f g1
    have bt:=o3 t g2
    have wm:IntKind.wrap .i64 (gx X f+m)=gx X f+m:=by rw[wrap_eq (by omega) (by omega)]
    have cfv:∀ hh,(cI X)[f]'hh=.int .i64 (gx X f):=fun hh=>by have:=List.getElem?_eq_getElem hh; rw[cf] at this; exact (Option.some.inj this).symm
    have ctv:∀ hh,(cI X)[t]'hh=.int .i64 (gx X t):=fun hh=>by have:=List.getElem?_eq_getElem hh; rw[ct] at this; exact (Option.some.inj this).symm
    have f0:(f:Int)<n:=by omega
    have t0:(t:Int)<n:=by omega
    have lX:(cI X).length=n:=by simp[cI,o1]
    have lB:(cN Bb).length=n:=by simp[cN,o2]
    have ka:t+1≤n:=by omega
    have sx:=cI_setx X t (gx X f+m)
    have sb:=cN_set Bb t i
    by_cases q1:gx X f+m<gx X t
    ·rw[if_pos q1] at nx
     simp[hlt,h4,r1,k1,p1,cX0,cB0,cfv,ctv,gX,gB,pX,pB,pX0,pB0,pH,hbv,wm,f0,t0,g1,g2,q1,hxl,hbl,lX,lB,ka,sx,sb,w1',St.tidy,tk,tk0,hne]
     exact⟨.inr rfl,by omega,.inr rfl,l.length-(i+1),by omega,i+1,by omega,by omega,_,_,_,nx,⟨rfl,by omega⟩,rfl⟩
    ·rw[if_neg q1] at nx
     simp[hlt,h4,r1,k1,p1,cX0,cB0,cfv,ctv,gX,gB,pX,pB,pX0,pB0,pH,hbv,wm,f0,t0,g1,g2,q1,hxl,hbl,lX,lB,w1',St.tidy,tk,tk0]
     exact⟨l.length-(i+1),by omega,i+1,by omega,by omega,_,_,_,nx,⟨rfl,by omega⟩,rfl⟩
   ·obtain rfl:i=l.length:=by omega
    have e:relax l x b=⟨X,Bb,lw⟩:=hs
    rw[e]
    simp[r1,tk0,pX0,pB0]
 obtain⟨u,h',e,rfl,rfl⟩:=key
 exact e
end B
end Go.Abs
