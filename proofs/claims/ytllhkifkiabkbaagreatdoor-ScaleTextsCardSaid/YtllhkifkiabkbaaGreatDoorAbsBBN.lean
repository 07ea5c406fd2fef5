--
import Derived.Test.YtllhkifkiabkbaaGreatDoorAbsBBM
import Derived.Test.YtllhkifkiabkbaaGreatDoorAbsBGM
set_option linter.unusedSimpArgs false
set_option linter.unusedVariables false
namespace Go.Abs
namespace B
set_option maxRecDepth 100000
set_option maxHeartbeats 0
theorem mul_400 {a j:Int} (ha:-400≤a∧a≤400) (hj:Dn j):-4800≤a * j∧a * j≤4800:=by
 obtain⟨a1,a2⟩:=ha; obtain⟨j1,j2⟩:=hj
 have h1:=Int.mul_le_mul_of_nonneg_right a1 (show 0≤j by omega)
 have h2:=Int.mul_le_mul_of_nonneg_right a2 (show 0≤j by omega)
 omega
theorem Sm4 {a:Int} (h:-400≤a∧a≤400):Sm a:=⟨by omega,by omega⟩
theorem two_pitch {a b c e f g i j:Int} (h1:isPitch a b c e=true) (h2:isPitch f g i j=true):Two a b c e f g i j:=by
 obtain⟨r1,r2,r3,r4⟩:=isPitch_R h1
 obtain⟨s1,s2,s3,s4⟩:=isPitch_R h2
 have k:∀ {x y:Int},(-400≤x∧x≤400)→(-400≤y∧y≤400)→R2 (x * j-y * e):=fun hx hy=>by
  have:=mul_400 hx s4; have:=mul_400 hy r4; exact⟨by omega,by omega⟩
 exact⟨Sm4 r1,Sm4 r2,Sm4 r3,r4,Sm4 s1,Sm4 s2,Sm4 s3,s4,k r1 s1,k r2 s2,k r3 s3⟩
theorem sp1 (l:List (Option Blk)):SlU (primesB::l) (.slice (some ⟨0,0,none⟩) 3 1) [2,3,5]:=SlU_own (l:=[2,3,5]) (rw:=false) (by simp) (by rfl)
end B
end Go.Abs
namespace Go.Abs
namespace B
set_option maxRecDepth 100000
set_option maxHeartbeats 0
def most (a b c e:Int):Int:=(a.natAbs+2 * b.natAbs+3 * c.natAbs:Int) / e+1
end B
end Go.Abs
namespace Go.Abs
namespace B
set_option maxRecDepth 100000
set_option maxHeartbeats 0
theorem R4_Rb {x:Int} (h:-400≤x∧x≤400):Rb x:=⟨by omega,by omega⟩
theorem Dn_Rb {x:Int} (h:Dn x):Rb x:=⟨by have:=h.1; omega,by have:=h.2; omega⟩
theorem isPitch_mk {a b c e:Int} (ha:-400≤a∧a≤400) (hb:-400≤b∧b≤400) (hc:-400≤c∧c≤400) (he:Dn e):isPitch a b c e=true:=by
 have:=he.1; have:=he.2
 simp[isPitch,within]; omega
theorem isPitch_red {a b c e:Int} (h:isPitch a b c e=true):isPitch (red a b c e a) (red a b c e b) (red a b c e c) (red a b c e e)=true:=by
 obtain⟨r1,r2,r3,r4⟩:=isPitch_R h
 have d:=rG_dvd a b c e
 have hp:=red_pos (R4_Rb r1) (R4_Rb r2) (R4_Rb r3) (Dn_Rb r4) (by omega)
 have l1:=red_le (R4_Rb r1) (R4_Rb r2) (R4_Rb r3) (Dn_Rb r4) (by omega) (R4_Rb r1) d.1 r1
 have l2:=red_le (R4_Rb r1) (R4_Rb r2) (R4_Rb r3) (Dn_Rb r4) (by omega) (R4_Rb r2) d.2.1 r2
 have l3:=red_le (R4_Rb r1) (R4_Rb r2) (R4_Rb r3) (Dn_Rb r4) (by omega) (R4_Rb r3) d.2.2.1 r3
 have l4:=red_le (M:=12) (R4_Rb r1) (R4_Rb r2) (R4_Rb r3) (Dn_Rb r4) (by omega) (Dn_Rb r4) d.2.2.2 (by omega)
 exact isPitch_mk l1 l2 l3 ⟨by omega,by omega⟩
end B
end Go.Abs
namespace Go.Abs
namespace B
set_option maxRecDepth 100000
set_option maxHeartbeats 0
def encP (a b c e:Int) (t n:Nat):Prop:=n ^ e.toNat * numV (-a) (-b) (-c) 3≤t ^ e.toNat * numV a b c 3
def encQ (a b c e:Int) (t n:Nat):Prop:=n ^ e.toNat * numV (-a) (-b) (-c) 3=t ^ e.toNat * numV a b c 3
structure EncS (a b c e:Int) (t L H:Nat):Prop where
 le:L≤1000000000000001
 iff:∀ n,n≤1000000000000001→(encP a b c e t n↔n≤L)
 on:encQ a b c e t L→H=L
 off:¬ encQ a b c e t L→H=L+1
theorem numV_pos (a b c:Int):0<numV a b c 3:=by
 rw[numV_eq]; exact Nat.mul_pos (Nat.mul_pos (Nat.pow_pos (by decide)) (Nat.pow_pos (by decide))) (Nat.pow_pos (by decide))
theorem numV_scale (g:Nat) (a b c:Int):numV (a * g) (b * g) (c * g) 3=(numV a b c 3) ^ g:=by
 have s:∀ x:Int,(x * (g:Int)).toNat=x.toNat * g:=fun x=>by
  rcases Int.le_total 0 x with z | z
  ·obtain⟨k,rfl⟩:∃ k:Nat,x=k:=⟨x.toNat,by omega⟩
   rw[← Int.natCast_mul,Int.toNat_natCast,Int.toNat_natCast]
  ·have h1:x * (g:Int)≤0:=Int.mul_nonpos_of_nonpos_of_nonneg z (by omega)
   have h2:x.toNat=0:=by omega
   rw[h2,Nat.zero_mul]; omega
 rw[numV_eq,numV_eq,s,s,s,Nat.mul_pow,Nat.mul_pow,Nat.pow_mul,Nat.pow_mul,Nat.pow_mul]
theorem toNat_mul {e:Int} (g:Nat) (he:0≤e):(e * (g:Int)).toNat=e.toNat * g:=by
 obtain⟨k,rfl⟩:∃ k:Nat,e=k:=⟨e.toNat,by omega⟩
 rw[← Int.natCast_mul,Int.toNat_natCast,Int.toNat_natCast]
theorem enc_scale {g:Nat} (hg:0<g) {a b c e:Int} (he:0≤e) (t n:Nat):(encP (a * g) (b * g) (c * g) (e * g) t n↔encP a b c e t n)∧(encQ (a * g) (b * g) (c * g) (e * g) t n↔encQ a b c e t n):=by
 have e0:n ^ (e.toNat * g) * (numV (-a) (-b) (-c) 3) ^ g=(n ^ e.toNat * numV (-a) (-b) (-c) 3) ^ g:=by rw[Nat.mul_pow,Nat.pow_mul]
 have e1:t ^ (e.toNat * g) * (numV a b c 3) ^ g=(t ^ e.toNat * numV a b c 3) ^ g:=by rw[Nat.mul_pow,Nat.pow_mul]
 unfold encP encQ
 rw[← Int.neg_mul,← Int.neg_mul,← Int.neg_mul,numV_scale,numV_scale,toNat_mul g he,e0,e1,Nat.pow_le_pow_iff_left (by omega)]
 exact⟨Iff.rfl,⟨fun h=>Nat.le_antisymm ((Nat.pow_le_pow_iff_left (by omega)).1 (Nat.le_of_eq h)) ((Nat.pow_le_pow_iff_left (by omega)).1 (Nat.le_of_eq h.symm)),fun h=>by rw[h]⟩⟩
theorem enc_red {a b c e:Int} (h:isPitch a b c e=true) (t n:Nat):(encP (red a b c e a) (red a b c e b) (red a b c e c) (red a b c e e) t n↔encP a b c e t n)∧(encQ (red a b c e a) (red a b c e b) (red a b c e c) (red a b c e e) t n↔encQ a b c e t n):=by
 obtain⟨r1,r2,r3,r4⟩:=isPitch_R h
 have d:=rG_dvd a b c e
 have e0:0<e:=by omega
 have hp:=red_pos (R4_Rb r1) (R4_Rb r2) (R4_Rb r3) (Dn_Rb r4) e0
 obtain⟨_,m1,_⟩:=red_eq (R4_Rb r1) (R4_Rb r2) (R4_Rb r3) (Dn_Rb r4) e0 (R4_Rb r1) d.1
 obtain⟨_,m2,_⟩:=red_eq (R4_Rb r1) (R4_Rb r2) (R4_Rb r3) (Dn_Rb r4) e0 (R4_Rb r2) d.2.1
 obtain⟨_,m3,_⟩:=red_eq (R4_Rb r1) (R4_Rb r2) (R4_Rb r3) (Dn_Rb r4) e0 (R4_Rb r3) d.2.2.1
 obtain⟨_,m4,_⟩:=red_eq (R4_Rb r1) (R4_Rb r2) (R4_Rb r3) (Dn_Rb r4) e0 (Dn_Rb r4) d.2.2.2
 have s:=enc_scale (a:=red a b c e a) (b:=red a b c e b) (c:=red a b c e c) (e:=red a b c e e) (rG_pos (a:=a) (b:=b) (c:=c) e0) (by omega) t n
 rw[m1,m2,m3,m4] at s
 exact⟨s.1.symm,s.2.symm⟩
theorem encP_mono {a b c e:Int} {t n m:Nat} (h:n≤m) (k:encP a b c e t m):encP a b c e t n :=
 Nat.le_trans (Nat.mul_le_mul_right _ (Nat.pow_le_pow_left h _)) k
theorem exL {P:Nat→Prop} (mono:∀ n m,n≤m→P m→P n) (h0:P 0):∀ M:Nat,∃ L,L≤M∧∀ n,n≤M→(P n↔n≤L)
 | 0=>⟨0,by omega,fun n hn=>by
   have:n=0:=by omega
   subst this
   exact⟨fun _=>by omega,fun _=>h0⟩⟩
 | M+1=>by
  obtain⟨L,l1,l2⟩:=exL mono h0 M
  by_cases q:P (M+1)
  ·exact⟨M+1,by omega,fun n hn=>⟨fun _=>hn,fun _=>mono _ _ hn q⟩⟩
  ·refine⟨L,by omega,fun n hn=>?_⟩
   by_cases e:n=M+1
   ·subst e; exact⟨fun h=>absurd h q,fun h=>by omega⟩
   ·exact l2 n (by omega)
theorem encS (a b c e:Int) (he:1≤e) (t:Nat):∃ L H,EncS a b c e t L H:=by
 obtain⟨L,l1,l2⟩:=exL (P:=encP a b c e t) (fun n m h k=>encP_mono h k) (by unfold encP; rw[Nat.zero_pow (by omega),Nat.zero_mul]; omega) 1000000000000001
 by_cases q:encQ a b c e t L
 ·exact⟨L,L,l1,l2,fun _=>rfl,fun h=>absurd q h⟩
 ·exact⟨L,L+1,l1,l2,fun h=>absurd h q,fun _=>rfl⟩
theorem c155n {l:List Nat} {b n c:Nat} (hl:Num l c) (h0:0<b) (hb:b<18446744073709551616) (hn:0<n) (hs:l.length+n<100000) :
  ∃ P,Num P (c * b ^ n)∧P.length≤l.length+n∧∀ (d lim:Nat) (h:Heap) (v:Value),SlU h v l →
   E.call (d+3) lim 155 [.int .u64 (b:Int),i64 n,v] h=some (.slice (some ⟨h.length,0,none⟩) P.length 1,h++[some ⟨cU P,true⟩]):=by
 obtain⟨g1,g2⟩:=powF_num h0 hb n n (Nat.le_refl _) hl
 exact⟨_,g1,g2,fun d lim h v s=>c155 s hl.dig h0 hb hn hs⟩
theorem c156 {d lim:Nat} {h:Heap} {A:Option Blk} {L:List (Option Blk)} {x y z w:Int} {NL DL:List Nat} {N D n:Nat} (hN:Num NL N) (hD:Num DL D) (lN:NL.length<90000) (lD:DL.length<90000) (hn:0<n) (hn2:n<18446744073709551616) (hw:1≤w∧w≤12) :
  E.call (d+4) lim 156 [i64 n,.pointer (some ⟨h.length+1,0,none⟩),.pointer (some ⟨h.length+2,0,none⟩)]
   (h++A::some ⟨[i64 x,i64 y,i64 z,i64 w],true⟩::some ⟨[.slice (some ⟨h.length+3,0,none⟩) NL.length 1,.slice (some ⟨h.length+4,0,none⟩) DL.length 1],true⟩::some ⟨cU NL,true⟩::some ⟨cU DL,true⟩::L) =
  some (i64 (cmpN (n ^ w.toNat * D) N),h++A::some ⟨[i64 x,i64 y,i64 z,i64 w],true⟩::some ⟨[.slice (some ⟨h.length+3,0,none⟩) NL.length 1,.slice (some ⟨h.length+4,0,none⟩) DL.length 1],true⟩::some ⟨cU NL,true⟩::some ⟨cU DL,true⟩::L):=by
 obtain⟨P,p1,p2,p3⟩:=c155n (n:=w.toNat) hD hn hn2 (by omega) (by omega)
 have hw':((w.toNat:Nat):Int)=w:=by omega
 rw[hw'] at p3
 have hc:cmpL P NL=cmpN (n ^ w.toNat * D) N:=by
  rw[cmpL_val (B:=18446744073709551616) (by decide) p1.dig hN.dig p1.top hN.top,p1.val,hN.val,Nat.mul_comm D]
 generalize hH:(h++A::some ⟨[i64 x,i64 y,i64 z,i64 w],true⟩::some ⟨[.slice (some ⟨h.length+3,0,none⟩) NL.length 1,.slice (some ⟨h.length+4,0,none⟩) DL.length 1],true⟩::some ⟨cU NL,true⟩::some ⟨cU DL,true⟩::L:Heap)=H
 have g1:H.get (h.length+1)=some ⟨[i64 x,i64 y,i64 z,i64 w],true⟩:=by rw[← hH,hget_base rfl]; rfl
 have g2:H.get (h.length+2)=some ⟨[.slice (some ⟨h.length+3,0,none⟩) NL.length 1,.slice (some ⟨h.length+4,0,none⟩) DL.length 1],true⟩:=by rw[← hH,hget_base rfl]; rfl
 have g3:H.get (h.length+3)=some ⟨cU NL,true⟩:=by rw[← hH,hget_base rfl]; rfl
 have g4:H.get (h.length+4)=some ⟨cU DL,true⟩:=by rw[← hH,hget_base rfl]; rfl
 have s1:SlU H.freeze (.slice (some ⟨h.length+4,0,none⟩) DL.length 1) DL:=Sl_freeze.2 (SlU_own (rw:=true) (Heap.get_lt g4) g4)
 have s1':SlU H.freeze.freeze (.slice (some ⟨h.length+4,0,none⟩) DL.length 1) DL:=Sl_freeze.2 s1
 have s2:SlU (H.freeze++[some ⟨cU P,true⟩]) (.slice (some ⟨h.length+3,0,none⟩) NL.length 1) NL:=(Sl_freeze.2 (SlU_own (rw:=true) (Heap.get_lt g3) g3)).app _
 have s3:SlU (H.freeze++[some ⟨cU P,true⟩]) (.slice (some ⟨H.length,0,none⟩) P.length 1) P:=SlU_own (rw:=true) (by simp) (by rw[hget_base0 (by simp)]; rfl)
 have q81:=fun lim=>p3 d lim _ _ s1'
 have q83:=fun lim=>c157 (d:=d+2) (lim:=lim) s3 s2 (by omega) (by omega)
 rw[hc] at q83
 have k1:=cell_get (o:=3) g1
 have k2:=cell_get (o:=0) g2
 have k3:=cell_get (o:=1) g2
 have l1:=Heap.get_lt g1
 have l2:=Heap.get_lt g2
 refine call1 fn156 rfl (by simp[ef156]) ?_
 simp only[Heap.length_freeze] at q81
 simp[ef156,k1,k2,k3,l1,l2,wrapUn hn2,q81,q83]
end B
end Go.Abs
namespace Go.Abs
namespace B
set_option maxRecDepth 100000
set_option maxHeartbeats 0
theorem midN {l u:Nat} (h:l<u) (hu:u≤1000000000000001):IntKind.wrap .i64 ((u:Int)-IntKind.wrap .i64 (qdiv (IntKind.wrap .i64 ((u:Int)-l)) 2))=((u-(u-l) / 2:Nat):Int):=by
 have:qdiv ((u:Int)-l) 2=((u:Int)-l) / 2:=by unfold qdiv; rw[Int.tdiv_eq_ediv_of_nonneg (by omega)]
 rw[wrap_eq (n:=(u:Int)-l) (by omega) (by omega),this,wrap_eq (n:=((u:Int)-l) / 2) (by omega) (by omega),wrap_eq (by omega) (by omega)]
 omega
theorem c109 {d lim:Nat} {h:Heap} {a b c e:Int} {t L H:Nat} (sp:SlU h (.slice (some ⟨0,0,none⟩) 3 1) [2,3,5]) (h1:isPitch a b c e=true) (ht:1≤t∧t≤1000000000) (S:EncS a b c e t L H) :
  E.call (d+5) lim 109 [pt a b c e,i64 t] h=some (rge (smallL L H) (smallH L H) (smallE L H),h):=by
 obtain⟨r1,r2,r3,r4⟩:=isPitch_R h1
 have vr:=isPitch_red h1
 have er:=enc_red h1 t
 have k78:=fun lim hh=>c153 (d:=d+2) (lim:=lim) (h:=hh) (a:=a) (b:=b) (c:=c) (e:=e) (R64s r1) (R64s r2) (R64s r3) ⟨by omega,by omega⟩ (by omega)
 simp only[redV] at k78
 generalize red a b c e a=x at *
 generalize red a b c e b=y at *
 generalize red a b c e c=z at *
 generalize red a b c e e=w at *
 obtain⟨x1,x2,x3,x4⟩:=isPitch_R vr
 have R:∀ {q:Int},-400≤q∧q≤400→R2 q:=fun hq=>⟨by omega,by omega⟩
 have k79:=fun lim L=>c154' (d:=d) (lim:=lim) (h:=h.freeze++L) ((Sl_freeze.2 sp).app L) (R x1) (R x2) (R x3)
 have sN:=numD_spec (a:=x) (b:=y) (c:=z) (by omega) (by omega) (by omega) 3
 have sD:=numD_spec (a:=-x) (b:=-y) (c:=-z) (by omega) (by omega) (by omega) 3
 simp only[encP,encQ] at er
 generalize numV x y z 3=N at *
 generalize numV (-x) (-y) (-z) 3=D at *
 generalize numD x y z 3=NL at *
 generalize numD (-x) (-y) (-z) 3=DL at *
 obtain⟨P,p1,p2,p3⟩:=c155n (l:=NL) (c:=N) (b:=t) (n:=w.toNat) sN.1 (by omega) (by omega) (by omega) (by omega)
 have hw':((w.toNat:Nat):Int)=w:=by omega
 rw[hw'] at p3
 have k82:=fun (n lim:Nat) (A:Option Blk) (L':List (Option Blk)) (hn:0<n) (hn2:n<18446744073709551616)=>c156 (d:=d) (lim:=lim) (h:=h.freeze) (A:=A) (L:=L') (x:=x) (y:=y) (z:=z) (w:=w) (n:=n) p1 sD.1 (by omega) (by omega) hn hn2 (by omega)
 simp only[Heap.length_freeze] at k82
 have cmp1:∀ n,cmpN (n ^ w.toNat * D) (N * t ^ w.toNat)≤0↔encP a b c e t n:=fun n=>by
  rw[cmpN_nonpos,Nat.mul_comm N]; exact (er n).1
 have cmp2:∀ n,cmpN (n ^ w.toNat * D) (N * t ^ w.toNat)=0↔encQ a b c e t n:=fun n=>by
  rw[cmpN_zero,Nat.mul_comm N]; exact (er n).2
 have bt:within (t:Int) 1 1000000000=true:=by simp[within]; omega
 have q81:∀ (lim:Nat) (A0 A1 A2:Option Blk) ,E.call (d+4) lim 155 [.int .u64 (t:Int),i64 w,.slice (some ⟨h.length+2,0,none⟩) NL.length 1] (h.freeze++[A0,A1,some ⟨cU NL,true⟩,A2,some ⟨[.slice (some ⟨h.length+2,0,none⟩) NL.length 1,.slice (some ⟨h.length+3,0,none⟩) DL.length 1],true⟩]) =
   some (.slice (some ⟨h.length+5,0,none⟩) P.length 1,h.freeze++[A0,A1,some ⟨cU NL,true⟩,A2,some ⟨[.slice (some ⟨h.length+2,0,none⟩) NL.length 1,.slice (some ⟨h.length+3,0,none⟩) DL.length 1],true⟩,some ⟨cU P,true⟩]):=fun lim A0 A1 A2=>by
  have:=p3 (d+1) lim (h.freeze++[A0,A1,some ⟨cU NL,true⟩,A2,some ⟨[.slice (some ⟨h.length+2,0,none⟩) NL.length 1,.slice (some ⟨h.length+3,0,none⟩) DL.length 1],true⟩]) (.slice (some ⟨h.length+2,0,none⟩) NL.length 1) (SlU_own (rw:=true) (by simp) (by rw[hget_base (by simp)]; rfl))
  simpa using this
 have wt:=wrapUn (n:=t) (by omega)
 refine call1 fn109 rfl (by simp[ef109]) ?_
 simp[ef109,c108,check0.2 h1,c151,bt,k78,c152,k79,wt,q81]
 refine wpC_loop (fun q st=>∃ l u:Nat,q=u-l∧l≤L∧L≤u∧u≤1000000000000001 ∧
  st=⟨[(4,.pointer (some ⟨h.length,0,none⟩)),(8,.func (.func 156) #[] #[.pointer (some ⟨h.length+1,0,none⟩),.pointer (some ⟨h.length+2,0,none⟩)]),(9,i64 l),(10,i64 u)],
   h.freeze++[some ⟨[i64 0,i64 0],true⟩,some ⟨[i64 x,i64 y,i64 z,i64 w],true⟩,some ⟨[.slice (some ⟨h.length+3,0,none⟩) P.length 1,.slice (some ⟨h.length+4,0,none⟩) DL.length 1],true⟩,some ⟨cU P,true⟩,some ⟨cU DL,true⟩]⟩) 1000000000000001 (by show 1000000000000001<2 ^ 64; decide) ?_ ?_
 ·simp[St.tidy]
  exact⟨0,1000000000000001,by omega,by omega,S.le,by omega,rfl,rfl⟩
 ·rintro q hq _ ⟨l,u,rfl,hl,hu,hu2,rfl⟩
  by_cases hlt:l<u
  ·have hm:=midN hlt hu2
   have hm1:l<u-(u-l) / 2∧u-(u-l) / 2≤u:=by omega
   generalize u-(u-l) / 2=m at *
   have k3:=fun lim A L'=>k82 m lim A L' (by omega) (by omega)
   have hS:=S.iff m (by omega)
   have hc:=cmp1 m
   by_cases hs:encP a b c e t m
   ·have:=hS.1 hs
    have hc':=hc.2 hs
    simp[hlt,hm,k3,hc',St.tidy]
    exact⟨u-m,by omega,m,u,by omega,by omega,hu,by omega,rfl,rfl⟩
   ·have:¬ m≤L:=fun z=>hs (hS.2 z)
    have hc':¬ cmpN (m ^ w.toNat * D) (N * t ^ w.toNat)≤0:=fun z=>hs (hc.1 z)
    have wm:IntKind.wrap .i64 ((m:Int)-1)=((m-1:Nat):Int):=by rw[wrap_eq (by omega) (by omega)]; omega
    simp[hlt,hm,k3,hc',wm,St.tidy]
    exact⟨m-1-l,by omega,l,m-1,by omega,hl,by omega,by omega,rfl,rfl⟩
  ·have e1:l=L:=by omega
   subst e1
   have wl:IntKind.wrap .i64 ((l:Int)+1)=((l+1:Nat):Int):=by rw[wrap_eq (by omega) (by omega)]; omega
   by_cases l0:l=0
   ·subst l0
    have hq:¬ encQ a b c e t 0:=by
     unfold encQ; rw[Nat.zero_pow (by omega),Nat.zero_mul]
     have:=Nat.mul_pos (Nat.pow_pos (n:=e.toNat) (show 0<t by omega)) (numV_pos a b c)
     omega
    have:=S.off hq
    subst this
    simp[hlt,c158]
   ·have l0':0<l:=by omega
    have k3:=fun lim A L'=>k82 l lim A L' l0' (by omega)
    by_cases hs:encQ a b c e t l
    ·have:=S.on hs
     subst this
     have hc':=(cmp2 H).2 hs
     simp[hlt,l0,k3,hc',c158]
    ·have:=S.off hs
     subst this
     have hc':¬ cmpN (l ^ w.toNat * D) (N * t ^ w.toNat)=0:=fun z=>hs ((cmp2 l).1 z)
     simp[hlt,l0,k3,hc',wl,c158]
end B
end Go.Abs
namespace Go.Abs
namespace B
set_option maxRecDepth 100000
set_option maxHeartbeats 0
theorem SlW_nil {h:Heap}:SlW h (.slice none 0 0) (dgs 0):=⟨rfl,rfl,fun z=>absurd rfl z,.inl rfl,fun k hk=>by simp[dgs_zero] at hk⟩
theorem pow_bd {X L m K:Nat} (hX:X<10000 ^ L) (hm:m≤K):X ^ m<10000 ^ (L * K+1):=by
 have h1:X ^ m≤(10000 ^ L) ^ m:=Nat.pow_le_pow_left (by omega) m
 rw[← Nat.pow_mul] at h1
 have h2:10000 ^ (L * m)≤10000 ^ (L * K):=Nat.pow_le_pow_right (by decide) (Nat.mul_le_mul_left _ hm)
 have h3:10000 ^ (L * K)<10000 ^ (L * K+1):=Nat.pow_lt_pow_right (by decide) (by omega)
 omega
theorem mul_bd {x y k l:Nat} (hx:x<10000 ^ k) (hy:y<10000 ^ l):x * y<10000 ^ (k+l):=by
 rw[Nat.pow_add]; exact Nat.mul_lt_mul'' hx hy
theorem hget4 {h:Heap} {A B C D:Option Blk} {l:List (Option Blk)} {n:Nat} (e:n=h.length):Heap.get (h++A::B::C::D::l) (n+2)=C∧Heap.get (h++A::B::C::D::l) (n+3)=D:=by
 rw[hget_base e,hget_base e]; exact⟨rfl,rfl⟩
theorem hget_end {h l:Heap} {b:Option Blk} {n:Nat} (e:n=(h++l).length):Heap.get (h++(l++[b])) n=b:=by
 rw[← List.append_assoc,hget_base0 e]; rfl
theorem against {d lim:Nat} {h:Heap} {A B:Option Blk} {M D y z n:Nat} {e:Int} (hn:n≤1000000000000001) (he:1≤e∧e≤12) {k:Nat} (hk:k≤70000) (hD:D<10000 ^ k) (hM:(dgs M).length≤70000) :
  ∃ v b1 v2 b2 v3 b3,E.call (d+3) lim 119 [i64 n] (Heap.freeze (h.freeze++[A,B,bW M y,bW D z]))=some (v,Heap.freeze (h.freeze++[A,B,bW M y,bW D z])++b1) ∧
   E.call (d+3) lim 118 [v,i64 e] (h.freeze++(A::B::bW M y::bW D z::b1))=some (v2,h.freeze++(A::B::bW M y::bW D z::(b1++b2))) ∧
   E.call (d+3) lim 117 [v2,sW (h.length+3) D] (h.freeze++(A::B::bW M y::bW D z::(b1++b2)))=some (v3,h.freeze++(A::B::bW M y::bW D z::(b1++(b2++b3)))) ∧
   E.call (d+3) lim 120 [v3,sW (h.length+2) M] (h.freeze++(A::B::bW M y::bW D z::(b1++(b2++b3))))=some (i64 (cmpN (n ^ e.toNat * D) M),h.freeze++(A::B::bW M y::bW D z::(b1++(b2++b3)))):=by
 have hw:((e.toNat:Nat):Int)=e:=by omega
 have hX:n<10000 ^ 4:=Nat.lt_of_le_of_lt hn (by decide)
 obtain⟨v,b1,k1,s1⟩:∃ v b1,E.call (d+3) lim 119 [i64 n] (Heap.freeze (h.freeze++[A,B,bW M y,bW D z]))=some (v,Heap.freeze (h.freeze++[A,B,bW M y,bW D z])++b1)∧SlW (h.freeze++(A::B::bW M y::bW D z::b1)) v (dgs n):=by
  by_cases n0:n=0
  ·subst n0
   exact⟨_,[],by rw[List.append_nil]; exact c119z (d:=d+2),SlW_nil⟩
  ·refine⟨_,[bW n 0],c119d (d:=d+2) (by omega) (by omega),SlW_bW (z:=0) (by simp) ?_⟩
   simp only[Heap.length_freeze,List.length_append,List.length_cons,List.length_nil]
   rw[hget_base (by simp)]; rfl
 have p1:=pow_len (m:=e.toNat) (K:=12) hX (by omega)
 have b2:=pow_bd (m:=e.toNat) (K:=12) hX (by omega)
 have b3:=mul_bd b2 hD
 have lD:=dgs_len hD
 have l3:=dgs_len b3
 obtain⟨w,k2⟩:=c118 (d:=d+1) (lim:=lim) (K:=e.toNat) (L:=4) s1 hX (by omega) (by omega)
 rw[hw] at k2
 generalize hH1:(A::B::bW M y::bW D z::b1)=H1 at k2 s1
 have s2:SlW (h.freeze++(H1++[bW (n ^ e.toNat) w])) (sW (h.freeze++H1).length (n ^ e.toNat)) (dgs (n ^ e.toNat)):=SlW_bW (z:=w) (by simp) (hget_end rfl)
 have s3:SlW (h.freeze++(H1++[bW (n ^ e.toNat) w])) (sW (h.length+3) D) (dgs D):=by
  rw[← hH1]
  exact SlW_bW (z:=z) (by simp) (hget4 (by simp)).2
 obtain⟨u,k3⟩:=c117d (d:=d+2) (lim:=lim) s2 s3 (by omega)
 generalize hH2:H1++[bW (n ^ e.toNat) w]=H2 at k3 s2 s3
 have s4:SlW (h.freeze++(H2++[bW (n ^ e.toNat * D) u])) (sW (h.freeze++H2).length (n ^ e.toNat * D)) (dgs (n ^ e.toNat * D)):=SlW_bW (z:=u) (by simp) (hget_end rfl)
 have s5:SlW (h.freeze++(H2++[bW (n ^ e.toNat * D) u])) (sW (h.length+2) M) (dgs M):=by
  rw[← hH2,← hH1]
  exact SlW_bW (z:=y) (by simp) (hget4 (by simp)).1
 have k4:=c120 (d:=d+2) (lim:=lim) s4 s5 (by omega) (by omega)
 rw[cmpL_val (B:=10000) (by decide) (dgs_dig _) (dgs_dig _) (dgs_topped _) (dgs_topped _),dgs_val,dgs_val] at k4
 refine⟨v,b1,sW (h.freeze++H1).length (n ^ e.toNat),[bW (n ^ e.toNat) w],sW (h.freeze++H2).length (n ^ e.toNat * D),[bW (n ^ e.toNat * D) u],k1,?_,?_,?_⟩
 ·rw[hH1,k2,← hH1]; simp
 ·have:A::B::bW M y::bW D z::(b1++[bW (n ^ e.toNat) w])=H2:=by rw[← hH2,← hH1]; simp
  rw[this,k3]
  have:A::B::bW M y::bW D z::(b1++([bW (n ^ e.toNat) w]++[bW (n ^ e.toNat * D) u]))=H2++[bW (n ^ e.toNat * D) u]:=by rw[← hH2,← hH1]; simp
  rw[this,List.append_assoc]
 ·have:A::B::bW M y::bW D z::(b1++([bW (n ^ e.toNat) w]++[bW (n ^ e.toNat * D) u]))=H2++[bW (n ^ e.toNat * D) u]:=by rw[← hH2,← hH1]; simp
  rw[this]; exact k4
theorem numV_b {a b c:Int} (ha:-400≤a∧a≤400) (hb:-400≤b∧b≤400) (hc:-400≤c∧c≤400):∃ k,k≤2000∧numV a b c 3<10000 ^ k∧numV (-a) (-b) (-c) 3<10000 ^ k:=by
 obtain⟨K,hK⟩:∃ K:Nat,K=400:=⟨_,rfl⟩
 exact⟨K * 3+1,by omega,numV_lt (K:=K) (a:=a) (b:=b) (c:=c) (by omega) (by omega) (by omega) 3,numV_lt (K:=K) (a:=-a) (b:=-b) (c:=-c) (by omega) (by omega) (by omega) 3⟩
theorem c77 {d lim:Nat} {h:Heap} {a b c e:Int} {t L H:Nat} (h1:isPitch a b c e=true) (ht:1≤t∧t≤1000000000) (S:EncS a b c e t L H) :
  E.call (d+4) lim 77 [pt a b c e,i64 t] h=some (rge (if H≤1000000000000000 then (L:Int) else 0) (if H≤1000000000000000 then (H:Int) else 0) (if H≤1000000000000000 then 0 else 8),h):=by
 obtain⟨r1,r2,r3,r4⟩:=isPitch_R h1
 have R:∀ {q:Int},-400≤q∧q≤400→R2 q:=fun hq=>⟨by omega,by omega⟩
 obtain⟨y,z,k86⟩:=c116 (d:=d) (lim:=h.length) (h:=h.freeze++[some ⟨[i64 a,i64 b,i64 c,i64 e],true⟩,some ⟨[i64 0,i64 0],true⟩]) (R r1) (R r2) (R r3)
 obtain⟨k,hk,bN,bD⟩:=numV_b r1 r2 r3
 have S':=S
 have he:((e.toNat:Nat):Int)=e:=by omega
 have hX:t<10000 ^ 3:=Nat.lt_of_le_of_lt ht.2 (by decide)
 have pl:=pow_len (m:=e.toNat) (K:=12) hX (by omega)
 have pb:=pow_bd (m:=e.toNat) (K:=12) hX (by omega)
 have lN:=dgs_len bN
 have lD:=dgs_len bD
 have lM:=dgs_len (mul_bd bN pb)
 have cmp1:∀ n,cmpN (n ^ e.toNat * numV (-a) (-b) (-c) 3) (numV a b c 3 * t ^ e.toNat)≤0↔encP a b c e t n:=fun n=>by
  rw[cmpN_nonpos,Nat.mul_comm (numV a b c 3)]; exact Iff.rfl
 have cmp2:∀ n,cmpN (n ^ e.toNat * numV (-a) (-b) (-c) 3) (numV a b c 3 * t ^ e.toNat)=0↔encQ a b c e t n:=fun n=>by
  rw[cmpN_zero,Nat.mul_comm (numV a b c 3)]; exact Iff.rfl
 generalize numV a b c 3=N at *
 generalize numV (-a) (-b) (-c) 3=D at *
 simp only[List.length_append,Heap.length_freeze,List.length_cons,List.length_nil,List.append_assoc,List.cons_append,List.nil_append,Nat.add_assoc,Nat.reduceAdd] at k86
 have k89:=fun lim hh=>c119d (d:=d+2) (lim:=lim) (h:=hh) (n:=t) (by omega) (by omega)
 obtain⟨z1,k88⟩:=c118 (d:=d+1) (lim:=h.length) (h:=h.freeze++[some ⟨[i64 a,i64 b,i64 c,i64 e],true⟩,some ⟨[i64 0,i64 0],true⟩,bW N y,bW D z,bW t 0]) (v:=sW (h.length+4) t) (X:=t) (K:=e.toNat) (L:=3) (SlW_bW (z:=0) (by simp) (by rw[hget_base (by simp)]; rfl)) hX (by omega) (by omega)
 obtain⟨z2,k87⟩:=c117d (d:=d+2) (lim:=h.length) (h:=h.freeze++[some ⟨[i64 a,i64 b,i64 c,i64 e],true⟩,some ⟨[i64 0,i64 0],true⟩,bW N y,bW D z,bW t 0,bW (t ^ e.toNat) z1]) (v:=sW (h.length+2) N) (w:=sW (h.length+5) (t ^ e.toNat)) (A:=N) (B:=t ^ e.toNat)
  (SlW_bW (z:=y) (by simp) (by rw[hget_base (by simp)]; rfl)) (SlW_bW (z:=z1) (by simp) (by rw[hget_base (by simp)]; rfl)) (by omega)
 rw[he] at k88
 simp only[List.length_append,Heap.length_freeze,List.length_cons,List.length_nil,List.append_assoc,List.cons_append,List.nil_append] at k87 k88
 generalize N * t ^ e.toNat=M at *
 have ag:=fun n hn=>against (d:=d) (lim:=h.length) (h:=h) (A:=some ⟨[i64 a,i64 b,i64 c,i64 e],true⟩) (B:=some ⟨[i64 0,i64 0],true⟩) (M:=M) (D:=D) (y:=z2) (z:=z) (n:=n) (e:=e) (k:=k) hn (by omega) (by omega) bD (by omega)
 refine call1 fn77 rfl (by simp[ef77]) ?_
 simp[ef77,k86,k89,k88,k87]
 refine wpC_loop (fun q st=>∃ l u:Nat,q=u-l∧l≤L∧L≤u∧u≤1000000000000001 ∧
  st=⟨[(2,.pointer (some ⟨h.length,0,none⟩)),(4,.pointer (some ⟨h.length+1,0,none⟩)),(6,sW (h.length+2) M),(7,sW (h.length+3) D),(8,i64 l),(9,i64 u)],
   h.freeze++[some ⟨[i64 a,i64 b,i64 c,i64 e],true⟩,some ⟨[i64 0,i64 0],true⟩,bW M z2,bW D z]⟩) 1000000000000001 (by show 1000000000000001<2 ^ 64; decide) ?_ ?_
 ·simp[St.tidy]
  exact⟨0,1000000000000001,by omega,by omega,S.le,by omega,rfl,rfl⟩
 ·rintro q hq _ ⟨l,u,rfl,hl,hu,hu2,rfl⟩
  by_cases hlt:l<u
  ·have hm:=midN hlt hu2
   have hm1:l<u-(u-l) / 2∧u-(u-l) / 2≤u:=by omega
   generalize u-(u-l) / 2=m at *
   obtain⟨v,b1,v2,b2,v3,b3,a1,a2,a3,a4⟩:=ag m (by omega)
   have hS:=S.iff m (by omega)
   have hc:=cmp1 m
   by_cases hs:encP a b c e t m
   ·have:=hS.1 hs
    have hc':=hc.2 hs
    simp[hlt,hm,a1,a2,a3,a4,hc',St.tidy]
    exact⟨u-m,by omega,m,u,by omega,by omega,hu,by omega,rfl,rfl⟩
   ·have:¬ m≤L:=fun z=>hs (hS.2 z)
    have hc':¬ cmpN (m ^ e.toNat * D) M≤0:=fun z=>hs (hc.1 z)
    have wm:IntKind.wrap .i64 ((m:Int)-1)=((m-1:Nat):Int):=by rw[wrap_eq (by omega) (by omega)]; omega
    simp[hlt,hm,a1,a2,a3,a4,hc',wm,St.tidy]
    exact⟨m-1-l,by omega,l,m-1,by omega,hl,by omega,by omega,rfl,rfl⟩
  ·have e1:l=L:=by omega
   subst e1
   obtain⟨v,b1,v2,b2,v3,b3,a1,a2,a3,a4⟩:=ag l (by omega)
   have wl:IntKind.wrap .i64 ((l:Int)+1)=((l+1:Nat):Int):=by rw[wrap_eq (by omega) (by omega)]; omega
   by_cases hs:encQ a b c e t l
   ·have:=S.on hs
    subst this
    have hc':=(cmp2 H).2 hs
    by_cases hH:H≤1000000000000000
    ·have h3:¬ (1000000000000000:Int)<H:=by omega
     simp[hlt,a1,a2,a3,a4,hc',hH,h3]
    ·have h3:(1000000000000000:Int)<H:=by omega
     simp[hlt,a1,a2,a3,a4,hc',hH,h3]
   ·have:=S.off hs
    subst this
    have hc':¬ cmpN (l ^ e.toNat * D) M=0:=fun z=>hs ((cmp2 l).1 z)
    by_cases hH:l+1≤1000000000000000
    ·have h3:¬ (1000000000000000:Int)<(l:Int)+1:=by omega
     simp[hlt,a1,a2,a3,a4,hc',hH,h3,wl]
    ·have h3:(1000000000000000:Int)<(l:Int)+1:=by omega
     simp[hlt,a1,a2,a3,a4,hc',hH,h3,wl]
end B
end Go.Abs
namespace Go.Abs
namespace B
set_option maxRecDepth 100000
set_option maxHeartbeats 0
theorem EncS.lt {a b c e:Int} {t L H:Nat} (S:EncS a b c e t L H):L≤H∧H≤L+1:=by
 by_cases q:encQ a b c e t L
 ·have:=S.on q; omega
 ·have:=S.off q; omega
theorem small_eq {L H:Nat} (h:L≤H):smallL L H=(if H≤1000000000000000 then (L:Int) else 0)∧smallH L H=(if H≤1000000000000000 then (H:Int) else 0)∧smallE L H=(if H≤1000000000000000 then 0 else 8):=by
 have:checkRange L H=0↔H≤1000000000000000:=by
  unfold checkRange within
  by_cases q:H≤1000000000000000
  ·have h1:¬ (H:Int)<L:=by omega
   simp[q,h1]; omega
  ·have h2:¬ (H:Int)≤1000000000000000:=by omega
   simp[q,h2]
 unfold smallL smallH smallE
 simp only[this,and_self]
end B
end Go.Abs
