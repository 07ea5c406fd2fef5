--
import Derived.Test.YtllhkifkiabkbaaGreatDoorAbsBVA
import Derived.Test.YtllhkifkiabkbaaGreatDoorAbsDecN
import Derived.Test.YtllhkifkiabkbaaGreatDoorAbsBVB
set_option linter.unusedSimpArgs false
set_option linter.unusedVariables false
namespace Go.Abs
namespace B.T.U
set_option maxRecDepth 100000
set_option maxHeartbeats 0
def z3:S3:=(0,[],[])
def rdS (R:List UInt8→Int × Bool):List (List UInt8)→S3→Nat→S3 × Nat × Int
 | [],s,_=>(s,0,0)
 | [w],s,k=>if w=[]∧0<k then (s,0,0) else (z3,k+1,7)
 | w::x::r,s,k=>match stp R s (cutB 32 w) k with
  | some s'=>rdS R (x::r) s' (k+1)
  | none=>(z3,k+1,7)
theorem rdS_full {R:List UInt8→Int × Bool} {w:List UInt8} {ws:List (List UInt8)} {s:S3} {k:Nat} (h:ws≠[]):rdS R (w::ws) s k=match stp R s (cutB 32 w) k with
  | some s'=>rdS R ws s' (k+1)
  | none=>(z3,k+1,7):=by
 rcases ws with _ | ⟨x,r⟩
 ·exact absurd rfl h
 ·rfl
theorem nmA_same (ws:List (List UInt8)):nmA (whl 9) ws=nmA (rdn 9) ws:=by
 have e1:ws.all (fun w=>(whl 9 w).2)=ws.all (fun w=>(rdn 9 w).2):=by
  congr 1
  funext w
  rcases whl_rdn (d:=9) (s:=w) (by decide) (by decide) with ⟨n,_,a,b⟩ | ⟨_,a,b⟩ <;> rw[a,b]
 unfold nmA nmW
 rw[e1]
 by_cases h:ws.all (fun w=>(rdn 9 w).2)=true
 ·rw[if_pos h,if_pos h]
  congr 1
  apply List.map_congr_left
  intro w hw
  have:=List.all_eq_true.1 h w hw
  rcases whl_rdn (d:=9) (s:=w) (by decide) (by decide) with ⟨n,_,a,b⟩ | ⟨_,a,b⟩
  ·rw[a,b]
  ·rw[b] at this; cases this
 ·rw[if_neg h,if_neg h]
theorem stp_same (s:S3) (W:List (List UInt8)) (k:Nat):stp (whl 9) s W k=stp (rdn 9) s W k:=by
 unfold stp
 rw[nmA_same,nmA_same]
 rcases whl_rdn (d:=9) (s:=wdA W 1) (by decide) (by decide) with ⟨n,_,a,b⟩ | ⟨_,a,b⟩
 ·rw[a,b]
 ·rw[a,b]
  rw[if_neg (show ¬ (W.length=2∧wdA W 0=wFork∧false=true) from fun q=>by cases q.2.2),if_neg (show ¬ (W.length=2∧wdA W 0=wFork∧false=true) from fun q=>by cases q.2.2)]
theorem rdS_same:∀ (ws:List (List UInt8)) (s:S3) (k:Nat),rdS (whl 9) ws s k=rdS (rdn 9) ws s k
 | [],_,_=>rfl
 | [w],_,_=>rfl
 | w::x::r,s,k=>by
  rw[rdS_full (w:=w) (ws:=x::r) (by simp),rdS_full (R:=rdn 9) (w:=w) (ws:=x::r) (by simp),stp_same]
  rcases stp (rdn 9) s (cutB 32 w) k with _ | s'
  ·rfl
  ·exact rdS_same (x::r) s' (k+1)
theorem rs_line {R:List UInt8→Int × Bool} {a b:List UInt8} {s:S3} {k:Nat} (h:(10:UInt8) ∉ a):rdS R (cutB 10 (a++10::b)) s k=match stp R s (cutB 32 a) k with
  | some s'=>rdS R (cutB 10 b) s' (k+1)
  | none=>(z3,k+1,7):=by
 rw[cutB_at h,rdS_full (cutB_ne 10 b)]
theorem rs_rest {R:List UInt8→Int × Bool} {a:List UInt8} {s:S3} {k:Nat} (h:(10:UInt8) ∉ a) (h0:a≠[]):rdS R (cutB 10 a) s k=(z3,k+1,7):=by
 rw[cutB_no h,rdS,if_neg fun q=>h0 q.1]
theorem rs_end {R:List UInt8→Int × Bool} {s:S3} {k:Nat}:rdS R (cutB 10 []) s k=if 0<k then (s,0,0) else (z3,k+1,7):=by
 show rdS R [[]] s k=_
 rw[rdS]
 by_cases h:0<k
 ·rw[if_pos h,if_pos ⟨rfl,h⟩]
 ·rw[if_neg h,if_neg fun q=>h q.2]
noncomputable def prsS (R:List UInt8→Int × Bool) (t:List UInt8):S3 × Nat × Int :=
 if 60000<t.length then (z3,0,8) else if (rdS R (cutB 10 t) z3 0).2.2=0 then
  (if (stE (rdS R (cutB 10 t) z3 0).1.1 (rdS R (cutB 10 t) z3 0).1.2.1 (rdS R (cutB 10 t) z3 0).1.2.2).2=0 then ((rdS R (cutB 10 t) z3 0).1,0,0)
   else (z3,0,(stE (rdS R (cutB 10 t) z3 0).1.1 (rdS R (cutB 10 t) z3 0).1.2.1 (rdS R (cutB 10 t) z3 0).1.2.2).2))
  else (z3,(rdS R (cutB 10 t) z3 0).2.1,7)
theorem prsS_same (t:List UInt8):prsS (whl 9) t=prsS (rdn 9) t:=by
 unfold prsS; rw[rdS_same]
structure Bd (s:S3) (m:Nat):Prop where
 n:5 * (s.2.1.length+s.2.2.length)≤m
 nm:∀ i,i<s.2.1.length→(atW s.2.1 i).name.size≤m
theorem Bd.z (m:Nat):Bd z3 m:=⟨by simp[z3],fun i hi=>by simp[z3] at hi⟩
theorem Bd.le {s:S3} {m m':Nat} (h:Bd s m) (k:m≤m'):Bd s m':=⟨Nat.le_trans h.n k,fun i hi=>Nat.le_trans (h.nm i hi) k⟩
theorem atW_snoc {l:List Wi} {w:Wi} {i:Nat} (h:i<(l++[w]).length):atW (l++[w]) i=if i<l.length then atW l i else w:=by
 unfold atW
 by_cases q:i<l.length
 ·rw[if_pos q,List.getElem?_append_left q]
 ·simp at h
  obtain rfl:i=l.length:=by omega
  rw[if_neg q,List.getElem?_append_right (Nat.le_refl _),Nat.sub_self]; rfl
theorem Bd.stp {R:List UInt8→Int × Bool} {s s':S3} {a:List UInt8} {k m:Nat} (h:Bd s m) (e:stp R s (cutB 32 a) k=some s'):Bd s' (m+a.length+1):=by
 have cn:=cut_cnt 32 a
 have wl:=fun i=>wdA_len 32 a i
 have h1:=h.le (m':=m+a.length+1) (by omega)
 unfold U.stp at e
 split at e
 ·split at e
  ·cases e; exact⟨h1.n,h1.nm⟩
  ·cases e
 ·split at e
  ·rename_i q
   split at e
   ·cases e
    refine⟨?_,fun i hi=>?_⟩
    ·have:=h.n
     simp only[List.length_append,List.length_singleton]
     omega
    ·rw[atW_snoc hi]
     split
     ·rename_i z; exact h1.nm i z
     ·show (bt (wdA (cutB 32 a) 1)).size≤_
      have:=wl 1
      simp
      omega
   ·cases e
  ·split at e
   ·rename_i q
    split at e
    ·cases e
     refine⟨?_,fun i hi=>h1.nm i hi⟩
     have:=h.n
     simp only[List.length_append,List.length_singleton]
     omega
    ·cases e
   ·cases e
end B.T.U
end Go.Abs
namespace Go.Abs
namespace B.T.U
set_option maxRecDepth 100000
set_option maxHeartbeats 0
def tot:List (List UInt8)→Nat
 | []=>0
 | w::r=>w.length+1+tot r
theorem tot_cut (c:UInt8):∀ s:List UInt8,tot (cutB c s)=s.length+1
 | []=>rfl
 | x::r=>by
  have ih:=tot_cut c r
  rw[cutB_cons]
  split
  ·simp[tot,ih]; omega
  ·rcases e:cutB c r with _ | ⟨w,ws⟩
   ·exact absurd e (cutB_ne c r)
   ·rw[e] at ih
    simp[tot] at ih ⊢
    omega
theorem famH {h:Heap} (e:T.Er h) (A B:Option Blk):Fam (fun f w u=>h++[A,B,some ⟨[i64 f,w,u],true⟩]) (h.length+3) (h.length+2) where
 len:=fun f w u=>by simp
 get:=fun f w u=>by rw[hget_base rfl]; rfl
 put:=fun f w u f' w' u'=>by rw[hput_base rfl]; rfl
 er:=fun f w u=>e.app
theorem OutG.shift {α:Type} {f:α→List Value} {es base k c:Nat} {L N:List (Option Blk)} {v:Value} {l:List α} (g:OutG f es (base+k) L c v l) (hk:N.length=k):OutG f es base (N++L) (k+c) v l:=by
 rcases g with ⟨h1,h2⟩ | ⟨h1,h2,h3⟩
 ·exact .inl ⟨h1,h2⟩
 ·refine .inr ⟨h1,by rw[h2,Nat.add_assoc],?_⟩
  rw[lget_right hk.symm,h3]
theorem St2.shift {n k:Nat} {M N:List (Option Blk)} {cw cu:Nat} {wv uv:Value} {wl:List Wi} {l:List Un} (g:St2 (n+k) M cw cu wv uv wl l) (hk:N.length=k):St2 n (N++M) (k+cw) (k+cu) wv uv wl l :=
 ⟨g.w.shift hk,g.u.shift hk,fun a b=>by have:=g.ne a b; omega⟩
def RdV (v:Value) (n:Nat) (G:List (Option Blk)) (p:S3 × Nat × Int):Prop:=∃ cw cu wv uv,v=.tuple #[stV p.1.1 wv uv,i64 (p.2.1:Nat),i64 p.2.2]∧St2 n G cw cu wv uv p.1.2.1 p.1.2.2
def I13 (h:Heap) (s:List UInt8) (W:List (List UInt8)) (m:Nat) (y:Nat) (st:St):Prop :=
 ∃ (i:Nat) (f:Int) (wl:List Wi) (l:List Un) (M:Heap) (cw cu:Nat) (wv uv:Value) (q:Nat),y=m-i∧i≤m∧St2 (h.length+3) M cw cu wv uv wl l∧Bd (f,wl,l) q∧q+tot (W.drop i)≤s.length+1∧rdS (rdn 9) W z3 0=rdS (rdn 9) (W.drop i) (f,wl,l) i ∧
   st=⟨[(2,pt h.length),(5,.slice (some ⟨h.length+1,0,none⟩) (m+1) 1),(6,i64 (m:Int)),(7,pt (h.length+2)),(8,i64 (i:Int))],h++(some ⟨[i64 0,.slice none 0 0,.slice none 0 0],true⟩::some ⟨T.cT W,true⟩::some ⟨[i64 f,wv,uv],true⟩::M)⟩
theorem c13 {d lim:Nat} {h:Heap} {s:List UInt8} (e:T.Er h) (hlim:lim≤h.length) (hl:s.length≤4998∨60000<s.length∧s.length<100000) :
  ∃ v G,E.call (d+7) lim 13 [tx s] h=some (v,h++G)∧RdV v h.length G (prsS (rdn 9) s):=by
 obtain⟨v,h',e1,e2⟩:∃ v h',E.call (d+7) lim 13 [tx s] h=some (v,h')∧(∃ G,h'=h++G∧RdV v h.length G (prsS (rdn 9) s)):=by
  refine full_ex fn13 rfl (by simp[ef13]) ?_
  have lim0:lim≤h.length:=hlim
  by_cases h3:60000<s.length
  ·have h3':(60000:Int)<s.length:=by omega
   have pe:prsS (rdn 9) s=(z3,0,8):=by unfold prsS; rw[if_pos h3]
   rw[pe]
   simp[ef13,h3',lim0,fillL,Heap.push]
   exact⟨0,0,_,_,rfl,St2.z⟩
  have h3':¬ (60000:Int)<s.length:=by omega
  have hl:s.length≤4998:=by omega
  have k49:∀ H':Heap,E.call (d+6) lim 49 [tx s,.int .u8 10] H'=some (T.lVT H'.length (cutB 10 s),H'++T.lBT (cutB 10 s)):=fun H'=>T.c49 (d:=d+5) (c:=10) (by omega)
  have wlen:=fun i=>wdA_len 10 s i
  have wn:=cut_cnt 10 s
  have w0:=List.length_pos_iff.2 (cutB_ne 10 s)
  have wne:¬ cutB 10 s=[]:=cutB_ne 10 s
  have tt:=tot_cut 10 s
  simp only[T.lVT,T.lBT,if_neg wne] at k49
  obtain⟨p,hp⟩:∃ p,p=prsS (rdn 9) s:=⟨_,rfl⟩
  rw[← hp]
  unfold prsS at hp
  rw[if_neg h3] at hp
  generalize cutB 10 s=W at *
  obtain⟨m,hm⟩:∃ m,W.length=m+1:=⟨W.length-1,by omega⟩
  have wn1:IntKind.i64.wrap (m:Int)=(m:Int):=wrap_eq (by omega) (by omega)
  have FF:=famH e (some ⟨[i64 0,.slice none 0 0,.slice none 0 0],true⟩) (some ⟨T.cT W,true⟩)
  simp[ef13,h3',k49,hm,wn1,Heap.push]
  refine wpC_loop (I13 h s W m) m (by show m<2 ^ 64; omega) ?_ ?_
  ·simp[St.tidy]
   exact⟨0,0,[],[],[],0,0,.slice none 0 0,.slice none 0 0,0,by omega,by omega,St2.z,Bd.z 0,by simp; omega,rfl,rfl⟩
  ·rintro y hy _ ⟨i,f,wl,l,M,cw,cu,wv,uv,q,rfl,hi,g,bd,hq,hr,rfl⟩
   have b1:=bd.n
   simp only at b1
   by_cases hlt:i<m
   ·have hlt':(i:Int)<m:=by omega
    have gi:=wdA_get (ws:=W) (i:=i) (by omega)
    have dr:W.drop i=wdA W i::W.drop (i+1):=by
     have e:W.drop i=W[i]'(by omega)::W.drop (i+1):=List.drop_eq_getElem_cons (by omega)
     have w:wdA W i=W[i]'(by omega):=by unfold wdA; rw[List.getElem?_eq_getElem (by omega)]; rfl
     rw[e,w]
    have ne:W.drop (i+1)≠[]:=fun q=>by
     have:=congrArg List.length q
     rw[List.length_drop] at this; simp at this; omega
    rw[dr,rdS_full ne] at hr
    rw[dr,tot] at hq
    have w1':IntKind.i64.wrap ((i:Int)+1)=((i+1:Nat):Int):=by rw[wrap_eq (by omega) (by omega)]; rfl
    have ck:=c50 (d:=d) (lim:=lim) (k:=i) (f:=f) FF (by omega) g (by omega) (by omega) (s:=wdA W i) (by have:=wlen i; omega) (by omega)
    rcases hst:stp (rdn 9) (f,wl,l) (cutB 32 (wdA W i)) i with _ | ⟨f',wl',l'⟩
    ·obtain⟨M',k50⟩:=ck.2 hst
     simp only[List.append_assoc,List.cons_append,List.nil_append] at k50
     rw[hst] at hr
     simp only at hr
     rw[hr] at hp
     simp only at hp
     rw[if_neg (by decide)] at hp
     subst hp
     simp[hlt,hlt',hm,gi,k50,w1',lim0,fillL]
     exact⟨by omega,0,0,_,_,rfl,St2.z⟩
    ·obtain⟨M',cw',cu',wv',uv',k50,g'⟩:=ck.1 _ hst
     simp only[List.append_assoc,List.cons_append,List.nil_append] at k50
     rw[hst] at hr
     simp only at hr
     have bd':=bd.stp hst
     simp[hlt,hlt',hm,gi,k50,w1',lim0,St.tidy]
     exact⟨by omega,m-(i+1),by omega,i+1,f',wl',l',M',cw',cu',wv',uv',q+(wdA W i).length+1,rfl,by omega,g',bd',by omega,hr,rfl⟩
   ·obtain rfl:i=m:=by omega
    have gi:=wdA_get (ws:=W) (i:=i) (by omega)
    have dr:W.drop i=[wdA W i]:=by
     have e:W.drop i=W[i]'(by omega)::W.drop (i+1):=List.drop_eq_getElem_cons (by omega)
     have w:wdA W i=W[i]'(by omega):=by unfold wdA; rw[List.getElem?_eq_getElem (by omega)]; rfl
     rw[e,w,List.drop_of_length_le (by omega)]
    rw[dr,rdS] at hr
    have w1':IntKind.i64.wrap ((i:Int)+1)=((i+1:Nat):Int):=by rw[wrap_eq (by omega) (by omega)]; rfl
    have i1:(i:Int)<(i:Int)+1:=by omega
    by_cases em:wdA W i=[]∧0<i
    ·obtain⟨em,i0⟩:=em
     have i0n:¬ i=0:=by omega
     have i0b:((i:Int) == 0)=false:=by simp; exact i0n
     rw[if_pos ⟨em,i0⟩] at hr
     rw[hr] at hp
     simp only[if_true] at hp
     rw[em] at gi
     have k9:=fun L:Heap=>c9 (d:=d) (lim:=lim) (t:=f) (OutG.sl (f:=encW) encW_len (FF.len f wv uv) (g.app L).w) (OutG.sl (f:=encN) encN_len (FF.len f wv uv) (g.app L).u) (by omega)
     have k9:=k9 []
     simp only[List.append_nil,List.append_assoc,List.cons_append,List.nil_append] at k9
     by_cases z:(stE f wl l).2=0
     ·rw[if_pos z] at hp
      subst hp
      simp[hlt,hm,gi,i1,i0n,i0b,k9,z,lim0,fillL]
      exact⟨⟨by rcases g.w with ⟨_,q⟩ | ⟨_,q,_⟩ <;> rw[q],by rcases g.u with ⟨_,q⟩ | ⟨_,q,_⟩ <;> rw[q]⟩,3+cw,3+cu,wv,uv,rfl,g.shift (N:=[some ⟨[i64 f,wv,uv],true⟩,some ⟨T.cT W,true⟩,some ⟨[i64 f,wv,uv],true⟩]) rfl⟩
     ·rw[if_neg z] at hp
      subst hp
      simp[hlt,hm,gi,i1,i0n,i0b,k9,z,lim0,fillL]
      exact⟨0,0,_,_,rfl,St2.z⟩
    ·rw[if_neg em] at hr
     rw[hr] at hp
     simp only at hp
     rw[if_neg (by decide)] at hp
     subst hp
     by_cases e0:wdA W i=[]
     ·have i0:i=0:=by
       rcases Nat.eq_zero_or_pos i with y | y
       ·exact y
       ·exact absurd ⟨e0,y⟩ em
      subst i0
      rw[e0] at gi
      simp[hlt,hm,gi,lim0,fillL,w1']
      exact⟨0,0,_,_,rfl,St2.z⟩
     ·simp[hlt,hm,gi,i1,e0,lim0,fillL,w1']
      exact⟨0,0,_,_,rfl,St2.z⟩
 obtain⟨G,rfl,g⟩:=e2
 exact⟨v,G,e1,g⟩
end B.T.U
end Go.Abs
namespace Go.Abs
namespace B.T.U
set_option maxRecDepth 100000
set_option maxHeartbeats 0
abbrev rec10 (n:Nat) (st:Int):Option Blk:=some ⟨.int .i64 (10:Nat)::.int .i64 (0:Nat)::.int .i64 st::[pt n,pt (n+1),pt (n+2),pt (n+3),pt (n+4)],true⟩
def hc (n:Nat) (n0 e0:Int) (k:Int) (s:List UInt8) (st:Int) (f:Int) (w u:Value):List (Option Blk) :=
 [some ⟨[i64 0,.slice none 0 0,.slice none 0 0],true⟩,some ⟨[i64 n0],true⟩,some ⟨[i64 e0],true⟩,some ⟨[i64 f,w,u],true⟩,some ⟨[i64 k],true⟩,some ⟨[tx s],true⟩,rec10 n st]
def HC (h:Heap) (n0 e0:Int) (k:Int) (s:List UInt8) (st:Int) (f:Int) (w u:Value):Heap:=h++hc h.length n0 e0 k s st f w u
section
variable {h L:Heap} {n0 e0 k st f:Int} {s:List UInt8} {w u:Value}
theorem HC_len:(HC h n0 e0 k s st f w u).length=h.length+7:=by simp[HC,hc]
theorem HC_get {j:Nat} (hj:j<7):Heap.get (HC h n0 e0 k s st f w u++L) (h.length+j)=((hc h.length n0 e0 k s st f w u)[j]?).getD none:=by
 unfold HC
 rw[List.append_assoc,hget_base rfl,lget_left (by simpa [hc] using hj)]
theorem HC_put {j:Nat} {b:Option Blk} (hj:j<7):Heap.put (HC h n0 e0 k s st f w u++L) (h.length+j) b=h++(hc h.length n0 e0 k s st f w u).set j b++L:=by
 unfold HC
 rw[List.append_assoc,hput_base rfl,lset_left (by simpa [hc] using hj),List.append_assoc]
theorem HC_get' {j:Nat} (hj:j<7):Heap.get (HC h n0 e0 k s st f w u) (h.length+j)=((hc h.length n0 e0 k s st f w u)[j]?).getD none:=by
 have:=HC_get (L:=[]) (h:=h) (n0:=n0) (e0:=e0) (k:=k) (s:=s) (st:=st) (f:=f) (w:=w) (u:=u) hj
 rwa [List.append_nil] at this
theorem HC_put' {j:Nat} {b:Option Blk} (hj:j<7):Heap.put (HC h n0 e0 k s st f w u) (h.length+j) b=h++(hc h.length n0 e0 k s st f w u).set j b:=by
 have:=HC_put (L:=[]) (h:=h) (n0:=n0) (e0:=e0) (k:=k) (s:=s) (st:=st) (f:=f) (w:=w) (u:=u) (b:=b) hj
 rwa [List.append_nil,List.append_nil] at this
theorem HC_p1 {n1:Int}:Heap.put (HC h n0 e0 k s st f w u++L) (h.length+1) (some ⟨[i64 n1],true⟩)=HC h n1 e0 k s st f w u++L:=HC_put (by decide)
theorem HC_p2 {e1:Int}:Heap.put (HC h n0 e0 k s st f w u++L) (h.length+2) (some ⟨[i64 e1],true⟩)=HC h n0 e1 k s st f w u++L:=HC_put (by decide)
theorem HC_p4 {k1:Int}:Heap.put (HC h n0 e0 k s st f w u++L) (h.length+4) (some ⟨[i64 k1],true⟩)=HC h n0 e0 k1 s st f w u++L:=HC_put (by decide)
theorem HC_p5 {s1:List UInt8}:Heap.put (HC h n0 e0 k s st f w u++L) (h.length+5) (some ⟨[tx s1],true⟩)=HC h n0 e0 k s1 st f w u++L:=HC_put (by decide)
theorem HC_p6 {st1:Int}:Heap.put (HC h n0 e0 k s st f w u++L) (h.length+6) (rec10 h.length st1)=HC h n0 e0 k s st1 f w u++L:=HC_put (by decide)
theorem HC_p0:Heap.put (HC h n0 e0 k s st f w u++L) h.length (some ⟨[i64 0,.slice none 0 0,.slice none 0 0],true⟩)=HC h n0 e0 k s st f w u++L:=by
 have:=HC_put (h:=h) (L:=L) (n0:=n0) (e0:=e0) (k:=k) (s:=s) (st:=st) (f:=f) (w:=w) (u:=u) (j:=0) (b:=some ⟨[i64 0,.slice none 0 0,.slice none 0 0],true⟩) (by decide)
 exact this
theorem HC_loopSt:(HC h n0 e0 k s st f w u++L).loopSt (h.length+6)=some st:=loopSt_get (HC_get (j:=6) (by decide))
theorem HC_setLoop {st1:Int}:(HC h n0 e0 k s st f w u++L).setLoop (h.length+6) st1=some (HC h n0 e0 k s st1 f w u++L):=by
 rw[setLoop_get (HC_get (j:=6) (by decide))]
 exact congrArg some HC_p6
theorem HC_er (e:T.Er h):T.Er (HC h n0 e0 k s st f w u):=e.app
theorem HC_cell {j o:Nat} (hj:j<7):(HC h n0 e0 k s st f w u++L).cell (h.length+j) o=(((hc h.length n0 e0 k s st f w u)[j]?).getD none).bind fun b=>b.cells[o]?:=by
 unfold Heap.cell
 rw[HC_get hj]
theorem HC_cell4':(HC h n0 e0 k s st f w u).cell (h.length+4) 0=some (i64 k):=by
 have:=HC_cell (L:=[]) (h:=h) (n0:=n0) (e0:=e0) (k:=k) (s:=s) (st:=st) (f:=f) (w:=w) (u:=u) (j:=4) (o:=0) (by decide)
 rwa [List.append_nil] at this
theorem HC_cell4:(HC h n0 e0 k s st f w u++L).cell (h.length+4) 0=some (i64 k):=HC_cell (j:=4) (by decide)
end
theorem famC {h:Heap} (e:T.Er h) (n0 e0:Int) (k:Int) (s:List UInt8) (st:Int):Fam (HC h n0 e0 k s st) (h.length+7) (h.length+3) where
 len:=fun f w u=>HC_len
 get:=fun f w u=>HC_get' (by decide)
 put:=fun f w u f' w' u'=>HC_put' (by decide)
 er:=fun f w u=>HC_er e
theorem c45s {d lim:Nat} {H':Heap} {a:List UInt8} (h:a.length<1000000):E.call (d+3) lim 45 [tx (a++[10]),tx [10]] H'=some (.tuple #[tx a,.bool true],H'):=c45y h
theorem r10ok {d lim cw cu k:Nat} {h:Heap} {f:Int} {wv uv:Value} {wl:List Wi} {l:List Un} {L:Heap} {a s1:List UInt8} {s':S3} (e:T.Er h) (hlim:lim≤h.length) (g:St2 (h.length+7) L cw cu wv uv wl l) (hwl:wl.length≤100000) (hul:l.length≤100000) (ha:a.length<9999) (hk:k<900000)
  (hx:stp (whl 9) (f,wl,l) (cutB 32 a) k=some s') :
  ∃ L1 cw1 cu1 wv1 uv1,EProg.roundOf E (E.call (d+6)) lim (h.length+6) [tx (a++[10])] (HC h 0 0 (k:Nat) s1 0 f wv uv++L)=some (.bool true,HC h 0 0 (k+1:Nat) s1 0 s'.1 wv1 uv1++L1)∧St2 (h.length+7) L1 cw1 cu1 wv1 uv1 s'.2.1 s'.2.2:=by
 have wlen:=fun i=>wdA_len 32 a i
 have wn:=cut_cnt 32 a
 have k45:=fun H':Heap=>c45s (d:=d+3) (lim:=lim) (H':=H') (a:=a) (by omega)
 have k47:∀ H':Heap,E.call (d+6) lim 47 [tx a,tx [32]] H'=some (.slice (some ⟨H'.length,0,none⟩) (cutB 32 a).length 1,H'++[some ⟨T.cT (cutB 32 a),true⟩]):=fun H'=>by
  have:=T.c47 (d:=d+2) (lim:=lim) (h:=H') (s:=a) (c:=32) (by omega)
  simp only[T.lVT,T.lBT,if_neg (cutB_ne 32 a)] at this
  exact this
 have k46:=fun st:Int=>(c46 (d:=d) (lim:=lim) (k:=k) (f:=f) (famC e 0 0 (k:Nat) s1 st) (by omega) (g.app [some ⟨T.cT (cutB 32 a),true⟩]) hwl hul (wd_own (famC e 0 0 (k:Nat) s1 st)) (cutB_ne 32 a) (by omega) (fun i=>by have:=wlen i; omega) (by omega)).1 s' hx
 obtain⟨L1,cw1,cu1,wv1,uv1,k46,g1⟩:=k46 (-1)
 refine⟨L1,cw1,cu1,wv1,uv1,?_,g1⟩
 have w1:IntKind.i64.wrap ((k:Int)+1)=((k+1:Nat):Int):=by rw[wrap_eq (by omega) (by omega)]; rfl
 obtain⟨w,h',e1,e2⟩:∃ w h',EProg.roundOf E (E.call (d+6)) lim (h.length+6) [tx (a++[10])] (HC h 0 0 (k:Nat) s1 0 f wv uv++L)=some (w,h')∧(w=.bool true∧h'=HC h 0 0 (k+1:Nat) s1 0 s'.1 wv1 uv1++L1):=by
  refine round1 (us:=[pt h.length,pt (h.length+1),pt (h.length+2),pt (h.length+3),pt (h.length+4)]) (HC_get (j:=6) (by decide)) fn10 rfl rfl ?_
  have lim4:lim≤h.length+4:=by omega
  have G4:∀ n0 e0 k st f w u M,Heap.get (HC h n0 e0 k s1 st f w u++M) (h.length+4)=some ⟨[i64 k],true⟩:=fun n0 e0 k st f w u M=>HC_get (j:=4) (by decide)
  simp[roundFrame,HC_loopSt,HC_setLoop,k45,k47,k46,HC_len,HC_cell4,HC_cell4',w1,G4,lim4,HC_p4]
  done
 obtain⟨rfl,rfl⟩:=e2
 exact e1
theorem r10bad {d lim cw cu k:Nat} {h:Heap} {f:Int} {wv uv:Value} {wl:List Wi} {l:List Un} {L:Heap} {a t s1:List UInt8} {q:Bool} (e:T.Er h) (hlim:lim≤h.length) (g:St2 (h.length+7) L cw cu wv uv wl l) (hwl:wl.length≤100000) (hul:l.length≤100000) (ha:a.length<9999) (hk:k<900000)
  (k45:∀ H':Heap,E.call (d+6) lim 45 [tx t,tx [10]] H'=some (.tuple #[tx a,.bool q],H')) (hx:q=true→stp (whl 9) (f,wl,l) (cutB 32 a) k=none) :
  ∃ L1,EProg.roundOf E (E.call (d+6)) lim (h.length+6) [tx t] (HC h 0 0 (k:Nat) s1 0 f wv uv++L)=some (.bool false,HC h (k+1:Nat) 7 (k:Nat) s1 1 f wv uv++L1):=by
 have wlen:=fun i=>wdA_len 32 a i
 have wn:=cut_cnt 32 a
 have w1:IntKind.i64.wrap ((k:Int)+1)=((k+1:Nat):Int):=by rw[wrap_eq (by omega) (by omega)]; rfl
 have lim1:lim≤h.length+1:=by omega
 have lim2:lim≤h.length+2:=by omega
 have G0:∀ n0 e0 k st f w u M,Heap.get (HC h n0 e0 k s1 st f w u++M) h.length=some ⟨[i64 0,.slice none 0 0,.slice none 0 0],true⟩:=fun n0 e0 k st f w u M=>HC_get (j:=0) (by decide)
 have G1:∀ n0 e0 k st f w u M,Heap.get (HC h n0 e0 k s1 st f w u++M) (h.length+1)=some ⟨[i64 n0],true⟩:=fun n0 e0 k st f w u M=>HC_get (j:=1) (by decide)
 have G2:∀ n0 e0 k st f w u M,Heap.get (HC h n0 e0 k s1 st f w u++M) (h.length+2)=some ⟨[i64 e0],true⟩:=fun n0 e0 k st f w u M=>HC_get (j:=2) (by decide)
 obtain⟨w,h',e1,e2⟩:∃ w h',EProg.roundOf E (E.call (d+6)) lim (h.length+6) [tx t] (HC h 0 0 (k:Nat) s1 0 f wv uv++L)=some (w,h')∧(w=.bool false∧∃ L1,h'=HC h (k+1:Nat) 7 (k:Nat) s1 1 f wv uv++L1):=by
  refine round1 (us:=[pt h.length,pt (h.length+1),pt (h.length+2),pt (h.length+3),pt (h.length+4)]) (HC_get (j:=6) (by decide)) fn10 rfl rfl ?_
  rcases q with _ | _
  ·simp[roundFrame,HC_loopSt,HC_setLoop,k45,HC_len,HC_cell4,HC_cell4',w1,G0,G1,G2,lim1,lim2,hlim,HC_p0,HC_p1,HC_p2,fillL]
   done
  ·have hx:=hx rfl
   have k47:∀ H':Heap,E.call (d+6) lim 47 [tx a,tx [32]] H'=some (.slice (some ⟨H'.length,0,none⟩) (cutB 32 a).length 1,H'++[some ⟨T.cT (cutB 32 a),true⟩]):=fun H'=>by
    have:=T.c47 (d:=d+2) (lim:=lim) (h:=H') (s:=a) (c:=32) (by omega)
    simp only[T.lVT,T.lBT,if_neg (cutB_ne 32 a)] at this
    exact this
   obtain⟨M',k46⟩:=(c46 (d:=d) (lim:=lim) (k:=k) (f:=f) (famC e 0 0 (k:Nat) s1 (-1)) (by omega) (g.app [some ⟨T.cT (cutB 32 a),true⟩]) hwl hul (wd_own (famC e 0 0 (k:Nat) s1 (-1))) (cutB_ne 32 a) (by omega) (fun i=>by have:=wlen i; omega) (by omega)).2 hx
   simp[roundFrame,HC_loopSt,HC_setLoop,k45,k46,k47,HC_len,HC_cell4,HC_cell4',w1,G0,G1,G2,lim1,lim2,hlim,HC_p0,HC_p1,HC_p2,fillL]
   done
 obtain⟨rfl,L1,rfl⟩:=e2
 exact⟨L1,e1⟩
end B.T.U
end Go.Abs
namespace Go.Abs
namespace B.T.U
set_option maxRecDepth 100000
set_option maxHeartbeats 0
def HM (h:Heap) (n0 e0:Int) (k:Int) (s:List UInt8) (f:Int) (w u:Value):Heap:=h++[some ⟨[i64 0,.slice none 0 0,.slice none 0 0],true⟩,some ⟨[i64 n0],true⟩,some ⟨[i64 e0],true⟩,some ⟨[i64 f,w,u],true⟩,some ⟨[i64 k],true⟩,some ⟨[tx s],true⟩,none]
theorem HC_none {h L:Heap} {n0 e0 k st f:Int} {s:List UInt8} {w u:Value}:Heap.put (HC h n0 e0 k s st f w u++L) (h.length+6) none=HM h n0 e0 k s f w u++L:=HC_put (by decide)
theorem rE10 {h L:Heap} {n0 e0 k st f:Int} {s:List UInt8} {w u:Value} (fr:AFrame):rangeEnd (h.length+6) fr (HC h n0 e0 k s st f w u++L)=(jumpEx st).map fun ex=>(ex,⟨fr,HM h n0 e0 k s f w u++L⟩):=by
 rw[rangeEnd_get (HC_get (j:=6) (by decide)),HC_none]
def L10 (h:Heap) (s:List UInt8) (H':Heap):Prop :=
 (∃ (k:Nat) (f:Int) (wl:List Wi) (l:List Un) (L:Heap) (cw cu:Nat) (wv uv:Value) (t:List UInt8),H'=HC h 0 0 (k:Nat) t 0 f wv uv++L∧St2 (h.length+7) L cw cu wv uv wl l∧Bd (f,wl,l) s.length∧rdS (whl 9) (cutB 10 s) z3 0=if 0<k then ((f,wl,l),0,0) else (z3,k+1,7)) ∨
 (∃ (n k:Nat) (f:Int) (L:Heap) (wv uv:Value) (t:List UInt8),H'=HC h (n:Nat) 7 (k:Nat) t 1 f wv uv++L∧rdS (whl 9) (cutB 10 s) z3 0=(z3,n,7))
theorem lines10 {d:Nat} {h:Heap} {s:List UInt8} (e:T.Er h) (hl:s.length≤4998) :
  ∃ H',E.call (d+7) h.length 80 [yieldVal (h.length+6),pt (h.length+5)] (HC h 0 0 0 s 0 0 (.slice none 0 0) (.slice none 0 0))=some (.tuple #[],H')∧L10 h s H':=by
 let Q:List UInt8→Heap→Prop:=fun t H'=>∃ (k:Nat) (f:Int) (wl:List Wi) (l:List Un) (L:Heap) (cw cu:Nat) (wv uv:Value) (q:Nat),H'=HC h 0 0 (k:Nat) t 0 f wv uv++L∧St2 (h.length+7) L cw cu wv uv wl l∧Bd (f,wl,l) q∧q+t.length≤s.length∧k+t.length≤s.length∧rdS (whl 9) (cutB 10 s) z3 0=rdS (whl 9) (cutB 10 t) (f,wl,l) k
 have q0:Q s (HC h 0 0 0 s 0 0 (.slice none 0 0) (.slice none 0 0)):=⟨0,0,[],[],[],0,0,.slice none 0 0,.slice none 0 0,0,by rw[List.append_nil]; rfl,St2.z,Bd.z 0,by omega,by omega,rfl⟩
 refine c80 (d:=d+4) (Q:=Q) (F:=L10 h s) (fun t H' ⟨k,f,wl,l,L,cw,cu,wv,uv,q,e1,e2,e3,e4,e5,e6⟩=>?_) (fun H' ⟨k,f,wl,l,L,cw,cu,wv,uv,q,e1,e2,e3,e4,e5,e6⟩=>?_) (fun a x H' na ⟨k,f,wl,l,L,cw,cu,wv,uv,q,e1,e2,e3,e4,e5,e6⟩=>?_) (fun a H' na a0 ⟨k,f,wl,l,L,cw,cu,wv,uv,q,e1,e2,e3,e4,e5,e6⟩=>?_) q0
 ·subst e1
  exact⟨HC_get (j:=5) (by decide),by omega,by omega⟩
 ·subst e1
  rw[rs_end] at e6
  exact .inl ⟨k,f,wl,l,L,cw,cu,wv,uv,[],rfl,e2,e3.le (by omega),e6⟩
 ·subst e1
  rw[HC_p5]
  simp only[List.length_append,List.length_cons] at e4 e5
  rw[rs_line na] at e6
  have b1:=e3.n
  simp only at b1
  rcases hx:stp (whl 9) (f,wl,l) (cutB 32 a) k with _ | s'
  ·rw[hx] at e6
   obtain⟨L1,r1⟩:=r10bad (d:=d) (lim:=h.length) (s1:=x) (q:=true) e (Nat.le_refl _) e2 (by omega) (by omega) (k:=k) (by omega) (by omega) (fun H'=>c45y (d:=d+3) (a:=a) (by omega)) (fun _=>hx)
   refine⟨false,_,r1,?_⟩
   rw[if_neg (by decide)]
   exact .inr ⟨_,k,f,L1,wv,uv,x,rfl,e6⟩
  ·rw[hx] at e6
   obtain⟨L1,cw1,cu1,wv1,uv1,r1,g1⟩:=r10ok (d:=d) (lim:=h.length) (s1:=x) e (Nat.le_refl _) e2 (by omega) (by omega) (by omega) (k:=k) (by omega) hx
   refine⟨true,_,r1,?_⟩
   rw[if_pos rfl]
   exact⟨k+1,s'.1,s'.2.1,s'.2.2,L1,cw1,cu1,wv1,uv1,q+a.length+1,rfl,g1,e3.stp hx,by omega,by omega,e6⟩
 ·subst e1
  rw[HC_p5]
  have b1:=e3.n
  simp only at b1
  obtain⟨L1,r1⟩:=r10bad (d:=d) (lim:=h.length) (s1:=[]) (q:=false) e (Nat.le_refl _) e2 (by omega) (by omega) (a:=a) (by omega) (k:=k) (by omega) (fun H'=>c45n (d:=d+3) na (by omega)) (fun q=>by cases q)
  refine⟨false,_,r1,?_⟩
  rw[if_neg (by decide)]
  rw[rs_rest na a0] at e6
  exact .inr ⟨_,k,f,L1,wv,uv,[],rfl,e6⟩
end B.T.U
end Go.Abs
namespace Go.Abs
namespace B.T.U
set_option maxRecDepth 100000
set_option maxHeartbeats 0
def wV (b:Nat) (wl:List Wi):Value:=if wl=[] then .slice none 0 0 else .slice (some ⟨b,0,none⟩) wl.length 4
def uV (b:Nat) (wl:List Wi) (l:List Un):Value:=if l=[] then .slice none 0 0 else .slice (some ⟨b+(if wl=[] then 0 else 1),0,none⟩) l.length 10
def wuB (wl:List Wi) (l:List Un):List (Option Blk):=(if wl=[] then [] else [some ⟨cS encW wl,true⟩])++(if l=[] then [] else [some ⟨cS encN l,true⟩])
theorem collect_a1 {n j a es:Nat} {H:Heap} {f x y:Int} {C:List Value} (g:H.get (n+j)=some ⟨C,true⟩) (p:C.all plainV=true) :
  collect n [.tuple #[.agg #[i64 f,.slice (some ⟨n+j,0,none⟩) a es,.slice none 0 0],i64 x,i64 y]] H=some ([.tuple #[.agg #[i64 f,.slice (some ⟨n,0,none⟩) a es,.slice none 0 0],i64 x,i64 y]],[some ⟨C,true⟩]):=by
 simp[g,p]
theorem collect_a2 {n j a es:Nat} {H:Heap} {f x y:Int} {C:List Value} (g:H.get (n+j)=some ⟨C,true⟩) (p:C.all plainV=true) :
  collect n [.tuple #[.agg #[i64 f,.slice none 0 0,.slice (some ⟨n+j,0,none⟩) a es],i64 x,i64 y]] H=some ([.tuple #[.agg #[i64 f,.slice none 0 0,.slice (some ⟨n,0,none⟩) a es],i64 x,i64 y]],[some ⟨C,true⟩]):=by
 simp[g,p]
theorem collect_a3 {n j i a b es et:Nat} {H:Heap} {f x y:Int} {C D:List Value} (g:H.get (n+j)=some ⟨C,true⟩) (g2:H.get (n+i)=some ⟨D,true⟩) (hne:j≠i) (p:C.all plainV=true) (p2:D.all plainV=true) :
  collect n [.tuple #[.agg #[i64 f,.slice (some ⟨n+j,0,none⟩) a es,.slice (some ⟨n+i,0,none⟩) b et],i64 x,i64 y]] H=some ([.tuple #[.agg #[i64 f,.slice (some ⟨n,0,none⟩) a es,.slice (some ⟨n+1,0,none⟩) b et],i64 x,i64 y]],[some ⟨C,true⟩,some ⟨D,true⟩]):=by
 simp[g,g2,p,p2,hne,hne.symm]
theorem get7 {h L:Heap} {b0 b1 b2 b3 b4 b5 b6:Option Blk} {c:Nat}:Heap.get (h.freeze++(b0::b1::b2::b3::b4::b5::b6::L)) (h.length+(7+c))=(L[c]?).getD none:=by
 rw[hget_base (by simp),show 7+c=c+7 by omega]
 simp only[List.getElem?_cons_succ]
theorem c10 {d lim:Nat} {h:Heap} {s:List UInt8} (e:T.Er h) (sp:Pr h) (hl:s.length≤4998∨60000<s.length∧s.length<100000) :
  E.call (d+9) lim 10 [tx s] h=some (.tuple #[stV (prsS (whl 9) s).1.1 (wV h.length (prsS (whl 9) s).1.2.1) (uV h.length (prsS (whl 9) s).1.2.1 (prsS (whl 9) s).1.2.2),i64 ((prsS (whl 9) s).2.1:Nat),i64 (prsS (whl 9) s).2.2],h++wuB (prsS (whl 9) s).1.2.1 (prsS (whl 9) s).1.2.2):=by
 refine call_pure fn10 rfl (by simp[ef10]) ?_
 by_cases h3:60000<s.length
 ·have h3':(60000:Int)<s.length:=by omega
  have pe:prsS (whl 9) s=(z3,0,8):=by unfold prsS; rw[if_pos h3]
  rw[pe]
  simp[ef10,h3',fillL,z3,wV,uV,wuB]
 have h3':¬ (60000:Int)<s.length:=by omega
 have hl:s.length≤4998:=by omega
 obtain⟨H',k80,alt⟩:=lines10 (d:=d+1) (h:=h.freeze) e.freeze (s:=s) hl
 simp[HC,hc,rec10] at k80
 obtain⟨res,hres⟩:∃ res,res=prsS (whl 9) s:=⟨_,rfl⟩
 rw[← hres]
 unfold prsS at hres
 rw[if_neg h3] at hres
 have rr:=fun n0 e0 k t st f w u L fr=>rE10 (h:=h.freeze) (L:=L) (n0:=n0) (e0:=e0) (k:=k) (st:=st) (f:=f) (s:=t) (w:=w) (u:=u) fr
 simp[HM] at rr
 rcases alt with ⟨k,f,wl,l,L,cw,cu,wv,uv,t,rfl,g,bd,er⟩ | ⟨n,k,f,L,wv,uv,t,rfl,er⟩
 ·have b1:=bd.n
  simp only at b1
  have hnm:Nms wl:=fun i hi=>by have:=bd.nm i hi; simp only at this; omega
  have len7:(HM h.freeze 0 0 (k:Nat) t f wv uv).length=h.freeze.length+7:=by simp[HM]
  have k37:=c37 (d:=d) (lim:=h.length) (t:=f) ((Sl_freeze.2 sp).app _:Pr (h.freeze++([some ⟨[i64 0,.slice none 0 0,.slice none 0 0],true⟩,some ⟨[i64 0],true⟩,some ⟨[i64 0],true⟩,some ⟨[i64 f,wv,uv],true⟩,some ⟨[i64 (k:Nat)],true⟩,some ⟨[tx t],true⟩,none]++L)))
   (by rw[← List.append_assoc]; exact g.w.sl encW_len len7) (by rw[← List.append_assoc]; exact g.u.sl encN_len len7) (by omega) hnm
  simp only[List.cons_append,List.nil_append] at k37
  by_cases k0:0<k
  ·rw[if_pos k0] at er
   rw[er] at hres
   simp only[if_true] at hres
   have k0n:¬ k=0:=by omega
   have k0b:((k:Int) == 0)=false:=by simp; exact k0n
   by_cases z:(stE f wl l).2=0
   ·rw[if_pos z] at hres
    rw[z] at k37
    subst hres
    have pw:=cW_plain wl
    have pu:=cU_plain l
    rcases g.w with ⟨w1,rfl⟩ | ⟨w1,rfl,w3⟩
    ·rcases g.u with ⟨u1,rfl⟩ | ⟨u1,rfl,u3⟩
     ·try simp only[Heap.length_freeze] at k37
      simp[-collect_own1,ef10,h3',c44,loopBlk,k80,rr,k0n,k0b,k37,fillL,wV,uV,wuB,w1,u1]
     ·try simp only[Heap.length_freeze] at k37
      simp[-collect_own1,ef10,h3',c44,loopBlk,k80,rr,k0n,k0b,k37,fillL,wV,uV,wuB,w1,u1]
      rw[Nat.add_assoc]
      exact collect_a2 (by rw[get7,u3]; rfl) pu
    ·rcases g.u with ⟨u1,rfl⟩ | ⟨u1,rfl,u3⟩
     ·try simp only[Heap.length_freeze] at k37
      simp[-collect_own1,ef10,h3',c44,loopBlk,k80,rr,k0n,k0b,k37,fillL,wV,uV,wuB,w1,u1]
      rw[Nat.add_assoc]
      exact collect_a1 (by rw[get7,w3]; rfl) pw
     ·try simp only[Heap.length_freeze] at k37
      simp[-collect_own1,ef10,h3',c44,loopBlk,k80,rr,k0n,k0b,k37,fillL,wV,uV,wuB,w1,u1]
      have ne:=g.ne w1 u1
      rw[Nat.add_assoc,Nat.add_assoc]
      exact collect_a3 (by rw[get7,w3]; rfl) (by rw[get7,u3]; rfl) (by omega) pw pu
   ·rw[if_neg z] at hres
    subst hres
    simp[ef10,h3',c44,loopBlk,k80,rr,k0n,k0b,k37,z,fillL,z3,wV,uV,wuB]
    done
  ·rw[if_neg k0] at er
   rw[er] at hres
   simp only at hres
   rw[if_neg (by decide)] at hres
   subst hres
   obtain rfl:k=0:=by omega
   simp[ef10,h3',c44,loopBlk,k80,rr,fillL,z3,wV,uV,wuB]
   done
 ·rw[er] at hres
  simp only at hres
  rw[if_neg (by decide)] at hres
  subst hres
  simp[ef10,h3',c44,loopBlk,k80,rr,fillL,z3,wV,uV,wuB]
  done
end B.T.U
end Go.Abs
