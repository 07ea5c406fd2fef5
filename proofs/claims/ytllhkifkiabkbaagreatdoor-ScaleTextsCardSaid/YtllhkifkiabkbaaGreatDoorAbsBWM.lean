--
import Derived.Test.YtllhkifkiabkbaaGreatDoorAbsBCA
import Derived.Test.YtllhkifkiabkbaaGreatDoorAbsBSM
import Derived.Test.YtllhkifkiabkbaaGreatDoorAbsWpO
set_option linter.unusedSimpArgs false
set_option linter.unusedVariables false
namespace Go.Abs
namespace B
set_option maxRecDepth 100000
set_option maxHeartbeats 0
def encW (w:Wi):List Value:=[.string w.name,i64 w.mass,i64 w.str,i64 w.stiff]
theorem cW_len (l:List Wi):(cS encW l).length=l.length * 4:=cS_len (f:=encW) (es:=4) (fun _=>rfl) l
theorem cW_part {l:List Wi} {i:Nat} (h:i<l.length):((cS encW l).drop (i * 4)).take 4=[.string (atW l i).name,i64 (atW l i).mass,i64 (atW l i).str,i64 (atW l i).stiff]:=by
 rw[cS_part (f:=encW) (es:=4) (fun _=>rfl) l i h,atW_get h]; rfl
theorem cW_0 {l:List Wi} {i:Nat} (h:i<l.length):(cS encW l)[i * 4]?=some (.string (atW l i).name):=by
 have:=cS_get (f:=encW) (es:=4) (fun _=>rfl) l i 0 h (by omega)
 rw[Nat.add_zero] at this
 rw[this,atW_get h]; rfl
theorem cW_j {l:List Wi} {i j:Nat} (h:i<l.length) (hj:j<4):(cS encW l)[i * 4+j]?=(encW (atW l i))[j]?:=by
 rw[cS_get (f:=encW) (es:=4) (fun _=>rfl) l i j h hj,atW_get h]
abbrev SlW (h:Heap) (v:Value) (l:List Wi):Prop:=Sl 4 h v l.length (cS encW l)
abbrev wV (w:Wi):Value:=.agg #[.string w.name,i64 w.mass,i64 w.str,i64 w.stiff]
theorem c67 {d lim:Nat} {h:Heap} {a b c:Int}:E.call (d+1) lim 67 [i64 a,i64 b,i64 c] h=some (.bool (within a b c),h):=by
 refine call1 fn67 rfl (by simp[ef67]) ?_
 simp[ef67,within]
 grind
theorem c183 {d lim b:Nat} {h:Heap} {w:Wi} {n:ByteArray} (hb:b<h.length) (hc:h.cell b 0=some (.string n)):E.call (d+1) lim 183 [wV w,.pointer (some ⟨b,0,none⟩)] h=some (.bool (decide (w.name=n)),h):=by
 refine call1 fn183 rfl (by simp[ef183]) ?_
 simp[ef183,hc,hb]
abbrev fnV (b:Nat):Value:=.func (.func 183) #[] #[.pointer (some ⟨b,0,none⟩)]
theorem c182 {d lim b:Nat} {h:Heap} {v:Value} {l:List Wi} {n:ByteArray} (s:SlW h v l) (hl:l.length≤1000) (hb:b<h.length) (hc:h.cell b 0=some (.string n)) :
  E.call (d+2) lim 182 [v,fnV b] h=some (i64 (if idxW l n<l.length then (idxW l n:Int) else -1),h):=by
 have r:=s.rules2
 refine call1 fn182 rfl (by simp[ef182]) ?_
 rcases Nat.eq_zero_or_pos l.length with hz | hz
 ·have el:l=[]:=List.eq_nil_of_length_eq_zero hz
  subst el
  rcases s.low with rfl | ⟨bv,o',m',t',rfl,hbv⟩
  ·simp[ef182,wpC_unroll,wpI_step,E_fuel',St.tidy,hb]
  ·obtain rfl:m'=0:=by
    have:=s.len
    simpa using this
   simp[ef182,wpC_unroll,wpI_step,E_fuel',St.tidy,hbv,hb]
 obtain⟨bv,o',rfl⟩:∃ bv o',v=.slice (some ⟨bv,o',none⟩) l.length 4:=⟨_,_,s.addr (by omega)⟩
 have hbv:=s.lt (by omega)
 simp only[slB_some,slO_some] at r hbv
 simp[ef182,r]
 refine wpC_loop (fun q st=>∃ i,q=l.length-i∧i≤l.length∧(∀ j,j<i→(atW l j).name≠n)∧st=⟨[(0,.slice (some ⟨bv,o',none⟩) l.length 4),(1,fnV b),(7,i64 (l.length:Int)),(8,i64 (i:Nat))],h.freeze⟩) l.length (by show l.length<2 ^ 64; omega) ?_ ?_
 ·simp[St.tidy,hbv,hb]
  exact⟨0,by omega,by omega,fun j hj=>by omega,rfl⟩
 ·rintro q hq _ ⟨i,rfl,hi,hn,rfl⟩
  by_cases hlt:i<l.length
  ·have w1':=w1 (i:=i) (by omega)
   simp only[W] at w1'
   have p:=cW_part hlt
   have k4:i * 4+4≤l.length * 4:=by omega
   have k69:=fun lim=>c183 (d:=d) (lim:=lim) (h:=h.freeze) (w:=atW l i) (by simpa using hb) (by rw[cell_freeze]; exact hc)
   by_cases he:(atW l i).name=n
   ·have e:=idxW_hit hlt hn he
    subst he
    simp[hlt,r,k4,p,k69,e]
   ·simp[hlt,r,k4,p,k69,he,w1',St.tidy,hbv,hb]
    exact⟨l.length-(i+1),by omega,i+1,by omega,by omega,fun j hj=>by
     rcases Nat.lt_or_ge j i with z | z
     ·exact hn j z
     ·obtain rfl:j=i:=by omega
      exact he,by omega⟩
  ·obtain rfl:i=l.length:=by omega
   have e:=idxW_none hn
   simp[e]
theorem c149 {d lim:Nat} {h:Heap} {v:Value} {l:List Wi} {n:ByteArray} (s:SlW h v l) (hl:l.length≤1000) :
  E.call (d+3) lim 149 [v,.string n] h=some (.tuple #[wV (getW l n),.bool (hasW l n)],h):=by
 have r:=s.rules2
 have k68:=fun lim L=>c182 (d:=d) (lim:=lim) (b:=h.length) (n:=n) ((Sl_freeze.2 s).app (some ⟨[.string n],true⟩::L)) hl (by simp) (by simp)
 refine call1 fn149 rfl (by simp[ef149]) ?_
 have hle:=idxW_le l n
 by_cases q:idxW l n<l.length
 ·have p:=cW_part q
  have k4:idxW l n * 4+4≤l.length * 4:=by omega
  have q0:¬ ((idxW l n:Int)<0):=by omega
  have q1:(0:Int)≤idxW l n:=by omega
  simp[ef149,k68,q,q0,r,k4,p,getW,hasW]
 ·have g:=getW_no (l:=l) (n:=n) (by simp[hasW,q])
  simp[ef149,k68,q,g,hasW,noW]
end B
end Go.Abs
namespace Go.Abs
namespace B
set_option maxRecDepth 100000
set_option maxHeartbeats 0
def ekS (s:ByteArray):Value:=.string s
def evB (b:Bool):Value:=.bool b
def kn (l:List Wi):List (ByteArray × Bool):=l.map fun w=>(w.name,true)
theorem kn_look:∀ (l:List Wi) (n:ByteArray),mLook (kn l) n=if hasW l n=true then some true else none
 | [],n=>rfl
 | w::r,n=>by
  have ih:=kn_look r n
  unfold hasW at ih ⊢
  simp only[kn,List.map_cons,mLook,idxW,List.length_cons] at ih ⊢
  by_cases q:n=w.name
  ·simp[q]
  ·have q':¬ w.name=n:=fun e=>q e.symm
   simp only[if_neg q,if_neg q',ih,Nat.add_lt_add_iff_right]
theorem Blk_addrs_nil (rw:Bool):Blk.addrs ⟨[],rw⟩=some []:=rfl
theorem Blk_ren_nil (r:Nat→Nat) (rw:Bool):Blk.ren r ⟨[],rw⟩=⟨[],rw⟩:=rfl
theorem kn_no (l:List Wi):(encMap ekS evB (kn l)).all (Abs.lowV 0 4)=true:=encMap_no (fun _=>by simp[ekS]) (fun _=>by simp[evB]) _
theorem kn_get (l:List Wi) (n:ByteArray):E.mapVal (.string n) (encMap ekS evB (kn l))=some (if hasW l n=true then some (.bool true) else none):=by
 have:=mapVal_enc (ek:=ekS) (ev:=evB) (fun a b=>sameKey_str a b) (kn l) n
 rw[kn_look] at this
 unfold ekS at this
 rw[show (Value.string n)=(fun s=>Value.string s) n from rfl]
 refine this.trans ?_
 split <;> rfl
theorem kn_put {l:List Wi} {w:Wi} (h:hasW l w.name=false):E.mapPut (.string w.name) (.bool true) (encMap ekS evB (kn l))=some (encMap ekS evB (kn (l++[w]))):=by
 have e:mLook (kn l) w.name=none:=by rw[kn_look,h]; rfl
 have:=mapPut_new (ek:=ekS) (ev:=evB) (fun a b=>sameKey_str a b) e (evB true)
 rw[encMap_snoc (ek:=ekS) (ev:=evB)] at this
 rw[show kn (l++[w])=kn l++[(w.name,true)] by simp[kn]]
 exact this
theorem take_snoc {l:List Wi} {i:Nat} (h:i<l.length):l.take (i+1)=l.take i++[atW l i]:=by
 rw[List.take_add_one,List.getElem?_eq_getElem h,atW_get h]; rfl
def Nms (l:List Wi):Prop:=∀ i,i<l.length→(atW l i).name.size≤10000
theorem c68 {d lim:Nat} {h:Heap} {v:Value} {l:List Wi} (s:SlW h v l) (hl:l.length≤1000) (hnm:Nms l):E.call (d+2) lim 68 [v] h=some (i64 (chkW l),h):=by
 have r:=s.rules2
 refine call1 fn68 rfl (by simp[ef68]) ?_
 by_cases h20:20<l.length
 ·have i20:(20:Int)<l.length:=by omega
  simp[ef68,r,h20,i20,Int.not_le.2 i20,chkW]
 have i20:¬ (20:Int)<l.length:=by omega
 rcases Nat.eq_zero_or_pos l.length with hz | hz
 ·have el:l=[]:=List.eq_nil_of_length_eq_zero hz
  subst el
  have e:chkW []=0:=by simp[chkW,chkWL]
  rcases s.low with rfl | ⟨bv,o',m',t',rfl,hbv⟩
  ·simp[ef68,wpC_unroll,wpI_step,E_fuel',St.tidy,e,Blk_addrs_nil,Blk_ren_nil]
  ·obtain rfl:m'=0:=by
    have:=s.len
    simpa using this
   simp[ef68,wpC_unroll,wpI_step,E_fuel',St.tidy,hbv,e,Blk_addrs_nil,Blk_ren_nil]
 have e0:chkW l=chkWL l 0:=by simp[chkW,h20]
 rw[e0]
 obtain⟨bv,o',rfl⟩:∃ bv o',v=.slice (some ⟨bv,o',none⟩) l.length 4:=⟨_,_,s.addr (by omega)⟩
 have hbv:=s.lt (by omega)
 simp only[slB_some,slO_some] at r hbv
 simp[ef68,r,i20,h20,Int.not_lt.1 i20]
 refine wpC_loop (fun q st=>∃ i,q=l.length-i∧i≤l.length∧chkWL l i=chkWL l 0∧st=⟨[(3,.map (some h.length)),(10,.slice (some ⟨bv,o',none⟩) l.length 4),(11,i64 (l.length:Int)),(12,i64 (i:Nat))],h.freeze++[some ⟨encMap ekS evB (kn (l.take i)),true⟩]⟩) l.length (by show l.length<2 ^ 64; omega) ?_ ?_
 ·simp[St.tidy,hbv,Blk_addrs_nil,Blk_ren_nil]
  exact⟨0,by omega,by omega,rfl,rfl,by simp[kn,encMap]⟩
 ·rintro q hq _ ⟨i,rfl,hi,hc,rfl⟩
  by_cases hlt:i<l.length
  ·have w1':=w1 (i:=i) (by omega)
   simp only[W] at w1'
   have p:=cW_part hlt
   have k4:i * 4+4≤l.length * 4:=by omega
   have k47:=fun lim hh=>c107 (d:=d) (lim:=lim) (h:=hh) (s:=(atW l i).name) (hnm i hlt)
   have kno:=kn_no (l.take i)
   have kno':=kn_no (l.take (i+1))
   have kg:=kn_get (l.take i) (atW l i).name
   rw[chkWL_lt hlt] at hc
   rw[take_snoc hlt] at kno'
   have nx:(∀ y,List.take (i+1) l=y→∃ j,j<l.length-i∧∃ k,j=l.length-k∧k≤l.length∧True):=fun _ _=>⟨l.length-(i+1),by omega,i+1,rfl,by omega,trivial⟩
   have ts:=take_snoc hlt
   have kp:=kn_put (l:=l.take i) (w:=atW l i)
   generalize l.take i=D at *
   generalize hA:atW l i=A at *
   by_cases hb:nameB A.name=true
   ·by_cases hh:hasW D A.name=true
    ·have e:wErr D A=5:=by simp[wErr,hb,hh]
     rw[e] at hc
     simp at hc
     simp[hlt,r,k4,p,k47,hb,kg,hh,← hc]
    ·simp only[Bool.not_eq_true] at hh
     have kp':=kp hh
     by_cases ok:wOk A=true
     ·have e:wErr D A=0:=by simp[wErr,hb,hh,ok]
      rw[e] at hc
      simp at hc
      unfold wOk at ok
      simp only[Bool.and_eq_true] at ok
      simp[hlt,r,k4,p,k47,c67,hb,kg,hh,ok,kp',w1',St.tidy,hbv,kno']
      exact⟨l.length-(i+1),by omega,i+1,by omega,by omega,hc,by omega,by rw[ts]⟩
     ·simp only[Bool.not_eq_true] at ok
      have e:wErr D A=2:=by simp[wErr,hb,hh,ok]
      rw[e] at hc
      simp at hc
      unfold wOk at ok
      rcases hm:within A.mass 1 200000 with _ | _
      ·simp[hlt,r,k4,p,k47,c67,hb,kg,hh,hm,← hc]
      ·rcases hm2:within A.str 1 1000000 with _ | _
       ·simp[hlt,r,k4,p,k47,c67,hb,kg,hh,hm,hm2,← hc]
       ·rcases hm3:within A.stiff 0 100000000 with _ | _
        ·simp[hlt,r,k4,p,k47,c67,hb,kg,hh,hm,hm2,hm3,← hc]
        ·rw[hm,hm2,hm3] at ok; cases ok
   ·simp only[Bool.not_eq_true] at hb
    have e:wErr D A=4:=by simp[wErr,hb]
    rw[e] at hc
    simp at hc
    simp[hlt,r,k4,p,k47,hb,← hc]
  ·obtain rfl:i=l.length:=by omega
   rw[chkWL_ge (by omega)] at hc
   simp[← hc]
end B
end Go.Abs
namespace Go.Abs
namespace B
set_option maxRecDepth 100000
set_option maxHeartbeats 0
theorem cS_take {α:Type} {f:α→List Value} {es:Nat} (hf:∀ a,(f a).length=es):∀ (l:List α) (i:Nat),cS f (l.take i)=(cS f l).take (i * es)
 | [],i=>by simp[cS]
 | a::r,0=>by simp[cS]
 | a::r,i+1=>by
  have ih:=cS_take hf r i
  simp only[cS,List.take_succ_cons,List.flatMap_cons] at ih ⊢
  have e:(i+1) * es=(f a).length+i * es:=by rw[hf,Nat.add_mul]; omega
  rw[ih,e,List.take_length_add_append]
theorem Sl_take {α:Type} {f:α→List Value} {es:Nat} (hf:∀ a,(f a).length=es) {h:Heap} {b o:Nat} {l:List α} {i:Nat} (s:Sl es h (.slice (some ⟨b,o,none⟩) l.length es) l.length (cS f l)) (hi:i≤l.length) :
  Sl es h (.slice (some ⟨b,o,none⟩) i es) (l.take i).length (cS f (l.take i)):=by
 have e:(l.take i).length=i:=by simp; omega
 rw[e]
 refine⟨rfl,by rw[cS_len hf,e],fun _=>rfl,?_,fun k hk=>?_⟩
 ·rcases s.low with q | ⟨b',o',m,t,q,hb⟩
  ·cases q
  ·cases q; exact .inr ⟨b,o,i,es,rfl,hb⟩
 ·have m:i * es≤l.length * es:=Nat.mul_le_mul_right _ hi
  have:=s.cell k (by omega)
  simp only[slB_some,slO_some] at this ⊢
  rw[this,cS_take hf,List.getElem?_take_of_lt hk]
theorem c74 {d lim:Nat} {h:Heap} {v:Value} {l:List Wi} {n:ByteArray} (s:SlW h v l) (hl:l.length≤1000) :
  E.call (d+1) lim 74 [v,.string n] h=some (i64 (if idxW l n<l.length then (idxW l n:Int) else -1),h):=by
 have r:=s.rules2
 refine call1 fn74 rfl (by simp[ef74]) ?_
 simp[ef74,r]
 refine wpC_loop (fun q st=>∃ i,q=l.length-i∧i≤l.length∧(∀ j,j<i→(atW l j).name≠n)∧st=⟨[(0,v),(1,.string n),(5,i64 (i:Nat))],h.freeze⟩) l.length (by show l.length<2 ^ 64; omega) ?_ ?_
 ·simp[St.tidy,r]
  exact⟨0,by omega,by omega,fun j hj=>by omega,rfl⟩
 ·rintro q hq _ ⟨i,rfl,hi,hn,rfl⟩
  by_cases hlt:i<l.length
  ·have w1':=w1 (i:=i) (by omega)
   simp only[W] at w1'
   have p:=cW_0 hlt
   have k4:i * 4<l.length * 4:=by omega
   have hlti:(i:Int)<l.length:=by omega
   by_cases he:(atW l i).name=n
   ·have e:=idxW_hit hlt hn he
    subst he
    simp[hlt,Nat.not_le.2 hlt,hlti,r,k4,p,e]
   ·simp[hlt,Nat.not_le.2 hlt,hlti,r,k4,p,he,w1',St.tidy]
    exact⟨l.length-(i+1),by omega,i+1,by omega,by omega,fun j hj=>by
     rcases Nat.lt_or_ge j i with z | z
     ·exact hn j z
     ·obtain rfl:j=i:=by omega
      exact he,by omega⟩
  ·obtain rfl:i=l.length:=by omega
   have e:=idxW_none hn
   simp[r,e]
theorem c42 {d lim:Nat} {h:Heap} {v:Value} {l:List Wi} (s:SlW h v l) (hl:l.length≤1000):E.call (d+3) lim 42 [v] h=some (i64 (chkW l),h):=by
 have r:=s.rules2
 refine call1 fn42 rfl (by simp[ef42]) ?_
 by_cases h20:20<l.length
 ·have i20:(20:Int)<l.length:=by omega
  simp[ef42,r,h20,i20,Int.not_le.2 i20,chkW]
 have i20:¬ (20:Int)<l.length:=by omega
 have e0:chkW l=chkWL l 0:=by simp[chkW,h20]
 rw[e0]
 simp[ef42,r,i20,h20,Int.not_lt.1 i20]
 refine wpC_loop (fun q st=>∃ i,q=l.length-i∧i≤l.length∧chkWL l i=chkWL l 0∧st=⟨[(0,v),(3,i64 (i:Nat))],h.freeze⟩) l.length (by show l.length<2 ^ 64; omega) ?_ ?_
 ·simp[St.tidy,r]
  exact⟨0,by omega,by omega,rfl,rfl⟩
 ·rintro q hq _ ⟨i,rfl,hi,hc,rfl⟩
  by_cases hlt:i<l.length
  ·obtain⟨bv,o',rfl⟩:∃ bv o',v=.slice (some ⟨bv,o',none⟩) l.length 4:=⟨_,_,s.addr (by omega)⟩
   have hbv:=s.lt (by omega)
   simp only[slB_some,slO_some] at r hbv
   have w1':=w1 (i:=i) (by omega)
   simp only[W] at w1'
   have p0:=cW_j hlt (show 0<4 by omega)
   have p1:=cW_j hlt (show 1<4 by omega)
   have p2:=cW_j hlt (show 2<4 by omega)
   have p3:=cW_j hlt (show 3<4 by omega)
   simp[encW] at p0 p1 p2 p3
   have k0:i * 4<l.length * 4:=by omega
   have k1:i * 4+1<l.length * 4:=by omega
   have k2:i * 4+2<l.length * 4:=by omega
   have k3:i * 4+3<l.length * 4:=by omega
   have hlti:(i:Int)<l.length:=by omega
   have ki:i≤l.length:=by omega
   have k49:=fun lim hh=>c73 (d:=d) (lim:=lim) (h:=hh) (s:=(atW l i).name)
   have k50:=fun lim=>c74 (d:=d+1) (lim:=lim) (n:=(atW l i).name) (Sl_take (f:=encW) (es:=4) (fun _=>rfl) (Sl_freeze.2 s) ki) (by simp; omega)
   have lt:(l.take i).length=i:=by simp; omega
   rw[chkWL_lt hlt] at hc
   by_cases hb:nameB (atW l i).name=true
   ·by_cases hh:hasW (l.take i) (atW l i).name=true
    ·have e:wErr (l.take i) (atW l i)=5:=by simp[wErr,hb,hh]
     rw[e] at hc
     simp at hc
     have hh':idxW (l.take i) (atW l i).name<i:=by simpa [hasW,ki] using hh
     simp[hlt,Nat.not_le.2 hlt,hlti,r,k0,p0,k49,hb,k50,hh',ki,E.bound,← hc]
    ·simp only[Bool.not_eq_true] at hh
     have hh':¬ idxW (l.take i) (atW l i).name<i:=by simpa [hasW,ki] using hh
     by_cases ok:wOk (atW l i)=true
     ·have e:wErr (l.take i) (atW l i)=0:=by simp[wErr,hb,hh,ok]
      rw[e] at hc
      simp at hc
      unfold wOk at ok
      simp only[Bool.and_eq_true] at ok
      simp[hlt,Nat.not_le.2 hlt,hlti,r,k0,k1,k2,k3,p0,p1,p2,p3,k49,c41,hb,k50,hh',ki,E.bound,ok,w1',St.tidy,hbv]
      exact⟨l.length-(i+1),by omega,i+1,by omega,by omega,hc,by omega⟩
     ·simp only[Bool.not_eq_true] at ok
      have e:wErr (l.take i) (atW l i)=2:=by simp[wErr,hb,hh,ok]
      rw[e] at hc
      simp at hc
      unfold wOk at ok
      rcases hm:within (atW l i).mass 1 200000 with _ | _
      ·simp[hlt,Nat.not_le.2 hlt,hlti,r,k0,k1,k2,k3,p0,p1,p2,p3,k49,c41,hb,k50,hh',ki,E.bound,hm,← hc]
      ·rcases hm2:within (atW l i).str 1 1000000 with _ | _
       ·simp[hlt,Nat.not_le.2 hlt,hlti,r,k0,k1,k2,k3,p0,p1,p2,p3,k49,c41,hb,k50,hh',ki,E.bound,hm,hm2,← hc]
       ·rcases hm3:within (atW l i).stiff 0 100000000 with _ | _
        ·simp[hlt,Nat.not_le.2 hlt,hlti,r,k0,k1,k2,k3,p0,p1,p2,p3,k49,c41,hb,k50,hh',ki,E.bound,hm,hm2,hm3,← hc]
        ·rw[hm,hm2,hm3] at ok; cases ok
   ·simp only[Bool.not_eq_true] at hb
    have e:wErr (l.take i) (atW l i)=4:=by simp[wErr,hb]
    rw[e] at hc
    simp at hc
    simp[hlt,Nat.not_le.2 hlt,hlti,r,k0,p0,k49,hb,← hc]
  ·obtain rfl:i=l.length:=by omega
   rw[chkWL_ge (by omega)] at hc
   simp[r,← hc]
end B
end Go.Abs
namespace Go.Abs
namespace B
set_option maxRecDepth 100000
set_option maxHeartbeats 0
abbrev sdV (s:Sd):Value:=.agg #[i64 s.len,i64 s.core,i64 s.over,.string s.wire,.string s.wrap]
theorem chkW_few {l:List Wi} (h:chkW l=0):l.length≤20:=by
 unfold chkW at h
 split at h
 ·cases h
 ·omega
theorem strW {l:List Wi} {n:ByteArray} {c:Int} (hw:chkW l=0) (h:hasW l n=true) (h1:100≤c) (h2:c≤3000) :
  IntKind.wrap .i64 ((getW l n).str * c)=(getW l n).str * c∧IntKind.wrap .i64 ((getW l n).str * c * c)=(getW l n).str * c * c∧IntKind.wrap .i64 ((getW l n).mass * c)=(getW l n).mass * c∧IntKind.wrap .i64 ((getW l n).mass * c * c)=(getW l n).mass * c * c:=by
 obtain⟨m1,m2,m3,m4,_⟩:=getW_ok hw h
 have a:=mulB (a:=(getW l n).str) (b:=c) (A:=1000000) (B:=3000) (by omega) (by omega) (by omega) h2
 have b:=mulB (a:=(getW l n).str * c) (b:=c) (A:=3000000000) (B:=3000) a.1 (by omega) (by omega) h2
 have e:=mulB (a:=(getW l n).mass) (b:=c) (A:=200000) (B:=3000) (by omega) (by omega) (by omega) h2
 have g:=mulB (a:=(getW l n).mass * c) (b:=c) (A:=600000000) (B:=3000) e.1 (by omega) (by omega) h2
 exact⟨wrap_eq (by omega) (by omega),wrap_eq (by omega) (by omega),wrap_eq (by omega) (by omega),wrap_eq (by omega) (by omega)⟩
theorem c76 {d lim:Nat} {h:Heap} {v:Value} {l:List Wi} {s:Sd} (t:SlW h v l) (hw:chkW l=0):E.call (d+2) lim 76 [v,sdV s] h=some (i64 (sErr l s),h):=by
 have few:=chkW_few hw
 have r:=t.rules2
 have k50:=fun lim L n=>c74 (d:=d) (lim:=lim) (n:=n) ((Sl_freeze.2 t).app L) (by omega)
 have k13:=fun lim hh a b c=>c41 (d:=d) (lim:=lim) (h:=hh) (a:=a) (b:=b) (c:=c)
 refine call1 fn76 rfl (by simp[ef76]) ?_
 obtain⟨len,core,over,wire,wrap⟩:=s
 unfold sErr
 rcases e1:within len 1000 300000 with _ | _
 ·simp[ef76,k13,e1]
 rcases e2:within core 100 3000 with _ | _
 ·simp[ef76,k13,e1,e2]
 rcases e3:within over 0 10000 with _ | _
 ·simp[ef76,k13,e1,e2,e3]
 simp only[Bool.true_eq_false,or_self,if_false]
 have hcore:100≤core∧core≤3000:=by simpa [within] using e2
 have fin:∀ q:hasW l wire=true,∃ x,(getW l wire).str=x∧IntKind.wrap .i64 (x * core)=x * core∧IntKind.wrap .i64 (x * core * core)=x * core * core ∧
   (idxW l wire<l.length)∧(cS encW l)[idxW l wire * 4+2]?=some (i64 x):=fun q=>by
  have sw:=strW hw q hcore.1 hcore.2
  have ql:idxW l wire<l.length:=by simpa [hasW] using q
  have p2:=cW_j ql (show 2<4 by omega)
  exact⟨_,rfl,sw.1,sw.2.1,ql,by rw[p2]; rfl⟩
 by_cases o:over=0
 ·subst o
  by_cases wr:wrap=⟨#[]⟩
  ·subst wr
   rcases hh:hasW l wire with _ | _
   ·have hh':¬ idxW l wire<l.length:=by simpa [hasW] using hh
    simp[ef76,k13,k50,e1,e2,e3,hh']
   ·obtain⟨x,hx,w1,w2,ql,px⟩:=fin hh
    have q0:¬ ((idxW l wire:Int)<0):=by omega
    have q1:(0:Int)≤idxW l wire:=by omega
    have k2:idxW l wire * 4+2<l.length * 4:=by omega
    rw[hx]
    by_cases z:x * core * core<1000000
    ·simp[ef76,k13,k50,e1,e2,e3,ql,q0,q1,r,k2,px,w1,w2,z]
    ·simp[ef76,k13,k50,e1,e2,e3,ql,q0,q1,r,k2,px,w1,w2,z]
  ·simp[ef76,k13,e1,e2,e3,wr]
 ·by_cases oc:over≤core
  ·simp[ef76,k13,e1,e2,e3,o,oc]
  ·by_cases wr:wrap=⟨#[]⟩
   ·subst wr
    simp[ef76,k13,e1,e2,e3,o,oc]
   ·rcases hh:hasW l wire with _ | _
    ·have hh':¬ idxW l wire<l.length:=by simpa [hasW] using hh
     simp[ef76,k13,k50,e1,e2,e3,hh',o,oc,wr]
    ·obtain⟨x,hx,w1,w2,ql,px⟩:=fin hh
     have q0:¬ ((idxW l wire:Int)<0):=by omega
     have q1:(0:Int)≤idxW l wire:=by omega
     have k2:idxW l wire * 4+2<l.length * 4:=by omega
     rw[hx]
     rcases hr:hasW l wrap with _ | _
     ·have hr':¬ idxW l wrap<l.length:=by simpa [hasW] using hr
      simp[ef76,k13,k50,e1,e2,e3,ql,q0,q1,hr',o,oc,wr]
     ·have hr':idxW l wrap<l.length:=by simpa [hasW] using hr
      have q3:¬ ((idxW l wrap:Int)<0):=by omega
      by_cases z:x * core * core<1000000
      ·simp[ef76,k13,k50,e1,e2,e3,ql,q0,q1,q3,hr',o,oc,wr,r,k2,px,w1,w2,z]
      ·simp[ef76,k13,k50,e1,e2,e3,ql,q0,q1,q3,hr',o,oc,wr,r,k2,px,w1,w2,z]
theorem c99 {d lim:Nat} {h:Heap} {v:Value} {l:List Wi} {s:Sd} (t:SlW h v l) (hl:l.length≤1000) (hnm:Nms l):E.call (d+4) lim 99 [v,sdV s] h=some (i64 (chkD l s),h):=by
 have r:=t.rules2
 have k19:=fun lim L=>c68 (d:=d+1) (lim:=lim) ((Sl_freeze.2 t).app L) hl hnm
 refine call1 fn99 rfl (by simp[ef99]) ?_
 by_cases hw:chkW l=0
 ·have k51:=fun lim L n=>c149 (d:=d) (lim:=lim) (n:=n) ((Sl_freeze.2 t).app L) hl
  have k48:=fun lim hh a b c=>c67 (d:=d+2) (lim:=lim) (h:=hh) (a:=a) (b:=b) (c:=c)
  obtain⟨len,core,over,wire,wrap⟩:=s
  have ed:chkD l ⟨len,core,over,wire,wrap⟩=sErr l ⟨len,core,over,wire,wrap⟩:=by simp[chkD,hw]
  rw[ed]
  unfold sErr
  rcases e1:within len 1000 300000 with _ | _
  ·simp[ef99,k19,hw,k51,k48,e1]
  rcases e2:within core 100 3000 with _ | _
  ·simp[ef99,k19,hw,k51,k48,e1,e2]
  rcases e3:within over 0 10000 with _ | _
  ·simp[ef99,k19,hw,k51,k48,e1,e2,e3]
  simp only[Bool.true_eq_false,or_self,if_false]
  have hcore:100≤core∧core≤3000:=by simpa [within] using e2
  have fin:∀ q:hasW l wire=true,∃ x,(getW l wire).str=x∧IntKind.wrap .i64 (x * core)=x * core∧IntKind.wrap .i64 (x * core * core)=x * core * core:=fun q=>by
   have sw:=strW hw q hcore.1 hcore.2
   exact⟨_,rfl,sw.1,sw.2.1⟩
  by_cases o:over=0
  ·subst o
   by_cases wr:wrap=⟨#[]⟩
   ·subst wr
    rcases hh:hasW l wire with _ | _
    ·simp[ef99,k19,hw,k51,k48,e1,e2,e3,hh]
    ·obtain⟨x,hx,w1,w2⟩:=fin hh
     rw[hx]
     by_cases z:x * core * core<1000000
     ·simp[ef99,k19,hw,k51,k48,e1,e2,e3,hh,hx,w1,w2,z]
     ·simp[ef99,k19,hw,k51,k48,e1,e2,e3,hh,hx,w1,w2,z]
   ·simp[ef99,k19,hw,k51,k48,e1,e2,e3,wr]
  ·by_cases oc:over≤core
   ·simp[ef99,k19,hw,k51,k48,e1,e2,e3,o,oc]
   ·by_cases wr:wrap=⟨#[]⟩
    ·subst wr
     simp[ef99,k19,hw,k51,k48,e1,e2,e3,o,oc]
    ·rcases hh:hasW l wire with _ | _
     ·simp[ef99,k19,hw,k51,k48,e1,e2,e3,hh,o,oc,wr]
     ·obtain⟨x,hx,w1,w2⟩:=fin hh
      rw[hx]
      rcases hr:hasW l wrap with _ | _
      ·simp[ef99,k19,hw,k51,k48,e1,e2,e3,hh,hr,o,oc,wr]
      ·by_cases z:x * core * core<1000000
       ·simp[ef99,k19,hw,k51,k48,e1,e2,e3,hh,hr,hx,w1,w2,o,oc,wr,z]
       ·simp[ef99,k19,hw,k51,k48,e1,e2,e3,hh,hr,hx,w1,w2,o,oc,wr,z]
 ·simp[ef99,k19,hw,chkD]
end B
end Go.Abs
