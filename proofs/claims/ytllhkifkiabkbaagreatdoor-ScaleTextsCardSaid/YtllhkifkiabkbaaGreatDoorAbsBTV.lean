--
import Derived.Test.YtllhkifkiabkbaaGreatDoorAbsBGM
import Derived.Test.YtllhkifkiabkbaaGreatDoorAbsWp20
import Derived.Test.YtllhkifkiabkbaaGreatDoorAbsWpO
set_option linter.unusedSimpArgs false
set_option linter.unusedVariables false
namespace Go.Abs
namespace B.T
set_option maxRecDepth 100000
set_option maxHeartbeats 0
theorem c71 {d lim:Nat} {h:Heap} {n:Int} (hn:R64 n):E.call (d+1) lim 71 [i64 n] h=some (tx (dec n),h):=by
 show natItoa [i64 n] h=_
 unfold natItoa
 unfold R64 at hn
 simp only
 rw[if_pos (by omega)]
theorem c171 {d lim:Nat} {h:Heap} {l:List UInt8} {c:UInt8}:E.call (d+1) lim 171 [tx l,tx [c]] h=some (i64 (Lib.indexByte l c),h):=rfl
theorem trim_unsg (l:List UInt8):(if l.take 1=[45] then l.drop 1 else l)=unsg l:=by
 rcases l with _ | ⟨c,r⟩
 ·rfl
 ·by_cases h:c=45
  ·subst h; rfl
  ·simp[h,unsg]
end B.T
end Go.Abs
namespace Go.Abs
namespace B.T
set_option maxRecDepth 100000
set_option maxHeartbeats 0
def Er (h:Heap):Prop:=isErr h 1=true∧isErr h 2=true
theorem Er.freeze {h:Heap} (e:Er h):Er h.freeze:=by unfold Er; rw[isErr_freeze,isErr_freeze]; exact e
theorem isErr_app {h L:Heap} {i:Nat} (e:isErr h i=true):isErr (h++L) i=true:=by
 unfold isErr at e ⊢
 by_cases q:i<h.length
 ·rw[Heap.get_append_lt q]; exact e
 ·exfalso
  have:h.get i=none:=Heap.get_ge (by omega)
  rw[this] at e; cases e
theorem Er.app {h L:Heap} (e:Er h):Er (h++L):=⟨isErr_app e.1,isErr_app e.2⟩
theorem c125 {d lim:Nat} {h:Heap} {l:List UInt8} (e:Er h) (hl:l.length<1000000):E.call (d+1) lim 125 [tx l] h=match Lib.atoiAll l with
  | .ok v=>some (.tuple #[i64 v,.nilIface],h)
  | .range=>some (.tuple #[i64 (Lib.atoiSat l),.iface 262 (.pointer (some ⟨h.length,0,none⟩))],h++[none])
  | _=>some (.tuple #[i64 0,.iface 262 (.pointer (some ⟨h.length,0,none⟩))],h++[none]):=by
 show natAtoi 262 1 2 [tx l] h=_
 unfold natAtoi
 have hs:(ByteArray.mk l.toArray).size≤281474976710656:=by rw[tx_size]; omega
 simp only[e.1,e.2,if_true]
 rw[if_pos hs]
 rcases Lib.atoiAll l with _ | _ | _ <;> rfl
theorem R64_ok {l:List UInt8} {n:Int} (h:Lib.atoiAll l=.ok n):R64 n:=by
 rcases l with _ | ⟨c,r⟩
 ·cases h
 ·unfold R64
  dsimp only[Lib.atoiAll] at h
  split at h
  ·cases h
  ·cases h
  ·split at h
   ·cases h
   ·split at h
    ·cases h
    ·injection h with h
     subst h
     split <;> omega
end B.T
end Go.Abs
namespace Go.Abs
namespace B.T
set_option maxRecDepth 100000
set_option maxHeartbeats 0
theorem c115u {d lim:Nat} {h:Heap} {c:UInt8}:E.call (d+1) lim 115 [.int .u8 c.toNat] h=some (.bool (isDg c),h):=by
 refine call1 fn115 rfl (by simp[ef115]) ?_
 by_cases a:48≤c.toNat
 ·have a':(48:Int)≤c.toNat:=by omega
  simp[ef115,isDg,a,a']; omega
 ·have a':¬ (48:Int)≤c.toNat:=by omega
  simp[ef115,isDg,a,a']
def DigR (n:Int) (m:Int) (l:List UInt8):Prop:=m.natAbs≤n.natAbs∧digs n.natAbs=(if m=0 then [] else digs m.natAbs)++l
theorem DigR.len {n m:Int} {l:List UInt8} (hn:R64 n) (d:DigR n m l):l.length≤20:=by
 have q:=congrArg List.length d.2
 have:=(digs_len (n:=n.natAbs) 20 (by decide)).2 (by unfold R64 at hn; omega)
 rw[List.length_append] at q; omega
theorem DigR.start {n:Int} (z:n≠0):DigR n n []:=⟨Nat.le_refl _,by rw[if_neg z]; simp⟩
theorem DigR.end_ {n:Int} {l:List UInt8} (d:DigR n 0 l):l=digs n.natAbs:=by rw[d.2,if_pos rfl]; rfl
theorem q10 (m:Int):absV (qmod m 10)=((m.natAbs % 10:Nat):Int):=by
 have e:(qmod m 10).natAbs=m.natAbs % 10:=by unfold qmod; rw[Int.natAbs_tmod]; rfl
 unfold absV
 split
 ·rw[wrapR (by unfold R64; omega)]; omega
 ·omega
theorem d10 (m:Int):(qdiv m 10).natAbs=m.natAbs / 10:=by
 unfold qdiv; rw[Int.natAbs_tdiv]; rfl
theorem DigR.step {n m:Int} {l:List UInt8} (z:m≠0) (d:DigR n m l):DigR n (qdiv m 10) (UInt8.ofNat (48+m.natAbs % 10)::l):=by
 have e:=d10 m
 refine⟨by have:=d.1; omega,?_⟩
 rw[d.2,if_neg z]
 by_cases q:m.natAbs<10
 ·have:qdiv m 10=0:=by omega
  rw[if_pos this,digs_lt q,Nat.mod_eq_of_lt q]; rfl
 ·have:qdiv m 10≠0:=by omega
  rw[if_neg this,e,digs_ge q]; simp
theorem c60 {d lim:Nat} {h:Heap} {n:Int} (hn:R64 n):E.call (d+2) lim 60 [i64 n] h=some (tx (dec n),h):=by
 refine call1 fn60 rfl (by simp[ef60]) ?_
 by_cases z:n=0
 ·subst z
  simp[ef60,dec,digs_lt]
 ·simp[ef60,z]
  refine wpC_loop (fun y st=>∃ (m:Int) (l:List UInt8),y=m.natAbs∧DigR n m l∧st=⟨[(0,i64 n),(3,tx l),(4,i64 m)],h.freeze⟩) n.natAbs (by unfold R64 at hn; show _<2 ^ 64; omega) ?_ ?_
  ·simp[St.tidy]
   exact⟨_,rfl,_,DigR.start z,rfl,rfl⟩
  ·rintro y hy _ ⟨m,l,rfl,hd,rfl⟩
   have hl:=hd.len hn
   have s1:∀ c,E.bin .add (.string ⟨[c].toArray⟩) (tx l)=some (tx (c::l)):=fun c=>bin_sadd (by simp; omega)
   by_cases m0:m=0
   ·subst m0
    obtain rfl:=hd.end_
    by_cases n0:n<0
    ·simp[s1,n0,dec]
    ·have n1:0≤n:=by omega
     simp[s1,n0,n1,dec]
   ·have st:=hd.step m0
    obtain⟨k,hk,ek⟩:∃ k:Nat,k<10∧m.natAbs % 10=k:=⟨_,Nat.mod_lt _ (by decide),rfl⟩
    have q1:=q10 m
    rw[ek] at st q1
    have w1:IntKind.u8.wrap (IntKind.i64.wrap (48+(k:Int)))=48+(k:Int):=by
     rw[wrapR (by unfold R64; omega)]
     unfold IntKind.wrap
     simp[IntKind.signed,IntKind.bits]
     omega
    have w3:(48+(k:Int)).toNat=48+k:=by omega
    have w2:IntKind.i64.wrap (qdiv m 10)=qdiv m 10:=by
     have:=d10 m
     have:=hd.1
     rw[wrapR]
     unfold R64 at hn ⊢; omega
    have e:=d10 m
    simp[m0,c96,q1,w1,w2,w3,s1,St.tidy]
    rw[UInt8.ofNat_add] at st
    exact⟨(qdiv m 10).natAbs,by omega,qdiv m 10,rfl,_,st,rfl,rfl⟩
end B.T
end Go.Abs
namespace Go.Abs
namespace B.T
set_option maxRecDepth 100000
set_option maxHeartbeats 0
def dgs (s:List UInt8) (fr i:Nat):List UInt8:=(s.take i).drop fr
theorem dgs_step {s:List UInt8} {fr i:Nat} (h:i<s.length) (h2:fr≤i):dgs s fr (i+1)=dgs s fr i++[s[i]]:=by
 unfold dgs
 rw[List.take_succ_eq_append_getElem h,List.drop_append_of_le_length (by rw[List.length_take]; omega)]
def DgA (s:List UInt8) (fr i:Nat):Prop:=(dgs s fr i).all isDg=true
theorem dgs_len {s:List UInt8} {fr i:Nat} (h:i≤s.length):(dgs s fr i).length=i-fr:=by
 unfold dgs; rw[List.length_drop,List.length_take]; omega
theorem dgs_end {s:List UInt8} {fr:Nat}:dgs s fr s.length=s.drop fr:=by unfold dgs; rw[List.take_length]
theorem dgs_start {s:List UInt8} {fr:Nat}:dgs s fr fr=[]:=by unfold dgs; rw[List.drop_of_length_le (by rw[List.length_take]; omega)]
theorem dgA_start {s:List UInt8} {fr:Nat}:DgA s fr fr:=by unfold DgA; rw[dgs_start]; rfl
theorem valD_18 {l:List UInt8} (h:l.all isDg=true) (hl:l.length≤18):valD l<1000000000000000000 :=
 Nat.lt_of_lt_of_le (valD_lt l h) (Nat.pow_le_pow_right (n:=10) (by decide) hl)
theorem rdn_bad {k:Nat} {s:List UInt8} (h:(unsg s).all isDg=false):rdn k s=(0,false):=by
 unfold rdn
 split
 ·rfl
 ·rw[if_neg (by rw[h]; decide)]
theorem rdn_short {k:Nat} {s:List UInt8} (h:(unsg s).length=0∨k<(unsg s).length):rdn k s=(0,false):=by
 unfold rdn; rw[if_pos h]
theorem rdn_ok {k:Nat} {s:List UInt8} (h:0<(unsg s).length) (h2:(unsg s).length≤k) (h3:(unsg s).all isDg=true):rdn k s=(nub s,decide (dec (nub s)=s)):=by
 unfold rdn; rw[if_neg (by omega),if_pos h3]
theorem unsg_minus {s:List UInt8} (h:s[0]?=some 45):unsg s=s.drop 1:=by
 rcases s with _ | ⟨c,r⟩
 ·cases h
 ·simp at h; subst h; rfl
theorem unsg_plain {s:List UInt8} {c:UInt8} (h:s[0]?=some c) (n:c≠45):unsg s=s.drop 0:=by
 rcases s with _ | ⟨c,r⟩
 ·cases h
 ·simp at h; subst h; simp[unsg,n]
theorem byte_ne {c:UInt8} (n:c≠45):¬ (c.toNat:Int)=45:=fun e=>n (UInt8.toNat_inj.1 (by show c.toNat=45; omega))
theorem nub_minus {s:List UInt8} (h:s[0]?=some 45):nub s=-(valD (unsg s):Int):=by
 unfold nub; rw[if_pos (by rw[List.head?_eq_getElem?]; exact h)]
theorem nub_plain {s:List UInt8} {c:UInt8} (h:s[0]?=some c) (n:c≠45):nub s=(valD (unsg s):Int):=by
 unfold nub; rw[if_neg (by rw[List.head?_eq_getElem?,h]; exact fun q=>n (Option.some.inj q))]
theorem u8_sub {c:UInt8} (h:isDg c=true):IntKind.i64.wrap (IntKind.u8.wrap ((c.toNat:Int)-48))=((c.toNat-48:Nat):Int):=by
 have hc:48≤c.toNat∧c.toNat≤57:=by simpa [isDg] using h
 have:IntKind.u8.wrap ((c.toNat:Int)-48)=((c.toNat-48:Nat):Int):=by
  unfold IntKind.wrap
  simp[IntKind.signed,IntKind.bits]
  omega
 rw[this,wrapR (by unfold R64; omega)]
theorem c95_1 {d lim k:Nat} {h:Heap} {s:List UInt8} {c:UInt8} (hk:k≤18) (hs:s.length<1000000) (h0:s[0]?=some c) (hc:c=45):E.call (d+3) lim 95 [tx s,i64 (k:Int)] h=some (.tuple #[i64 (rdn k s).1,.bool (rdn k s).2],h):=by
 refine call1 fn95 rfl (by simp[ef95]) ?_
 have p0:0<s.length:=(List.getElem?_eq_some_iff.1 h0).1
 obtain rfl:s[0]=c:=by rw[List.getElem?_eq_getElem p0] at h0; exact Option.some.inj h0
 have un:unsg s=s.drop 1:=unsg_minus (hc ▸ h0)
 have ul:(unsg s).length=s.length-1:=by rw[un,List.length_drop]
 have nb:nub s=-(valD (unsg s):Int):=nub_minus (hc ▸ h0)
 have cc:(s[0].toNat:Int)=45:=by rw[hc]; rfl
 have i18:¬ (18:Int)<(k:Int):=by omega
 have i18':(k:Int)≤18:=by omega
 have k1:IntKind.i64.wrap (1+(k:Int))=((k+1:Nat):Int):=by rw[wrapR (by unfold R64; omega)]; omega
 by_cases e0:s.length=1
 ·have e0':(s.length:Int)=1:=by omega
  have:=rdn_short (k:=k) (.inl (by omega:(unsg s).length=0))
  simp[ef95,p0,cc,e0',this]
  try omega
 have e0':¬ (s.length:Int)=1:=by omega
 by_cases e1:k+1<s.length
 ·have e1':((k+1:Nat):Int)<(s.length:Int):=by omega
  have:=rdn_short (k:=k) (.inr (by omega:k<(unsg s).length))
  generalize (k+1:Nat)=kf at *
  simp[ef95,p0,cc,e0',e0',k1,e1,e1',this]
  try omega
 have e1':¬ ((k+1:Nat):Int)<(s.length:Int):=by omega
 have e1'':(s.length:Int)≤((k+1:Nat):Int):=by omega
 have e1n:s.length≤k+1:=by omega
 generalize hkf:(k+1:Nat)=kf at *
 simp[ef95,p0,cc,e0',e0',k1,e1,e1',e1'',e1n,i18,i18']
 refine wpC_loop (fun y st=>∃ i:Nat,y=s.length-i∧1≤i∧i≤s.length∧DgA s 1 i∧st=⟨[(0,tx s),(6,i64 (valD (dgs s 1 i):Nat)),(7,i64 1),(8,i64 (i:Nat))],h.freeze⟩) (s.length-1) (by show s.length-1<2 ^ 64; omega) ?_ ?_
 ·simp[St.tidy]
  exact⟨1,by omega,by omega,by omega,dgA_start,by rw[dgs_start]; rfl,rfl⟩
 ·rintro y hy _ ⟨i,rfl,hi0,hi,ha',rfl⟩
  have ha:(dgs s 1 i).all isDg=true:=ha'
  have v18:=valD_18 ha (by rw[dgs_len hi]; omega)
  by_cases hlt:i<s.length
  ·have w1':IntKind.i64.wrap ((i:Int)+1)=((i+1:Nat):Int):=by rw[wrapR (by unfold R64; omega)]; rfl
   have gi:s[i]?=some s[i]:=List.getElem?_eq_getElem hlt
   have st:=dgs_step hlt hi0
   have nlt:¬ s.length≤i:=by omega
   by_cases hd:isDg s[i]=true
   ·have al:(dgs s 1 (i+1)).all isDg=true:=by rw[st,List.all_append,ha,List.all_cons,hd]; rfl
    have vs:=valD_snoc (dgs s 1 i) s[i]
    rw[← st] at vs
    have hc:48≤s[i].toNat∧s[i].toNat≤57:=by simpa [isDg] using hd
    have a1:=u8_sub hd
    have v19:=valD_18 al (by rw[dgs_len (by omega)]; omega)
    generalize valD (dgs s 1 i)=v at *
    generalize hv2:valD (dgs s 1 (i+1))=v2 at *
    have a2:IntKind.i64.wrap (10 * (v:Int))=((10 * v:Nat):Int):=by rw[wrapR (by unfold R64; omega)]; rfl
    have a3:IntKind.i64.wrap (((10 * v:Nat):Int)+((s[i].toNat-48:Nat):Int))=(v2:Int):=by rw[wrapR (by unfold R64; omega),vs]; omega
    generalize ((10 * v:Nat):Int)=tv at *
    generalize ((s[i].toNat-48:Nat):Int)=tb at *
    simp[hlt,nlt,c115u,hd,a1,a2,a3,w1',St.tidy]
    exact⟨s.length-(i+1),by omega,i+1,rfl,by omega,by omega,al,by rw[hv2],by omega⟩
   ·have hd:isDg s[i]=false:=by simpa using hd
    have bad:(unsg s).all isDg=false:=by
     rw[un,Bool.eq_false_iff]
     intro q
     have:=List.all_eq_true.1 q s[i] (List.mem_of_getElem? (i:=i-1) (by rw[List.getElem?_drop,← gi]; congr 1; omega))
     rw[hd] at this; cases this
    have:=rdn_bad (k:=k) bad
    simp[hlt,nlt,c115u,hd,this]
  ·obtain rfl:i=s.length:=by omega
   rw[dgs_end,← un] at *
   have ok:=rdn_ok (k:=k) (s:=s) (by omega) (by omega) ha
   have r:R64 (nub s):=by rw[nb]; unfold R64; omega
   have cd:=c60 (d:=d) (lim:=h.length) (h:=h.freeze) r
   generalize valD (unsg s)=v at *
   have wn:IntKind.i64.wrap (-(v:Int))=-(v:Int):=wrapR (by unfold R64; omega)
   rw[nb] at cd
   rw[nb] at ok
   simp[cd,ok,wn]
theorem c95_0 {d lim k:Nat} {h:Heap} {s:List UInt8} {c:UInt8} (hk:k≤18) (hs:s.length<1000000) (h0:s[0]?=some c) (hc:c≠45):E.call (d+3) lim 95 [tx s,i64 (k:Int)] h=some (.tuple #[i64 (rdn k s).1,.bool (rdn k s).2],h):=by
 refine call1 fn95 rfl (by simp[ef95]) ?_
 have p0:0<s.length:=(List.getElem?_eq_some_iff.1 h0).1
 obtain rfl:s[0]=c:=by rw[List.getElem?_eq_getElem p0] at h0; exact Option.some.inj h0
 have un:unsg s=s.drop 0:=unsg_plain h0 hc
 have ul:(unsg s).length=s.length-0:=by rw[un,List.length_drop]
 have nb:nub s=(valD (unsg s):Int):=nub_plain h0 hc
 have cc:¬ (s[0].toNat:Int)=45:=byte_ne hc
 have i18:¬ (18:Int)<(k:Int):=by omega
 have i18':(k:Int)≤18:=by omega
 have k1:IntKind.i64.wrap ((k:Int))=((k+0:Nat):Int):=by rw[wrapR (by unfold R64; omega)]; omega
 by_cases e0:s.length=0
 ·have e0':(s.length:Int)=0:=by omega
  have:=rdn_short (k:=k) (.inl (by omega:(unsg s).length=0))
  omega
 have e0':¬ (s.length:Int)=0:=by omega
 by_cases e1:k+0<s.length
 ·have e1':((k+0:Nat):Int)<(s.length:Int):=by omega
  have:=rdn_short (k:=k) (.inr (by omega:k<(unsg s).length))
  generalize (k+0:Nat)=kf at *
  simp[ef95,p0,cc,e0',List.ne_nil_of_length_pos p0,k1,e1,e1',this]
  try omega
 have e1':¬ ((k+0:Nat):Int)<(s.length:Int):=by omega
 have e1'':(s.length:Int)≤((k+0:Nat):Int):=by omega
 have e1n:s.length≤k+0:=by omega
 generalize hkf:(k+0:Nat)=kf at *
 simp[ef95,p0,cc,e0',List.ne_nil_of_length_pos p0,k1,e1,e1',e1'',e1n,i18,i18']
 refine wpC_loop (fun y st=>∃ i:Nat,y=s.length-i∧0≤i∧i≤s.length∧DgA s 0 i∧st=⟨[(0,tx s),(6,i64 (valD (dgs s 0 i):Nat)),(7,i64 0),(8,i64 (i:Nat))],h.freeze⟩) (s.length-0) (by show s.length-0<2 ^ 64; omega) ?_ ?_
 ·simp[St.tidy]
  exact⟨0,by omega,by omega,dgA_start,by rw[dgs_start]; rfl,rfl⟩
 ·rintro y hy _ ⟨i,rfl,hi0,hi,ha',rfl⟩
  have ha:(dgs s 0 i).all isDg=true:=ha'
  have v18:=valD_18 ha (by rw[dgs_len hi]; omega)
  by_cases hlt:i<s.length
  ·have w1':IntKind.i64.wrap ((i:Int)+1)=((i+1:Nat):Int):=by rw[wrapR (by unfold R64; omega)]; rfl
   have gi:s[i]?=some s[i]:=List.getElem?_eq_getElem hlt
   have st:=dgs_step hlt hi0
   have nlt:¬ s.length≤i:=by omega
   by_cases hd:isDg s[i]=true
   ·have al:(dgs s 0 (i+1)).all isDg=true:=by rw[st,List.all_append,ha,List.all_cons,hd]; rfl
    have vs:=valD_snoc (dgs s 0 i) s[i]
    rw[← st] at vs
    have hc:48≤s[i].toNat∧s[i].toNat≤57:=by simpa [isDg] using hd
    have a1:=u8_sub hd
    have v19:=valD_18 al (by rw[dgs_len (by omega)]; omega)
    generalize valD (dgs s 0 i)=v at *
    generalize hv2:valD (dgs s 0 (i+1))=v2 at *
    have a2:IntKind.i64.wrap (10 * (v:Int))=((10 * v:Nat):Int):=by rw[wrapR (by unfold R64; omega)]; rfl
    have a3:IntKind.i64.wrap (((10 * v:Nat):Int)+((s[i].toNat-48:Nat):Int))=(v2:Int):=by rw[wrapR (by unfold R64; omega),vs]; omega
    generalize ((10 * v:Nat):Int)=tv at *
    generalize ((s[i].toNat-48:Nat):Int)=tb at *
    simp[hlt,nlt,c115u,hd,a1,a2,a3,w1',St.tidy]
    exact⟨s.length-(i+1),by omega,i+1,rfl,by omega,al,by rw[hv2],by omega⟩
   ·have hd:isDg s[i]=false:=by simpa using hd
    have bad:(unsg s).all isDg=false:=by
     rw[un,Bool.eq_false_iff]
     intro q
     have:=List.all_eq_true.1 q s[i] (List.mem_of_getElem? (i:=i-0) (by rw[List.getElem?_drop,← gi]; congr 1; omega))
     rw[hd] at this; cases this
    have:=rdn_bad (k:=k) bad
    simp[hlt,nlt,c115u,hd,this]
  ·obtain rfl:i=s.length:=by omega
   rw[dgs_end,← un] at *
   have ok:=rdn_ok (k:=k) (s:=s) (by omega) (by omega) ha
   have r:R64 (nub s):=by rw[nb]; unfold R64; omega
   have cd:=c60 (d:=d) (lim:=h.length) (h:=h.freeze) r
   generalize valD (unsg s)=v at *
   have wn:IntKind.i64.wrap (-(v:Int))=-(v:Int):=wrapR (by unfold R64; omega)
   rw[nb] at cd
   rw[nb] at ok
   simp[cd,ok,wn]
theorem c95 {d lim k:Nat} {h:Heap} {s:List UInt8} (hk:k≤18) (hs:s.length<1000000):E.call (d+3) lim 95 [tx s,i64 (k:Int)] h=some (.tuple #[i64 (rdn k s).1,.bool (rdn k s).2],h):=by
 rcases e:s[0]? with _ | c
 ·obtain rfl:s=[]:=by
   rcases s with _ | ⟨c,r⟩
   ·rfl
   ·cases e
  refine call1 fn95 rfl (by simp[ef95]) ?_
  simp[ef95,rdn,unsg]
 ·by_cases hc:c=45
  ·exact c95_1 hk hs e hc
  ·exact c95_0 hk hs e hc
end B.T
end Go.Abs
namespace Go.Abs
namespace B.T
set_option maxRecDepth 100000
set_option maxHeartbeats 0
def cT (L:List (List UInt8)):List Value:=L.map tx
theorem cT_len (L:List (List UInt8)):(cT L).length=L.length:=by simp[cT]
theorem cT_snoc (L:List (List UInt8)) (x:List UInt8):cT L++[tx x]=cT (L++[x]):=by simp[cT]
theorem cT_plain' (L:List (List UInt8)):(cT L).all plainV=true:=by simp[cT,plainV]
theorem cT_get {L:List (List UInt8)} {i:Nat} {x:List UInt8} (h:L[i]?=some x):(cT L)[i]?=some (tx x):=by simp[cT,h]
def lVT (b:Nat) (L:List (List UInt8)):Value:=if L=[] then .slice none 0 0 else .slice (some ⟨b,0,none⟩) L.length 1
def lBT (L:List (List UInt8)):List (Option Blk):=if L=[] then [] else [some ⟨cT L,true⟩]
theorem cw_cnt (c:UInt8) (s:List UInt8):∀ i,(cw c s i).1.length≤i
 | 0=>Nat.le_refl _
 | i+1=>by
  have:=cw_cnt c s i
  unfold cw
  split
  ·simp; exact this
  ·omega
theorem c49 {d lim:Nat} {h:Heap} {s:List UInt8} {c:UInt8} (hs:s.length<1000000) :
  E.call (d+1) lim 49 [tx s,.int .u8 c.toNat] h=some (lVT h.length (cutB c s),h++lBT (cutB c s)):=by
 rw[← cw_end]
 refine call_pure fn49 rfl (by simp[ef49]) ?_
 simp[ef49]
 refine wpC_loop (fun y st=>∃ (i:Nat),y=s.length+1-i∧i≤s.length+1∧st=⟨[(0,tx s),(1,.int .u8 c.toNat),(5,lVT h.length (cw c s i).1),(6,i64 ((cw c s i).2:Nat)),(7,i64 (i:Nat))],h.freeze++lBT (cw c s i).1⟩) (s.length+1) (by show s.length+1<2 ^ 64; omega) ?_ ?_
 ·simp[St.tidy]
  exact⟨0,by omega,by omega,⟨rfl,rfl,rfl⟩,rfl⟩
 ·rintro y hy _ ⟨i,rfl,hi,rfl⟩
  by_cases hl:i≤s.length
  ·have w1':IntKind.i64.wrap ((i:Int)+1)=((i+1:Nat):Int):=by rw[wrapR (by unfold R64; omega)]; rfl
   have fl:=cw_le c s i hl
   have hl':(i:Int)≤s.length:=by omega
   have nxt:cw c s (i+1)=if i=s.length∨s[i]?=some c then ((cw c s i).1++[(s.take i).drop (cw c s i).2],i+1) else cw c s i:=rfl
   rcases hcw:cw c s i with ⟨W,fr⟩
   rw[hcw] at nxt fl
   simp only at nxt fl
   have sn:=cT_snoc W ((s.take i).drop fr)
   have wl:=cT_len W
   have wW:W.length≤i:=by have:=cw_cnt c s i; rw[hcw] at this; exact this
   by_cases il:i=s.length
   ·subst il
    rw[if_pos (Or.inl rfl)] at nxt
    rw[List.take_length] at nxt sn
    have cp:=cT_plain' (W++[s.drop fr])
    by_cases e:W=[]
    ·subst e
     simp[-collect_own1,lVT,lBT,fl,w1',fillL,zeros,E.append,E.added,St.tidy,collect_box]
     exact⟨by decide,s.length+1,by omega,by omega,by rw[nxt]; exact⟨rfl,rfl,rfl⟩,by rw[nxt]; rfl⟩
    ·have e2:¬ W++[s.drop fr]=[]:=by simp
     simp[-collect_own1,lVT,lBT,e,fl,w1',fillL,zeros,E.append,E.added,wl,sn,cp,St.tidy,collect_box]
     exact⟨⟨by omega,by unfold maxLen; omega⟩,s.length+1,by omega,by omega,by rw[nxt]; simp only[if_neg e2,List.length_append,List.length_singleton]; refine⟨trivial,?_,?_⟩ <;> first | trivial | rfl | omega,by rw[nxt]; simp only[if_neg e2]⟩
   ·have lt:i<s.length:=by omega
    have lt':¬ (i:Int)=s.length:=by omega
    by_cases b:s[i]=c
    ·rw[if_pos (Or.inr (by rw[List.getElem?_eq_getElem lt,b]))] at nxt
     have b':(s[i].toNat:Int)=c.toNat:=by rw[b]
     have cp:=cT_plain' (W++[(s.take i).drop fr])
     by_cases e:W=[]
     ·subst e
      simp[-collect_own1,lVT,lBT,hl,hl',lt,lt',b',fl,w1',fillL,zeros,E.append,E.added,St.tidy,collect_box]
      exact⟨by decide,s.length-i,by omega,i+1,by omega,by omega,by rw[nxt]; exact⟨rfl,rfl,rfl⟩,by rw[nxt]; rfl⟩
     ·have e2:¬ W++[(s.take i).drop fr]=[]:=by simp
      simp[-collect_own1,lVT,lBT,e,hl,hl',lt,lt',b',fl,w1',fillL,zeros,E.append,E.added,wl,sn,cp,St.tidy,collect_box]
      exact⟨⟨by omega,by unfold maxLen; omega⟩,s.length-i,by omega,i+1,by omega,by omega,by rw[nxt]; simp only[if_neg e2,List.length_append,List.length_singleton]; refine⟨trivial,?_,?_⟩ <;> first | trivial | rfl | omega,by rw[nxt]; simp only[if_neg e2]⟩
    ·rw[if_neg (by rw[not_or]; exact⟨il,by rw[List.getElem?_eq_getElem lt]; exact fun q=>b (Option.some.inj q)⟩)] at nxt
     have b':¬ (s[i].toNat:Int)=c.toNat:=fun q=>b (UInt8.toNat_inj.1 (by omega))
     have cp:=cT_plain' W
     by_cases e:W=[]
     ·subst e
      simp[-collect_own1,lVT,lBT,hl,hl',lt,lt',b',fl,w1',fillL,zeros,E.append,E.added,St.tidy,collect_box]
      exact⟨s.length-i,by omega,i+1,by omega,by omega,by rw[nxt]; exact⟨rfl,rfl,by omega⟩,by rw[nxt]⟩
     ·simp[-collect_own1,lVT,lBT,e,hl,hl',lt,lt',b',fl,w1',fillL,zeros,E.append,E.added,wl,sn,cp,St.tidy,collect_box]
      exact⟨s.length-i,by omega,i+1,by omega,by omega,by rw[nxt]; simp only[if_neg e]; refine⟨trivial,?_,?_⟩ <;> first | trivial | rfl | omega,by rw[nxt]; simp only[if_neg e]⟩
  ·obtain rfl:i=s.length+1:=by omega
   have hl':¬ ((s.length+1:Nat):Int)≤s.length:=by omega
   have hl'':¬ (s.length:Int)+1≤s.length:=by omega
   have e:¬ (cw c s (s.length+1)).1=[]:=by rw[cw_end]; exact cutB_ne c s
   have cp:=cT_plain' (cw c s (s.length+1)).1
   generalize cw c s (s.length+1)=W at *
   simp[-collect_own1,lVT,lBT,e,cp,hl'',collect_box]
end B.T
end Go.Abs
namespace Go.Abs
namespace B.T
set_option maxRecDepth 100000
set_option maxHeartbeats 0
theorem c129 {d lim:Nat} {h:Heap} {l:List UInt8} {c:UInt8}:E.call (d+2) lim 129 [tx l,tx [c]] h=some (i64 (Lib.indexByte l c),h):=by
 refine call1 fn129 rfl (by simp[ef129]) ?_
 simp[ef129,c171]
theorem c128 {d lim:Nat} {h:Heap} {l:List UInt8} {c:UInt8}:E.call (d+1) lim 128 [tx l,tx [c]] h=some (i64 ((l.count c:Nat):Int),h):=rfl
theorem cutB_count (c:UInt8):∀ s:List UInt8,(cutB c s).length=s.count c+1
 | []=>rfl
 | x::r=>by
  have ih:=cutB_count c r
  unfold cutB
  by_cases h:x=c
  ·subst h; simp[ih]
  ·rw[if_neg h,List.count_cons_of_ne (fun e=>h e)]
   rcases e:cutB c r with _ | ⟨w,ws⟩
   ·exact absurd e (cutB_ne c r)
   ·rw[e] at ih; simpa using ih
def cellW (W:List (List UInt8)) (k:Nat):List Value:=cT W++List.replicate k (tx [])
theorem cellW_len (W:List (List UInt8)) (k:Nat):(cellW W k).length=W.length+k:=by simp[cellW,cT_len]
theorem cellW_put (W:List (List UInt8)) (k:Nat) (a:List UInt8):splice (cellW W (k+1)) W.length [tx a]=cellW (W++[a]) k:=by
 have e:W.length=(cT W).length:=(cT_len W).symm
 unfold cellW
 rw[e]
 show (cT W++List.replicate (k+1) (tx [])).set (cT W).length (tx a)=_
 rw[List.replicate_succ,List.set_append_right _ _ (Nat.le_refl _),Nat.sub_self,List.set_cons_zero,← cT_snoc]
 simp
theorem cellW_plain (W:List (List UInt8)) (k:Nat):(cellW W k).all plainV=true:=by
 unfold cellW
 rw[List.all_append,cT_plain']
 simp[plainV]
theorem c84 {d lim:Nat} {h:Heap} {s:List UInt8} {c:UInt8} (hs:s.length<1000000) :
  E.call (d+3) lim 84 [tx s,tx [c],i64 0,i64 (-1)] h=some (lVT h.length (cutB c s),h++lBT (cutB c s)):=by
 refine call_pure fn84 rfl (by simp[ef84]) ?_
 have cl:=cutB_count c s
 have cn:s.count c≤s.length:=List.count_le_length
 obtain⟨n,hn⟩:∃ n,n=s.count c:=⟨_,rfl⟩
 rw[← hn] at cl cn
 have w1:IntKind.i64.wrap ((n:Int)+1)=((n+1:Nat):Int):=by rw[wrapR (by unfold R64; omega)]; rfl
 have w2:IntKind.i64.wrap ((s.length:Int)+1)=((s.length+1:Nat):Int):=by rw[wrapR (by unfold R64; omega)]; rfl
 have k60:∀ H,E.call (d+2) h.length 128 [tx s,tx [c]] H=some (i64 (n:Int),H):=fun H=>by rw[hn]; exact c128
 have nl:¬ s.length<n:=by omega
 have m1:(0:Int)≤(n:Int)+1:=by omega
 have m2:16 * ((n:Int)+1)≤140737488355328:=by omega
 have m3:((n:Int)+1)≤(maxLen:Int):=by unfold maxLen; omega
 have w3:IntKind.i64.wrap (n:Int)=(n:Int):=by rw[wrapR (by unfold R64; omega)]
 have z0:zeros [Value.string ⟨#[]⟩] (n+1)=cellW [] (n+1):=rfl
 simp[ef84,k60,w1,w2,E.minmax,nl,m1,m2,m3,w3,z0]
 refine wpC_loop (fun y st=>∃ (i:Nat) (W:List (List UInt8)) (rest:List UInt8),y=n-i∧i≤n∧W.length=i∧rest.length≤s.length∧cutB c s=W++cutB c rest∧st=⟨[(0,tx rest),(1,tx [c]),(2,i64 0),(3,i64 (n:Int)),(9,.slice (some ⟨h.length,0,none⟩) (n+1) 1),(10,i64 (i:Nat))],h.freeze++[some ⟨cellW W (n+1-i),true⟩]⟩) n (by show n<2 ^ 64; omega) ?_ ?_
 ·have cp:=cellW_plain [] (n+1)
  simp[-collect_own1,St.tidy,collect_box,cp]
  exact⟨0,by omega,by omega,[],rfl,s,Nat.le_refl _,rfl,⟨rfl,rfl⟩,rfl⟩
 ·rintro y hy _ ⟨i,W,rest,rfl,hi,hW,hr,he,rfl⟩
  have ct:=congrArg List.length he
  rw[cl,List.length_append,hW,cutB_count] at ct
  by_cases hlt:i<n
  ·have w1':IntKind.i64.wrap ((i:Int)+1)=((i+1:Nat):Int):=by rw[wrapR (by unfold R64; omega)]; rfl
   obtain⟨a,b,rfl,na⟩:=mem_split (c:=c) (s:=rest) (List.count_pos_iff.1 (by omega))
   simp only[List.length_append,List.length_cons] at hr
   rw[cutB_at na] at he
   obtain⟨k,hk⟩:∃ k,n+1-i=k+1+1:=⟨n-1-i,by omega⟩
   have hk2:n+1-(i+1)=k+1:=by omega
   have ix:∀ H,E.call (d+2) h.length 129 [tx (a++c::b),tx [c]] H=some (i64 (a.length:Nat),H):=fun H=>by rw[c129 (d:=d),idx_at na]
   have wa0:IntKind.i64.wrap (a.length:Int)=(a.length:Int):=by rw[wrapR (by unfold R64; omega)]
   have wa:IntKind.i64.wrap ((a.length:Int)+1)=((a.length+1:Nat):Int):=by rw[wrapR (by unfold R64; omega)]; rfl
   have t:List.drop (a.length+1) (List.take (a.length+(b.length+1)) (a++c::b))=b:=by
    rw[List.take_of_length_le (by simp),← List.drop_drop,List.drop_left]; rfl
   have pt:=cellW_put W (k+1) a
   rw[hW] at pt
   have ln:=cellW_len W (k+1+1)
   have cp:=cellW_plain (W++[a]) (k+1)
   have hlt':(i:Int)<(n:Int):=by omega
   have q1:¬ (a.length:Int)<0:=by omega
   have q2:(i:Int)<(n:Int)+1:=by omega
   have q3:i+1≤W.length+(k+1+1):=by omega
   have q4:i+1≤i+(k+1+1):=by omega
   rw[hk]
   simp[-collect_own1,hlt,hlt',ix,w1',wa0,wa,t,q1,q2,q3,q4,pt,ln,hW,St.tidy,collect_box,cp]
   exact⟨by omega,n-(i+1),by omega,i+1,rfl,by omega,W++[a],by simp[hW],b,by omega,by rw[he]; simp,⟨rfl,by omega⟩,by rw[hk2]⟩
  ·obtain rfl:i=n:=by omega
   have nc:c ∉ rest:=fun q=>by have:=List.count_pos_iff.2 q; omega
   rw[cutB_no nc] at he
   have hk:i+1-i=0+1:=by omega
   have pt:=cellW_put W 0 rest
   rw[hW,← he,show cellW (cutB c s) 0=cT (cutB c s) by simp[cellW]] at pt
   have ln:=cellW_len W (0+1)
   have cp:=cT_plain' (cutB c s)
   have ne:=cutB_ne c s
   have q3:i+1≤i+(0+1):=by omega
   have w1':IntKind.i64.wrap ((i:Int)+1)=((i+1:Nat):Int):=by rw[wrapR (by unfold R64; omega)]; rfl
   have q4:(i:Int)<(i:Int)+1:=by omega
   rw[hk]
   have q5:(0:Int)≤(i:Int)+1:=by omega
   simp[-collect_own1,E.bound,w1',q3,q4,q5,pt,ln,hW,collect_box,cp,lVT,lBT,ne,cl]
theorem c47 {d lim:Nat} {h:Heap} {s:List UInt8} {c:UInt8} (hs:s.length<1000000) :
  E.call (d+4) lim 47 [tx s,tx [c]] h=some (lVT h.length (cutB c s),h++lBT (cutB c s)):=by
 refine call_pure fn47 rfl (by simp[ef47]) ?_
 have k:=c84 (d:=d) (lim:=h.length) (h:=h.freeze) (c:=c) hs
 have ne:=cutB_ne c s
 have cp:=cT_plain' (cutB c s)
 simp only[lVT,lBT,if_neg ne] at k ⊢
 simp[-collect_own1,ef47,k,collect_box,cp]
end B.T
end Go.Abs
