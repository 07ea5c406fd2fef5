--
import Derived.Test.YtllhkifkiabkbaaGreatDoorAbsBGM
import Derived.Test.YtllhkifkiabkbaaGreatDoorAbsBArgs
import Derived.Test.YtllhkifkiabkbaaGreatDoorAbsWpM
import Derived.Test.YtllhkifkiabkbaaGreatDoorAbsBJ
set_option linter.unusedSimpArgs false
set_option linter.unusedVariables false
namespace Go.Abs
def cU (l:List Nat):List Value:=l.map fun (n:Nat)=>Value.int .u64 (n:Int)
@[simp] theorem cU_len (l:List Nat):(cU l).length=l.length:=by simp[cU]
theorem cU_get {l:List Nat} {i:Nat} (h:i<l.length):(cU l)[i]?=some (.int .u64 (l[i]'h)):=by simp[cU,h]
@[simp] theorem cU_getE {l:List Nat} {i:Nat} (h:i<(cU l).length):(cU l)[i]'h=.int .u64 ((l[i]'(by simpa using h):Nat):Int):=by simp[cU]
@[simp] theorem cU_plain (l:List Nat):(cU l).all plainV=true:=by simp[cU,plainV]
abbrev SlU (h:Heap) (v:Value) (l:List Nat):Prop:=Sl 1 h v l.length (cU l)
def digits (l:List Nat):Prop:=∀ x∈l,x<18446744073709551616
def mulC:List Nat→Nat→Nat→List Nat
 | [],_,c=>if 0<c then [c] else []
 | x::r,m,c=>(x * m+c) % 18446744073709551616::mulC r m ((x * m+c) / 18446744073709551616)
def val (B:Nat):List Nat→Nat
 | []=>0
 | x::r=>x+B * val B r
theorem mulC_val (m:Nat):∀ (l:List Nat) (c:Nat),val 18446744073709551616 (mulC l m c)=val 18446744073709551616 l * m+c
 | [],c=>by
  unfold mulC; split
  ·simp[val]
  ·have:c=0:=by omega
   subst this; simp[val]
 | x::r,c=>by
  unfold mulC
  simp only[val]
  rw[mulC_val m r]
  have:=Nat.mod_add_div (x * m+c) 18446744073709551616
  rw[Nat.mul_add,Nat.add_mul]
  have e:18446744073709551616 * (val 18446744073709551616 r * m)=18446744073709551616 * val 18446744073709551616 r * m:=(Nat.mul_assoc _ _ _).symm
  omega
theorem mul_carry {x m c:Nat} (hx:x<18446744073709551616) (hm:m<18446744073709551616) (hc:c<18446744073709551616):(x * m+c) / 18446744073709551616<18446744073709551616:=by
 have:x * m≤(18446744073709551616-1) * (18446744073709551616-1):=Nat.mul_le_mul (by omega) (by omega)
 rw[Nat.div_lt_iff_lt_mul (by decide)]
 have e:(18446744073709551616-1) * (18446744073709551616-1)+18446744073709551616≤18446744073709551616 * 18446744073709551616:=by decide
 omega
namespace B
set_option maxRecDepth 100000
set_option maxHeartbeats 0
theorem step_mul {x m c:Nat} (hx:x<18446744073709551616) (hm:m<18446744073709551616) (hc:c<18446744073709551616) :
  ((x * m % 18446744073709551616+c) % 18446744073709551616=(x * m+c) % 18446744073709551616)∧(x * m / 18446744073709551616+(x * m % 18446744073709551616+c) / 18446744073709551616=(x * m+c) / 18446744073709551616):=by
 have h1:=Nat.div_add_mod (x * m) 18446744073709551616
 constructor
 ·omega
 ·omega
theorem c185n {d lim:Nat} {h:Heap} {x y:Nat} (hx:x<18446744073709551616) (hy:y<18446744073709551616):E.call (d+1) lim 185 [.int .u64 (x:Int),.int .u64 (y:Int)] h=some (.tuple #[.int .u64 ((x * y / 18446744073709551616:Nat):Int),.int .u64 ((x * y % 18446744073709551616:Nat):Int)],h):=by
 rw[c185 ⟨by omega,by omega⟩ ⟨by omega,by omega⟩]; rfl
theorem wrapUn {n:Nat} (h:n<18446744073709551616):IntKind.wrap .u64 (n:Int)=n:=wrapUR ⟨by omega,by omega⟩
theorem c186 {d lim:Nat} {h:Heap} {v:Value} {l:List Nat} {m:Nat} (s:SlU h v l) (hl:digits l) (hm:m<18446744073709551616) (hs:l.length<1000000) :
  E.call (d+2) lim 186 [v,.int .u64 (m:Int)] h=some (.slice (some ⟨h.length,0,none⟩) (mulC l m 0).length 1,h++[some ⟨cU (mulC l m 0),true⟩]):=by
 have r:=s.rules2
 have low:=s.low
 refine call_pure fn186 rfl (by simp[ef186]) ?_
 have w0:IntKind.wrap .i64 ((l.length:Int)+1)=((l.length+1:Nat):Int):=by rw[wrap_eq (by omega) (by omega)]; rfl
 have hmx:∀ n,n≤1000001→n≤maxLen:=fun n hn=>Nat.le_trans hn (by decide)
 have hb8:8 * (((l.length:Int)+1))≤140737488355328:=by omega
 have e0:((l.length:Int)+1≤maxLen):=by have:((l.length+1:Nat):Int)≤(maxLen:Int):=Int.ofNat_le.2 (hmx _ (by omega)); simpa using this
 have e1:(0:Int)≤(l.length:Int)+1:=by omega
 have hv:(l.length=0∧(v=.slice none 0 0∨∃ b o t,v=.slice (some ⟨b,o,none⟩) 0 t∧b<h.length))∨(0<l.length∧∃ b o,v=.slice (some ⟨b,o,none⟩) l.length 1∧b<h.length):=by
  rcases Nat.eq_zero_or_pos l.length with q | q
  ·refine .inl ⟨q,?_⟩
   rcases low with e | ⟨b,o,mm,t,e,hb⟩
   ·exact .inl e
   ·have:=s.len; rw[e] at this; simp at this
    exact .inr ⟨b,o,t,by rw[e,this,q],hb⟩
  ·exact .inr ⟨q,_,_,s.addr (by omega),s.lt (by omega)⟩
 simp[ef186,r,w0,zeros,hb8,e0,e1]
 refine wpC_loop (fun q st=>∃ (i c:Nat) (out:List Nat),q=l.length-i∧i≤l.length∧c<18446744073709551616∧out.length=i∧out++mulC (l.drop i) m c=mulC l m 0 ∧
  st=⟨[(1,.int .u64 (m:Int)),(5,.slice (some ⟨h.length,0,none⟩) out.length 1),(6,.int .u64 (c:Int)),(17,v),(18,i64 l.length),(19,i64 i)],h.freeze++[some ⟨cU out,true⟩]⟩) l.length (by show l.length<2 ^ 64; omega) ?_ ?_
 ·have ab:Blk.addrs ⟨[],true⟩=some []:=by rfl
  rcases hv with ⟨q,rfl | ⟨b,o,t,rfl,hb⟩⟩ | ⟨q,b,o,rfl,hb⟩
  ·simp[St.tidy,q,ab]
   exact⟨0,by omega,rfl,rfl,by simp[Blk.ren,cU]⟩
  ·simp[St.tidy,q,hb,ab]
   exact⟨0,by omega,rfl,rfl,by simp[Blk.ren,cU]⟩
  ·simp[St.tidy,hb,ab]
   exact⟨0,by simp,by omega,0,by omega,[],rfl,by simp,⟨rfl,rfl,rfl⟩,by simp[Blk.ren,cU]⟩
 ·rintro q0 hq _ ⟨i,c,out,rfl,hi,hc,ho,hout,rfl⟩
  by_cases hlt:i<l.length
  ·obtain⟨q,b,o,rfl,hb⟩:=hv.resolve_left (fun z=>by omega)
   simp only[slB_some,slO_some] at r
   have g:=cU_get hlt
   have hx:l[i]<18446744073709551616:=hl _ (List.getElem_mem hlt)
   have u1:IntKind.wrap .i64 ((i:Int)+1)=((i+1:Nat):Int):=by rw[wrap_eq (by omega) (by omega)]; rfl
   have k1:i<l.length * 1:=by omega
   obtain⟨sm1,sm2⟩:=step_mul hx hm hc
   have sm3:=mul_carry hx hm hc
   have hd:l.drop i=l[i]::l.drop (i+1):=List.drop_eq_getElem_cons hlt
   have hmu:mulC (l.drop i) m c=(l[i] * m+c) % 18446744073709551616::mulC (l.drop (i+1)) m ((l[i] * m+c) / 18446744073709551616):=by rw[hd]; rfl
   have a1:(i+1) * 8≤140737488355328:=by omega
   have a2:=hmx (i+1) (by omega)
   have a3:=hmx 1 (by omega)
   have c1:=fun lim hh=>@c185n d lim hh l[i] m hx hm
   generalize hD:(l[i] * m+c) % 18446744073709551616=D at *
   generalize hC:(l[i] * m+c) / 18446744073709551616=C at *
   generalize hH:l[i] * m / 18446744073709551616=H at *
   generalize hL:l[i] * m % 18446744073709551616=L at *
   have v1:((L:Int)+c) % 18446744073709551616=(D:Int):=by omega
   have v2:IntKind.wrap .u64 ((H:Int)+((L:Int)+c) / 18446744073709551616)=(C:Int):=by
    have:((H:Int)+((L:Int)+c) / 18446744073709551616)=(C:Int):=by omega
    rw[this]; exact wrapUn sm3
   subst ho
   simp[St.tidy,hlt,Nat.not_le.2 hlt,r,hb,g,u1,c1,E.append,E.added,a1,a2,a3,v1,v2]
   refine⟨l.length-(out.length+1),by omega,out.length+1,rfl,by omega,C,sm3,out++[D],by simp,?_,⟨by simp,rfl,by omega⟩,by simp[cU]⟩
   rw[← hout,hmu]; simp
  ·subst ho
   have e:out.length=l.length:=by omega
   have a1:(out.length+1) * 8≤140737488355328:=by omega
   have a2:=hmx (out.length+1) (by omega)
   have a3:=hmx 1 (by omega)
   have hd:out++(if 0<c then [c] else [])=mulC l m 0:=by rw[← hout,e,List.drop_length]; rfl
   rw[e] at hlt
   by_cases h0:0<c
   ·simp[h0] at hd
    rw[e] at a1 a2
    simp[e,h0,E.append,E.added,a1,a2,a3,← hd,St.tidy,cU]
   ·simp[h0] at hd
    simp[e,h0,← hd,St.tidy,cU]
end B
end Go.Abs
namespace Go.Abs
def cW (l:List Nat):List Value:=l.map fun (n:Nat)=>Value.int .i64 (n:Int)
@[simp] theorem cW_len (l:List Nat):(cW l).length=l.length:=by simp[cW]
theorem cW_get {l:List Nat} {i:Nat} (h:i<l.length):(cW l)[i]?=some (.int .i64 (l[i]'h)):=by simp[cW,h]
@[simp] theorem cW_getE {l:List Nat} {i:Nat} (h:i<(cW l).length):(cW l)[i]'h=.int .i64 ((l[i]'(by simpa using h):Nat):Int):=by simp[cW]
@[simp] theorem cW_plain (l:List Nat):(cW l).all plainV=true:=by simp[cW,plainV]
abbrev SlW (h:Heap) (v:Value) (l:List Nat):Prop:=Sl 1 h v l.length (cW l)
def cmpTop (l r:List Nat):Nat→Int
 | 0=>0
 | k+1=>if l.getD k 0<r.getD k 0 then -1 else if r.getD k 0<l.getD k 0 then 1 else cmpTop l r k
theorem cmpTop_succ (l r:List Nat) (k:Nat):cmpTop l r (k+1)=if l.getD k 0<r.getD k 0 then -1 else if r.getD k 0<l.getD k 0 then 1 else cmpTop l r k:=rfl
def cmpL (l r:List Nat):Int:=if l.length<r.length then -1 else if r.length<l.length then 1 else cmpTop l r l.length
namespace B
set_option maxRecDepth 100000
set_option maxHeartbeats 0
theorem c157 {d lim:Nat} {h:Heap} {v w:Value} {l r:List Nat} (s:SlU h v l) (t:SlU h w r) (hs:l.length<1000000) (hr:r.length<1000000) :
  E.call (d+1) lim 157 [v,w] h=some (.int .i64 (cmpL l r),h):=by
 have p:=s.rules2
 have p':=t.rules2
 refine call1 fn157 rfl (by simp[ef157]) ?_
 have w0:IntKind.wrap .i64 ((r.length:Int)-1)=(r.length:Int)-1:=by rw[wrap_eq (by omega) (by omega)]
 by_cases h1:l.length<r.length
 ·have e:(l.length:Int)≠r.length:=by omega
  simp[ef157,p,p',h1,e,cmpL]
 by_cases h2:r.length<l.length
 ·have e:(l.length:Int)≠r.length:=by omega
  simp[ef157,p,p',h1,h2,e,cmpL,Nat.le_of_lt h2]
 have e:l.length=r.length:=by omega
 have hc:cmpL l r=cmpTop l r r.length:=by simp[cmpL,h1,h2,e]
 simp[ef157,p,p',e,hc,w0]
 refine wpC_loop (fun q st=>∃ (k:Nat),q=k∧k≤r.length∧cmpTop l r r.length=cmpTop l r k ∧
  st=⟨[(0,v),(1,w),(5,.int .i64 ((k:Int)-1))],h.freeze⟩) r.length (by show r.length<2 ^ 64; omega) ?_ ?_
 ·simp[St.tidy,p,p']
 ·rintro q0 hq _ ⟨k,rfl,hk,hcc,rfl⟩
  match q0,hk,hcc with
  | 0,hk,hcc=>simp[hcc,cmpTop]
  | k+1,hk,hcc =>
   have k2:k<r.length:=hk
   have k1:k<l.length:=by omega
   have u1:IntKind.wrap .i64 ((k:Int)-1)=(k:Int)-1:=by rw[wrap_eq (by omega) (by omega)]
   have g:=cU_get k1
   have g':=cU_get k2
   have hcc':=hcc
   rw[cmpTop_succ] at hcc'
   have d1:l.getD k 0=l[k]:=by simp[k1]
   have d2:r.getD k 0=r[k]:=by simp[k2]
   rw[d1,d2] at hcc'
   have k0:(k:Int)+1-1=k:=by omega
   have e2:l.length=r.length:=by omega
   by_cases q1:l[k]<r[k]
   ·simp[q1] at hcc'
    simp[St.tidy,p,p',g,g',u1,k0,q1,k1,k2]
    exact hcc'.symm
   ·by_cases q2:r[k]<l[k]
    ·simp[q1,q2] at hcc'
     simp[St.tidy,p,p',g,g',u1,k0,q1,q2,k1,k2]
     exact hcc'.symm
    ·simp[q1,q2] at hcc'
     simp[St.tidy,p,p',g,g',u1,k0,q1,q2,k1,k2]
     exact⟨k,by omega,by omega,hcc',rfl⟩
theorem c120 {d lim:Nat} {h:Heap} {v w:Value} {l r:List Nat} (s:SlW h v l) (t:SlW h w r) (hs:l.length<1000000) (hr:r.length<1000000) :
  E.call (d+1) lim 120 [v,w] h=some (.int .i64 (cmpL l r),h):=by
 have p:=s.rules2
 have p':=t.rules2
 refine call1 fn120 rfl (by simp[ef120]) ?_
 have w0:IntKind.wrap .i64 ((r.length:Int)-1)=(r.length:Int)-1:=by rw[wrap_eq (by omega) (by omega)]
 by_cases h1:l.length<r.length
 ·have e:(l.length:Int)≠r.length:=by omega
  simp[ef120,p,p',h1,e,cmpL]
 by_cases h2:r.length<l.length
 ·have e:(l.length:Int)≠r.length:=by omega
  simp[ef120,p,p',h1,h2,e,cmpL,Nat.le_of_lt h2]
 have e:l.length=r.length:=by omega
 have hc:cmpL l r=cmpTop l r r.length:=by simp[cmpL,h1,h2,e]
 simp[ef120,p,p',e,hc,w0]
 refine wpC_loop (fun q st=>∃ (k:Nat),q=k∧k≤r.length∧cmpTop l r r.length=cmpTop l r k ∧
  st=⟨[(0,v),(1,w),(5,.int .i64 ((k:Int)-1))],h.freeze⟩) r.length (by show r.length<2 ^ 64; omega) ?_ ?_
 ·simp[St.tidy,p,p']
 ·rintro q0 hq _ ⟨k,rfl,hk,hcc,rfl⟩
  match q0,hk,hcc with
  | 0,hk,hcc=>simp[hcc,cmpTop]
  | k+1,hk,hcc =>
   have k2:k<r.length:=hk
   have k1:k<l.length:=by omega
   have u1:IntKind.wrap .i64 ((k:Int)-1)=(k:Int)-1:=by rw[wrap_eq (by omega) (by omega)]
   have g:=cW_get k1
   have g':=cW_get k2
   have hcc':=hcc
   rw[cmpTop_succ] at hcc'
   have d1:l.getD k 0=l[k]:=by simp[k1]
   have d2:r.getD k 0=r[k]:=by simp[k2]
   rw[d1,d2] at hcc'
   have k0:(k:Int)+1-1=k:=by omega
   have e2:l.length=r.length:=by omega
   by_cases q1:l[k]<r[k]
   ·simp[q1] at hcc'
    simp[St.tidy,p,p',g,g',u1,k0,q1,k1,k2]
    exact hcc'.symm
   ·by_cases q2:r[k]<l[k]
    ·simp[q1,q2] at hcc'
     simp[St.tidy,p,p',g,g',u1,k0,q1,q2,k1,k2]
     exact hcc'.symm
    ·simp[q1,q2] at hcc'
     simp[St.tidy,p,p',g,g',u1,k0,q1,q2,k1,k2]
     exact⟨k,by omega,by omega,hcc',rfl⟩
end B
end Go.Abs
namespace Go.Abs
def cmpN (a b:Nat):Int:=if a<b then -1 else if b<a then 1 else 0
def digB (B:Nat) (l:List Nat):Prop:=∀ x∈l,x<B
def topped (l:List Nat):Prop:=∀ h:l≠[],l.getLast h≠0
theorem val_snoc (B:Nat) (x:Nat):∀ l:List Nat,val B (l++[x])=val B l+B ^ l.length * x
 | []=>by simp[val]
 | y::r=>by
  simp only[List.cons_append,val,List.length_cons]
  rw[val_snoc B x r,Nat.pow_succ,Nat.mul_add,Nat.mul_comm (B ^ r.length) B,← Nat.mul_assoc]; omega
theorem val_lt {B:Nat} (hB:0<B):∀ {l:List Nat},digB B l→val B l<B ^ l.length
 | [],_=>by simp[val]
 | y::r,h=>by
  have h1:=h y (List.mem_cons_self ..)
  have h2:=val_lt hB (l:=r) (fun x hx=>h x (List.mem_cons_of_mem _ hx))
  simp only[val,List.length_cons,Nat.pow_succ]
  have:B * (val B r+1)≤B * B ^ r.length:=Nat.mul_le_mul_left _ h2
  rw[Nat.mul_add] at this
  rw[Nat.mul_comm (B ^ r.length)]; omega
theorem val_ge {B:Nat} {l:List Nat} (h:l≠[]) (ht:topped l):B ^ (l.length-1)≤val B l:=by
 have e:=List.dropLast_concat_getLast h
 have hl:=ht h
 rw[← e,val_snoc]
 have:1≤l.getLast h:=by omega
 have h2:=Nat.mul_le_mul_left (B ^ l.dropLast.length) this
 have e2:l.dropLast.length=l.length-1:=by simp
 rw[e2] at *
 simp
 simp at h2
 omega
theorem cmpTop_val {B:Nat} (hB:0<B) {l r:List Nat} (hl:digB B l) (hr:digB B r):∀ k,k≤l.length→k≤r.length→cmpTop l r k=cmpN (val B (l.take k)) (val B (r.take k))
 | 0,_,_=>by simp[cmpTop,cmpN,val]
 | k+1,h1,h2=>by
  have k1:k<l.length:=h1
  have k2:k<r.length:=h2
  have e1:l.take (k+1)=l.take k++[l[k]]:=by simp
  have e2:r.take (k+1)=r.take k++[r[k]]:=by simp
  have n1:(l.take k).length=k:=by simp; omega
  have n2:(r.take k).length=k:=by simp; omega
  have d1:val B (l.take k)<B ^ k:=by
   have:=val_lt hB (l:=l.take k) (fun x hx=>hl x (List.mem_of_mem_take hx)); rwa [n1] at this
  have d2:val B (r.take k)<B ^ k:=by
   have:=val_lt hB (l:=r.take k) (fun x hx=>hr x (List.mem_of_mem_take hx)); rwa [n2] at this
  have ih:=cmpTop_val hB hl hr k (by omega) (by omega)
  rw[cmpTop_succ,e1,e2,val_snoc,val_snoc,n1,n2,ih]
  have g1:l.getD k 0=l[k]:=by simp[k1]
  have g2:r.getD k 0=r[k]:=by simp[k2]
  rw[g1,g2]
  generalize l[k]=x
  generalize r[k]=y
  generalize val B (l.take k)=u at *
  generalize val B (r.take k)=w at *
  generalize B ^ k=P at *
  rcases Nat.lt_trichotomy x y with q | q | q
  ·have:=Nat.mul_le_mul_left P q
   rw[Nat.mul_succ] at this
   simp only[cmpN,q,if_true]; rw[if_pos (by omega)]
  ·subst q; simp[cmpN]
  ·have:=Nat.mul_le_mul_left P q
   rw[Nat.mul_succ] at this
   simp only[cmpN]; rw[if_neg (by omega),if_pos q,if_neg (by omega),if_pos (by omega)]
theorem cmpL_val {B:Nat} (hB:1<B) {l r:List Nat} (hl:digB B l) (hr:digB B r) (tl:topped l) (tr:topped r):cmpL l r=cmpN (val B l) (val B r):=by
 have v1:=val_lt (by omega:0<B) hl
 have v2:=val_lt (by omega:0<B) hr
 unfold cmpL
 by_cases h1:l.length<r.length
 ·have hne:r≠[]:=by intro e; simp[e] at h1
  have g:=val_ge (B:=B) hne tr
  have:=Nat.pow_le_pow_right (n:=B) (by omega) (by omega:l.length≤r.length-1)
  rw[if_pos h1,cmpN,if_pos (by omega)]
 ·by_cases h2:r.length<l.length
  ·have hne:l≠[]:=by intro e; simp[e] at h2
   have g:=val_ge (B:=B) hne tl
   have:=Nat.pow_le_pow_right (n:=B) (by omega) (by omega:r.length≤l.length-1)
   rw[if_neg h1,if_pos h2,cmpN,if_neg (by omega),if_pos (by omega)]
  ·have e:l.length=r.length:=by omega
   rw[if_neg h1,if_neg h2,cmpTop_val (by omega) hl hr _ (Nat.le_refl _) (by omega),List.take_length]
   rw[e,List.take_length]
end Go.Abs
namespace Go.Abs
theorem mulC_ne {l:List Nat} {m c:Nat} (h:l≠[]):mulC l m c≠[]:=by
 cases l with
 | nil=>exact absurd rfl h
 | cons x r=>simp[mulC]
theorem mulC_len (m:Nat):∀ (l:List Nat) (c:Nat),(mulC l m c).length≤l.length+1
 | [],c=>by unfold mulC; split <;> simp
 | x::r,c=>by simp only[mulC,List.length_cons]; have:=mulC_len m r ((x * m+c) / 18446744073709551616); omega
theorem mulC_digits {m:Nat} (hm:m<18446744073709551616):∀ {l:List Nat} {c:Nat},digits l→c<18446744073709551616→digits (mulC l m c)
 | [],c,_,hc=>by
  unfold mulC; split
  ·intro x hx; simp at hx; omega
  ·intro x hx; simp at hx
 | x::r,c,hl,hc=>by
  intro y hy
  simp only[mulC,List.mem_cons] at hy
  rcases hy with rfl | hy
  ·exact Nat.mod_lt _ (by decide)
  ·exact mulC_digits hm (fun z hz=>hl z (List.mem_cons_of_mem _ hz)) (mul_carry (hl x (List.mem_cons_self ..)) hm hc) y hy
theorem mulC_topped {m:Nat} (h0:0<m):∀ {l:List Nat} {c:Nat},topped l→topped (mulC l m c)
 | [],c,_=>by
  unfold mulC; split
  ·intro h; simp; omega
  ·intro h; exact absurd rfl h
 | [x],c,hl=>by
  have hx:x≠0:=by simpa using hl (by simp)
  have h1:0<x * m:=Nat.mul_pos (by omega) h0
  intro h
  simp only[mulC] at h ⊢
  by_cases q:0<(x * m+c) / 18446744073709551616
  ·simp[q]; omega
  ·simp[q]
   have e:(x * m+c) / 18446744073709551616=0:=by omega
   have:=Nat.div_add_mod (x * m+c) 18446744073709551616
   rw[e] at this
   omega
 | x::y::r,c,hl=>by
  have ht:topped (y::r):=by intro h; have:=hl (by simp); simpa using this
  have ih:=mulC_topped h0 (l:=y::r) (c:=(x * m+c) / 18446744073709551616) ht
  intro h
  have hne:mulC (y::r) m ((x * m+c) / 18446744073709551616)≠[]:=mulC_ne (by simp)
  show ((x * m+c) % 18446744073709551616::mulC (y::r) m ((x * m+c) / 18446744073709551616)).getLast _≠0
  rw[List.getLast_cons hne]
  exact ih hne
structure Num (l:List Nat) (n:Nat):Prop where
 dig:digits l
 top:topped l
 ne:l≠[]
 val:val 18446744073709551616 l=n
theorem Num.mul {l:List Nat} {n m:Nat} (h:Num l n) (h0:0<m) (hm:m<18446744073709551616):Num (mulC l m 0) (n * m) :=
 ⟨mulC_digits hm h.dig (by decide),mulC_topped h0 h.top,mulC_ne h.ne,by rw[mulC_val,h.val,Nat.add_zero]⟩
theorem Num.one:Num [1] 1:=⟨by intro x hx; simp at hx; omega,by intro h; simp,by simp,by simp[Abs.val]⟩
def grow (b:Nat):Nat→Nat→Nat × Nat
 | 0,s=>(s,0)
 | k+1,s=>if s * b<18446744073709551616 then grow b k (s * b) else (s,k+1)
theorem grow_succ (b k s:Nat):grow b (k+1) s=if s * b<18446744073709551616 then grow b k (s * b) else (s,k+1):=rfl
def powF (b:Nat):Nat→Nat→List Nat→List Nat
 | 0,_,l=>l
 | f+1,n,l=>if n=0 then l else powF b f (grow b n 1).2 (mulC l (grow b n 1).1 0)
theorem powF_zero (b f:Nat) (l:List Nat):powF b f 0 l=l:=by cases f <;> simp[powF]
theorem powF_pos {b f n:Nat} {l:List Nat} (hf:n≤f) (h:0<n):powF b f n l=powF b (f-1) (grow b n 1).2 (mulC l (grow b n 1).1 0):=by
 cases f with
 | zero=>omega
 | succ f=>simp[powF,Nat.pos_iff_ne_zero.1 h]
theorem SlU_own {h:Heap} {b:Nat} {l:List Nat} {rw:Bool} (hb:b<h.length) (e:h.get b=some ⟨cU l,rw⟩):SlU h (.slice (some ⟨b,0,none⟩) l.length 1) l :=
 ⟨rfl,by simp,fun _=>rfl,.inr ⟨b,0,l.length,1,rfl,hb⟩,fun k hk=>by simp only[slB_some,slO_some,Nat.zero_add]; rw[cell_get e]⟩
theorem grow_spec {b:Nat} (h0:0<b):∀ (k s:Nat),0<s→s<18446744073709551616→0<(grow b k s).1∧(grow b k s).1<18446744073709551616∧(grow b k s).1 * b ^ (grow b k s).2=s * b ^ k∧(grow b k s).2≤k
 | 0,s,h1,h2=>by simp[grow,h1,h2]
 | k+1,s,h1,h2=>by
  rw[grow_succ]
  split
  ·rename_i h
   obtain⟨a1,a2,a3,a4⟩:=grow_spec h0 k (s * b) (Nat.mul_pos h1 h0) h
   exact⟨a1,a2,by rw[a3,Nat.pow_succ,Nat.mul_assoc,Nat.mul_comm b],by omega⟩
  ·exact⟨h1,h2,rfl,Nat.le_refl _⟩
theorem grow_lt {b n:Nat} (h0:0<b) (hb:b<18446744073709551616) (hn:0<n):(grow b n 1).2<n:=by
 cases n with
 | zero=>omega
 | succ k =>
  rw[grow_succ,if_pos (by omega)]
  have:=(grow_spec h0 k (1 * b) (by omega) (by omega)).2.2.2
  omega
theorem powF_num {b:Nat} (h0:0<b) (hb:b<18446744073709551616):∀ (f n:Nat) {l:List Nat} {c:Nat},n≤f→Num l c→Num (powF b f n l) (c * b ^ n)∧(powF b f n l).length≤l.length+n
 | 0,n,l,c,hn,h=>by
  have:n=0:=by omega
  subst this; exact⟨by simpa [powF] using h,by simp[powF]⟩
 | f+1,n,l,c,hn,h=>by
  by_cases q:n=0
  ·subst q; exact⟨by simpa [powF] using h,by simp[powF]⟩
  ·obtain⟨a1,a2,a3,a4⟩:=grow_spec h0 n 1 (by omega) (by omega)
   have a5:=grow_lt h0 hb (n:=n) (by omega)
   obtain⟨b1,b2⟩:=powF_num h0 hb f (grow b n 1).2 (by omega) (h.mul a1 a2)
   have b3:=mulC_len (grow b n 1).1 l 0
   have e:powF b (f+1) n l=powF b f (grow b n 1).2 (mulC l (grow b n 1).1 0):=by simp[powF,q]
   rw[e]
   refine⟨?_,by omega⟩
   rw[Nat.mul_assoc,a3,Nat.one_mul] at b1
   exact b1
namespace B
set_option maxRecDepth 100000
set_option maxHeartbeats 0
theorem c155z {d lim:Nat} {h:Heap} {v:Value} {l:List Nat} {b:Nat} {n:Int} (s:SlU h v l) (hn:n≤0) :
  E.call (d+1) lim 155 [.int .u64 (b:Int),i64 n,v] h=some (v,h):=by
 have p:=s.rules2
 refine call1 fn155 rfl (by simp[ef155]) ?_
 simp[ef155]
 refine wpC_loop (fun q st=>q=0∧st=⟨[(0,.int .u64 (b:Int)),(1,i64 n),(2,v)],h.freeze⟩) 0 (by show 0<2 ^ 64; decide) ?_ ?_
 ·simp[St.tidy,p]
 ·rintro q0 hq _ ⟨rfl,rfl⟩
  have:¬ (0<n):=by omega
  simp[this,p]
theorem c155 {d lim:Nat} {h:Heap} {v:Value} {l:List Nat} {b n:Nat} (s:SlU h v l) (hl:digits l) (h0:0<b) (hb:b<18446744073709551616) (hn:0<n) (hs:l.length+n<100000) :
  E.call (d+3) lim 155 [.int .u64 (b:Int),i64 n,v] h=some (.slice (some ⟨h.length,0,none⟩) (powF b n n l).length 1,h++[some ⟨cU (powF b n n l),true⟩]):=by
 have p:=s.rules2
 have ct1:∀ m:Nat,m<18446744073709551616→E.call (d+2) h.length 186 [v,.int .u64 (m:Int)] h.freeze=some (.slice (some ⟨h.length,0,none⟩) (mulC l m 0).length 1,h.freeze++[some ⟨cU (mulC l m 0),true⟩]):=fun m hm=>by
  simpa using c186 (lim:=h.length) (Sl_freeze.2 s) hl hm (by omega)
 have ct2:∀ out,digits out→out.length<1000000→∀ m:Nat,m<18446744073709551616→E.call (d+2) h.length 186 [.slice (some ⟨h.length,0,none⟩) out.length 1,.int .u64 (m:Int)] (h.freeze++[some ⟨cU out,true⟩]) =
   some (.slice (some ⟨h.length+1,0,none⟩) (mulC out m 0).length 1,h.freeze++[some ⟨cU out,true⟩,some ⟨cU (mulC out m 0),true⟩]):=fun out hd hlen m hm=>by
  have ss:SlU (h.freeze++[some ⟨cU out,true⟩]) (.slice (some ⟨h.length,0,none⟩) out.length 1) out:=SlU_own (rw:=true) (by simp) (by rw[hget_base0 (by simp)]; rfl)
  simpa using c186 (lim:=h.length) ss hd hm hlen
 refine call_pure fn155 rfl (by simp[ef155]) ?_
 simp[ef155]
 refine wpC_loop (fun q st=>q≤n∧((q=n∧st=⟨[(0,.int .u64 (b:Int)),(1,i64 q),(2,v)],h.freeze⟩) ∨
  (∃ f out,q≤f∧q<n∧powF b f q out=powF b n n l∧digits out∧out.length+q≤l.length+n ∧
   st=⟨[(0,.int .u64 (b:Int)),(1,i64 q),(2,.slice (some ⟨h.length,0,none⟩) out.length 1)],h.freeze++[some ⟨cU out,true⟩]⟩))) n (by show n<2 ^ 64; omega) ?_ ?_
 ·simp[St.tidy,p]
 ·rintro q hq _ ⟨hqn,⟨rfl,rfl⟩ | ⟨f,out,hf,hqn',hp,hd,hlen,rfl⟩⟩
  ·have hn':(0:Int)<(q:Int):=by omega
   simp[hn,hn']
   refine wpC_loop (fun k st=>∃ sm:Nat,k≤q∧0<sm∧sm<18446744073709551616∧grow b k sm=grow b q 1∧(k=q∧sm=1∨k<q) ∧
    st=⟨[(0,.int .u64 (b:Int)),(1,i64 k),(2,v),(7,.int .u64 (sm:Int))],h.freeze⟩) q (by show q<2 ^ 64; omega) ?_ ?_
   ·simp[St.tidy,p]
    exact⟨1,by decide,by decide,rfl,rfl,rfl⟩
   ·rintro k hk _ ⟨sm,hkq,s0,s1,hg,hks,rfl⟩
    have hdone:grow b k sm=(sm,k)→k<q→(grow b q 1).1=sm∧(grow b q 1).2=k:=by
     intro e _; rw[← hg,e]; exact⟨rfl,rfl⟩
    cases k with
    | zero =>
     obtain⟨e1,e2⟩:=hdone rfl (by omega)
     have cc:=ct1 sm s1
     simp[cc,St.tidy]
     exact⟨0,by omega,by omega,⟨q-1,by omega,by omega,mulC l sm 0,by rw[powF_pos (Nat.le_refl q) hn,e1,e2],mulC_digits s1 hl (by decide),by have:=mulC_len sm l 0; omega,⟨rfl,rfl⟩,rfl⟩⟩
    | succ k =>
     have k0:(0:Int)<((k+1:Nat):Int):=by omega
     have u1:IntKind.wrap .i64 (k:Int)=(k:Int):=by rw[wrap_eq (by omega) (by omega)]
     have c1:=fun d lim hh=>@c185n d lim hh sm b s1 hb
     by_cases ov:sm * b<18446744073709551616
     ·have hi:sm * b / 18446744073709551616=0:=by omega
      have lo:sm * b % 18446744073709551616=sm * b:=Nat.mod_eq_of_lt ov
      rw[grow_succ,if_pos ov] at hg
      have sp:=Nat.mul_pos s0 h0
      generalize hP:sm * b=P at *
      rw[hi,lo] at c1
      simp[c1,u1,St.tidy,p]
      exact⟨k,by omega,by omega,P,sp,ov,hg,.inr (by omega),rfl,rfl⟩
     ·have hi:sm * b / 18446744073709551616≠0:=by omega
      have hlt:k+1<q:=by
       rcases hks with ⟨_,rfl⟩ | z
       ·omega
       ·exact z
      obtain⟨e1,e2⟩:=hdone (by rw[grow_succ,if_neg ov]) hlt
      generalize hP:sm * b / 18446744073709551616=P at *
      generalize hQ:sm * b % 18446744073709551616=Q at *
      have cc:=ct1 sm s1
      have hi':((P:Int) != 0)=true:=by simp; omega
      simp[c1,hi,hi',cc,St.tidy]
      exact⟨k+1,by omega,by omega,⟨q-1,by omega,by omega,mulC l sm 0,by rw[powF_pos (Nat.le_refl q) hn,e1,e2],mulC_digits s1 hl (by decide),by have:=mulC_len sm l 0; omega,⟨rfl,rfl⟩,rfl⟩⟩
  ·by_cases hz:q=0
   ·subst hz
    rw[powF_zero] at hp
    subst hp
    simp[St.tidy]
   ·have hqp:0<q:=by omega
    have hn':(0:Int)<(q:Int):=by omega
    simp[hqp,hn']
    refine wpC_loop (fun k st=>∃ sm:Nat,k≤q∧0<sm∧sm<18446744073709551616∧grow b k sm=grow b q 1∧(k=q∧sm=1∨k<q) ∧
     st=⟨[(0,.int .u64 (b:Int)),(1,i64 k),(2,.slice (some ⟨h.length,0,none⟩) out.length 1),(7,.int .u64 (sm:Int))],h.freeze++[some ⟨cU out,true⟩]⟩) q (by show q<2 ^ 64; omega) ?_ ?_
    ·simp[St.tidy,hd]
     exact⟨1,by decide,by decide,rfl,rfl,rfl⟩
    ·rintro k hk _ ⟨sm,hkq,s0,s1,hg,hks,rfl⟩
     have hdone:grow b k sm=(sm,k)→k<q→(grow b q 1).1=sm∧(grow b q 1).2=k:=by
      intro e _; rw[← hg,e]; exact⟨rfl,rfl⟩
     cases k with
     | zero =>
      obtain⟨e1,e2⟩:=hdone rfl (by omega)
      have cc:=ct2 out hd (by omega) sm s1
      simp[cc,St.tidy]
      exact⟨0,by omega,by omega,⟨f-1,by omega,by omega,mulC out sm 0,by rw[← hp,powF_pos hf hqp,e1,e2],mulC_digits s1 hd (by decide),by have:=mulC_len sm out 0; omega,⟨rfl,rfl⟩,rfl⟩⟩
     | succ k =>
      have k0:(0:Int)<((k+1:Nat):Int):=by omega
      have u1:IntKind.wrap .i64 (k:Int)=(k:Int):=by rw[wrap_eq (by omega) (by omega)]
      have c1:=fun d lim hh=>@c185n d lim hh sm b s1 hb
      by_cases ov:sm * b<18446744073709551616
      ·have hi:sm * b / 18446744073709551616=0:=by omega
       have lo:sm * b % 18446744073709551616=sm * b:=Nat.mod_eq_of_lt ov
       rw[grow_succ,if_pos ov] at hg
       have sp:=Nat.mul_pos s0 h0
       generalize hP:sm * b=P at *
       rw[hi,lo] at c1
       simp[c1,u1,St.tidy,hd]
       exact⟨k,by omega,by omega,P,sp,ov,hg,.inr (by omega),rfl,rfl⟩
      ·have hi:sm * b / 18446744073709551616≠0:=by omega
       have hlt:k+1<q:=by
        rcases hks with ⟨_,rfl⟩ | z
        ·omega
        ·exact z
       obtain⟨e1,e2⟩:=hdone (by rw[grow_succ,if_neg ov]) hlt
       generalize hP:sm * b / 18446744073709551616=P at *
       generalize hQ:sm * b % 18446744073709551616=Q at *
       have cc:=ct2 out hd (by omega) sm s1
       have hi':((P:Int) != 0)=true:=by simp; omega
       simp[c1,hi,hi',cc,St.tidy]
       exact⟨k+1,by omega,by omega,⟨f-1,by omega,by omega,mulC out sm 0,by rw[← hp,powF_pos hf hqp,e1,e2],mulC_digits s1 hd (by decide),by have:=mulC_len sm out 0; omega,⟨rfl,rfl⟩,rfl⟩⟩
end B
end Go.Abs
namespace Go.Abs
namespace B
set_option maxRecDepth 100000
set_option maxHeartbeats 0
def pos (a:Int):Nat:=a.toNat
def putP (b:Nat) (e:Int) (l:List Nat):List Nat:=if 0<e then powF b e.toNat e.toNat l else l
def E3 (a b c:Int):Nat→Int | 0=>a | 1=>b | _=>c
def P3:Nat→Nat | 0=>2 | 1=>3 | _=>5
def numD (a b c:Int):Nat→List Nat
 | 0=>[1]
 | i+1=>putP (P3 i) (E3 a b c i) (numD a b c i)
theorem c155v {d lim:Nat} {h:Heap} {N:List Nat} {m k b:Nat} {n:Int} (e:h.get k=some ⟨cU N,true⟩) (hm:h.length=m) (hk:k<m) (hd:digits N) (hb0:0<b) (hb:b<18446744073709551616) (hn:0<n) (hs:N.length+n.toNat<100000) :
  E.call (d+3) lim 155 [.int .u64 (b:Int),i64 n,.slice (some ⟨k,0,none⟩) N.length 1] h=some (.slice (some ⟨m,0,none⟩) (putP b n N).length 1,h++[some ⟨cU (putP b n N),true⟩]):=by
 have s:SlU h (.slice (some ⟨k,0,none⟩) N.length 1) N:=SlU_own (rw:=true) (by omega) e
 have:=c155 (d:=d) (lim:=lim) (n:=n.toNat) s hd hb0 hb (by omega) hs
 rw[Int.toNat_of_nonneg (by omega)] at this
 rw[this,putP,if_pos hn,hm]
theorem c155w {d lim:Nat} {h:Heap} {N:List Nat} {k b:Nat} {n:Int} (e:h.get k=some ⟨cU N,true⟩) (hk:k<h.length) (hn:n≤0) :
  E.call (d+3) lim 155 [.int .u64 (b:Int),i64 n,.slice (some ⟨k,0,none⟩) N.length 1] h=some (.slice (some ⟨k,0,none⟩) N.length 1,h) :=
 c155z (d:=d+2) (SlU_own (rw:=true) hk e) hn
theorem c154 {d lim:Nat} {h:Heap} {a b c:Int} (sp:SlU h (.slice (some ⟨0,0,none⟩) 3 1) [2,3,5]) (ha:-20000≤a∧a≤20000) (hb:-20000≤b∧b≤20000) (hc:-20000≤c∧c≤20000)
  (dN:∀ i,digits (numD a b c i)) (dD:∀ i,digits (numD (-a) (-b) (-c) i)) (lN:∀ i≤3,(numD a b c i).length≤20000 * i+1) (lD:∀ i≤3,(numD (-a) (-b) (-c) i).length≤20000 * i+1) :
  E.call (d+4) lim 154 [.agg #[i64 a,i64 b,i64 c]] h=some (.agg #[.slice (some ⟨h.length,0,none⟩) (numD a b c 3).length 1,.slice (some ⟨h.length+1,0,none⟩) (numD (-a) (-b) (-c) 3).length 1],
   h++[some ⟨cU (numD a b c 3),true⟩,some ⟨cU (numD (-a) (-b) (-c) 3),true⟩]):=by
 have p:=sp.rules2
 refine call_pure fn154 rfl (by simp[ef154]) ?_
 simp[ef154]
 refine wpC_loop (fun q st=>∃ i:Nat,q=3-i∧i≤3 ∧
  st=⟨[(2,.pointer (some ⟨h.length,0,none⟩)),(3,.pointer (some ⟨h.length+1,0,none⟩)),(9,.agg #[i64 a,i64 b,i64 c]),(10,i64 i)],
   h.freeze++[some ⟨[.slice none 0 0,.slice none 0 0],true⟩,some ⟨[.slice (some ⟨h.length+2,0,none⟩) (numD a b c i).length 1,.slice (some ⟨h.length+3,0,none⟩) (numD (-a) (-b) (-c) i).length 1],true⟩,
    some ⟨cU (numD a b c i),true⟩,some ⟨cU (numD (-a) (-b) (-c) i),true⟩]⟩) 3 (by show 3<2 ^ 64; decide) ?_ ?_
 ·simp[St.tidy]
  exact⟨0,rfl,by omega,rfl,⟨rfl,rfl⟩,rfl,rfl⟩
 ·rintro q0 hq _ ⟨i,rfl,hi,rfl⟩
  by_cases hlt:i<3
  ·have gi:(#[i64 a,i64 b,i64 c])[i]?=some (i64 (E3 a b c i)):=by
    match i,hlt with
    | 0,_=>rfl
    | 1,_=>rfl
    | 2,_=>rfl
   have gp:(cU [2,3,5])[i]?=some (.int .u64 (P3 i:Nat)):=by
    match i,hlt with
    | 0,_=>rfl
    | 1,_=>rfl
    | 2,_=>rfl
   have rE:-20000≤E3 a b c i∧E3 a b c i≤20000:=by
    match i,hlt with
    | 0,_=>exact ha
    | 1,_=>exact hb
    | 2,_=>exact hc
   have pP:0<P3 i∧P3 i<18446744073709551616:=by
    match i,hlt with
    | 0,_=>decide
    | 1,_=>decide
    | 2,_=>decide
   have eN:numD a b c (i+1)=putP (P3 i) (E3 a b c i) (numD a b c i):=rfl
   have eD:numD (-a) (-b) (-c) (i+1)=putP (P3 i) (-E3 a b c i) (numD (-a) (-b) (-c) i):=by
    show putP (P3 i) (E3 (-a) (-b) (-c) i) _=_
    congr 1
    match i,hlt with
    | 0,_=>rfl
    | 1,_=>rfl
    | 2,_=>rfl
   have lN':=lN i hi
   have lD':=lD i hi
   have dN':=dN i
   have dD':=dD i
   have wn:IntKind.wrap .i64 (-E3 a b c i)=-E3 a b c i:=by rw[wrap_eq (by omega) (by omega)]
   have wi:IntKind.wrap .i64 ((i:Int)+1)=((i+1:Nat):Int):=by rw[wrap_eq (by omega) (by omega)]; rfl
   have hcell:∀ L,Heap.cell (h.freeze++L) 0 i=some (.int .u64 (P3 i:Nat)):=fun L=>by
    have:=((Sl_freeze.2 sp).app (l:=L)).cell i (by simp; omega)
    simpa using this.trans gp
   have hgE:∀ hh:i<[i64 a,i64 b,i64 c].length,[i64 a,i64 b,i64 c][i]'hh=i64 (E3 a b c i):=fun hh=>by
    match i,hlt with
    | 0,_=>rfl
    | 1,_=>rfl
    | 2,_=>rfl
   have ilt:(i:Int)<3:=by omega
   have hG:globPos E.glob 0=some 0:=rfl
   generalize E3 a b c i=e at *
   generalize P3 i=P at *
   generalize hN:numD a b c i=N at *
   generalize hD:numD (-a) (-b) (-c) i=D at *
   have w81:∀ (lim:Nat) (n:Int) (A B:Option Blk) (L:List (Option Blk)),n≤0→E.call (d+3) lim 155 [.int .u64 (P:Int),i64 n,.slice (some ⟨h.length+2,0,none⟩) N.length 1] (h.freeze++A::B::some ⟨cU N,true⟩::L)=some (.slice (some ⟨h.length+2,0,none⟩) N.length 1,h.freeze++A::B::some ⟨cU N,true⟩::L):=fun lim n A B L hn =>
    c155w (by rw[hget_base (by simp)]; rfl) (by simp) hn
   have w81':∀ (lim:Nat) (n:Int) (A B C:Option Blk) (L:List (Option Blk)),n≤0→E.call (d+3) lim 155 [.int .u64 (P:Int),i64 n,.slice (some ⟨h.length+3,0,none⟩) D.length 1] (h.freeze++A::B::C::some ⟨cU D,true⟩::L)=some (.slice (some ⟨h.length+3,0,none⟩) D.length 1,h.freeze++A::B::C::some ⟨cU D,true⟩::L):=fun lim n A B C L hn =>
    c155w (by rw[hget_base (by simp)]; rfl) (by simp) hn
   have v81:∀ (lim:Nat) (n:Int) (A B C:Option Blk),0<n→n≤20000→E.call (d+3) lim 155 [.int .u64 (P:Int),i64 n,.slice (some ⟨h.length+2,0,none⟩) N.length 1] (h.freeze++[A,B,some ⟨cU N,true⟩,C])=some (.slice (some ⟨h.length+4,0,none⟩) (putP P n N).length 1,h.freeze++[A,B,some ⟨cU N,true⟩,C,some ⟨cU (putP P n N),true⟩]):=fun lim n A B C hn hn2=>by
    have:=c155v (d:=d) (lim:=lim) (h:=h.freeze++[A,B,some ⟨cU N,true⟩,C]) (k:=h.length+2) (m:=h.length+4) (by rw[hget_base (by simp)]; rfl) (by simp) (by omega) dN' pP.1 pP.2 hn (by omega)
    simpa using this
   have v81':∀ (lim:Nat) (n:Int) (A B C:Option Blk),0<n→n≤20000→E.call (d+3) lim 155 [.int .u64 (P:Int),i64 n,.slice (some ⟨h.length+3,0,none⟩) D.length 1] (h.freeze++[A,B,C,some ⟨cU D,true⟩])=some (.slice (some ⟨h.length+4,0,none⟩) (putP P n D).length 1,h.freeze++[A,B,C,some ⟨cU D,true⟩,some ⟨cU (putP P n D),true⟩]):=fun lim n A B C hn hn2=>by
    have:=c155v (d:=d) (lim:=lim) (h:=h.freeze++[A,B,C,some ⟨cU D,true⟩]) (k:=h.length+3) (m:=h.length+4) (by rw[hget_base (by simp)]; rfl) (by simp) (by omega) dD' pP.1 pP.2 hn (by omega)
    simpa using this
   have fin:3-(i+1)<3-i:=by omega
   rcases Int.lt_trichotomy e 0 with q | q | q
   ·have m1:max e 0=0:=by omega
    have m2:max (-e) 0=-e:=by omega
    have q':¬ 0<e:=by omega
    have q2:0 < -e:=by omega
    have v2:=fun lim A B C=>v81' lim (-e) A B C q2 (by omega)
    have w2:=fun lim A B L=>w81 lim 0 A B L (by omega)
    simp only[putP,if_neg q'] at eN
    simp[hlt,ilt,hG,hgE,hcell,p,m1,m2,wn,wi,v2,w2,St.tidy,q',Int.not_lt.1 q',q,q2]
    exact⟨3-(i+1),by omega,i+1,rfl,by omega,by simp,⟨by rw[eN],by rw[eD]⟩,by rw[eN],by rw[eD]⟩
   ·have m1:max e 0=0:=by omega
    have m2:max (-e) 0=0:=by omega
    have q':¬ 0<e:=by omega
    have q2:¬ 0 < -e:=by omega
    have w2:=fun lim A B L=>w81 lim 0 A B L (by omega)
    have w3:=fun lim A B C L=>w81' lim 0 A B C L (by omega)
    simp only[putP,if_neg q'] at eN
    simp only[putP,if_neg q2] at eD
    simp[hlt,ilt,hG,hgE,hcell,p,m1,m2,wn,wi,w3,w2,St.tidy,q,(by decide:max (IntKind.wrap .i64 0) 0=0)]
    exact⟨3-(i+1),by omega,i+1,rfl,by omega,by simp,⟨by rw[eN],by rw[eD]⟩,by rw[eN],by rw[eD]⟩
   ·have m1:max e 0=e:=by omega
    have m2:max (-e) 0=0:=by omega
    have q2:¬ 0 < -e:=by omega
    have v2:=fun lim A B C=>v81 lim e A B C q (by omega)
    have w3:=fun lim A B C L=>w81' lim 0 A B C L (by omega)
    simp only[putP,if_neg q2] at eD
    simp[hlt,ilt,hG,hgE,hcell,p,m1,m2,wn,wi,v2,w3,St.tidy,q]
    exact⟨3-(i+1),by omega,i+1,rfl,by omega,by simp,⟨by rw[eN],by rw[eD]⟩,by rw[eN],by rw[eD]⟩
  ·have e:i=3:=by omega
   subst e
   simp[St.tidy]
end B
end Go.Abs
namespace Go.Abs
namespace B
set_option maxRecDepth 100000
set_option maxHeartbeats 0
def numV (a b c:Int):Nat→Nat
 | 0=>1
 | i+1=>numV a b c i * P3 i ^ (E3 a b c i).toNat
theorem P3_pos (i:Nat):0<P3 i∧P3 i<18446744073709551616:=by
 match i with
 | 0=>decide
 | 1=>decide
 | _+2=>exact⟨by simp[P3],by simp[P3]⟩
theorem numD_spec {a b c:Int} (ha:a≤20000) (hb:b≤20000) (hc:c≤20000):∀ i,Num (numD a b c i) (numV a b c i)∧(numD a b c i).length≤20000 * i+1
 | 0=>⟨Num.one,by simp[numD]⟩
 | i+1=>by
  obtain⟨h1,h2⟩:=numD_spec ha hb hc i
  have rE:E3 a b c i≤20000:=by
   match i with
   | 0=>exact ha
   | 1=>exact hb
   | _+2=>exact hc
  have e1:numD a b c (i+1)=putP (P3 i) (E3 a b c i) (numD a b c i):=rfl
  have e2:numV a b c (i+1)=numV a b c i * P3 i ^ (E3 a b c i).toNat:=rfl
  rw[e1,e2,putP]
  by_cases q:0<E3 a b c i
  ·rw[if_pos q]
   obtain⟨g1,g2⟩:=powF_num (P3_pos i).1 (P3_pos i).2 (E3 a b c i).toNat (E3 a b c i).toNat (Nat.le_refl _) h1
   exact⟨g1,by omega⟩
  ·rw[if_neg q]
   have:(E3 a b c i).toNat=0:=by omega
   rw[this]
   exact⟨by simpa using h1,by omega⟩
def R2 (x:Int):Prop:=-20000≤x∧x≤20000
theorem c154' {d lim:Nat} {h:Heap} {a b c:Int} (sp:SlU h (.slice (some ⟨0,0,none⟩) 3 1) [2,3,5]) (ha:R2 a) (hb:R2 b) (hc:R2 c) :
  E.call (d+4) lim 154 [.agg #[i64 a,i64 b,i64 c]] h=some (.agg #[.slice (some ⟨h.length,0,none⟩) (numD a b c 3).length 1,.slice (some ⟨h.length+1,0,none⟩) (numD (-a) (-b) (-c) 3).length 1],
   h++[some ⟨cU (numD a b c 3),true⟩,some ⟨cU (numD (-a) (-b) (-c) 3),true⟩]):=by
 obtain⟨a1,a2⟩:=ha; obtain⟨b1,b2⟩:=hb; obtain⟨c1,c2⟩:=hc
 have s1:=numD_spec a2 b2 c2
 have s2:=numD_spec (a:=-a) (b:=-b) (c:=-c) (by omega) (by omega) (by omega)
 exact c154 sp ⟨a1,a2⟩ ⟨b1,b2⟩ ⟨c1,c2⟩ (fun i=>(s1 i).1.dig) (fun i=>(s2 i).1.dig) (fun i _=>(s1 i).2) (fun i _=>(s2 i).2)
def ordE (a b c:Int):Int:=cmpN (numV a b c 3) (numV (-a) (-b) (-c) 3)
theorem c160 {d lim:Nat} {h:Heap} {a b c e f g i j x y z:Int} (sp:SlU h (.slice (some ⟨0,0,none⟩) 3 1) [2,3,5]) (h0:IntKind.wrap .i64 (e * j)≠0)
  (hx:red (jn a f (-1) e j) (jn b g (-1) e j) (jn c i (-1) e j) (IntKind.wrap .i64 (e * j)) (jn a f (-1) e j)=x)
  (hy:red (jn a f (-1) e j) (jn b g (-1) e j) (jn c i (-1) e j) (IntKind.wrap .i64 (e * j)) (jn b g (-1) e j)=y)
  (hz:red (jn a f (-1) e j) (jn b g (-1) e j) (jn c i (-1) e j) (IntKind.wrap .i64 (e * j)) (jn c i (-1) e j)=z)
  (rx:R2 x) (ry:R2 y) (rz:R2 z) :
  E.call (d+5) lim 160 [pt a b c e,pt f g i j] h=some (i64 (ordE x y z),h):=by
 have nx:R2 (-x):=⟨by have:=rx.2; omega,by have:=rx.1; omega⟩
 have ny:R2 (-y):=⟨by have:=ry.2; omega,by have:=ry.1; omega⟩
 have nz:R2 (-z):=⟨by have:=rz.2; omega,by have:=rz.1; omega⟩
 have s1:=numD_spec rx.2 ry.2 rz.2 3
 have s2:=numD_spec nx.2 ny.2 nz.2 3
 have spA:∀ L,SlU (h.freeze++L) (.slice (some ⟨0,0,none⟩) 3 1) [2,3,5]:=(Sl_freeze.2 sp).app
 have c153':=fun lim hh=>@c153 (d+2) lim hh (jn a f (-1) e j) (jn b g (-1) e j) (jn c i (-1) e j) (IntKind.wrap .i64 (e * j)) (by simp[jn]) (by simp[jn]) (by simp[jn]) (by simp) h0
 simp only[redV,hx,hy,hz] at c153'
 have q79:=fun lim L=>c154' (d:=d) (lim:=lim) (spA L) rx ry rz
 have hord:cmpL (numD x y z 3) (numD (-x) (-y) (-z) 3)=ordE x y z:=by
  rw[cmpL_val (B:=18446744073709551616) (by decide) s1.1.dig s2.1.dig s1.1.top s2.1.top,s1.1.val,s2.1.val]; rfl
 generalize numD x y z 3=N at *
 generalize numD (-x) (-y) (-z) 3=D at *
 have q83:∀ (lim:Nat) (A B:Option Blk) (L:List (Option Blk)),E.call (d+4) lim 157 [.slice (some ⟨h.length+2,0,none⟩) N.length 1,.slice (some ⟨h.length+2+1,0,none⟩) D.length 1] (h.freeze++A::B::some ⟨cU N,true⟩::some ⟨cU D,true⟩::L) =
   some (i64 (cmpL N D),h.freeze++A::B::some ⟨cU N,true⟩::some ⟨cU D,true⟩::L):=fun lim A B L =>
  c157 (d:=d+3) (SlU_own (rw:=true) (by simp) (by rw[hget_base (by simp)]; rfl)) (SlU_own (rw:=true) (by simp; omega) (by rw[Nat.add_assoc h.length 2 1,hget_base (by simp)]; rfl)) (by omega) (by omega)
 refine call1 fn160 rfl (by simp[ef160]) ?_
 simp[ef160,c188,c153',c152,q79,q83,hord]
end B
end Go.Abs
namespace Go.Abs
def ofF:Nat→Nat→List Nat
 | 0,_=>[]
 | f+1,n=>if n=0 then [] else n % 10000::ofF f (n / 10000)
theorem ofF_zero (f:Nat):ofF f 0=[]:=by cases f <;> simp[ofF]
theorem ofF_pos {f n:Nat} (hf:n≤f) (h:0<n):ofF f n=n % 10000::ofF (f-1) (n / 10000):=by
 cases f with
 | zero=>omega
 | succ f=>simp[ofF,Nat.pos_iff_ne_zero.1 h]
theorem ofF_val:∀ (f n:Nat),n≤f→val 10000 (ofF f n)=n
 | 0,n,h=>by
   have:n=0:=by omega
   subst this; rfl
 | f+1,n,h=>by
  unfold ofF; split
  ·rename_i e; subst e; rfl
  ·simp only[val]; rw[ofF_val f (n / 10000) (by omega)]; omega
theorem ofF_dig:∀ (f n:Nat),digB 10000 (ofF f n)
 | 0,_=>by intro x hx; simp[ofF] at hx
 | f+1,n=>by
  unfold ofF; split
  ·intro x hx; simp at hx
  ·intro x hx
   simp only[List.mem_cons] at hx
   rcases hx with rfl | hx
   ·omega
   ·exact ofF_dig f _ x hx
theorem ofF_topped:∀ (f n:Nat),n≤f→topped (ofF f n)
 | 0,n,h=>by intro q; simp[ofF] at q
 | f+1,n,h=>by
  intro q
  by_cases e:n=0
  ·simp[ofF,e] at q
  ·have hh:ofF (f+1) n=n % 10000::ofF f (n / 10000):=by simp[ofF,e]
   by_cases z:n / 10000=0
   ·simp only[hh,z,ofF_zero]; simp; omega
   ·have hne:ofF f (n / 10000)≠[]:=by
     cases f with
     | zero=>omega
     | succ f=>simp[ofF]; omega
    simp only[hh]; rw[List.getLast_cons hne]
    exact ofF_topped f (n / 10000) (by omega) hne
namespace B
set_option maxRecDepth 100000
set_option maxHeartbeats 0
theorem c119z {d lim:Nat} {h:Heap}:E.call (d+1) lim 119 [i64 0] h=some (.slice none 0 0,h):=by
 refine call1 fn119 rfl (by simp[ef119]) ?_
 simp[ef119]
 refine wpC_loop (fun q st=>q=0∧st=⟨[(0,i64 0),(3,.slice none 0 0)],h.freeze⟩) 0 (by show 0<2 ^ 64; decide) ?_ ?_
 ·simp[St.tidy]
 ·rintro q0 hq _ ⟨rfl,rfl⟩
  simp
theorem c119 {d lim:Nat} {h:Heap} {n:Nat} (h0:0<n) (hn:n<9223372036854775808) :
  E.call (d+1) lim 119 [i64 n] h=some (.slice (some ⟨h.length,0,none⟩) (ofF n n).length 1,h++[some ⟨cW (ofF n n),true⟩]):=by
 refine call_pure fn119 rfl (by simp[ef119]) ?_
 simp[ef119]
 have ow:∀ q:Nat,q<9223372036854775808→IntKind.wrap .i64 (qdiv (q:Int) 10000)=((q / 10000:Nat):Int):=fun q hq=>by
  have:qdiv (q:Int) 10000=((q / 10000:Nat):Int):=by unfold qdiv; rw[Int.tdiv_eq_ediv_of_nonneg (by omega)]; omega
  rw[this,wrap_eq (by omega) (by omega)]
 have om:∀ q:Nat,qmod (q:Int) 10000=((q % 10000:Nat):Int):=fun q=>by
  unfold qmod; rw[Int.tmod_eq_emod_of_nonneg (by omega)]; omega
 have pw:∀ (q k:Nat),0<q→q * 10000 ^ k<9223372036854775808→k<5:=fun q k hq hk=>by
  rcases Nat.lt_or_ge k 5 with z | z
  ·exact z
  ·have h1:10000 ^ 5≤10000 ^ k:=Nat.pow_le_pow_right (by decide) z
   have h2:1 * 10000 ^ k≤q * 10000 ^ k:=Nat.mul_le_mul_right _ hq
   have h3:(9223372036854775808:Nat)<10000 ^ 5:=by decide
   omega
 have pn:∀ (q k:Nat),q * 10000 ^ k<9223372036854775808→q / 10000 * 10000 ^ (k+1)<9223372036854775808:=fun q k hk=>by
  have:q / 10000 * 10000 ^ (k+1)=q / 10000 * 10000 * 10000 ^ k:=by rw[Nat.pow_succ,Nat.mul_assoc,Nat.mul_comm (10000 ^ k)]
  have h2:q / 10000 * 10000 * 10000 ^ k≤q * 10000 ^ k:=Nat.mul_le_mul_right _ (by omega)
  omega
 refine wpC_loop (fun q st=>q<9223372036854775808∧((q=n∧st=⟨[(0,i64 q),(3,.slice none 0 0)],h.freeze⟩) ∨
  (∃ f out,q≤f∧out++ofF f q=ofF n n∧out.length<20∧q * 10000 ^ out.length<9223372036854775808 ∧
   st=⟨[(0,i64 q),(3,.slice (some ⟨h.length,0,none⟩) out.length 1)],h.freeze++[some ⟨cW out,true⟩]⟩))) n (by show n<2 ^ 64; omega) ?_ ?_
 ·simp[St.tidy]; exact hn
 ·rintro q hq _ ⟨hqn,⟨rfl,rfl⟩ | ⟨f,out,hf,hp,hlen,hpw,rfl⟩⟩
  ·have hn':(0:Int)<(q:Int):=by omega
   have a3:1≤maxLen:=by decide
   simp[h0,hn',ow q hqn,om,E.append,E.added,a3,St.tidy]
   refine⟨q / 10000,by omega,by omega,q-1,by omega,[q % 10000],?_,by simp,?_,by simp,by simp[cW]⟩
   ·rw[ofF_pos (Nat.le_refl q) h0]; rfl
   ·have:=pn q 0 (by simpa using hqn); simpa using this
  ·by_cases hz:q=0
   ·subst hz
    rw[ofF_zero,List.append_nil] at hp
    subst hp
    simp[St.tidy]
   ·have hqp:0<q:=by omega
    have hn':(0:Int)<(q:Int):=by omega
    simp[hqp,hn',ow q hqn,om,E.append,E.added,St.tidy]
    have l5:=pw q out.length hqp hpw
    have hmx:out.length+1≤maxLen:=Nat.le_trans (by omega:out.length+1≤5) (by decide)
    refine⟨⟨by omega,hmx⟩,q / 10000,by omega,by omega,f-1,by omega,out++[q % 10000],?_,by simp; omega,?_,by simp,by simp[cW]⟩
    ·rw[← hp,ofF_pos hf hqp]; simp
    ·have:=pn q _ hpw; simpa using this
end B
end Go.Abs
