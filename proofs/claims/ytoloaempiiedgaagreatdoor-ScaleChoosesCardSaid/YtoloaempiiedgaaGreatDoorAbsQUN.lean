--
import Derived.Test.YtoloaempiiedgaaGreatDoorAbsQUM
set_option linter.unusedSimpArgs false
set_option linter.unusedVariables false
namespace Go.Abs
namespace Q
set_option maxRecDepth 100000
set_option maxHeartbeats 0
noncomputable def ten (wl:List Wi) (t:Int) (u:Un):XR:=(tenL wl u.sd (fL u t),tenH wl u.sd (fH u t))
noncomputable def frq (t:Int) (u:Un):XR:=(fL u t,fH u t)
noncomputable def mapU (f:Un→XR) (l:List Un):List XR:=l.map f
theorem mapU_len (f:Un→XR) (l:List Un):(mapU f l).length=l.length:=by simp[mapU]
theorem mapU_at {f:Un→XR} {l:List Un} {i:Nat} (h:i<l.length):atR (mapU f l) i=f (atN l i):=by
 rw[← atR_get (by rw[mapU_len]; exact h),← atN_get h]; simp[mapU]
theorem mapU_snoc {f:Un→XR} {l:List Un} {i:Nat} (h:i<l.length):cS encR ((mapU f l).take i)++[i64 (f (atN l i)).1,i64 (f (atN l i)).2]=cS encR ((mapU f l).take (i+1)):=by
 have hl:i<(mapU f l).length:=by rw[mapU_len]; exact h
 rw[List.take_succ_eq_append_getElem hl,atR_get hl,mapU_at h]
 simp[cS,encR]
theorem mapU_tk {f:Un→XR} {l:List Un} {i:Nat} (h:i≤l.length):(cS encR ((mapU f l).take i)).length=i * 2:=by
 rw[cR_len,List.length_take,mapU_len]; omega
theorem mapU_all {f:Un→XR} {l:List Un}:(mapU f l).take l.length=mapU f l:=by rw[List.take_of_length_le]; rw[mapU_len]; exact Nat.le_refl _
abbrev newV (n:Nat) (l:List XR):Value:=if l.length=0 then .slice none 0 0 else .slice (some ⟨n,0,none⟩) l.length 2
abbrev newK (l:List XR):List (Option Blk):=if l.length=0 then [] else [some ⟨cS encR l,true⟩]
end Q
end Go.Abs
namespace Go.Abs
namespace Q
set_option maxRecDepth 100000
set_option maxHeartbeats 0
end Q
end Go.Abs
namespace Go.Abs
namespace Q
set_option maxRecDepth 100000
set_option maxHeartbeats 0
abbrev knV (t:Int) (v w f:Value):Value:=.agg #[i64 t,v,w,f]
theorem c19 {d lim:Nat} {h:Heap} {v w:Value} {wl:List Wi} {l:List Un} {t:Int} (s:SlW h v wl) (q:SlN h w l) (he:(stE t wl l).2=0) :
  E.call (d+5) lim 19 [stV t v w] h=some (knV t v w (newV h.length (mapU (frq t) l)),h++newK (mapU (frq t) l)):=by
 have O:=StOk.of he
 have l90:=O.few
 unfold newV newK
 rw[mapU_len]
 refine call_pure fn19 rfl (by simp[ef19]) ?_
 rcases Nat.eq_zero_or_pos l.length with z | z
 ·have rs:=s.rules2
  have r:=q.rules2
  have so:=s.own
  have qo:=q.own
  have el:l=[]:=List.eq_nil_of_length_eq_zero z
  subst el
  rcases s.low with rfl | ⟨bv,ov,mv,tv,rfl,hbv⟩ <;> rcases q.low with rfl | ⟨bw,ow,mw,tw,rfl,hbw⟩
  ·simp[ef19]
   rw[wpC_unroll,wpI_step (by simp[E_fuel'])]
   simp[St.tidy]
  ·obtain rfl:mw=0:=by simpa using q.len
   simp[ef19]
   rw[wpC_unroll,wpI_step (by simp[E_fuel'])]
   simp[St.tidy,hbw]
  ·simp[ef19]
   rw[wpC_unroll,wpI_step (by simp[E_fuel'])]
   simp[St.tidy,hbv]
  ·obtain rfl:mw=0:=by simpa using q.len
   simp[ef19]
   rw[wpC_unroll,wpI_step (by simp[E_fuel'])]
   simp[St.tidy,hbv,hbw]
 ·have zi:l.length≠0:=by omega
  have ne:l≠[]:=fun e=>zi (by rw[e]; rfl)
  have wn:wl.length≠0:=by
   have:=(O.u 0 z).sd.wir
   intro e
   have el:wl=[]:=List.eq_nil_of_length_eq_zero e
   subst el
   simp[hasW,idxW] at this
  obtain⟨bv,ov,rfl⟩:∃ bv ov,v=.slice (some ⟨bv,ov,none⟩) wl.length 4:=⟨_,_,s.addr wn⟩
  obtain⟨bw,ow,rfl⟩:∃ bw ow,w=.slice (some ⟨bw,ow,none⟩) l.length 10:=⟨_,_,q.addr zi⟩
  have hbv:=s.lt wn
  have hbw:=q.lt zi
  have rs:=s.rules2
  have r:=q.rules2
  simp only[slB_some,slO_some] at rs r hbv hbw
  simp[ef19]
  refine wpC_loop (fun y st=>∃ i,y=l.length-i∧i≤l.length∧st=⟨[(1,.pointer (some ⟨h.length,0,none⟩)),(2,.pointer (some ⟨h.length+1,0,none⟩)),(3,.pointer (some ⟨h.length+2,0,none⟩)),(4,i64 (i:Nat))],
   h.freeze++(some ⟨[i64 t,.slice (some ⟨bv,ov,none⟩) wl.length 4,.slice (some ⟨bw,ow,none⟩) l.length 10],true⟩::some ⟨[i64 0,.slice none 0 0,.slice none 0 0,.slice none 0 0],true⟩ ::
    some ⟨[i64 t,.slice (some ⟨bv,ov,none⟩) wl.length 4,.slice (some ⟨bw,ow,none⟩) l.length 10,if i=0 then .slice none 0 0 else .slice (some ⟨h.length+3,0,none⟩) i 2],true⟩::if i=0 then [] else [some ⟨cS encR ((mapU (frq t) l).take i),true⟩])⟩) l.length (by show l.length<2 ^ 64; omega) ?_ ?_
  ·simp[St.tidy,hbv,hbw]
   exact⟨0,by omega,by omega,rfl,rfl⟩
  ·rintro y hy _ ⟨i,rfl,hi,rfl⟩
   by_cases hlt:i<l.length
   ·have w1':=w1 (i:=i) (by omega)
    simp only[W] at w1'
    have U:=O.u i hlt
    have hlti:(i:Int)<l.length:=by omega
    have p4:=cN_p4 (l:=l) (i:=i) hlt
    have k4:i * 10+4≤l.length * 10:=by omega
    have sn:=mapU_snoc (f:=frq t) hlt
    have len:=mapU_tk (f:=frq t) hi
    have pl:=cR_plain ((mapU (frq t) l).take i)
    have k77:=fun lim hh=>enc_ref (d:=d) (lim:=lim) (h:=hh) U.p O.fork
    rw[U.e] at k77
    generalize hu:atN l i=u at *
    rcases Nat.eq_zero_or_pos i with zz | zz
    ·subst zz
     rw[show cS encR ((mapU (frq t) l).take 0)=[] from rfl,List.nil_append] at sn
     have l0:0<l.length:=by omega
     have pp:=fun L=>((Sl_freeze.2 q).app L).part (k:=0) (m:=4) (by omega) (by omega)
     simp only[Nat.zero_mul,List.drop_zero] at p4
     simp only[slB_some,slO_some,Nat.add_zero,List.drop_zero,p4] at pp
     simp[l0,hlt,Nat.not_le.2 l0,hlti,r,pp,p4,k4,k77,frq,E.append,E.added,Value.oneCell',maxLen,zeros,St.tidy,hbv,hbw]
     exact⟨l.length-1,by omega,1,by omega,by omega,by omega,by rw[if_neg (by omega)],by rw[if_neg (by omega)]; exact congrArg (fun c=>[some (Blk.mk c true)]) sn⟩
    ·have zi:i≠0:=by omega
     simp[hlt,Nat.not_le.2 hlt,hlti,zi,r,p4,k4,k77,len,frq,E.append,E.added,Value.oneCell',maxLen,zeros,St.tidy,hbv,hbw,pl,w1',Nat.add_assoc]
     exact⟨⟨by omega,by omega⟩,l.length-(i+1),by omega,i+1,by omega,by omega,by omega,by rw[if_neg (by omega)],by rw[if_neg (by omega)]; exact congrArg (fun c=>[some (Blk.mk c true)]) sn⟩
   ·obtain rfl:i=l.length:=by omega
    have pl:=cR_plain (mapU (frq t) l)
    rw[mapU_all]
    simp[zi,ne,r,pl,hbv,hbw]
end Q
end Go.Abs
namespace Go.Abs
namespace Q
set_option maxRecDepth 100000
set_option maxHeartbeats 0
end Q
end Go.Abs
namespace Go.Abs
namespace Q
set_option maxRecDepth 100000
set_option maxHeartbeats 0
theorem ownW {h:Heap} {l:List Wi} (A:List (Option Blk)) {k:Nat} (hk:A[k]?=some (some ⟨cS encW l,true⟩)):SlW (h.freeze++A) (.slice (some ⟨h.length+k,0,none⟩) l.length 4) l :=
 Sl_own (f:=encW) (es:=4) (fun _=>rfl) (by rw[hget_base (by simp),hk]; rfl) rfl
theorem ownN {h:Heap} {l:List Un} (A:List (Option Blk)) {k:Nat} (hk:A[k]?=some (some ⟨cS encN l,true⟩)):SlN (h.freeze++A) (.slice (some ⟨h.length+k,0,none⟩) l.length 10) l :=
 Sl_own (f:=encN) (es:=10) (fun _=>rfl) (by rw[hget_base (by simp),hk]; rfl) rfl
abbrev qB (t:Int) (v w:Value):Option Blk:=some ⟨[i64 t,v,w],true⟩
abbrev qK (t:Int) (v w f:Value):Option Blk:=some ⟨[i64 t,v,w,f],true⟩
abbrev qW (wl:List Wi):Option Blk:=some ⟨cS encW wl,true⟩
abbrev qN (l:List Un):Option Blk:=some ⟨cS encN l,true⟩
abbrev qR (l:List XR):Option Blk:=some ⟨cS encR l,true⟩
theorem Sl_one {es:Nat} {h:Heap} {v:Value} {n:Nat} {cs:List Value} (s:Sl es h v n cs):Value.oneCell' v=true:=by
 rcases s.low with rfl | ⟨bv,ov,mv,tv,rfl,hbv⟩ <;> rfl
end Q
end Go.Abs
