--
import Derived.Test.YtllhkifkiabkbaaGreatDoorAbsBVA
import Derived.Test.YtllhkifkiabkbaaGreatDoorAbsNat3
import Derived.Test.YtllhkifkiabkbaaGreatDoorAbsBSN
import Derived.Test.YtllhkifkiabkbaaGreatDoorAbsBUM
import Derived.Test.YtllhkifkiabkbaaGreatDoorAbsBVC
set_option linter.unusedSimpArgs false
set_option linter.unusedVariables false
namespace Go.Abs
namespace B.T.U
set_option maxRecDepth 100000
set_option maxHeartbeats 0
abbrev Wd:=List UInt8 ⊕ Int
def ifW:Wd→Value
 | .inl l=>.iface 9 (tx l)
 | .inr n=>.iface 3 (i64 n)
def txW:Wd→List UInt8
 | .inl l=>l
 | .inr n=>dec n
def lnJ (ws:List (List UInt8)):List UInt8:=Lib.join ws [32]++[10]
theorem cT_strs (L:List (List UInt8)):strsOf (T.cT L)=some (L.map fun l=>⟨l.toArray⟩):=by
 have:T.cT L=(L.map fun l=>(⟨l.toArray⟩:ByteArray)).map .string:=by simp[T.cT]
 rw[this,strsOf_map]
theorem c72 {d lim b n:Nat} {h:Heap} {L:List (List UInt8)} {sep:List UInt8} {rw:Bool} (hb:h.get b=some ⟨T.cT L,rw⟩) (hn:n=L.length) (h1:n≤1000) (h2:(Lib.join L sep).length≤100000) :
  E.call (d+1) lim 72 [.slice (some ⟨b,0,none⟩) n 1,tx sep] h=some (tx (Lib.join L sep),h):=by
 show natJoin [.slice (some ⟨b,0,none⟩) n 1,tx sep] h=_
 have e:(List.map (fun l:List UInt8=>(⟨l.toArray⟩:ByteArray)) L).map (fun x=>x.data.toList)=L:=by rw[List.map_map]; simp[Function.comp_def]
 have tk:((T.cT L).drop 0).take n=T.cT L:=by rw[List.drop_zero,List.take_of_length_le (by rw[T.cT_len]; omega)]
 unfold natJoin
 simp only[hb,tk,cT_strs]
 rw[if_pos ⟨by rw[List.length_map,hn],by omega,by rw[e]; show (Lib.join L sep).length≤_; omega⟩,e]
theorem dec_len {n:Int} (hn:R64 n):(dec n).length≤21:=by
 have:=(digs_len (n:=n.natAbs) 20 (by decide)).2 (by unfold R64 at hn; omega)
 by_cases a:n<0
 ·rw[dec_neg a,List.length_cons]; omega
 ·rw[dec_nn a]; omega
def wdI (ws:List Wd) (i:Nat):Wd:=(ws[i]?).getD (.inr 0)
def oW (ws:List Wd):Nat→List (List UInt8)
 | 0=>[]
 | i+1=>oW ws i++[txW (wdI ws i)]
theorem oW_len (ws:List Wd):∀ i,(oW ws i).length=i
 | 0=>rfl
 | i+1=>by rw[oW,List.length_append,oW_len ws i]; rfl
theorem oW_take (ws:List Wd):∀ i,i≤ws.length→oW ws i=(ws.take i).map txW
 | 0,_=>rfl
 | i+1,h=>by
  rw[oW,oW_take ws i (by omega),List.take_succ_eq_append_getElem (by omega),List.map_append]
  unfold wdI
  rw[List.getElem?_eq_getElem (by omega)]; rfl
theorem ixI {ws:List Wd} {k:Nat} (hk:k<ws.length):(k:Int)<(ws.length:Int)∧(ws.map ifW)[k]?=some (ifW (wdI ws k))∧(∀ hh,(ws.map ifW)[k]'hh=ifW (wdI ws k))∧k+1≤ws.length∧k<ws.length:=by
 have e:(ws.map ifW)[k]?=some (ifW (wdI ws k)):=by
  unfold wdI
  rw[List.getElem?_map,List.getElem?_eq_getElem hk]; rfl
 refine⟨by omega,e,fun hh=>?_,by omega,hk⟩
 rw[List.getElem?_eq_getElem hh] at e
 exact Option.some.inj e
theorem c39 {d lim:Nat} {h:Heap} {v:Value} {ws:List Wd} (s:Sl 1 h v ws.length (ws.map ifW)) (h0:ws≠[]) (hl:ws.length≤100) (hR:∀ n,Sum.inr n∈ws→R64 n) (hJ:(Lib.join (ws.map txW) [32]).length≤100000):E.call (d+2) lim 39 [v] h=some (tx (lnJ (ws.map txW)),h):=by
 have r:=s.rules2
 have l0:=List.length_pos_iff.2 h0
 refine call1 fn39 rfl (by simp[ef39]) ?_
 simp[ef39,r]
 refine wpC_loop (fun y st=>∃ i:Nat,y=ws.length-i∧i≤ws.length∧st=⟨[(3,T.lVT h.length (oW ws i)),(8,v),(9,i64 (ws.length:Nat)),(10,i64 (i:Nat))],h.freeze++T.lBT (oW ws i)⟩) ws.length (by show ws.length<2 ^ 64; omega) ?_ ?_
 ·simp[-collect_own1,St.tidy,r,collect_box,s.own]
  exact⟨0,by omega,by omega,⟨rfl,rfl⟩,rfl⟩
 ·rintro y hy _ ⟨i,rfl,hi,rfl⟩
  have ol:=oW_len ws i
  have op:=T.cT_plain' (oW ws i)
  by_cases hlt:i<ws.length
  ·have w1':IntKind.i64.wrap ((i:Int)+1)=((i+1:Nat):Int):=by rw[wrap_eq (by omega) (by omega)]; rfl
   obtain⟨p1,p2,p3,p4,p5⟩:=ixI hlt
   have hmem:wdI ws i∈ws:=by
    unfold wdI
    rw[List.getElem?_eq_getElem hlt]
    exact List.getElem_mem hlt
   have on:oW ws (i+1)=oW ws i++[txW (wdI ws i)]:=rfl
   have sn:=T.cT_snoc (oW ws i) (txW (wdI ws i))
   rw[← on] at sn
   have op2:=T.cT_plain' (oW ws (i+1))
   have ne1:¬ oW ws (i+1)=[]:=fun z=>by have:=oW_len ws (i+1); rw[z] at this; cases this
   have clen:=T.cT_len (oW ws i)
   rw[ol] at clen
   have c0:i=0→slAt 1 v (i64 0)=some (.pointer (some ⟨slB v,slO v,none⟩))∧h.cell (slB v) (slO v)=some (ifW (wdI ws 0)):=fun z=>by
    subst z
    have s0:=s.at (k:=.i64) (i:=0) (by omega) (by omega)
    have cc:=s.cell 0 (by omega)
    rw[Nat.add_zero] at cc
    exact⟨by simpa using s0,by rw[cc,p2]⟩
   rcases hw:wdI ws i with x | x
   ·rw[hw] at p2 p3 sn
    simp only[ifW,txW] at p2 p3 sn
    rcases Nat.eq_zero_or_pos i with z | z
    ·subst z
     obtain⟨s0,cc0⟩:=c0 rfl
     rw[hw] at cc0
     simp only[ifW] at cc0
     have sn0:[tx x]=T.cT (oW ws 1):=sn
     simp[-collect_own1,oW,T.lVT,T.lBT,hlt,l0,h0,s0,cc0,r,fillL,zeros,E.append,E.added,w1',St.tidy,collect_box,s.own]
     exact⟨by decide,ws.length-1,by omega,1,by omega,by omega,⟨by rw[if_neg ne1,oW_len],by omega⟩,by rw[if_neg ne1,← sn0]⟩
    ·have ne:¬ oW ws i=[]:=fun z=>by rw[z] at ol; simp at ol; omega
     have i0:¬ i=0:=by omega
     simp[-collect_own1,T.lVT,T.lBT,ne,i0,ol,hlt,Nat.not_le.2 hlt,p1,p2,p3,p4,r,fillL,zeros,E.append,E.added,clen,sn,op2,w1',Nat.add_assoc,St.tidy,collect_box,s.own]
     exact⟨⟨by omega,by unfold maxLen; omega⟩,ws.length-(i+1),by omega,i+1,by omega,by omega,⟨by rw[if_neg ne1,oW_len],by omega⟩,by rw[if_neg ne1]⟩
   ·have k71:=fun H':Heap=>T.c71 (d:=d) (lim:=h.length) (h:=H') (n:=x) (hR x (by rw[← hw]; exact hmem))
    rw[hw] at p2 p3 sn
    simp only[ifW,txW] at p2 p3 sn
    rcases Nat.eq_zero_or_pos i with z | z
    ·subst z
     obtain⟨s0,cc0⟩:=c0 rfl
     rw[hw] at cc0
     simp only[ifW] at cc0
     have sn0:[tx (dec x)]=T.cT (oW ws 1):=sn
     simp[-collect_own1,oW,T.lVT,T.lBT,hlt,l0,h0,s0,cc0,k71,r,fillL,zeros,E.append,E.added,w1',St.tidy,collect_box,s.own]
     exact⟨by decide,ws.length-1,by omega,1,by omega,by omega,⟨by rw[if_neg ne1,oW_len],by omega⟩,by rw[if_neg ne1,← sn0]⟩
    ·have ne:¬ oW ws i=[]:=fun z=>by rw[z] at ol; simp at ol; omega
     have i0:¬ i=0:=by omega
     simp[-collect_own1,T.lVT,T.lBT,ne,i0,ol,hlt,Nat.not_le.2 hlt,p1,p2,p3,p4,k71,r,fillL,zeros,E.append,E.added,clen,sn,op2,w1',Nat.add_assoc,St.tidy,collect_box,s.own]
     exact⟨⟨by omega,by unfold maxLen; omega⟩,ws.length-(i+1),by omega,i+1,by omega,by omega,⟨by rw[if_neg ne1,oW_len],by omega⟩,by rw[if_neg ne1]⟩
  ·obtain rfl:i=ws.length:=by omega
   have ne:¬ oW ws ws.length=[]:=fun z=>by rw[z] at ol; simp at ol; omega
   have je:Lib.join (oW ws ws.length) [32]=Lib.join (ws.map txW) [32]:=by rw[oW_take ws _ (Nat.le_refl _),List.take_length]
   have gb:Heap.get (h.freeze++[some ⟨T.cT (oW ws ws.length),true⟩]) h.length=some ⟨T.cT (oW ws ws.length),true⟩:=by rw[hget_base0 (by simp)]; simp
   have j:=c72 (d:=d) (lim:=h.length) (n:=ws.length) (sep:=[32]) gb ol.symm (by omega) (by rw[je]; omega)
   rw[je] at j
   have a1:E.bin .add (tx (Lib.join (ws.map txW) [32])) (.string ⟨[10].toArray⟩)=some (tx (lnJ (ws.map txW))):=bin_sadd (by simp; omega)
   generalize lnJ (ws.map txW)=q2 at *
   generalize Lib.join (ws.map txW) [32]=q1 at *
   simp[T.lVT,T.lBT,ne,ol,r,j,a1]
end B.T.U
end Go.Abs
namespace Go.Abs
namespace B.T.U
set_option maxRecDepth 100000
set_option maxHeartbeats 0
theorem gI_eq {g:List Int} {i:Nat} (h:i<g.length):gI g i=g[i]:=by unfold gI; rw[List.getD_eq_getElem?_getD,List.getElem?_eq_getElem h]; rfl
theorem cIx {l:List Int} {k:Nat} (hk:k<l.length):(k:Int)<(l.length:Int)∧(cI l)[k]?=some (i64 (gI l k))∧(∀ hh,(cI l)[k]'hh=i64 (gI l k))∧k+1≤l.length∧k<l.length:=by
 have e:(cI l)[k]?=some (i64 (gI l k)):=by
  unfold cI
  rw[List.getElem?_map,List.getElem?_eq_getElem hk,gI_eq hk]; rfl
 refine⟨by omega,e,fun hh=>?_,by omega,hk⟩
 rw[List.getElem?_eq_getElem hh] at e
 exact Option.some.inj e
def rowW (w:List UInt8) (g:List Int):Nat→List UInt8
 | 0=>w
 | i+1=>rowW w g i++[32]++dec (gI g i)
theorem rowW_len {w:List UInt8} {g:List Int} (hR:∀ n∈g,R64 n):∀ i,i≤g.length→(rowW w g i).length≤w.length+22 * i
 | 0,_=>by simp[rowW]
 | i+1,h=>by
  have a:=rowW_len (w:=w) hR i (by omega)
  have b:=dec_len (n:=gI g i) (by rw[gI_eq (by omega)]; exact hR _ (List.getElem_mem _))
  rw[rowW]
  simp only[List.length_append,List.length_singleton]
  omega
theorem rowW_tail {w:List UInt8} {g:List Int}:∀ i,i≤g.length→rowW w g i=w++Lib.joinTail [32] ((g.take i).map dec)
 | 0,_=>by simp[rowW,Lib.joinTail]
 | i+1,h=>by
  rw[rowW,rowW_tail i (by omega),List.take_succ_eq_append_getElem (by omega),List.map_append,gI_eq (by omega)]
  simp[Lib.joinTail]
theorem c48 {d lim:Nat} {h:Heap} {v:Value} {w:List UInt8} {g:List Int} (s:SlI' h v g) (hl:g.length≤100) (hw:w.length≤100000) (hR:∀ n∈g,R64 n):E.call (d+3) lim 48 [tx w,v] h=some (tx (rowW w g g.length),h):=by
 have r:=s.rules2
 refine call1 fn48 rfl (by simp[ef48]) ?_
 simp[ef48]
 refine wpC_loop (fun y st=>∃ i:Nat,y=g.length-i∧i≤g.length∧st=⟨[(0,tx (rowW w g i)),(1,v),(5,i64 (i:Int))],h.freeze⟩) g.length (by show g.length<2 ^ 64; omega) ?_ ?_
 ·simp[St.tidy,r]
  exact⟨0,by omega,by omega,rfl,rfl⟩
 ·rintro y hy _ ⟨i,rfl,hi,rfl⟩
  by_cases hlt:i<g.length
  ·have w1':IntKind.wrap .i64 ((i:Int)+1)=((i+1:Nat):Int):=by rw[wrap_eq (by omega) (by omega)]; rfl
   obtain⟨p1,p2,p3,p4,p5⟩:=cIx hlt
   have hr:R64 (gI g i):=by rw[gI_eq hlt]; exact hR _ (List.getElem_mem _)
   have k60:=fun H':Heap=>T.c60 (d:=d) (lim:=h.length) (h:=H') hr
   have rl:=rowW_len (w:=w) hR i (by omega)
   have dl:=dec_len hr
   have a1:E.bin .add (tx (rowW w g i)) (.string ⟨[32].toArray⟩)=some (tx (rowW w g i++[32])):=bin_sadd (by simp; omega)
   have a2:E.bin .add (tx (rowW w g i++[32])) (tx (dec (gI g i)))=some (tx (rowW w g (i+1))):=bin_sadd (by simp; omega)
   generalize hq3:rowW w g (i+1)=q3 at *
   generalize hq2:rowW w g i++[32]=q2 at *
   generalize hq1:rowW w g i=q1 at *
   generalize dec (gI g i)=q0 at *
   have z32:E.bin .add (tx q1) (.string ⟨#[32]⟩)=some (tx q2):=a1
   rcases Nat.eq_zero_or_pos i with z | z
   ·subst z
    have s0:slAt 1 v (i64 0)=some (.pointer (some ⟨slB v,slO v,none⟩)):=by have:=s.at (k:=.i64) (i:=0) (by omega) (by omega); simpa using this
    have cc0:h.cell (slB v) (slO v)=some (i64 (gI g 0)):=by
     have:=s.cell 0 (by omega)
     rw[Nat.add_zero] at this
     rw[this,p2]
    simp[hlt,s0,cc0,k60,r,z32,a2,w1',St.tidy]
    refine⟨?_,fun e=>(by subst e; simp at hlt)⟩
    first | exact⟨g.length-1,by omega,1,by omega,by omega,hq3.symm,by omega⟩ | exact fun _=>⟨g.length-1,by omega,1,by omega,by omega,hq3.symm,by omega⟩
   ·simp[hlt,Nat.not_le.2 hlt,p1,p2,p3,p4,k60,r,z32,a2,w1',St.tidy]
    exact⟨g.length-(i+1),by omega,i+1,by omega,by omega,hq3.symm,by omega⟩
  ·obtain rfl:i=g.length:=by omega
   simp[r]
end B.T.U
end Go.Abs
namespace Go.Abs
namespace B.T.U
set_option maxRecDepth 100000
set_option maxHeartbeats 0
def nb (s:ByteArray):List UInt8:=s.toList
theorem nb_of (s:ByteArray):Value.string s=tx (nb s):=congrArg _ (tx_of s)
def wrpL (s:ByteArray):List UInt8:=if nb s=[] then [45] else nb s
def numW (w:Wi):List Int:=[w.mass,w.str,w.stiff]
def numU (u:Un):List Int:=[u.two,u.three,u.five,u.den,u.count,u.sd.len,u.sd.core,u.sd.over]
structure OkW (w:Wi):Prop where
 r:∀ n∈numW w,R64 n
 n:(nb w.name).length≤12
structure OkU (u:Un):Prop where
 r:∀ n∈numU u,R64 n
 w:(nb u.sd.wire).length≤12
 v:(nb u.sd.wrap).length≤12
def lF (f:Int):List UInt8:=rowW wFork [f] 1++[10]
def lW (w:Wi):List UInt8:=rowW (wWire++[32]++nb w.name) (numW w) 3++[10]
def lU (u:Un):List UInt8:=rowW wUni (numU u) 8++[32]++nb u.sd.wire++[32]++wrpL u.sd.wrap++[10]
def tW (f:Int) (wl:List Wi):Nat→List UInt8
 | 0=>lF f
 | i+1=>tW f wl i++lW (atW wl i)
def tU (f:Int) (wl:List Wi) (l:List Un):Nat→List UInt8
 | 0=>tW f wl wl.length
 | i+1=>tU f wl l i++lU (atN l i)
theorem lF_len {f:Int} (h:R64 f):(lF f).length≤27:=by
 have:=rowW_len (w:=wFork) (g:=[f]) (by intro n hn; simp at hn; subst hn; exact h) 1 (by simp)
 unfold lF
 simp only[List.length_append,List.length_singleton]
 have e:wFork.length=4:=rfl
 omega
theorem lW_len {w:Wi} (h:OkW w):(lW w).length≤84:=by
 have:=rowW_len (w:=wWire++[32]++nb w.name) (g:=numW w) h.r 3 (by simp[numW])
 have n:=h.n
 unfold lW
 simp only[List.length_append,List.length_singleton] at this ⊢
 have e:wWire.length=4:=rfl
 omega
theorem wrpL_len {s:ByteArray} (h:(nb s).length≤12):(wrpL s).length≤12:=by
 unfold wrpL
 split
 ·simp
 ·exact h
theorem lU_len {u:Un} (h:OkU u):(lU u).length≤209:=by
 have:=rowW_len (w:=wUni) (g:=numU u) h.r 8 (by simp[numU])
 have a:=h.w
 have b:=wrpL_len h.v
 unfold lU
 simp only[List.length_append,List.length_singleton] at this ⊢
 have e:wUni.length=6:=rfl
 omega
theorem tW_len {f:Int} {wl:List Wi} (hf:R64 f) (h:∀ i,i<wl.length→OkW (atW wl i)):∀ i,i≤wl.length→(tW f wl i).length≤27+84 * i
 | 0,_=>by have:=lF_len hf; rw[tW]; omega
 | i+1,k=>by
  have a:=tW_len hf h i (by omega)
  have b:=lW_len (h i (by omega))
  rw[tW,List.length_append]; omega
theorem tU_len {f:Int} {wl:List Wi} {l:List Un} (hf:R64 f) (h:∀ i,i<wl.length→OkW (atW wl i)) (h2:∀ i,i<l.length→OkU (atN l i)):∀ i,i≤l.length→(tU f wl l i).length≤27+84 * wl.length+209 * i
 | 0,_=>by have:=tW_len hf h wl.length (Nat.le_refl _); rw[tU]; omega
 | i+1,k=>by
  have a:=tU_len hf h h2 i (by omega)
  have b:=lU_len (h2 i (by omega))
  rw[tU,List.length_append]; omega
def wsF (f:Int):List (List UInt8):=[wFork,dec f]
def wsW (w:Wi):List (List UInt8):=[wWire,nb w.name,dec w.mass,dec w.str,dec w.stiff]
def wsU (u:Un):List (List UInt8):=[wUni,dec u.two,dec u.three,dec u.five,dec u.den,dec u.count,dec u.sd.len,dec u.sd.core,dec u.sd.over,nb u.sd.wire,wrpL u.sd.wrap]
theorem lF_join (f:Int):lF f=lnJ (wsF f):=by
 unfold lF lnJ wsF
 rw[rowW_tail 1 (by simp),Lib.join_cons]; rfl
theorem lW_join (w:Wi):lW w=lnJ (wsW w):=by
 unfold lW lnJ wsW
 rw[rowW_tail 3 (by simp[numW]),Lib.join_cons]
 simp[Lib.joinTail,numW]
theorem lU_join (u:Un):lU u=lnJ (wsU u):=by
 unfold lU lnJ wsU
 rw[rowW_tail 8 (by simp[numU]),Lib.join_cons]
 simp[Lib.joinTail,numU]
end B.T.U
end Go.Abs
namespace Go.Abs
namespace B.T.U
set_option maxRecDepth 100000
set_option maxHeartbeats 0
theorem c11 {d lim:Nat} {h:Heap} {v w:Value} {wl:List Wi} {l:List Un} {f:Int} (s:SlW h v wl) (q:SlN h w l) (hf:R64 f) (hwl:wl.length≤100) (hl:l.length≤100) (hW:∀ i,i<wl.length→OkW (atW wl i)) (hU:∀ i,i<l.length→OkU (atN l i)) :
  E.call (d+4) lim 11 [stV f v w] h=some (tx (tU f wl l l.length),h):=by
 have rs:=s.rules2
 have r:=q.rules2
 have so:=s.own
 have qo:=q.own
 have k48:∀ (H:Heap) (k:Nat) (w0:List UInt8) (g:List Int) (cs:List Value),H.get k=some ⟨cs,true⟩→cs=cI g→g.length≤100→w0.length≤100000→(∀ n∈g,R64 n)→E.call (d+3) h.length 48 [tx w0,.slice (some ⟨k,0,none⟩) g.length 1] H=some (tx (rowW w0 g g.length),H):=fun H k w0 g cs hg hc h1 h2 h3=>by
  subst hc
  exact c48 (d:=d) (SlI'_own hg rfl) h1 h2 h3
 refine call1 fn11 rfl (by simp[ef11]) ?_
 have kF:=fun (H:Heap) (k:Nat) (hg:H.get k=some ⟨[i64 f],true⟩)=>k48 H k wFork [f] _ hg rfl (by simp) (by simp[wFork]) (by intro n hn; simp at hn; subst hn; exact hf)
 have aF:E.bin .add (tx (rowW wFork [f] 1)) (.string ⟨#[10]⟩)=some (tx (lF f)):=bin_sadd (b:=[10]) (by have:=lF_len hf; unfold lF at this; simp at this ⊢; omega)
 have f0:tx wFork=.string ⟨#[102,111,114,107]⟩:=rfl
 rw[f0] at kF
 generalize hq0:rowW wFork [f] 1=q0 at *
 have e0:tW f wl 0=lF f:=rfl
 generalize lF f=q1 at *
 simp only[List.length_cons,List.length_nil,Nat.zero_add,hq0] at kF
 simp[-collect_own1,ef11,kF,aF,fillL]
 refine wpC_loop (fun y st=>∃ i:Nat,y=wl.length-i∧i≤wl.length∧st=⟨[(1,pt h.length),(3,tx (tW f wl i)),(4,i64 (i:Int))],h.freeze++[some ⟨[i64 f,v,w],true⟩]⟩) wl.length (by show wl.length<2 ^ 64; omega) ?_ ?_
 ·simp[-collect_own1,collect_box,so,qo,St.tidy,rs,r]
  exact⟨0,by omega,by omega,e0.symm,rfl⟩
 ·rintro y hy _ ⟨i,rfl,hi,rfl⟩
  by_cases hlt:i<wl.length
  ·have w1':IntKind.wrap .i64 ((i:Int)+1)=((i+1:Nat):Int):=by rw[wrap_eq (by omega) (by omega)]; rfl
   have p:=cW_part hlt
   have k4:i * 4+4≤wl.length * 4:=by omega
   have hlti:(i:Int)<wl.length:=by omega
   have ok:=hW i hlt
   have tl:=tW_len hf hW i (by omega)
   have on:tW f wl (i+1)=tW f wl i++lW (atW wl i):=rfl
   have ll:=lW_len ok
   have nl:=ok.n
   have kr:=ok.r
   unfold lW at on ll
   have rl:=rowW_len (w:=wWire++[32]++nb (atW wl i).name) kr 3 (Nat.le_refl _)
   rcases hx:atW wl i with ⟨nm,n1,n2,n3⟩
   rw[hx] at p on ll nl kr rl
   simp only[encW,numW] at p on ll nl kr rl
   rw[nb_of nm] at p
   have el:(wWire++[32]++nb nm).length≤105:=by simp[wWire]; omega
   have a1:E.bin .add (.string ⟨#[119,105,114,101,32]⟩) (tx (nb nm))=some (tx (wWire++[32]++nb nm)):=bin_sadd (a:=[119,105,114,101,32]) (by simp; omega)
   have kW:=fun (H:Heap) (k:Nat) (hg:H.get k=some ⟨[i64 n1,i64 n2,i64 n3],true⟩)=>k48 H k (wWire++[32]++nb nm) [n1,n2,n3] _ hg rfl (by simp) (by omega) kr
   generalize wWire++[32]++nb nm=z1 at *
   have a2:E.bin .add (tx (tW f wl i)) (tx (rowW z1 [n1,n2,n3] 3))=some (tx (tW f wl i++rowW z1 [n1,n2,n3] 3)):=bin_sadd (by omega)
   have a3:E.bin .add (tx (tW f wl i++rowW z1 [n1,n2,n3] 3)) (.string ⟨#[10]⟩)=some (tx (tW f wl (i+1))):=by
    rw[on,← List.append_assoc]
    exact bin_sadd (b:=[10]) (by simp; omega)
   simp only[List.length_cons,List.length_nil,Nat.zero_add,Nat.reduceAdd] at kW
   generalize tW f wl i++rowW z1 [n1,n2,n3] 3=z3 at *
   generalize rowW z1 [n1,n2,n3] 3=z2 at *
   generalize hq4:tW f wl (i+1)=z4 at *
   generalize tW f wl i=z0 at *
   generalize nb nm=z5 at *
   simp[-collect_own1,collect_box,so,qo,hlt,hlti,Nat.not_le.2 hlt,p,k4,w1',rs,r,St.tidy,fillL,a1,a2,a3,kW]
   exact⟨wl.length-(i+1),by omega,i+1,by omega,by omega,hq4.symm,by omega⟩
  ·obtain rfl:i=wl.length:=by omega
   simp[-collect_own1,rs,r]
   have kU:∀ (H:Heap) (k:Nat) (g:List Int) (cs:List Value),H.get k=some ⟨cs,true⟩→cs=cI g→g.length≤100→(∀ n∈g,R64 n)→E.call (d+3) h.length 48 [tx wUni,.slice (some ⟨k,0,none⟩) g.length 1] H.freeze=some (tx (rowW wUni g g.length),H.freeze):=fun H k g cs hg hc h1 h3=>by
    subst hc
    exact c48 (d:=d) (SlI'_own (hget_freeze hg) rfl) h1 (by decide) h3
   refine wpC_loop (fun y st=>∃ i:Nat,y=l.length-i∧i≤l.length∧st=⟨[(1,pt h.length),(3,tx (tU f wl l i)),(6,i64 (i:Int))],h.freeze++[some ⟨[i64 f,v,w],true⟩]⟩) l.length (by show l.length<2 ^ 64; omega) ?_ ?_
   ·simp[-collect_own1,collect_box,so,qo,St.tidy,rs,r]
    exact⟨0,by omega,by omega,rfl,rfl⟩
   ·rintro y hy _ ⟨i,rfl,hi,rfl⟩
    by_cases hlt:i<l.length
    ·have w1':IntKind.wrap .i64 ((i:Int)+1)=((i+1:Nat):Int):=by rw[wrap_eq (by omega) (by omega)]; rfl
     have p:=cN_part hlt
     have k10:i * 10+10≤l.length * 10:=by omega
     have hlti:(i:Int)<l.length:=by omega
     have ok:=hU i hlt
     have tl:=tU_len hf hW hU i (by omega)
     have on:tU f wl l (i+1)=tU f wl l i++lU (atN l i):=rfl
     have ll:=lU_len ok
     have vl:=wrpL_len ok.v
     have wl2:=ok.w
     have kr:=ok.r
     unfold lU at on ll
     have rl:=rowW_len (w:=wUni) kr 8 (Nat.le_refl _)
     rcases hx:atN l i with ⟨n1,n2,n3,n4,n5,n6,n7,n8,s1,s2⟩
     rw[hx] at p on ll kr rl vl wl2
     simp only[encN,numU] at p on ll kr rl vl wl2
     rw[nb_of s1,nb_of s2] at p
     have kV:=fun (H:Heap) (k:Nat) (hg:H.get k=some ⟨[i64 n1,i64 n2,i64 n3,i64 n4,i64 n5,i64 n6,i64 n7,i64 n8],true⟩)=>kU H k [n1,n2,n3,n4,n5,n6,n7,n8] _ hg rfl (by simp) kr
     have f1:tx wUni=.string ⟨#[117,110,105,115,111,110]⟩:=rfl
     rw[f1] at kV
     simp only[List.length_cons,List.length_nil,Nat.zero_add,Nat.reduceAdd] at kV rl
     have ul:wUni.length=6:=rfl
     generalize rowW wUni [n1,n2,n3,n4,n5,n6,n7,n8] 8=z1 at *
     generalize tU f wl l i=z0 at *
     have A:∀ x y:List UInt8,x.length≤1000000→y.length≤1000000→E.bin .add (tx x) (tx y)=some (tx (x++y)):=fun x y hx hy=>bin_sadd (by omega)
     have a1:=A z0 z1 (by omega) (by omega)
     have a2:E.bin .add (tx (z0++z1)) (.string ⟨#[32]⟩)=some (tx (z0++z1++[32])):=A (z0++z1) [32] (by simp; omega) (by simp)
     have a3:=A (z0++z1++[32]) (nb s1) (by simp; omega) (by omega)
     have a4:E.bin .add (tx (z0++z1++[32]++nb s1)) (.string ⟨#[32]⟩)=some (tx (z0++z1++[32]++nb s1++[32])):=A (z0++z1++[32]++nb s1) [32] (by simp; omega) (by simp)
     have a5:=A (z0++z1++[32]++nb s1++[32]) (wrpL s2) (by simp; omega) (by omega)
     have a6:E.bin .add (tx (z0++z1++[32]++nb s1++[32]++wrpL s2)) (.string ⟨#[10]⟩)=some (tx (tU f wl l (i+1))):=by
      rw[on]
      have:=A (z0++z1++[32]++nb s1++[32]++wrpL s2) [10] (by simp; omega) (by simp)
      simp only[List.append_assoc] at this ⊢
      exact this
     generalize hq4:tU f wl l (i+1)=z9 at *
     generalize z0++z1++[32]++nb s1++[32]++wrpL s2=z6 at *
     generalize z0++z1++[32]++nb s1++[32]=z5 at *
     generalize z0++z1++[32]++nb s1=z4 at *
     generalize z0++z1++[32]=z3 at *
     generalize z0++z1=z2 at *
     generalize nb s1=y1 at *
     by_cases e2:nb s2=[]
     ·have ev:wrpL s2=[45]:=by unfold wrpL; rw[if_pos e2]
      rw[ev] at a5
      have a5:E.bin .add (tx z5) (.string ⟨#[45]⟩)=some (tx z6):=a5
      simp[-collect_own1,collect_box,so,qo,hlt,hlti,Nat.not_le.2 hlt,p,k10,w1',rs,r,St.tidy,fillL,zeros,a1,a2,a3,a4,a5,a6,kV,e2]
      exact⟨l.length-(i+1),by omega,i+1,by omega,by omega,hq4.symm,by omega⟩
     ·have ev:wrpL s2=nb s2:=by unfold wrpL; rw[if_neg e2]
      rw[ev] at a5
      generalize nb s2=y2 at *
      simp[-collect_own1,collect_box,so,qo,hlt,hlti,Nat.not_le.2 hlt,p,k10,w1',rs,r,St.tidy,fillL,zeros,a1,a2,a3,a4,a5,a6,kV,e2]
      exact⟨l.length-(i+1),by omega,i+1,by omega,by omega,hq4.symm,by omega⟩
    ·obtain rfl:i=l.length:=by omega
     simp[rs,r]
end B.T.U
end Go.Abs
namespace Go.Abs
namespace B.T.U
set_option maxRecDepth 100000
set_option maxHeartbeats 400000
theorem nb_tx (l:List UInt8):nb ⟨l.toArray⟩=l:=tx_toList l
theorem nb_len (s:ByteArray):(nb s).length=s.size:=by
 obtain⟨l,rfl⟩:∃ l:List UInt8,s=⟨l.toArray⟩:=⟨_,tx_of s⟩
 rw[nb_tx,tx_size]
theorem nb_nil:nb ⟨#[]⟩=[]:=nb_tx []
theorem nb_nil_iff {s:ByteArray}:nb s=[]↔s=⟨#[]⟩:=by
 obtain⟨l,rfl⟩:∃ l:List UInt8,s=⟨l.toArray⟩:=⟨_,tx_of s⟩
 rw[nb_tx]
 constructor
 ·rintro rfl; rfl
 ·intro h
  have:=congrArg nb h
  rw[nb_tx,nb_nil] at this
  exact this
theorem wErr_name {done:List Wi} {w:Wi} (h:wErr done w=0):nameB w.name=true:=by
 unfold wErr at h
 split at h
 ·cases h
 ·rename_i q
  simpa using q
theorem chkW_name {l:List Wi} (h:chkW l=0) {i:Nat} (hi:i<l.length):nameB (atW l i).name=true:=by
 unfold chkW at h
 split at h
 ·cases h
 ·exact wErr_name (chkWL_all _ 0 rfl h i (Nat.zero_le _) hi)
theorem hasW_name {l:List Wi} {n:ByteArray} (h:chkW l=0) (k:hasW l n=true):nameB n=true:=by
 unfold hasW at k
 have k:=of_decide_eq_true k
 have:=idxW_name k
 rw[← this]
 exact chkW_name h k
theorem name_len {s:ByteArray} (h:nameB s=true):(nb s).length≤12:=by rw[nb_len]; exact (nameB_true.1 h).2.1
theorem chkW_few {l:List Wi} (h:chkW l=0):l.length≤20:=by
 unfold chkW at h
 split at h
 ·cases h
 ·omega
theorem St_okW {t:Int} {wl:List Wi} {l:List Un} (O:StOk t wl l) {i:Nat} (hi:i<wl.length):OkW (atW wl i):=by
 obtain⟨a,b,c,d,e,f⟩:=chkW_ok O.w hi
 refine⟨fun n hn=>?_,by have:=name_len (chkW_name O.w hi); omega⟩
 simp only[numW,List.mem_cons,List.not_mem_nil,or_false] at hn
 rcases hn with rfl | rfl | rfl <;> unfold R64 <;> omega
theorem St_okU {t:Int} {wl:List Wi} {l:List Un} (O:StOk t wl l) {i:Nat} (hi:i<l.length):OkU (atN l i):=by
 have u:=O.u i hi
 have s:=u.sd
 have p:=u.p
 unfold isP at p
 obtain⟨r1,r2,r3,r4⟩:=isPitch_R p
 have c:=u.cnt
 have l1:=s.len
 have l2:=s.core
 have l3:=s.over
 refine⟨fun n hn=>?_,?_,?_⟩
 ·simp only[numU,List.mem_cons,List.not_mem_nil,or_false] at hn
  rcases hn with rfl | rfl | rfl | rfl | rfl | rfl | rfl | rfl
  all_goals (unfold R64; omega)
 ·have:=name_len (hasW_name O.w s.wir); omega
 ·by_cases z:(atN l i).sd.over=0
  ·rw[s.nowrp.1 z,nb_nil]; simp
  ·have:=name_len (hasW_name O.w (s.wrp z).2); omega
end B.T.U
end Go.Abs
namespace Go.Abs
namespace B.T.U
set_option maxRecDepth 100000
set_option maxHeartbeats 400000
theorem cut_tail {c:UInt8}:∀ (r:List (List UInt8)) (x:List UInt8),c ∉ x→(∀ w∈r,c ∉ w)→cutB c (x++Lib.joinTail [c] r)=x::r
 | [],x,hx,_=>by
  simp only[Lib.joinTail,List.map_nil,List.flatten_nil,List.append_nil]
  exact cutB_no hx
 | y::r,x,hx,h=>by
  have e:x++Lib.joinTail [c] (y::r)=x++c::(y++Lib.joinTail [c] r):=by simp[Lib.joinTail]
  rw[e,cutB_at hx,cut_tail r y (h y (by simp)) fun w hw=>h w (by simp[hw])]
theorem cut_join {c:UInt8} {ws:List (List UInt8)} (h0:ws≠[]) (h:∀ w∈ws,c ∉ w):cutB c (Lib.join ws [c])=ws:=by
 match ws,h0 with
 | x::r,_ =>
  rw[Lib.join_cons]
  exact cut_tail r x (h x (by simp)) fun w hw=>h w (by simp[hw])
theorem join_not {c:UInt8} {ws:List (List UInt8)} (hc:c≠32) (h0:ws≠[]) (h:∀ w∈ws,c ∉ w):c ∉ Lib.join ws [32]:=by
 match ws,h0 with
 | x::r,_ =>
  rw[Lib.join_cons]
  unfold Lib.joinTail
  simp only[List.mem_append,List.mem_flatten,List.mem_map,not_or,not_exists,not_and]
  refine⟨h x (by simp),?_⟩
  rintro y ⟨z,hz,rfl⟩
  simp only[List.mem_append,List.mem_singleton,not_or]
  exact⟨hc,h z (by simp[hz])⟩
theorem nm_not {s:ByteArray} {c:UInt8} (h:nameB s=true) (hc:badN (c.toNat:Int)=true):c ∉ nb s:=by
 obtain⟨h1,h2,_,h4⟩:=nameB_true.1 h
 intro q
 obtain⟨i,hi,e⟩:=List.getElem_of_mem q
 have hi':i<s.size:=by rw[← nb_len]; exact hi
 have:=h4 i hi'
 unfold bN at this
 have e2:s.toList=nb s:=rfl
 rw[e2,List.getElem?_eq_getElem hi,Option.getD_some,e,hc] at this
 cases this
theorem nm_first {s:ByteArray} (h:nameB s=true):nb s≠[45]:=by
 obtain⟨h1,h2,h3,_⟩:=nameB_true.1 h
 intro q
 unfold bN at h3
 have e2:s.toList=nb s:=rfl
 rw[e2,q] at h3
 exact absurd h3 (by decide)
theorem dec_no {n:Int} {c:UInt8} (h:isDg c=false) (h2:c≠45):c ∉ dec n:=dec_not h h2
structure GdW (w:Wi):Prop where
 n:nameB w.name=true
 r:∀ n∈numW w,n.natAbs<10 ^ 9
structure GdU (u:Un):Prop where
 w:nameB u.sd.wire=true
 v:u.sd.wrap=⟨#[]⟩∨nameB u.sd.wrap=true
 r:∀ n∈numU u,n.natAbs<10 ^ 9
theorem wrp_not {s:ByteArray} {c:UInt8} (h:s=⟨#[]⟩∨nameB s=true) (hc:badN (c.toNat:Int)=true) (h45:c≠45):c ∉ wrpL s:=by
 unfold wrpL
 split
 ·simpa using h45
 ·rename_i q
  rcases h with rfl | h
  ·exact absurd nb_nil q
  ·exact nm_not h hc
theorem wsF_not {f:Int} {c:UInt8} (h:isDg c=false) (h2:c≠45) (h3:c ∉ wFork):∀ w∈wsF f,c ∉ w:=by
 intro w hw
 simp only[wsF,List.mem_cons,List.not_mem_nil,or_false] at hw
 rcases hw with rfl | rfl
 ·exact h3
 ·exact dec_no h h2
theorem wsW_not {w:Wi} (g:GdW w) {c:UInt8} (h:isDg c=false) (h2:c≠45) (h3:c ∉ wWire) (hc:badN (c.toNat:Int)=true):∀ x∈wsW w,c ∉ x:=by
 intro x hx
 simp only[wsW,List.mem_cons,List.not_mem_nil,or_false] at hx
 rcases hx with rfl | rfl | rfl | rfl | rfl
 ·exact h3
 ·exact nm_not g.n hc
 all_goals exact dec_no h h2
theorem wsU_not {u:Un} (g:GdU u) {c:UInt8} (h:isDg c=false) (h2:c≠45) (h3:c ∉ wUni) (hc:badN (c.toNat:Int)=true):∀ x∈wsU u,c ∉ x:=by
 intro x hx
 simp only[wsU,List.mem_cons,List.not_mem_nil,or_false] at hx
 rcases hx with rfl | rfl | rfl | rfl | rfl | rfl | rfl | rfl | rfl | rfl | rfl
 ·exact h3
 all_goals first | exact dec_no h h2 | exact nm_not g.w hc | exact wrp_not g.v hc h2
theorem whl_dec {n:Int} (h:n.natAbs<10 ^ 9):whl 9 (dec n)=(n,true):=(whl_is (by decide) (by decide)).2 ⟨rfl,h⟩
theorem nmA_dec (l:List Int) (h:∀ n∈l,n.natAbs<10 ^ 9):nmA (whl 9) (l.map dec)=(l,true):=by
 unfold nmA nmW
 have a:(l.map dec).all (fun w=>(whl 9 w).2)=true:=by
  rw[List.all_eq_true]
  intro w hw
  obtain⟨n,hn,rfl⟩:=List.mem_map.1 hw
  rw[whl_dec (h n hn)]
 rw[if_pos a,decide_eq_true rfl,List.map_map]
 congr 1
 conv=>rhs; rw[← List.map_id l]
 apply List.map_congr_left
 intro n hn
 show (whl 9 (dec n)).1=n
 rw[whl_dec (h n hn)]
theorem stp_F {f:Int} (h:f.natAbs<10 ^ 9):stp (whl 9) z3 (wsF f) 0=some (f,[],[]):=by
 unfold stp
 have e:wdA (wsF f) 1=dec f:=rfl
 rw[if_pos rfl,e,whl_dec h,if_pos ⟨rfl,rfl,rfl⟩]; rfl
theorem stp_W {f:Int} {wl:List Wi} {w:Wi} {k:Nat} (g:GdW w) (hk:0<k):stp (whl 9) (f,wl,[]) (wsW w) k=some (f,wl++[w],[]):=by
 unfold stp
 have e:(wsW w).drop 2=(numW w).map dec:=rfl
 rw[if_neg (by omega),e,nmA_dec _ g.r,if_pos ⟨rfl,rfl,rfl⟩,if_pos rfl]
 have:mkW (wsW w) (numW w)=w:=by
  show (⟨bt (nb w.name),_,_,_⟩:Wi)=w
  rw[show bt (nb w.name)=w.name from (tx_of w.name).symm]; rfl
 simp only[this]
theorem stp_U {f:Int} {wl:List Wi} {l:List Un} {u:Un} {k:Nat} (g:GdU u) (hk:0<k):stp (whl 9) (f,wl,l) (wsU u) k=some (f,wl,l++[u]):=by
 unfold stp
 have e:((wsU u).drop 1).take 8=(numU u).map dec:=rfl
 rw[if_neg (by omega),e,nmA_dec _ g.r,if_neg (fun q=>absurd q.2.1 (show ¬ (11:Nat)=5 by decide)),if_pos ⟨rfl,rfl⟩,if_pos rfl]
 have:mkU (wsU u) (numU u)=u:=by
  have ev:bt (if wrpL u.sd.wrap=[45] then [] else wrpL u.sd.wrap)=u.sd.wrap:=by
   by_cases z:nb u.sd.wrap=[]
   ·have z2:=nb_nil_iff.1 z
    have:wrpL u.sd.wrap=[45]:=by unfold wrpL; rw[if_pos z]
    rw[this,if_pos rfl,z2]
   ·have:wrpL u.sd.wrap=nb u.sd.wrap:=by unfold wrpL; rw[if_neg z]
    rcases g.v with q | q
    ·exact absurd (nb_nil_iff.2 q) z
    ·rw[this,if_neg (nm_first q)]; exact (tx_of _).symm
  show (⟨_,_,_,_,_,⟨_,_,_,bt (nb u.sd.wire),bt (if wrpL u.sd.wrap=[45] then [] else wrpL u.sd.wrap)⟩⟩:Un)=u
  rw[ev,show bt (nb u.sd.wire)=u.sd.wire from (tx_of u.sd.wire).symm]; rfl
 simp only[this]
def jn (ws:List (List UInt8)):List UInt8:=Lib.join ws [32]
theorem lnJ_line (ws:List (List UInt8)):lnJ ws=jn ws++[10]:=rfl
theorem linesL_snoc (a:List (List UInt8)) (w:List UInt8):linesL (a++[w])=linesL a++(w++[10]):=by simp[linesL]
theorem tW_lines (f:Int) (wl:List Wi):∀ i,i≤wl.length→tW f wl i=linesL (jn (wsF f)::(wl.take i).map fun w=>jn (wsW w))
 | 0,_=>by
  rw[tW,lF_join,lnJ_line]
  simp[linesL]
 | i+1,h=>by
  have e:atW wl i=wl[i]'(by omega):=(atW_get (by omega)).symm
  rw[tW,tW_lines f wl i (by omega),List.take_succ_eq_append_getElem (by omega),lW_join,lnJ_line,e,List.map_append,← List.cons_append]
  exact (linesL_snoc _ _).symm
theorem tU_lines (f:Int) (wl:List Wi) (l:List Un):∀ i,i≤l.length→tU f wl l i=linesL (jn (wsF f)::((wl.map fun w=>jn (wsW w))++(l.take i).map fun u=>jn (wsU u)))
 | 0,_=>by
  rw[tU,tW_lines f wl _ (Nat.le_refl _),List.take_length]
  simp
 | i+1,h=>by
  have e:atN l i=l[i]'(by omega):=(atN_get (by omega)).symm
  rw[tU,tU_lines f wl l i (by omega),List.take_succ_eq_append_getElem (by omega),lU_join,lnJ_line,e,List.map_append]
  exact (linesL_snoc _ _).symm.trans (congrArg linesL (by simp only[List.cons_append,List.append_assoc,List.map_cons,List.map_nil]))
theorem rd_us {f:Int} {wl:List Wi}:∀ (us:List Un) (acc:List Un) (k:Nat),0<k→(∀ u∈us,GdU u)→rdS (whl 9) ((us.map fun u=>jn (wsU u))++[[]]) (f,wl,acc) k=((f,wl,acc++us),0,0)
 | [],acc,k,hk,_=>by
  simp[rdS,hk]
 | u::r,acc,k,hk,h=>by
  have g:=h u (by simp)
  rw[List.map_cons,List.cons_append,rdS_full (by simp)]
  rw[show cutB 32 (jn (wsU u))=wsU u from cut_join (by simp[wsU]) (wsU_not g (by decide) (by decide) (by decide) (by decide)),stp_U g hk]
  show rdS (whl 9) _ (f,wl,acc++[u]) (k+1)=_
  rw[rd_us r (acc++[u]) (k+1) (by omega) fun v hv=>h v (by simp[hv])]
  simp
theorem rd_ws {f:Int} {rest:List (List UInt8)} (hr:rest≠[]):∀ (ws:List Wi) (acc:List Wi) (k:Nat),0<k→(∀ w∈ws,GdW w)→rdS (whl 9) ((ws.map fun w=>jn (wsW w))++rest) (f,acc,[]) k=rdS (whl 9) rest (f,acc++ws,[]) (k+ws.length)
 | [],acc,k,hk,_=>by simp
 | w::r,acc,k,hk,h=>by
  have g:=h w (by simp)
  rw[List.map_cons,List.cons_append,rdS_full (by simp[hr])]
  rw[show cutB 32 (jn (wsW w))=wsW w from cut_join (by simp[wsW]) (wsW_not g (by decide) (by decide) (by decide) (by decide)),stp_W g hk]
  show rdS (whl 9) _ (f,acc++[w],[]) (k+1)=_
  rw[rd_ws hr r (acc++[w]) (k+1) (by omega) fun v hv=>h v (by simp[hv])]
  simp only[List.append_assoc,List.singleton_append,List.length_cons]
  congr 1; omega
theorem St_gdW {t:Int} {wl:List Wi} {l:List Un} (O:StOk t wl l) {w:Wi} (h:w∈wl):GdW w:=by
 obtain⟨i,hi,rfl⟩:=List.getElem_of_mem h
 rw[atW_get hi]
 obtain⟨a,b,c,d,e,f⟩:=chkW_ok O.w hi
 refine⟨chkW_name O.w hi,fun n hn=>?_⟩
 simp only[numW,List.mem_cons,List.not_mem_nil,or_false] at hn
 rcases hn with rfl | rfl | rfl <;> omega
theorem St_gdU {t:Int} {wl:List Wi} {l:List Un} (O:StOk t wl l) {u:Un} (h:u∈l):GdU u:=by
 obtain⟨i,hi,rfl⟩:=List.getElem_of_mem h
 rw[atN_get hi]
 have u:=O.u i hi
 have s:=u.sd
 have p:=u.p
 unfold isP at p
 obtain⟨r1,r2,r3,r4⟩:=isPitch_R p
 have c:=u.cnt
 have l1:=s.len
 have l2:=s.core
 have l3:=s.over
 refine⟨hasW_name O.w s.wir,?_,fun n hn=>?_⟩
 ·by_cases z:(atN l i).sd.over=0
  ·exact .inl (s.nowrp.1 z)
  ·exact .inr (hasW_name O.w (s.wrp z).2)
 ·simp only[numU,List.mem_cons,List.not_mem_nil,or_false] at hn
  rcases hn with rfl | rfl | rfl | rfl | rfl | rfl | rfl | rfl <;> omega
theorem prsS_back {f:Int} {wl:List Wi} {l:List Un} (h:(stE f wl l).2=0) (hlen:(tU f wl l l.length).length≤60000):prsS (whl 9) (tU f wl l l.length)=((f,wl,l),0,0):=by
 have O:=StOk.of h
 have hf:f.natAbs<10 ^ 9:=by
  have q:=O.fork
  unfold within at q
  simp at q
  omega
 have gW:∀ w∈wl,GdW w:=fun w hw=>St_gdW O hw
 have gU:∀ u∈l,GdU u:=fun u hu=>St_gdU O hu
 have cl:=tU_lines f wl l _ (Nat.le_refl _)
 rw[List.take_length] at cl
 have cut:cutB 10 (tU f wl l l.length)=(jn (wsF f)::((wl.map fun w=>jn (wsW w))++l.map fun u=>jn (wsU u)))++[[]]:=by
  rw[cl]
  apply cut_lines
  intro w hw
  simp only[List.mem_cons,List.mem_append,List.mem_map] at hw
  rcases hw with rfl | ⟨w,hw,rfl⟩ | ⟨u,hu,rfl⟩
  ·exact join_not (by decide) (by simp[wsF]) (wsF_not (by decide) (by decide) (by decide))
  ·exact join_not (by decide) (by simp[wsW]) (wsW_not (gW w hw) (by decide) (by decide) (by decide) (by decide))
  ·exact join_not (by decide) (by simp[wsU]) (wsU_not (gU u hu) (by decide) (by decide) (by decide) (by decide))
 have rd:rdS (whl 9) (cutB 10 (tU f wl l l.length)) z3 0=((f,wl,l),0,0):=by
  rw[cut,List.cons_append,rdS_full (by simp)]
  rw[show cutB 32 (jn (wsF f))=wsF f from cut_join (by simp[wsF]) (wsF_not (by decide) (by decide) (by decide)),stp_F hf]
  show rdS (whl 9) (((wl.map fun w=>jn (wsW w))++l.map fun u=>jn (wsU u))++[[]]) (f,[],[]) 1=_
  rw[List.append_assoc,rd_ws (by simp) wl [] 1 (by decide) gW,List.nil_append]
  rw[rd_us l [] _ (by omega) gU,List.nil_append]
 unfold prsS
 rw[if_neg (by omega),rd]
 show (if (0:Int)=0 then (if (stE f wl l).2=0 then ((f,wl,l),0,0) else _) else _)=_
 rw[if_pos rfl,if_pos h]
end B.T.U
end Go.Abs
