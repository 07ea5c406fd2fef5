--
import Derived.Test.YtllhkifkiabkbaaGreatDoorAbsBVA
set_option linter.unusedSimpArgs false
set_option linter.unusedVariables false
namespace Go.Abs
namespace B.T.U
set_option maxRecDepth 100000
set_option maxHeartbeats 0
theorem k85g {d lim n bx b:Nat} {BB:Int→Value→Value→Heap} (F:Fam BB n bx) {M:Heap} {W:List (List UInt8)} (hW:WdAt BB M b W) (hs:∀ i,(wdA W i).length<100000) {a c:Nat} (ha:a≤c) (hc:c≤W.length) (hl:W.length≤100000) (f:Int) (w u:Value) :
  E.call (d+5) lim 85 [.slice (some ⟨b,a,none⟩) (c-a) 1] (BB f w u++M)=some (.tuple #[lVI (n+M.length) (nmA (rdn 9) ((W.drop a).take (c-a))).1,.bool (nmA (rdn 9) ((W.drop a).take (c-a))).2],BB f w u++(M++lBI (nmA (rdn 9) ((W.drop a).take (c-a))).1)):=by
 have s:=hW.sl f w u ha hc
 have q:=c85 (d:=d) (lim:=lim) s (by simp; omega) (fun i=>by
  by_cases z:i<c-a
  ·have e:wdA ((List.drop a W).take (c-a)) i=wdA W (a+i):=by
    unfold wdA
    rw[List.getElem?_take,if_pos z,List.getElem?_drop]
   rw[e]; exact hs _
  ·have e:wdA ((List.drop a W).take (c-a)) i=[]:=by
    unfold wdA
    rw[List.getElem?_take,if_neg z]; rfl
   rw[e]; decide)
 rw[List.length_append,F.len,List.append_assoc] at q
 exact q
theorem c50w {d lim n bx b k cw cu:Nat} {BB:Int→Value→Value→Heap} (F:Fam BB n bx) (hlim:lim≤bx) {f:Int} {wv uv:Value} {wl:List Wi} {M:Heap} (g:St2 n M cw cu wv uv wl []) (hwl:wl.length≤100000) {M0:Heap} {s:List UInt8} (k49:∀ f w u,E.call (d+5) lim 49 [tx s,.int .u8 32] (BB f w u++M0)=some (.slice (some ⟨b,0,none⟩) 5 1,BB f w u++M)) {w0 w1 w2 w3 w4:List UInt8} (hW:WdAt BB M b [w0,w1,w2,w3,w4]) (h0:w0=wWire)
  (hs:∀ i,(wdA [w0,w1,w2,w3,w4] i).length<100000) (hk:0<k) (hk2:k<1000000) {n0 n1 n2:Int} (hx:nmA (rdn 9) [w2,w3,w4]=([n0,n1,n2],true)) :
  ∃ M' cw' wv',E.call (d+6) lim 50 [pt bx,tx s,i64 (k:Int)] (BB f wv uv++M0)=some (.bool true,BB f wv' uv++M')∧St2 n M' cw' cu wv' uv (wl++[⟨bt w1,n0,n1,n2⟩]) []:=by
 have Fl:=F.len
 have G:=F.gets
 have P:=F.puts
 have C:=F.cells
 have Cw:=hW.c
 have Cz:=hW.cz
 have k0:¬ k=0:=by omega
 have kb:((k:Int) == 0)=false:=by simp; omega
 have k1:(0:Int)<k:=by omega
 have k1b:¬ (k:Int)≤0:=by omega
 have k1n:0<k:=hk
 have k85:∀ f w u,E.call (d+5) lim 85 [.slice (some ⟨b,2,none⟩) 3 1] (BB f w u++M)=some (.tuple #[.slice (some ⟨n+M.length,0,none⟩) 3 1,.bool true],BB f w u++(M++[some ⟨[i64 n0,i64 n1,i64 n2],true⟩])):=fun f w u=>by
  have s:=hW.sl f w u (a:=2) (c:=5) (by omega) (by simp)
  have q:=c85 (d:=d) (lim:=lim) s (by simp) (fun i=>by
   have:=hs (2+i)
   have e:wdA ((List.drop 2 [w0,w1,w2,w3,w4]).take (5-2)) i=wdA [w0,w1,w2,w3,w4] (2+i):=by
    unfold wdA
    rw[Nat.add_comm]
    rfl
   rw[e]; exact this)
  rw[show (List.drop 2 [w0,w1,w2,w3,w4]).take (5-2)=[w2,w3,w4] from rfl,hx] at q
  simp only[lVI,lBI,if_neg (show ¬ [n0,n1,n2]=[] by simp),List.length_append,Fl,List.append_assoc] at q
  exact q
 obtain⟨v,h',e1,e2⟩:∃ v h',E.call (d+6) lim 50 [pt bx,tx s,i64 (k:Int)] (BB f wv uv++M0)=some (v,h')∧(v=.bool true∧∃ M' cw' wv',h'=BB f wv' uv++M'∧St2 n M' cw' cu wv' uv (wl++[⟨bt w1,n0,n1,n2⟩]) []):=by
  refine full_ex fn50 rfl (by simp[ef50]) ?_
  have uvn:slN uv=some 0:=g.u.slN
  have uvz:uv=.slice none 0 0:=by
   rcases g.u with z | z
   ·exact z.2
   ·exact absurd rfl z.1
  subst h0
  have gn:∀ f w u N,Heap.get (BB f w u++(M++(some ⟨[i64 n0,i64 n1,i64 n2],true⟩::N))) (n+M.length)=some ⟨[i64 n0,i64 n1,i64 n2],true⟩:=fun f w u N=>by
   rw[hget_base (Fl f w u).symm,lget_right0 rfl]; rfl
  have cn:∀ f w u N o,Heap.cell (BB f w u++(M++(some ⟨[i64 n0,i64 n1,i64 n2],true⟩::N))) (n+M.length) o=[i64 n0,i64 n1,i64 n2][o]?:=fun f w u N o=>by
   unfold Heap.cell; rw[gn]; rfl
  have tr:=g.w.trim (f:=encW) encW_len (H:=BB f wv uv) (Fl f wv uv)
  have ap:=g.w.ap (bytes:=40) encW_len (by decide) (fun _=>rfl) (Fl f wv uv) [some ⟨[i64 n0,i64 n1,i64 n2],true⟩] ⟨bt w1,n0,n1,n2⟩ (by omega) (by omega)
  simp only[encW,List.cons_append,List.nil_append,List.length_cons,List.length_nil,Nat.zero_add] at ap
  have lb:lim≤bx:=hlim
  by_cases e:wl=[]
  ·simp only[if_pos e] at ap
   simp[ef50,E.bound,k49,k1b,k1,k1n,hk,k0,kb,Cz,Cw,C,uvn,k85,cn,G,P,Fl,tr,T.cT,wWire,ap,lb]
   exact⟨_,M.length+2,_,rfl,.inr ⟨by simp,by rw[e]; rfl,by rw[lget_right rfl,e]; rfl⟩,.inl ⟨rfl,uvz⟩,fun _ h=>absurd rfl h⟩
  ·simp only[if_neg e] at ap
   have lc:=g.w.lt e
   have PM:∀ f w u N x,Heap.put (BB f w u++(M++N)) (n+cw) x=BB f w u++(M.set cw x++N):=fun f w u N x=>by rw[hput_base (Fl f w u).symm,lset_left lc]
   simp[ef50,E.bound,k49,k1b,k1,k1n,hk,k0,kb,Cz,Cw,C,uvn,k85,cn,G,P,Fl,tr,T.cT,wWire,ap,lb,PM]
   exact⟨_,M.length+2,_,rfl,.inr ⟨by simp,by simp,by rw[show M.length+2=(M.set cw none).length+2 by simp,lget_right rfl]; rfl⟩,.inl ⟨rfl,uvz⟩,fun _ h=>absurd rfl h⟩
 obtain⟨rfl,M',cw',wv',rfl,g1⟩:=e2
 exact⟨M',cw',wv',e1,g1⟩
theorem c50u {d lim n bx b k cw cu:Nat} {BB:Int→Value→Value→Heap} (F:Fam BB n bx) (hlim:lim≤bx) {f:Int} {wv uv:Value} {wl:List Wi} {l:List Un} {M:Heap} (g:St2 n M cw cu wv uv wl l) (hul:l.length≤100000) {M0:Heap} {s:List UInt8} (k49:∀ f w u,E.call (d+5) lim 49 [tx s,.int .u8 32] (BB f w u++M0)=some (.slice (some ⟨b,0,none⟩) 11 1,BB f w u++M)) {w0 w1 w2 w3 w4 w5 w6 w7 w8 w9 w10:List UInt8} (hW:WdAt BB M b [w0,w1,w2,w3,w4,w5,w6,w7,w8,w9,w10]) (h0:w0=wUni)
  (hs:∀ i,(wdA [w0,w1,w2,w3,w4,w5,w6,w7,w8,w9,w10] i).length<100000) (hk:0<k) (hk2:k<1000000) {n0 n1 n2 n3 n4 n5 n6 n7:Int} (hx:nmA (rdn 9) [w1,w2,w3,w4,w5,w6,w7,w8]=([n0,n1,n2,n3,n4,n5,n6,n7],true)) :
  ∃ M' cu' uv',E.call (d+6) lim 50 [pt bx,tx s,i64 (k:Int)] (BB f wv uv++M0)=some (.bool true,BB f wv uv'++M')∧St2 n M' cw cu' wv uv' wl (l++[⟨n0,n1,n2,n3,n4,⟨n5,n6,n7,bt w9,bt (if w10=[45] then [] else w10)⟩⟩]):=by
 have Fl:=F.len
 have G:=F.gets
 have P:=F.puts
 have C:=F.cells
 have Cw:=hW.c
 have Cz:=hW.cz
 have k0:¬ k=0:=by omega
 have kb:((k:Int) == 0)=false:=by simp; omega
 have k1:(0:Int)<k:=by omega
 have k1b:¬ (k:Int)≤0:=by omega
 have k1n:0<k:=hk
 have k85:=k85g (d:=d) (lim:=lim) F hW hs (a:=1) (c:=9) (by omega) (by simp) (by simp)
 rw[show (List.drop 1 [w0,w1,w2,w3,w4,w5,w6,w7,w8,w9,w10]).take (9-1)=[w1,w2,w3,w4,w5,w6,w7,w8] from rfl,hx] at k85
 simp only[lVI,lBI,if_neg (show ¬ [n0,n1,n2,n3,n4,n5,n6,n7]=[] by simp)] at k85
 rw[show 9-1=8 from rfl,show ([n0,n1,n2,n3,n4,n5,n6,n7]).length=8 from rfl,show cI [n0,n1,n2,n3,n4,n5,n6,n7]=[i64 n0,i64 n1,i64 n2,i64 n3,i64 n4,i64 n5,i64 n6,i64 n7] from rfl] at k85
 obtain⟨v,h',e1,e2⟩:∃ v h',E.call (d+6) lim 50 [pt bx,tx s,i64 (k:Int)] (BB f wv uv++M0)=some (v,h')∧(v=.bool true∧∃ M' cu' uv',h'=BB f wv uv'++M'∧St2 n M' cw cu' wv uv' wl (l++[⟨n0,n1,n2,n3,n4,⟨n5,n6,n7,bt w9,bt (if w10=[45] then [] else w10)⟩⟩])):=by
  refine full_ex fn50 rfl (by simp[ef50]) ?_
  subst h0
  have gn:∀ f w u N,Heap.get (BB f w u++(M++(some ⟨[i64 n0,i64 n1,i64 n2,i64 n3,i64 n4,i64 n5,i64 n6,i64 n7],true⟩::N))) (n+M.length)=some ⟨[i64 n0,i64 n1,i64 n2,i64 n3,i64 n4,i64 n5,i64 n6,i64 n7],true⟩:=fun f w u N=>by
   rw[hget_base (Fl f w u).symm,lget_right0 rfl]; rfl
  have cn:∀ f w u N o,Heap.cell (BB f w u++(M++(some ⟨[i64 n0,i64 n1,i64 n2,i64 n3,i64 n4,i64 n5,i64 n6,i64 n7],true⟩::N))) (n+M.length) o=[i64 n0,i64 n1,i64 n2,i64 n3,i64 n4,i64 n5,i64 n6,i64 n7][o]?:=fun f w u N o=>by
   unfold Heap.cell; rw[gn]; rfl
  have gx:∀ f w u X k N,Heap.get (BB f w u++(M++(X::some k::N))) (n+(M.length+1))=some k:=fun f w u X k N=>by
   rw[hget_base (Fl f w u).symm,lget_right rfl]; rfl
  have cx:∀ f w u X k N o,Heap.cell (BB f w u++(M++(X::some k::N))) (n+(M.length+1)) o=k.cells[o]?:=fun f w u X k N o=>by
   unfold Heap.cell; rw[gx]; rfl
  have px:∀ f w u X k N x,Heap.put (BB f w u++(M++(X::k::N))) (n+(M.length+1)) x=BB f w u++(M++(X::x::N)):=fun f w u X k N x=>by
   rw[hput_base (Fl f w u).symm,lset_right rfl]; rfl
  have tr:=g.u.trim (f:=encN) encN_len (H:=BB f wv uv) (Fl f wv uv)
  have lb:lim≤bx:=hlim
  have lx:lim≤n+(M.length+1):=by have:=F.lt; omega
  have APP:=fun x:List UInt8=>g.u.ap (bytes:=96) encN_len (by decide) (fun _=>rfl) (Fl f wv uv) [some ⟨[i64 n0,i64 n1,i64 n2,i64 n3,i64 n4,i64 n5,i64 n6,i64 n7],true⟩,some ⟨[i64 n0,i64 n1,i64 n2,i64 n3,i64 n4,i64 n5,i64 n6,i64 n7]++[tx w9,tx x],true⟩] ⟨n0,n1,n2,n3,n4,⟨n5,n6,n7,bt w9,bt x⟩⟩ (by omega) (by omega)
  by_cases ew:w10=[45]
  ·have ap:=APP []
   simp only[encN,List.cons_append,List.nil_append,List.length_cons,List.length_nil,Nat.zero_add,Nat.reduceAdd] at ap
   subst ew
   by_cases e:l=[]
   ·simp only[if_pos e] at ap
    simp[ef50,E.bound,k49,k1b,k1,k1n,hk,k0,kb,Cz,Cw,C,k85,cn,gn,gx,cx,px,G,P,Fl,tr,T.cT,wUni,ap,lb,lx,zeros,fillL]
    exact⟨_,M.length+3,_,rfl,g.w.app _,.inr ⟨by simp,by rw[e]; rfl,by rw[lget_right rfl,e]; rfl⟩,fun h _=>by have:=g.w.lt h; omega⟩
   ·simp only[if_neg e] at ap
    have lc:=g.u.lt e
    have PM:∀ f w u N x,Heap.put (BB f w u++(M++N)) (n+cu) x=BB f w u++(M.set cu x++N):=fun f w u N x=>by rw[hput_base (Fl f w u).symm,lset_left lc]
    simp[ef50,E.bound,k49,k1b,k1,k1n,hk,k0,kb,Cz,Cw,C,k85,cn,gn,gx,cx,px,G,P,Fl,tr,T.cT,wUni,ap,lb,lx,PM,zeros,fillL]
    exact⟨_,M.length+3,_,rfl,(g.w.keep fun h=>by rw[List.getElem?_set_ne (fun q=>g.ne h e q.symm)]).app _,.inr ⟨by simp,by simp,by rw[show M.length+3=(M.set cu none).length+3 by simp,lget_right rfl]; rfl⟩,fun h _=>by have:=g.w.lt h; omega⟩
  ·have ap:=APP w10
   simp only[encN,List.cons_append,List.nil_append,List.length_cons,List.length_nil,Nat.zero_add,Nat.reduceAdd] at ap
   by_cases e:l=[]
   ·simp only[if_pos e] at ap
    simp[ef50,E.bound,k49,k1b,k1,k1n,hk,k0,kb,Cz,Cw,C,k85,cn,gn,gx,cx,px,G,P,Fl,tr,T.cT,wUni,ap,lb,lx,ew,zeros,fillL]
    exact⟨_,M.length+3,_,rfl,g.w.app _,.inr ⟨by simp,by rw[e]; rfl,by rw[lget_right rfl,e]; rfl⟩,fun h _=>by have:=g.w.lt h; omega⟩
   ·simp only[if_neg e] at ap
    have lc:=g.u.lt e
    have PM:∀ f w u N x,Heap.put (BB f w u++(M++N)) (n+cu) x=BB f w u++(M.set cu x++N):=fun f w u N x=>by rw[hput_base (Fl f w u).symm,lset_left lc]
    simp[ef50,E.bound,k49,k1b,k1,k1n,hk,k0,kb,Cz,Cw,C,k85,cn,gn,gx,cx,px,G,P,Fl,tr,T.cT,wUni,ap,lb,lx,ew,PM,zeros,fillL]
    exact⟨_,M.length+3,_,rfl,(g.w.keep fun h=>by rw[List.getElem?_set_ne (fun q=>g.ne h e q.symm)]).app _,.inr ⟨by simp,by simp,by rw[show M.length+3=(M.set cu none).length+3 by simp,lget_right rfl]; rfl⟩,fun h _=>by have:=g.w.lt h; omega⟩
 obtain⟨rfl,M',cu',uv',rfl,g1⟩:=e2
 exact⟨M',cu',uv',e1,g1⟩
section
variable {d lim n bx b k cw cu:Nat} {BB:Int→Value→Value→Heap} {f:Int} {wv uv:Value} {wl:List Wi} {l:List Un} {M:Heap}
theorem c50f (F:Fam BB n bx) (hlim:lim≤bx) {M0:Heap} {s:List UInt8} (k49:∀ f w u,E.call (d+5) lim 49 [tx s,.int .u8 32] (BB f w u++M0)=some (.slice (some ⟨b,0,none⟩) 2 1,BB f w u++M)) {w0 w1:List UInt8} (hW:WdAt BB M b [w0,w1]) (h0:w0=wFork) (hs:∀ i,(wdA [w0,w1] i).length<100000) {x:Int} (hx:rdn 9 w1=(x,true)) :
  ∃ M',E.call (d+6) lim 50 [pt bx,tx s,i64 0] (BB f wv uv++M0)=some (.bool true,BB x wv uv++(M++M')):=by
 have Fl:=F.len
 have G:=F.gets
 have P:=F.puts
 have C:=F.cells
 have Cw:=hW.c
 have Cz:=hW.cz
 have k85:=k85g (d:=d) (lim:=lim) F hW hs (a:=1) (c:=2) (by omega) (by simp) (by simp)
 rw[show (List.drop 1 [w0,w1]).take (2-1)=[w1] from rfl,nmA_one,hx] at k85
 simp only[if_true,lVI,lBI,if_neg (show ¬ [x]=[] by simp)] at k85
 rw[show 2-1=1 from rfl,show ([x]).length=1 from rfl,show cI [x]=[i64 x] from rfl] at k85
 obtain⟨v,h',e1,e2⟩:∃ v h',E.call (d+6) lim 50 [pt bx,tx s,i64 0] (BB f wv uv++M0)=some (v,h')∧(v=.bool true∧∃ M',h'=BB x wv uv++(M++M')):=by
  refine full_ex fn50 rfl (by simp[ef50]) ?_
  subst h0
  have gn:∀ f w u N,Heap.get (BB f w u++(M++(some ⟨[i64 x],true⟩::N))) (n+M.length)=some ⟨[i64 x],true⟩:=fun f w u N=>by
   rw[hget_base (Fl f w u).symm,lget_right0 rfl]; rfl
  have cn:∀ f w u N o,Heap.cell (BB f w u++(M++(some ⟨[i64 x],true⟩::N))) (n+M.length) o=[i64 x][o]?:=fun f w u N o=>by
   unfold Heap.cell; rw[gn]; rfl
  have lb:lim≤bx:=hlim
  simp[ef50,E.bound,k49,Cz,Cw,C,k85,cn,gn,G,P,Fl,T.cT,wFork,lb]
 obtain⟨rfl,M',rfl⟩:=e2
 exact⟨M',e1⟩
theorem c50n1 (F:Fam BB n bx) (uvn:slN uv=some 0) {M0:Heap} {s:List UInt8} (k49:∀ f w u,E.call (d+5) lim 49 [tx s,.int .u8 32] (BB f w u++M0)=some (.slice (some ⟨b,0,none⟩) 5 1,BB f w u++M)) {w0 w1 w2 w3 w4:List UInt8} (hW:WdAt BB M b [w0,w1,w2,w3,w4]) (h0:w0=wWire) (hs:∀ i,(wdA [w0,w1,w2,w3,w4] i).length<100000) (hk:0<k) (hk2:k<1000000) (hx:(nmA (rdn 9) [w2,w3,w4]).2=false) :
  E.call (d+6) lim 50 [pt bx,tx s,i64 (k:Int)] (BB f wv uv++M0)=some (.bool false,BB f wv uv++M):=by
 have Fl:=F.len
 have C:=F.cells
 have Cw:=hW.c
 have Cz:=hW.cz
 have k0:¬ k=0:=by omega
 have kb:((k:Int) == 0)=false:=by simp; omega
 have k1:(0:Int)<k:=by omega
 have k1b:¬ (k:Int)≤0:=by omega
 have k1n:0<k:=hk
 have k85:=k85g (d:=d) (lim:=lim) F hW hs (a:=2) (c:=5) (by omega) (by simp) (by simp)
 rw[show (List.drop 2 [w0,w1,w2,w3,w4]).take (5-2)=[w2,w3,w4] from rfl,hx,nmA_no hx] at k85
 simp only[lVI,lBI,if_true,List.append_nil] at k85
 rw[show 5-2=3 from rfl] at k85
 obtain⟨v,h',e1,e2⟩:∃ v h',E.call (d+6) lim 50 [pt bx,tx s,i64 (k:Int)] (BB f wv uv++M0)=some (v,h')∧(v=.bool false∧h'=BB f wv uv++M):=by
  refine full_ex fn50 rfl (by simp[ef50]) ?_
  subst h0
  simp[ef50,E.bound,k49,k1b,k1,k1n,hk,k0,kb,Cz,Cw,C,k85,Fl,T.cT,wWire,uvn]
 obtain⟨rfl,rfl⟩:=e2
 exact e1
theorem c50n2 (F:Fam BB n bx) {M0:Heap} {s:List UInt8} (k49:∀ f w u,E.call (d+5) lim 49 [tx s,.int .u8 32] (BB f w u++M0)=some (.slice (some ⟨b,0,none⟩) 11 1,BB f w u++M)) {w0 w1 w2 w3 w4 w5 w6 w7 w8 w9 w10:List UInt8} (hW:WdAt BB M b [w0,w1,w2,w3,w4,w5,w6,w7,w8,w9,w10]) (h0:w0=wUni) (hs:∀ i,(wdA [w0,w1,w2,w3,w4,w5,w6,w7,w8,w9,w10] i).length<100000) (hk:0<k) (hk2:k<1000000) (hx:(nmA (rdn 9) [w1,w2,w3,w4,w5,w6,w7,w8]).2=false) :
  E.call (d+6) lim 50 [pt bx,tx s,i64 (k:Int)] (BB f wv uv++M0)=some (.bool false,BB f wv uv++M):=by
 have Fl:=F.len
 have C:=F.cells
 have Cw:=hW.c
 have Cz:=hW.cz
 have k0:¬ k=0:=by omega
 have kb:((k:Int) == 0)=false:=by simp; omega
 have k1:(0:Int)<k:=by omega
 have k1b:¬ (k:Int)≤0:=by omega
 have k1n:0<k:=hk
 have k85:=k85g (d:=d) (lim:=lim) F hW hs (a:=1) (c:=9) (by omega) (by simp) (by simp)
 rw[show (List.drop 1 [w0,w1,w2,w3,w4,w5,w6,w7,w8,w9,w10]).take (9-1)=[w1,w2,w3,w4,w5,w6,w7,w8] from rfl,hx,nmA_no hx] at k85
 simp only[lVI,lBI,if_true,List.append_nil] at k85
 rw[show 9-1=8 from rfl] at k85
 obtain⟨v,h',e1,e2⟩:∃ v h',E.call (d+6) lim 50 [pt bx,tx s,i64 (k:Int)] (BB f wv uv++M0)=some (v,h')∧(v=.bool false∧h'=BB f wv uv++M):=by
  refine full_ex fn50 rfl (by simp[ef50]) ?_
  subst h0
  simp[ef50,E.bound,k49,k1b,k1,k1n,hk,k0,kb,Cz,Cw,C,k85,Fl,T.cT,wUni]
 obtain⟨rfl,rfl⟩:=e2
 exact e1
theorem c50n0 (F:Fam BB n bx) {M0:Heap} {s:List UInt8} (k49:∀ f w u,E.call (d+5) lim 49 [tx s,.int .u8 32] (BB f w u++M0)=some (.slice (some ⟨b,0,none⟩) 2 1,BB f w u++M)) {w0 w1:List UInt8} (hW:WdAt BB M b [w0,w1]) (h0:w0=wFork) (hs:∀ i,(wdA [w0,w1] i).length<100000) (hx:(rdn 9 w1).2=false) :
  E.call (d+6) lim 50 [pt bx,tx s,i64 0] (BB f wv uv++M0)=some (.bool false,BB f wv uv++M):=by
 have Fl:=F.len
 have Cw:=hW.c
 have Cz:=hW.cz
 have k85:=k85g (d:=d) (lim:=lim) F hW hs (a:=1) (c:=2) (by omega) (by simp) (by simp)
 rw[show (List.drop 1 [w0,w1]).take (2-1)=[w1] from rfl,nmA_one,if_neg (by rw[hx]; decide)] at k85
 simp only[lVI,lBI,if_true,List.append_nil] at k85
 rw[show 2-1=1 from rfl] at k85
 obtain⟨v,h',e1,e2⟩:∃ v h',E.call (d+6) lim 50 [pt bx,tx s,i64 0] (BB f wv uv++M0)=some (v,h')∧(v=.bool false∧h'=BB f wv uv++M):=by
  refine full_ex fn50 rfl (by simp[ef50]) ?_
  subst h0
  simp[ef50,E.bound,k49,Cz,Cw,k85,Fl,T.cT,wFork]
 obtain⟨rfl,rfl⟩:=e2
 exact e1
theorem c50n3 (F:Fam BB n bx) {M0:Heap} {s:List UInt8} {w0:List UInt8} {r:List (List UInt8)} (k49:∀ f w u,E.call (d+5) lim 49 [tx s,.int .u8 32] (BB f w u++M0)=some (.slice (some ⟨b,0,none⟩) (r.length+1) 1,BB f w u++M)) (uvn:slN uv=some l.length) (hW:WdAt BB M b (w0::r)) (hk2:k<1000000)
  (h0:¬ (w0=wFork∧r.length=1∧k=0)) (h1:¬ (w0=wWire∧r.length=4∧0<k∧l=[])) (h2:¬ (w0=wUni∧r.length=10∧0<k)) :
  E.call (d+6) lim 50 [pt bx,tx s,i64 (k:Int)] (BB f wv uv++M0)=some (.bool false,BB f wv uv++M):=by
 have Fl:=F.len
 have C:=F.cells
 have Cw:=hW.c
 have Cz:=hW.cz
 obtain⟨v,h',e1,e2⟩:∃ v h',E.call (d+6) lim 50 [pt bx,tx s,i64 (k:Int)] (BB f wv uv++M0)=some (v,h')∧(v=.bool false∧h'=BB f wv uv++M):=by
  refine full_ex fn50 rfl (by simp[ef50]) ?_
  by_cases q0:w0=wFork
  ·have q0':w0=[102,111,114,107]:=q0
   have q1':¬ w0=[119,105,114,101]:=by rw[q0']; decide
   have q2':¬ w0=[117,110,105,115,111,110]:=by rw[q0']; decide
   by_cases r1:r.length=1
   ·have kz:¬ k=0:=fun z=>h0 ⟨q0,r1,z⟩
    subst q0'
    simp[ef50,E.bound,k49,Cz,Cw,C,uvn,Fl,T.cT,r1,kz]
   ·have r1c:¬ ((r.length:Int)+1)=2:=by omega
    subst q0'
    simp[ef50,E.bound,k49,Cz,Cw,C,uvn,Fl,T.cT,r1,r1c]
  ·have q0':¬ w0=[102,111,114,107]:=q0
   by_cases q1:w0=wWire
   ·have q1':w0=[119,105,114,101]:=q1
    have q2':¬ w0=[117,110,105,115,111,110]:=by rw[q1']; decide
    by_cases r4:r.length=4
    ·by_cases kp:0<k
     ·have l0n:¬ l=[]:=fun z=>h1 ⟨q1,r4,kp,z⟩
      have l0b:((l.length:Int) == 0)=false:=by simp; exact l0n
      have kp':(0:Int)<k:=by omega
      subst q1'
      simp[ef50,E.bound,k49,Cz,Cw,C,uvn,Fl,T.cT,r4,kp,kp',l0n,l0b]
     ·obtain rfl:k=0:=by omega
      subst q1'
      simp[ef50,E.bound,k49,Cz,Cw,C,uvn,Fl,T.cT,r4]
    ·have r4c:¬ ((r.length:Int)+1)=5:=by omega
     subst q1'
     simp[ef50,E.bound,k49,Cz,Cw,C,uvn,Fl,T.cT,r4,r4c]
   ·have q1':¬ w0=[119,105,114,101]:=q1
    by_cases q2:w0=wUni
    ·have q2':w0=[117,110,105,115,111,110]:=q2
     by_cases r10:r.length=10
     ·have kz:¬ 0<k:=fun z=>h2 ⟨q2,r10,z⟩
      obtain rfl:k=0:=by omega
      subst q2'
      simp[ef50,E.bound,k49,Cz,Cw,C,uvn,Fl,T.cT,r10]
     ·have r10c:¬ ((r.length:Int)+1)=11:=by omega
      subst q2'
      simp[ef50,E.bound,k49,Cz,Cw,C,uvn,Fl,T.cT,r10,r10c]
    ·have q2':¬ w0=[117,110,105,115,111,110]:=q2
     simp[ef50,E.bound,k49,Cz,Cw,C,uvn,Fl,T.cT,q0',q1',q2']
 obtain⟨rfl,rfl⟩:=e2
 exact e1
end
end B.T.U
end Go.Abs
namespace Go.Abs
namespace B.T.U
set_option maxRecDepth 100000
set_option maxHeartbeats 0
theorem wd_own {BB:Int→Value→Value→Heap} {n bx:Nat} (F:Fam BB n bx) {M:Heap} {W:List (List UInt8)}:WdAt BB (M++[some ⟨T.cT W,true⟩]) (n+M.length) W:=fun f w u N=>by
 rw[List.append_assoc,hget_base (F.len f w u).symm,lget_right0 rfl]; rfl
theorem c50a {d lim n bx b k cw cu:Nat} {BB:Int→Value→Value→Heap} (F:Fam BB n bx) (hlim:lim≤bx) {f:Int} {wv uv:Value} {wl:List Wi} {l:List Un} {M M0:Heap} (g:St2 n M cw cu wv uv wl l) (hwl:wl.length≤100000) (hul:l.length≤100000)
  {W:List (List UInt8)} {s:List UInt8} (k49:∀ f w u,E.call (d+5) lim 49 [tx s,.int .u8 32] (BB f w u++M0)=some (.slice (some ⟨b,0,none⟩) W.length 1,BB f w u++M)) (hW:WdAt BB M b W) (w0:W≠[]) (hl:W.length≤10000) (hs:∀ i,(wdA W i).length<100000) (hk2:k<1000000) :
  (∀ s',stp (rdn 9) (f,wl,l) W k=some s'→∃ M' cw' cu' wv' uv',E.call (d+6) lim 50 [pt bx,tx s,i64 (k:Int)] (BB f wv uv++M0)=some (.bool true,BB s'.1 wv' uv'++M')∧St2 n M' cw' cu' wv' uv' s'.2.1 s'.2.2) ∧
  (stp (rdn 9) (f,wl,l) W k=none→E.call (d+6) lim 50 [pt bx,tx s,i64 (k:Int)] (BB f wv uv++M0)=some (.bool false,BB f wv uv++M)):=by
 unfold stp
 rcases Nat.eq_zero_or_pos k with hk | hk
 ·subst hk
  rw[if_pos rfl]
  by_cases q:W.length=2∧wdA W 0=wFork∧(rdn 9 (wdA W 1)).2=true
  ·rw[if_pos q]
   refine⟨fun s' e=>?_,fun e=>by cases e⟩
   cases e
   obtain⟨q1,q2,q3⟩:=q
   match W,q1 with
   | [u0,u1],_ =>
    obtain⟨M',e⟩:=c50f (d:=d) (wv:=wv) (uv:=uv) (f:=f) F hlim k49 hW q2 hs (x:=(rdn 9 u1).1) (Prod.ext rfl q3)
    exact⟨M++M',cw,cu,wv,uv,e,g.app _⟩
  ·rw[if_neg q]
   refine⟨fun s' e=>(by cases e),fun _=>?_⟩
   match W,w0 with
   | u0::r,_ =>
    by_cases z:u0=wFork∧r.length=1
    ·match r,z.2 with
     | [u1],_ =>
      exact c50n0 (d:=d) (lim:=lim) F k49 hW z.1 hs (by
       rcases y:(rdn 9 u1).2 with _ | _
       ·rfl
       ·exact absurd ⟨rfl,z.1,y⟩ q)
    ·exact c50n3 (d:=d) (lim:=lim) (k:=0) F k49 g.u.slN hW (by omega) (fun y=>z ⟨y.1,y.2.1⟩) (fun y=>by have:=y.2.2.1; omega) (fun y=>by have:=y.2.2; omega)
 ·rw[if_neg (by omega)]
  by_cases q:wdA W 0=wWire∧W.length=5∧l=[]
  ·rw[if_pos q]
   obtain⟨q1,q2,rfl⟩:=q
   obtain⟨a0,a1,a2,a3,a4,rfl⟩:=len5 q2
   by_cases z:(nmA (rdn 9) [a2,a3,a4]).2=true
   ·refine⟨fun s' e=>?_,fun e=>?_⟩
    ·rw[if_pos (show (nmA (rdn 9) (List.drop 2 [a0,a1,a2,a3,a4])).2=true from z)] at e
     cases e
     have ln:=nmA_len z
     obtain⟨n0,n1,n2,e3⟩:=len3 (l:=(nmA (rdn 9) [a2,a3,a4]).1) ln
     obtain⟨M',cw',wv',e4,g'⟩:=c50w (d:=d) F hlim (f:=f) g hwl k49 hW q1 hs hk hk2 (n0:=n0) (n1:=n1) (n2:=n2) (Prod.ext e3 z)
     refine⟨M',cw',cu,wv',uv,e4,?_⟩
     have:mkW [a0,a1,a2,a3,a4] (nmA (rdn 9) (List.drop 2 [a0,a1,a2,a3,a4])).1=⟨bt a1,n0,n1,n2⟩:=by
      rw[show List.drop 2 [a0,a1,a2,a3,a4]=[a2,a3,a4] from rfl,e3]; rfl
     simp only[this]
     exact g'
    ·rw[if_pos (show (nmA (rdn 9) (List.drop 2 [a0,a1,a2,a3,a4])).2=true from z)] at e; cases e
   ·refine⟨fun s' e=>?_,fun e=>?_⟩
    ·rw[if_neg (show ¬ (nmA (rdn 9) (List.drop 2 [a0,a1,a2,a3,a4])).2=true from z)] at e; cases e
    ·exact c50n1 (d:=d) F g.u.slN k49 hW q1 hs hk hk2 (by simpa using z)
  ·rw[if_neg q]
   by_cases q2:wdA W 0=wUni∧W.length=11
   ·rw[if_pos q2]
    obtain⟨q3,q4⟩:=q2
    obtain⟨a0,a1,a2,a3,a4,a5,a6,a7,a8,a9,a10,rfl⟩:=len11 q4
    have td:(List.drop 1 [a0,a1,a2,a3,a4,a5,a6,a7,a8,a9,a10]).take 8=[a1,a2,a3,a4,a5,a6,a7,a8]:=rfl
    rw[td]
    by_cases z:(nmA (rdn 9) [a1,a2,a3,a4,a5,a6,a7,a8]).2=true
    ·refine⟨fun s' e=>?_,fun e=>?_⟩
     ·rw[if_pos z] at e
      cases e
      have ln:=nmA_len z
      obtain⟨n0,n1,n2,n3,n4,n5,n6,n7,e3⟩:=len8 (l:=(nmA (rdn 9) [a1,a2,a3,a4,a5,a6,a7,a8]).1) ln
      obtain⟨M',cu',uv',e4,g'⟩:=c50u (d:=d) F hlim (f:=f) g hul k49 hW q3 hs hk hk2 (n0:=n0) (n1:=n1) (n2:=n2) (n3:=n3) (n4:=n4) (n5:=n5) (n6:=n6) (n7:=n7) (Prod.ext e3 z)
      refine⟨M',cw,cu',wv,uv',e4,?_⟩
      rw[e3]
      exact g'
     ·rw[if_pos z] at e; cases e
    ·refine⟨fun s' e=>?_,fun e=>?_⟩
     ·rw[if_neg z] at e; cases e
     ·exact c50n2 (d:=d) F k49 hW q3 hs hk hk2 (by simpa using z)
   ·rw[if_neg q2]
    refine⟨fun s' e=>(by cases e),fun _=>?_⟩
    match W,w0 with
    | u0::r,_ =>
     exact c50n3 (d:=d) F k49 g.u.slN hW hk2 (fun y=>by have:=y.2.2; omega) (fun ⟨z1,z2,_,z3⟩=>q ⟨z1,by simp[z2],z3⟩) (fun ⟨z1,z2,_⟩=>q2 ⟨z1,by simp[z2]⟩)
theorem c50 {d lim n bx k cw cu:Nat} {BB:Int→Value→Value→Heap} (F:Fam BB n bx) (hlim:lim≤bx) {f:Int} {wv uv:Value} {wl:List Wi} {l:List Un} {M:Heap} (g:St2 n M cw cu wv uv wl l) (hwl:wl.length≤100000) (hul:l.length≤100000)
  {s:List UInt8} (hl:s.length<9999) (hk2:k<1000000) :
  (∀ s',stp (rdn 9) (f,wl,l) (cutB 32 s) k=some s'→∃ M' cw' cu' wv' uv',E.call (d+6) lim 50 [pt bx,tx s,i64 (k:Int)] (BB f wv uv++M)=some (.bool true,BB s'.1 wv' uv'++M')∧St2 n M' cw' cu' wv' uv' s'.2.1 s'.2.2) ∧
  (stp (rdn 9) (f,wl,l) (cutB 32 s) k=none→∃ M',E.call (d+6) lim 50 [pt bx,tx s,i64 (k:Int)] (BB f wv uv++M)=some (.bool false,BB f wv uv++M')):=by
 have wl':=fun i=>wdA_len 32 s i
 have wn:=cut_cnt 32 s
 have k49:∀ f w u,E.call (d+5) lim 49 [tx s,.int .u8 32] (BB f w u++M)=some (.slice (some ⟨n+M.length,0,none⟩) (cutB 32 s).length 1,BB f w u++(M++[some ⟨T.cT (cutB 32 s),true⟩])):=fun f w u=>by
  have q:=T.c49 (d:=d+4) (lim:=lim) (h:=BB f w u++M) (s:=s) (c:=32) (by omega)
  simp only[T.lVT,T.lBT,if_neg (cutB_ne 32 s),List.length_append,F.len,List.append_assoc] at q
  exact q
 obtain⟨h1,h2⟩:=c50a (d:=d) (k:=k) (f:=f) F hlim (g.app [some ⟨T.cT (cutB 32 s),true⟩]) hwl hul k49 (wd_own F) (cutB_ne 32 s) (by omega) (fun i=>by have:=wl' i; omega) hk2
 exact⟨h1,fun z=>⟨_,h2 z⟩⟩
end B.T.U
end Go.Abs
