--
import Derived.Test.YtllhkifkiabkbaaGreatDoorAbsBPX
import Derived.Test.YtllhkifkiabkbaaGreatDoorAbsBOk
import Derived.Test.YtllhkifkiabkbaaGreatDoorAbsBY6
import Derived.Test.YtllhkifkiabkbaaGreatDoorAbsBVD
import Derived.Test.YtllhkifkiabkbaaGreatDoorAbsNatN
set_option linter.unusedSimpArgs false
set_option linter.unusedVariables false
namespace Go.Abs
namespace B.T.U
open Go.RowKit
set_option maxRecDepth 100000
set_option maxHeartbeats 400000
theorem cW_j {l:List Wi} {i j:Nat} (h:i<l.length) (hj:j<4):(cS encW l)[i * 4+j]?=(encW (atW l i))[j]?:=by
 have p:=congrArg (fun z=>z[j]?) (cW_part h)
 simp only[List.getElem?_take_of_lt hj,List.getElem?_drop] at p
 exact p
def Lrel (cs:Array Value) (T:List UInt8):Prop:=∃ ws:List Wd,cs=(ws.map ifW).toArray∧T=lnJ (ws.map txW)∧ws≠[]∧ws.length≤100∧(∀ n,Sum.inr n∈ws→R64 n)∧(Lib.join (ws.map txW) [32]).length≤100000
theorem ifW_rel {ρ:Ren} (x:Wd):VRel ρ (ifW x) (ifW x):=by
 rcases x with x | x
 ·exact .iface (.plain rfl)
 ·exact .iface (.plain rfl)
theorem line39 {w w1:World} {Own:Nat→Prop} {ρ:Ren} {m k n:Nat} {cs:Array Value} {T:List UInt8} (hg:GlobOk E.glob ρ) (hla:LaidOk Go.Proofs.Tryz.prog E.glob Own w) (hd:∀ i L,ρ i=some L→i<m)
  (b1:Below w.heap.size w w1) (hn:n=cs.size) (hk:w1.heap[k]?=some (.cells cs 20 (0,0))) (hL:Lrel cs T) :
  Calls Go.Proofs.Tryz.prog 39 #[.slice (some ⟨k,0,none⟩) n n] w1 fun e w'=>e=.returned (.string ⟨T.toArray⟩)∧Below w1.heap.size w1 w':=by
 obtain⟨ws,rfl,rfl,h0,hl,hR,hJ⟩:=hL
 have hn:n=ws.length:=by rw[hn]; simp
 subst hn
 have hn:ρ m=none:=by
  rcases q:ρ m with _ | L
  ·rfl
  ·exact absurd (hd _ _ q) (by omega)
 let L:Loc:=⟨k,0,ws.length,false⟩
 have hle:ρ.le (upd ρ m L):=le_upd hn
 have hup:upd ρ m L m=some L:=by simp[upd]
 have s:Sl 1 (onlyB (m+1) m ⟨ws.map ifW,false⟩) (.slice (some ⟨m,0,none⟩) ws.length 1) ws.length (ws.map ifW):=by
  have g:=onlyB_get (n:=m+1) (b:=m) (k:=⟨ws.map ifW,false⟩) (by omega)
  exact⟨rfl,by simp,fun _=>rfl,.inr ⟨m,0,ws.length,1,rfl,Heap.get_lt g⟩,fun j hj=>by simp only[slB_some,slO_some,Nat.zero_add]; rw[cell_get g]⟩
 have c:=c39 (d:=0) (lim:=(onlyB (m+1) m ⟨ws.map ifW,false⟩).length) s h0 hl hR hJ
 refine e0_call E_ok (ρ:=upd ρ m L) (args:=[.slice (some ⟨k,0,none⟩) ws.length ws.length]) c (SameV.plain rfl) ?_ ?_ (fun K=>onlyB_sim hup rfl ?_) ?_ ?_
 ·intro g i e
  obtain⟨M,m1,m2⟩:=hg g i e
  exact⟨M,hle _ _ m1,m2⟩
 ·exact (hla.frame (below_frame b1)).own fun i hi q=>absurd hi (by omega)
 ·refine⟨_,_,_,hk,by show (0:Nat)+ws.length≤_; simp,by show (ws.map ifW).length≤ws.length; simp,(fun q=>by cases q),fun i v hv=>⟨v,?_,?_⟩⟩
  ·show _=some v
   rw[← hv]
   simp[L]
  ·have:=List.mem_of_getElem? hv
   simp only[List.mem_map] at this
   obtain⟨z,_,rfl⟩:=this
   exact ifW_rel z
 ·intro i M e
  rw[onlyB_len]
  by_cases q:i=m
  ·omega
  ·have:=hd i M (by simpa [upd,q] using e); omega
 ·refine⟨VRel.slice (L:=L) hup (Nat.le_refl _) rfl (fun _=>rfl) (fun q=>by cases q) (fun _=>⟨rfl,by show 0+ws.length * 1≤ws.length; omega⟩) (by unfold maxLen; omega),trivial⟩
theorem sl_addr {ρ:Ren} {v':Value} {b n es:Nat} (h:VRel ρ (.slice (some ⟨b,0,none⟩) n es) v'):∃ L a cap,ρ b=some L∧v'=.slice (some a) n cap∧(0<n→some a=some ⟨L.blk,L.off,none⟩)∧L.map=false:=by
 obtain⟨L,a,cap,hL,rfl,hn,ha,hsp,hz0,hcc,hm⟩:=h.slice_inv
 refine⟨L,a,cap,hL,rfl,fun h0=>?_,h.slice_map hL⟩
 have q:cap≠0:=by omega
 obtain⟨hoff,htot⟩:=hcc q
 have hspot:=hsp q
 obtain⟨ab,ao,asp⟩:=a
 simp only at ha hoff hspot
 subst ha hoff hspot
 rfl
theorem lW_rel {w:Wi} (o:OkW w):Lrel #[.iface 9 (.string ⟨#[119,105,114,101]⟩),.iface 9 (.string w.name),.iface 3 (.int .i64 w.mass),.iface 3 (.int .i64 w.str),.iface 3 (.int .i64 w.stiff)] (lW w):=by
 have ln:=lW_len o
 rw[lW_join] at ln ⊢
 refine⟨[.inl wWire,.inl (nb w.name),.inr w.mass,.inr w.str,.inr w.stiff],?_,rfl,by simp,by simp,fun n hn=>?_,?_⟩
 ·rw[nb_of w.name]; rfl
 ·have:=o.r
  simp only[numW,List.mem_cons,List.not_mem_nil,or_false] at this
  simp at hn
  rcases hn with rfl | rfl | rfl
  ·exact this _ (.inl rfl)
  ·exact this _ (.inr (.inl rfl))
  ·exact this _ (.inr (.inr rfl))
 ·have e:(lnJ (wsW w)).length=(Lib.join (wsW w) [32]).length+1:=by unfold lnJ; simp
  show (Lib.join (wsW w) [32]).length≤_
  omega
theorem lU_rel {u:Un} (o:OkU u):Lrel #[.iface 9 (.string ⟨#[117,110,105,115,111,110]⟩),.iface 3 (.int .i64 u.two),.iface 3 (.int .i64 u.three),.iface 3 (.int .i64 u.five),.iface 3 (.int .i64 u.den),.iface 3 (.int .i64 u.count),.iface 3 (.int .i64 u.sd.len),.iface 3 (.int .i64 u.sd.core),.iface 3 (.int .i64 u.sd.over),.iface 9 (.string u.sd.wire),.iface 9 (.string (if u.sd.wrap=⟨#[]⟩ then ⟨#[45]⟩ else u.sd.wrap))] (lU u):=by
 have ln:=lU_len o
 rw[lU_join] at ln ⊢
 refine⟨[.inl wUni,.inr u.two,.inr u.three,.inr u.five,.inr u.den,.inr u.count,.inr u.sd.len,.inr u.sd.core,.inr u.sd.over,.inl (nb u.sd.wire),.inl (wrpL u.sd.wrap)],?_,rfl,by simp,by simp,fun n hn=>?_,?_⟩
 ·have e1:=nb_of u.sd.wire
  have e2:Value.string (if u.sd.wrap=⟨#[]⟩ then ⟨#[45]⟩ else u.sd.wrap)=tx (wrpL u.sd.wrap):=by
   unfold wrpL
   by_cases z:u.sd.wrap=⟨#[]⟩
   ·rw[if_pos z,if_pos (nb_nil_iff.2 z)]
   ·rw[if_neg z,if_neg (fun y=>z (nb_nil_iff.1 y))]; exact nb_of _
  rw[e1,e2]; rfl
 ·have:=o.r
  apply this
  simp at hn
  simp only[numU,List.mem_cons,List.not_mem_nil,or_false]
  exact hn
 ·have e:(lnJ (wsU u)).length=(Lib.join (wsU u) [32]).length+1:=by unfold lnJ; simp
  show (Lib.join (wsU u) [32]).length≤_
  omega
theorem lF_rel {f:Int} (h:R64 f):Lrel #[.iface 9 (.string ⟨#[102,111,114,107]⟩),.iface 3 (.int .i64 f)] (lF f):=by
 have ln:=lF_len h
 rw[lF_join] at ln ⊢
 refine⟨[.inl wFork,.inr f],rfl,rfl,by simp,by simp,fun n hn=>?_,?_⟩
 ·simp at hn; subst hn; exact h
 ·have e:(lnJ (wsF f)).length=(Lib.join (wsF f) [32]).length+1:=by unfold lnJ; simp
  show (Lib.join (wsF f) [32]).length≤_
  omega
theorem chkUL_zero {wl:List Wi} {t:Int} {l:List Un}:∀ (k i:Nat),l.length-i=k→(chkUL wl t l i).2=0→chkUL wl t l i=(0,0):=by
 intro k
 induction k with
 | zero =>
  intro i hk h
  exact chkUL_ge (by omega)
 | succ k ih =>
  intro i hk h
  rw[chkUL_lt (by omega)] at h ⊢
  split at h
  ·rename_i e
   rw[if_pos e]
   exact ih (i+1) (by omega) h
  ·rename_i e; exact absurd h e
theorem stE_zero {t:Int} {wl:List Wi} {l:List Un} (h:(stE t wl l).2=0):stE t wl l=(0,0):=by
 unfold stE at h ⊢
 split at h
 ·cases h
 ·rename_i q1
  rw[if_neg q1]
  split at h
  ·rename_i q2; exact absurd h q2
  ·rename_i q2
   rw[if_neg q2]
   split at h
   ·cases h
   ·rename_i q3
    rw[if_neg q3]
    exact chkUL_zero _ 0 rfl h
theorem within_R64 {x a b:Int} (h:within x a b=true) (ha:-9223372036854775808≤a) (hb:b≤9223372036854775807):R64 x:=by
 unfold within at h
 simp at h
 unfold R64
 omega
theorem okPrintS {K:LoopKind} (lim:Nat) (vs:List Value) (h:Heap) (v:Value) (h':Heap) (_:lim≤h.length) (hN:natPrintS vs h=some (v,h')):CallOk Go.Proofs.Tryz.prog K E.glob 7 lim vs h v h':=by
 have fin:∀ {ρ:Ren} {w:World} {Own:Nat→Prop} {args:List Value} {f:Int} {wl:List Wi} {l:List Un},Sim K Own ρ h.get w→(∀ i L,ρ i=some L→i<h.length) →
   (Calls Go.Proofs.Tryz.prog 7 args.toArray w fun e w'=>e=.returned (prVS f wl l)∧Below w.heap.size w w') →
   Calls Go.Proofs.Tryz.prog 7 args.toArray w fun e w'=>∃ v' ρ',e=.returned v'∧(∀ i,i<h.length→ρ' i=ρ i)∧VRel ρ' (prVS f wl l) v'∧Sim K Own ρ' h.get w'∧(∀ i L,ρ' i=some L→i<h.length) ∧
    (∀ i L,ρ' i=some L→h.length≤i→Own L.blk∧L.blk<w'.heap.size)∧Frame Own w w':=by
  intro ρ w Own args f wl l hsim hd hc
  refine hc.mono ?_
  rintro e w' ⟨rfl,bl⟩
  refine⟨_,ρ,rfl,fun _ _=>rfl,?_,hsim.same (below_same bl),hd,fun i L q1 q2=>absurd (hd i L q1) (by omega),below_frame bl⟩
  unfold prVS
  split
  ·exact VRel.tuple_mk (xs:=[tx (tU f wl l l.length),i64 0]) (ys:=[tx (tU f wl l l.length),i64 0]) ⟨.plain rfl,.plain rfl,trivial⟩
  ·exact VRel.tuple_mk (xs:=[tx [],i64 (stE f wl l).2]) (ys:=[tx [],i64 (stE f wl l).2]) ⟨.plain rfl,.plain rfl,trivial⟩
 unfold natPrintS at hN
 split at hN
 case h_2=>cases hN
 rename_i xs
 split at hN
 case h_2=>cases hN
 rename_i f b n c m hxs
 split at hN
 case h_2=>cases hN
 rename_i k1 k2 k0 hb hc hz
 split at hN
 case h_2=>cases hN
 rename_i wl l dW dN
 split at hN
 case isFalse=>cases hN
 rename_i cond
 cases hN
 obtain⟨hn,hm,hn1,hnm,hk0⟩:=cond
 obtain⟨cs1,rw1⟩:=k1
 obtain⟨cs2,rw2⟩:=k2
 obtain⟨cs0,rw0⟩:=k0
 simp only at dW dN hk0
 obtain rfl:=decW_inv _ (Nat.le_refl _) dW
 obtain rfl:=decN_inv _ (Nat.le_refl _) dN
 subst hk0
 refine⟨by kernel_rfl,Nat.le_refl _,.refl _ _,fun ρ w Own args hown hg hs hd hr=>fin hs hd ?_⟩
 match args,hr with
 | [x],hr =>
  have hrx:=hr.1
  obtain⟨ys,rfl,lr⟩:=hr.1.agg_inv
  rw[hxs] at lr
  obtain⟨ys⟩:=ys
  match ys,lr with
  | [y0,y1,y2],lr =>
   obtain rfl:=lr.1.plain_inv rfl
   obtain⟨L1,a1,cap1,hL1,rfl,ha1,mp1⟩:=sl_addr lr.2.1
   obtain⟨L2,a2,cap2,hL2,rfl,ha2,mp2⟩:=sl_addr lr.2.2.1
   have hgl:=hg.1
   obtain⟨L0,hL0,_,_,mp0⟩:=hgl 0 0 rfl
   have n0:(Heap.get h 0).isSome=true:=by rw[hz]; rfl
   have h37:∀ w',Below w.heap.size w w'→Calls Go.Proofs.Tryz.prog 37 #[.agg (Go.Proofs.stC f (some a1) (some a2) n cap1 m cap2)] w' fun e w2=>e=.returned (.tuple #[i64 (stE f wl l).1,i64 (stE f wl l).2])∧Below w'.heap.size w' w2:=fun w' bw=>by
    let S:Nat→Bool:=fun i=>i == 0 || i == b || i == c
    have sW:SlW (keepB h S) (.slice (some ⟨b,0,none⟩) n 4) wl:=Sl_own (f:=encW) encW_len (keepB_get (by simp[S]) hb) hn.symm
    have sN:SlN (keepB h S) (.slice (some ⟨c,0,none⟩) m 10) l:=Sl_own (f:=encN) encN_len (keepB_get (by simp[S]) hc) hm.symm
    have g0:(keepB h S).get 0=some ⟨[.int .u64 2,.int .u64 3,.int .u64 5],false⟩:=keepB_get (by simp[S]) hz
    have sp:Pr (keepB h S):=SlU_own (l:=[2,3,5]) (rw:=false) (Heap.get_lt g0) g0
    have cc:=c37 (d:=0) (lim:=(keepB h S).length) (t:=f) sp sW sN (by omega) hnm
    have hx2:xs=(#[.int .i64 f,.slice (some ⟨b,0,none⟩) n 4,.slice (some ⟨c,0,none⟩) m 10]:Array Value):=by
     rw[← Array.toArray_toList (xs:=xs),hxs]
    refine e0_call E_ok (args:=[.agg (Go.Proofs.stC f (some a1) (some a2) n cap1 m cap2)]) cc (SameV.pair rfl rfl) hgl ?_ (fun K'=>keepB_sim hs ?_ fun j hj=>bw.block j hj) (by rw[keepB_len]; exact hd) ⟨?_,trivial⟩
    ·exact (hg.2.frame (below_frame bw)).own fun i hi q=>absurd hi (by omega)
    ·intro i L hS hi
     simp only[S,Bool.or_eq_true,beq_iff_eq] at hS
     rcases hS with (rfl | rfl) | rfl
     ·rw[hL0] at hi; cases hi; exact mp0
     ·rw[hL1] at hi; cases hi; exact mp1
     ·rw[hL2] at hi; cases hi; exact mp2
    ·rw[hx2] at hrx
     exact hrx
   by_cases z:(stE f wl l).2=0
   ·have O:=StOk.of z
    have hR:R64 f:=within_R64 O.fork (by decide) (by decide)
    have few:=chkW_few O.w
    have l90:=O.few
    have oW:∀ i,i<wl.length→OkW (atW wl i):=fun i hi=>St_okW O hi
    have oU:∀ i,i<l.length→OkU (atN l i):=fun i hi=>St_okU O hi
    have e1:prVS f wl l=.tuple #[tx (tU f wl l m),i64 0]:=by unfold prVS; rw[if_pos z,hm]
    rw[e1]
    have cell1:∀ i j v0,i<n→j<4→(encW (atW wl i))[j]?=some v0→plainV v0=true→w.cell? ⟨L1.blk,L1.off+i * 4+j,none⟩=some v0:=fun i j v0 hi hj hv hp=>by
     obtain⟨cur,e,fz,c1,c2,c3,c4,c5⟩:=(hs.blk b _ L1 hb hL1).1 mp1
     have g:(cS encW wl)[i * 4+j]?=some v0:=by rw[cW_j (by omega) hj]; exact hv
     obtain⟨v',q1,q2⟩:=c5 _ _ g
     obtain rfl:=q2.plain_inv hp
     simp only[World.cell?,c1]
     rw[Nat.add_assoc]
     exact q1
    have cell2:∀ i j v0,i<m→j<10→(encN (atN l i))[j]?=some v0→plainV v0=true→w.cell? ⟨L2.blk,L2.off+i * 10+j,none⟩=some v0:=fun i j v0 hi hj hv hp=>by
     obtain⟨cur,e,fz,c1,c2,c3,c4,c5⟩:=(hs.blk c _ L2 hc hL2).1 mp2
     have g:(cS encN l)[i * 10+j]?=some v0:=by rw[cN_j (by omega) hj]; exact hv
     obtain⟨v',q1,q2⟩:=c5 _ _ g
     obtain rfl:=q2.plain_inv hp
     simp only[World.cell?,c1]
     rw[Nat.add_assoc]
     exact q1
    refine Go.Proofs.printS_walk w f (some a1) (some a2) n cap1 m cap2 L1.blk L1.off L2.blk L2.off (fun i=>(atW wl i).name) (fun i=>(atW wl i).mass) (fun i=>(atW wl i).str) (fun i=>(atW wl i).stiff)
     (fun i=>(atN l i).two) (fun i=>(atN l i).three) (fun i=>(atN l i).five) (fun i=>(atN l i).den) (fun i=>(atN l i).count) (fun i=>(atN l i).sd.len) (fun i=>(atN l i).sd.core) (fun i=>(atN l i).sd.over) (fun i=>(atN l i).sd.wire) (fun i=>(atN l i).sd.wrap) Lrel (tW f wl) (tU f wl l)
     { ha1:=ha1,ha2:=ha2,hw0:=fun i hi=>cell1 i 0 _ hi (by decide) rfl rfl,hw1:=fun i hi=>cell1 i 1 _ hi (by decide) rfl rfl,hw2:=fun i hi=>cell1 i 2 _ hi (by decide) rfl rfl,hw3:=fun i hi=>cell1 i 3 _ hi (by decide) rfl rfl,hu0:=fun i hi=>cell2 i 0 _ hi (by decide) rfl rfl,hu1:=fun i hi=>cell2 i 1 _ hi (by decide) rfl rfl,hu2:=fun i hi=>cell2 i 2 _ hi (by decide) rfl rfl,hu3:=fun i hi=>cell2 i 3 _ hi (by decide) rfl rfl,hu4:=fun i hi=>cell2 i 4 _ hi (by decide) rfl rfl,hu5:=fun i hi=>cell2 i 5 _ hi (by decide) rfl rfl,hu6:=fun i hi=>cell2 i 6 _ hi (by decide) rfl rfl,hu7:=fun i hi=>cell2 i 7 _ hi (by decide) rfl rfl,hu8:=fun i hi=>cell2 i 8 _ hi (by decide) rfl rfl,hu9:=fun i hi=>cell2 i 9 _ hi (by decide) rfl rfl,hn1:=by omega,hn2:=by omega,haF:=lF_rel hR,haW:=fun i hi=>⟨_,lW_rel (oW i (by omega)),rfl⟩,haB:=by rw[← hn]; rfl,haU:=fun i hi=>⟨_,lU_rel (oU i (by omega)),rfl⟩,hlA:=fun i hi=>by have:=tW_len hR oW i (by omega); omega,hlB:=fun i hi=>by have:=tU_len hR oW oU i (by omega); omega,hc37:=fun w' bw=>by have q:=h37 w' bw; rw[stE_zero z] at q; exact q,hc39:=fun w1 k n' cs T bw hn' hk hL=>line39 hg.1 hg.2 hd bw hn' hk hL }
   ·have e1:prVS f wl l=.tuple #[tx [],i64 (stE f wl l).2]:=by unfold prVS; rw[if_neg z]
    rw[e1]
    exact Go.Proofs.printS_err w f (some a1) (some a2) n cap1 m cap2 _ _ z h37
end B.T.U
end Go.Abs
namespace Go.Abs
namespace B.T.U
theorem E1_ok:ProgOk Go.Proofs.Tryz.prog E1:=⟨E_ok.mix,fun f F h=>by
 replace h:(if f=7 then some efP else E.fn f)=some F:=h
 by_cases q:f=7
 ·subst q
  rw[if_pos rfl] at h
  cases h
  exact .inr ⟨natPrintS,rfl,okPrintS⟩
 ·rw[if_neg q] at h
  exact E_fns _ f F h⟩
end B.T.U
end Go.Abs
