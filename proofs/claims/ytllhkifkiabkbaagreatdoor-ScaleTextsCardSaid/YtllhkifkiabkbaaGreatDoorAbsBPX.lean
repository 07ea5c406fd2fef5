--
import Derived.Test.YtllhkifkiabkbaaGreatDoorAbsBSh
import Derived.Shelf.Strings.BuilderF
import Derived.WalkKit
import Derived.BigCall
import Derived.Lib.Hide
import Derived.StillTailTactics
import Derived.RegionTactic
import Derived.ChangeAlike
import Derived.BigRegion
set_option linter.unusedSimpArgs false
set_option linter.unusedVariables false
namespace Go.Proofs
open Go Go.RowKit Go.Extern.Stop Go.Stop Go.Extern Go.Shelf
theorem Tryz.lays166:Go.Proofs.Lays.n166 Tryz.prog Tryz.lays156_ren:={ Tryz.lays156 with }
theorem Tryz.writeString (B b:Nat) (bs:List Value) (s:ByteArray) (w:World) (h:Lib.IsBuilderF 88 5 B b bs w) (hlen:bs.length+s.size≤140737488355328) (hBw:B≤w.heap.size) :
  Calls Tryz.prog 38 #[.pointer (some ⟨b,0,none⟩),.string s] w fun e w'=>e=.returned (.tuple #[.int .i64 s.size,.nilIface])∧(Lib.BuilderAtF 88 5 B b (.pointer (some ⟨b,0,none⟩)) (bs++Lib.strCells s) w'∧Below B w w'):=Any.Builder_WriteString_f Tryz.lays166 Tryz.Builder_Extra_156 B b bs s w h hlen hBw
theorem Tryz.stringAny (B b:Nat) (l:List UInt8) (w:World) (h:Lib.IsBuilderF 88 5 B b (Lib.byteCells l) w) (hBw:B≤w.heap.size) :
  Calls Tryz.prog 40 #[.pointer (some ⟨b,0,none⟩)] w fun e w'=>e=.returned (.string ⟨l.toArray⟩)∧(Lib.IsBuilderF 88 5 B b (Lib.byteCells l) w'∧Below B w w'):=Any.Builder_String_any_f Tryz.lays169 Tryz.Builder_Extra_169 B b l w h hBw
theorem bF_below {T e:TypeId} {B b:Nat} {bs:List Value} {W W':World} (h:Lib.IsBuilderF T e B b bs W) (hb:Below W.heap.size W W'):Lib.IsBuilderF T e B b bs W':=by
 have one:∀ p,Lib.BuilderAtF T e B b p bs W→Lib.BuilderAtF T e B b p bs W':=by
  rintro p ⟨hB,v,hbk,hown,hne⟩
  refine⟨hB,v,?_,hown.kept (row:=none) ⟨hb.os,hb.tape,hb.output,hb.size,fun k hk _=>hb.block k hk⟩ ?_,hne⟩
  ·rw[hb.block b (Array.getElem?_eq_some_iff.1 hbk).1]; exact hbk
  ·rcases q:v.ownBlock with _ | g
   ·exact .inl rfl
   ·exact .inr (by simp)
 exact h.elim (fun x=>.inl (one _ x)) (fun x=>.inr (one _ x))
theorem below_low {B B':Nat} {w w':World} (b:Below B w w') (h:B'≤B):Below B' w w':=⟨b.os,b.tape,b.output,b.size,fun k hk=>b.block k (Nat.lt_of_lt_of_le hk h)⟩
end Go.Proofs
namespace Go.Proofs
set_option maxHeartbeats 0
open Go Go.RowKit Go.Extern.Stop Go.Stop Go.Extern Go.Shelf
abbrev stC (f:Int) (a1 a2:Option Addr) (n1 c1 n2 c2:Nat):Array Value:=#[.int .i64 f,.slice a1 n1 c1,.slice a2 n2 c2]
theorem printS_err (w:World) (f:Int) (a1 a2:Option Addr) (n1 c1 n2 c2:Nat) (p x:Int) (hx:x≠0)
  (h37:∀ w',Below w.heap.size w w'→Calls Tryz.prog 37 #[.agg (stC f a1 a2 n1 c1 n2 c2)] w' fun e w2=>e=.returned (.tuple #[.int .i64 p,.int .i64 x])∧Below w'.heap.size w' w2) :
  Calls Tryz.prog 7 #[.agg (stC f a1 a2 n1 c1 n2 c2)] w fun e w'=>e=.returned (.tuple #[.string ⟨#[]⟩,.int .i64 x])∧Below w.heap.size w w':=by
 have hb:(x != 0)=true:=by simpa using hx
 have b0:Below w.heap.size w (w.alloc (.cells (stC f a1 a2 n1 c1 n2 c2) 25)):=(Below.refl _ w).alloc (Nat.le_refl _) _
 have H:=h37 _ b0
 unfold stC at *
 go_enter Tryz.func7,Tryz.ntmps7
 go_wp2_with (go_at_call 37; refine H.mono ?_; rintro e w1 ⟨rfl,b1⟩)
 go_wp2
 go_ret2
 exact⟨rfl,b0.trans (below_low b1 b0.size)⟩
structure PrIn (w:World) (f:Int) (a1 a2:Option Addr) (n1 c1 n2 c2:Nat) (b1 o1 b2 o2:Nat) (nm:Nat→ByteArray) (m1 m2 m3:Nat→Int) (q1 q2 q3 q4 q5 q6 q7 q8:Nat→Int) (s1 s2:Nat→ByteArray) (L:Array Value→List UInt8→Prop) (A B:Nat→List UInt8):Prop where
 ha1:0<n1→a1=some ⟨b1,o1,none⟩
 ha2:0<n2→a2=some ⟨b2,o2,none⟩
 hw0:∀ i,i<n1→w.cell? ⟨b1,o1+i * 4,none⟩=some (.string (nm i))
 hw1:∀ i,i<n1→w.cell? ⟨b1,o1+i * 4+1,none⟩=some (.int .i64 (m1 i))
 hw2:∀ i,i<n1→w.cell? ⟨b1,o1+i * 4+2,none⟩=some (.int .i64 (m2 i))
 hw3:∀ i,i<n1→w.cell? ⟨b1,o1+i * 4+3,none⟩=some (.int .i64 (m3 i))
 hu0:∀ i,i<n2→w.cell? ⟨b2,o2+i * 10,none⟩=some (.int .i64 (q1 i))
 hu1:∀ i,i<n2→w.cell? ⟨b2,o2+i * 10+1,none⟩=some (.int .i64 (q2 i))
 hu2:∀ i,i<n2→w.cell? ⟨b2,o2+i * 10+2,none⟩=some (.int .i64 (q3 i))
 hu3:∀ i,i<n2→w.cell? ⟨b2,o2+i * 10+3,none⟩=some (.int .i64 (q4 i))
 hu4:∀ i,i<n2→w.cell? ⟨b2,o2+i * 10+4,none⟩=some (.int .i64 (q5 i))
 hu5:∀ i,i<n2→w.cell? ⟨b2,o2+i * 10+5,none⟩=some (.int .i64 (q6 i))
 hu6:∀ i,i<n2→w.cell? ⟨b2,o2+i * 10+6,none⟩=some (.int .i64 (q7 i))
 hu7:∀ i,i<n2→w.cell? ⟨b2,o2+i * 10+7,none⟩=some (.int .i64 (q8 i))
 hu8:∀ i,i<n2→w.cell? ⟨b2,o2+i * 10+8,none⟩=some (.string (s1 i))
 hu9:∀ i,i<n2→w.cell? ⟨b2,o2+i * 10+9,none⟩=some (.string (s2 i))
 hn1:n1≤1000000
 hn2:n2≤1000000
 haF:L #[.iface 9 (.string ⟨#[102,111,114,107]⟩),.iface 3 (.int .i64 f)] (A 0)
 haW:∀ i,i<n1→∃ T,L #[.iface 9 (.string ⟨#[119,105,114,101]⟩),.iface 9 (.string (nm i)),.iface 3 (.int .i64 (m1 i)),.iface 3 (.int .i64 (m2 i)),.iface 3 (.int .i64 (m3 i))] T∧A (i+1)=A i++T
 haB:B 0=A n1
 haU:∀ i,i<n2→∃ T,L #[.iface 9 (.string ⟨#[117,110,105,115,111,110]⟩),.iface 3 (.int .i64 (q1 i)),.iface 3 (.int .i64 (q2 i)),.iface 3 (.int .i64 (q3 i)),.iface 3 (.int .i64 (q4 i)),.iface 3 (.int .i64 (q5 i)),.iface 3 (.int .i64 (q6 i)),.iface 3 (.int .i64 (q7 i)),.iface 3 (.int .i64 (q8 i)),.iface 9 (.string (s1 i)),.iface 9 (.string (if (s2 i)=⟨#[]⟩ then ⟨#[45]⟩ else s2 i))] T∧B (i+1)=B i++T
 hlA:∀ i,i≤n1→(A i).length≤100000000
 hlB:∀ i,i≤n2→(B i).length≤100000000
 hc37:∀ w',Below w.heap.size w w'→Calls Tryz.prog 37 #[.agg (stC f a1 a2 n1 c1 n2 c2)] w' fun e w2=>e=.returned (.tuple #[.int .i64 0,.int .i64 0])∧Below w'.heap.size w' w2
 hc39:∀ (w1:World) (k n:Nat) (cs:Array Value) (T:List UInt8),Below w.heap.size w w1→n=cs.size→w1.heap[k]?=some (.cells cs 20 (0,0))→L cs T→Calls Tryz.prog 39 #[.slice (some ⟨k,0,none⟩) n n] w1 fun e w'=>e=.returned (.string ⟨T.toArray⟩)∧Below w1.heap.size w1 w'
abbrev bldO:Obj:=.cells #[.pointer none,.slice none 0 0] 88
abbrev frkO (f:Int):Obj:=.cells #[.iface 9 (.string ⟨#[102,111,114,107]⟩),.iface 3 (.int .i64 f)] 20
theorem ck_prep {w wa:World} {f:Int} {a1 a2:Option Addr} {n1 c1 n2 c2:Nat} (b0:Below w.heap.size w (w.alloc (.cells (stC f a1 a2 n1 c1 n2 c2) 25))) (ba:Below (w.alloc (.cells (stC f a1 a2 n1 c1 n2 c2) 25)).heap.size (w.alloc (.cells (stC f a1 a2 n1 c1 n2 c2) 25)) wa) :
  (wa.alloc bldO).cell? ⟨w.heap.size,0,none⟩=some (.int .i64 f)∧wa.heap[w.heap.size]?=some (.cells (stC f a1 a2 n1 c1 n2 c2) 25)∧Below w.heap.size w wa∧Below wa.heap.size wa ((wa.alloc bldO).alloc (frkO f)) ∧
   ((wa.alloc bldO).alloc (frkO f)).heap[wa.heap.size+1]?=some (frkO f)∧Lib.IsBuilderF 88 5 wa.heap.size wa.heap.size (Lib.byteCells []) ((wa.alloc bldO).alloc (frkO f)):=by
 have bx0:(w.alloc (.cells (stC f a1 a2 n1 c1 n2 c2) 25)).heap[w.heap.size]?=some (.cells (stC f a1 a2 n1 c1 n2 c2) 25):=heap_alloc_new _ _
 have sz0:(w.alloc (.cells (stC f a1 a2 n1 c1 n2 c2) 25)).heap.size=w.heap.size+1:=Array.size_push ..
 have bx:wa.heap[w.heap.size]?=some (.cells (stC f a1 a2 n1 c1 n2 c2) 25):=by
  rw[ba.block _ (by rw[sz0]; omega)]; exact bx0
 have h0:Lib.IsBuilderF 88 5 wa.heap.size wa.heap.size (Lib.byteCells []) (wa.alloc bldO):=Lib.IsBuilderF.of (Lib.fresh_isBuilder 88 5 wa)
 have bB:Below wa.heap.size wa (wa.alloc bldO):=(Below.refl _ wa).alloc (Nat.le_refl _) _
 have e0:wa.cell? ⟨w.heap.size,0,none⟩=some (.int .i64 f):=by simp[World.cell?,bx]
 have lt0:w.heap.size<wa.heap.size:=(Array.getElem?_eq_some_iff.1 bx).1
 refine⟨(bB.cell lt0).trans e0,bx,b0.trans (below_low ba b0.size),bB.alloc (by simp) _,?_,bF_below h0 ((Below.refl _ (wa.alloc bldO)).alloc (Nat.le_refl _) _)⟩
 rw[show wa.heap.size+1=(wa.alloc bldO).heap.size from (Array.size_push ..).symm]; exact heap_alloc_new _ _
theorem box_keep {w wa wc:World} {f:Int} {a1 a2:Option Addr} {n1 c1 n2 c2:Nat} (bx:wa.heap[w.heap.size]?=some (.cells (stC f a1 a2 n1 c1 n2 c2) 25)) (b:Below wa.heap.size wa wc) :
  wc.cell? ⟨w.heap.size,1,none⟩=some (.slice a1 n1 c1)∧wc.cell? ⟨w.heap.size,2,none⟩=some (.slice a2 n2 c2):=by
 have bx':wc.heap[w.heap.size]?=some (.cells (stC f a1 a2 n1 c1 n2 c2) 25):=by rw[b.block _ (Array.getElem?_eq_some_iff.1 bx).1]; exact bx
 exact⟨by simp[World.cell?,bx'],by simp[World.cell?,bx']⟩
abbrev wirO (nm:ByteArray) (m1 m2 m3:Int):Obj:=.cells #[.string nm,.int .i64 m1,.int .i64 m2,.int .i64 m3] 95
abbrev lwO (nm:ByteArray) (m1 m2 m3:Int):Obj:=.cells #[.iface 9 (.string ⟨#[119,105,114,101]⟩),.iface 9 (.string nm),.iface 3 (.int .i64 m1),.iface 3 (.int .i64 m2),.iface 3 (.int .i64 m3)] 20
theorem two_prep {wa wr:World} {bs:List Value} {X Y:Obj} (hI:Lib.IsBuilderF 88 5 wa.heap.size wa.heap.size bs wr) (hn:Below wa.heap.size wa wr) :
  Below wa.heap.size wa ((wr.alloc X).alloc Y)∧((wr.alloc X).alloc Y).heap[wr.heap.size+1]?=some Y∧Lib.IsBuilderF 88 5 wa.heap.size wa.heap.size bs ((wr.alloc X).alloc Y):=by
 have hs:=hn.size
 refine⟨(hn.alloc hs _).alloc (by simp; omega) _,?_,bF_below hI (((Below.refl wr.heap.size wr).alloc (Nat.le_refl _) X).alloc (by simp) Y)⟩
 rw[show wr.heap.size+1=(wr.alloc X).heap.size from (Array.size_push ..).symm]; exact heap_alloc_new _ _
theorem cell_keep {w wa wr:World} {p:Addr} {v:Value} (h:w.cell? p=some v) (b1:Below w.heap.size w wa) (b2:Below wa.heap.size wa wr):wr.cell? p=some v:=by
 have l1:=World.block_lt_of_cell? _ _ h
 exact (b2.cell (p:=p) (Nat.lt_of_lt_of_le l1 b1.size)).trans ((b1.cell (p:=p) l1).trans h)
abbrev pitO (q1 q2 q3 q4:Int):Obj:=.cells #[.int .i64 q1,.int .i64 q2,.int .i64 q3,.int .i64 q4] 80
abbrev strO (q6 q7 q8:Int) (s1 s2:ByteArray):Obj:=.cells #[.int .i64 q6,.int .i64 q7,.int .i64 q8,.string s1,.string s2] 70
abbrev luO (q1 q2 q3 q4 q5 q6 q7 q8:Int) (s1 s2:ByteArray):Obj:=.cells #[.iface 9 (.string ⟨#[117,110,105,115,111,110]⟩),.iface 3 (.int .i64 q1),.iface 3 (.int .i64 q2),.iface 3 (.int .i64 q3),.iface 3 (.int .i64 q4),.iface 3 (.int .i64 q5),.iface 3 (.int .i64 q6),.iface 3 (.int .i64 q7),.iface 3 (.int .i64 q8),.iface 9 (.string s1),.iface 9 (.string s2)] 20
theorem ba_ne {s:ByteArray} (h:¬ s=⟨#[]⟩):s.toList.isEmpty=false:=by
 rcases s with ⟨⟨l⟩⟩
 have:(ByteArray.mk ⟨l⟩).toList=l:=by rw[ByteArray.toList_eq]
 rw[this]
 rcases l with _ | ⟨x,r⟩
 ·exact absurd rfl h
 ·rfl
theorem below_drew {B:Nat} {w w':World} (b:Below B w w'):Below B w w'.drew:=⟨b.os,b.tape,b.output,b.size,b.block⟩
theorem drew_cell (w:World) (p:Addr):w.drew.cell? p=w.cell? p:=rfl
theorem reg_prep {wa W:World} {bs:List Value} {C D:Array Value} {tc td:TypeId} (hI:Lib.IsBuilderF 88 5 wa.heap.size wa.heap.size bs W) (hn:Below wa.heap.size wa W) {n j:Nat} {v:Value} (hv:W.cell? ⟨n,j,none⟩=some v) :
  Below wa.heap.size wa ((W.alloc (.cells C tc)).alloc (.cells D td)).drew∧Lib.IsBuilderF 88 5 wa.heap.size wa.heap.size bs ((W.alloc (.cells C tc)).alloc (.cells D td)).drew ∧
   (∀ i,((W.alloc (.cells C tc)).alloc (.cells D td)).drew.cell? ⟨W.heap.size,i,none⟩=C[i]?)∧(∀ i,((W.alloc (.cells C tc)).alloc (.cells D td)).drew.cell? ⟨W.heap.size+1,i,none⟩=D[i]?) ∧
   ((W.alloc (.cells C tc)).alloc (.cells D td)).drew.cell? ⟨n,j,none⟩=some v:=by
 have hs:=hn.size
 have lt:=World.block_lt_of_cell? _ _ hv
 have e1:(W.alloc (.cells C tc)).heap.size=W.heap.size+1:=Array.size_push ..
 refine⟨below_drew ((hn.alloc hs _).alloc (by rw[e1]; omega) _),bF_below hI (below_drew (((Below.refl W.heap.size W).alloc (Nat.le_refl _) _).alloc (by rw[e1]; omega) _)),fun i=>?_,fun i=>?_,?_⟩
 ·rw[drew_cell,World.cell?_alloc_lt _ _ _ (by rw[e1]; show W.heap.size<W.heap.size+1; omega),World.cell?_alloc_new]
 ·rw[drew_cell,← e1,World.cell?_alloc_new]
 ·rw[drew_cell,World.cell?_alloc_lt _ _ _ (by rw[e1]; exact Nat.lt_succ_of_lt lt),World.cell?_alloc_lt _ _ _ lt]; exact hv
theorem one_prep {wa wr:World} {bs:List Value} {Y:Obj} (hI:Lib.IsBuilderF 88 5 wa.heap.size wa.heap.size bs wr) (hn:Below wa.heap.size wa wr) :
  Below wa.heap.size wa (wr.alloc Y)∧(wr.alloc Y).heap[wr.heap.size]?=some Y∧Lib.IsBuilderF 88 5 wa.heap.size wa.heap.size bs (wr.alloc Y) :=
 ⟨hn.alloc hn.size _,heap_alloc_new _ _,bF_below hI ((Below.refl wr.heap.size wr).alloc (Nat.le_refl _) _)⟩
theorem printS_walk (w:World) (f:Int) (a1 a2:Option Addr) (n1 c1 n2 c2 b1 o1 b2 o2:Nat) (nm:Nat→ByteArray) (m1 m2 m3 q1 q2 q3 q4 q5 q6 q7 q8:Nat→Int) (s1 s2:Nat→ByteArray) (L:Array Value→List UInt8→Prop) (A B:Nat→List UInt8)
  (I:PrIn w f a1 a2 n1 c1 n2 c2 b1 o1 b2 o2 nm m1 m2 m3 q1 q2 q3 q4 q5 q6 q7 q8 s1 s2 L A B) :
  Calls Tryz.prog 7 #[.agg (stC f a1 a2 n1 c1 n2 c2)] w fun e w'=>e=.returned (.tuple #[.string ⟨(B n2).toArray⟩,.int .i64 0])∧Below w.heap.size w w':=by
 have b0:Below w.heap.size w (w.alloc (.cells (stC f a1 a2 n1 c1 n2 c2) 25)):=(Below.refl _ w).alloc (Nat.le_refl _) _
 have H:=I.hc37 _ b0
 have hn1:=I.hn1
 have hn2:=I.hn2
 have HI:=Lib.hid I
 clear I
 unfold stC at *
 go_enter Tryz.func7,Tryz.ntmps7
 go_wp2_with (go_at_call 37; refine H.mono ?_; rintro e wa ⟨rfl,ba⟩; obtain⟨e0',bx,bA,bC,hk,IB⟩:=ck_prep b0 ba)
 have C0:=HI.out.hc39 _ (wa.heap.size+1) 2 _ _ (bA.trans (below_low bC bA.size)) rfl hk HI.out.haF
 go_wp2_with (go_at_call 39; refine C0.mono ?_; rintro e wb ⟨rfl,bb⟩)
 have IB2:=bF_below IB bb
 have bD:=bC.trans (below_low bb bC.size)
 have W0:=Tryz.writeString wa.heap.size wa.heap.size _ ⟨(A 0).toArray⟩ wb IB2 (by rw[Lib.byteCells_length]; have:=HI.out.hlA 0 (Nat.zero_le _); show 0+(A 0).length≤_; omega) bD.size
 clear C0 IB IB2 hk bC bb
 have n64:¬ 9223372036854775807<(A 0).length:=by have:=HI.out.hlA 0 (Nat.zero_le _); omega
 go_wp2_with (go_at_call 38; go_loud (refine W0.mono ?_; rintro e wc ⟨rfl,b3,b4⟩; obtain⟨e1,e2⟩:=box_keep bx (bD.trans b4)))
 have R0:Lib.IsBuilderF 88 5 wa.heap.size wa.heap.size (Lib.byteCells (A 0)) wc:=by
  have:Lib.strCells ⟨(A 0).toArray⟩=Lib.byteCells (A 0):=by rw[Lib.strCells_eq]
  rw[this] at b3
  exact .inr b3
 have bE:Below wa.heap.size wa wc:=bD.trans b4
 clear b3 b4 bD W0 n64
 go_loopw [32] (fun iv wr=>∃ k:Nat,iv=.int .i64 k∧k≤n1∧Lib.IsBuilderF 88 5 wa.heap.size wa.heap.size (Lib.byteCells (A k)) wr∧Below wa.heap.size wa wr) (fun iv _=>n1-(intOf iv).toNat)
 case atStart=>exact⟨0,rfl,Nat.zero_le _,R0,bE⟩
 case round =>
  obtain⟨k,rfl,hk,hI,hnx⟩:=hrel
  by_cases hlt:k<n1
  ·have hlt':(k:Int)<n1:=by omega
   have hlt0:0≤(k:Int)∧(k:Int)<n1:=by omega
   have ha:=HI.out.ha1 (by omega)
   subst ha
   have c0:=cell_keep (HI.out.hw0 k hlt) bA hnx
   have c1':=cell_keep (HI.out.hw1 k hlt) bA hnx
   have c2':=cell_keep (HI.out.hw2 k hlt) bA hnx
   have c3':=cell_keep (HI.out.hw3 k hlt) bA hnx
   obtain⟨T,hL,hT⟩:=HI.out.haW k hlt
   have lT:=HI.out.hlA (k+1) hlt
   rw[hT,List.length_append] at lT
   obtain⟨B2,hcell,I2⟩:=two_prep (X:=wirO (nm k) (m1 k) (m2 k) (m3 k)) (Y:=lwO (nm k) (m1 k) (m2 k) (m3 k)) hI hnx
   have C9:=HI.out.hc39 _ (wr.heap.size+1) 5 _ _ (bA.trans (below_low B2 bA.size)) rfl hcell hL
   have nb:¬ 9223372036854775807<T.length:=by omega
   clear e0'
   go_wp2_with (go_at_call 39; refine C9.mono ?_; rintro e w2 ⟨rfl,b2⟩)
   have hsz2:=B2.size
   have hsz3:=b2.size
   have I3:=bF_below I2 b2
   have B3:=B2.trans (below_low b2 hsz2)
   have z1:(⟨T.toArray⟩:ByteArray).size=T.length:=rfl
   have sc:Lib.strCells (⟨T.toArray⟩:ByteArray)=Lib.byteCells T:=by rw[Lib.strCells_eq]
   have W9:=Tryz.writeString wa.heap.size wa.heap.size _ ⟨T.toArray⟩ w2 I3 (by rw[Lib.byteCells_length,z1]; omega) (Nat.le_trans B2.size hsz3)
   rw[sc,← Lib.byteCells_append,← hT] at W9
   have S9:=Lib.hid sc
   clear sc C9 I2 I3 z1
   go_wp2_with (go_at_call 38; go_loud (refine W9.mono ?_; rintro e w3 ⟨rfl,b3,b4⟩))
   have R3:Below wa.heap.size wa w3:=B3.trans b4
   have R4:Lib.IsBuilderF 88 5 wa.heap.size wa.heap.size (Lib.byteCells (A (k+1))) w3:=.inr b3
   clear b3 b4 B3 B2 b2 S9 W9
   go_wp2_with fail
   exact⟨⟨k+1,rfl,hlt,R4,R3⟩,by simp[intOf]; omega⟩
  ·have hlt':¬ (k:Int)<n1:=by omega
   obtain rfl:k=n1:=by omega
   clear e1 e2
   obtain⟨e1,e2⟩:=box_keep bx hnx
   have hB0:=HI.out.haB
   rw[← hB0] at hI
   go_wp2
   clear R0 bE e0' e1 e2 hk hlt hlt'
   go_loopw [56] (fun iv wr=>∃ k:Nat,iv=.int .i64 k∧k≤n2∧Lib.IsBuilderF 88 5 wa.heap.size wa.heap.size (Lib.byteCells (B k)) wr∧Below wa.heap.size wa wr) (fun iv _=>n2-(intOf iv).toNat)
   case atStart=>exact⟨0,rfl,Nat.zero_le _,hI,hnx⟩
   case round =>
    clear hI hnx
    obtain⟨k,rfl,hk,hI,hnx⟩:=hrel
    by_cases hlt:k<n2
    ·have hlt':(k:Int)<n2:=by omega
     have hlt0:0≤(k:Int)∧(k:Int)<n2:=by omega
     have ha:=HI.out.ha2 (by omega)
     subst ha
     have d0:=cell_keep (HI.out.hu0 k hlt) bA hnx
     have d1:=cell_keep (HI.out.hu1 k hlt) bA hnx
     have d2:=cell_keep (HI.out.hu2 k hlt) bA hnx
     have d3:=cell_keep (HI.out.hu3 k hlt) bA hnx
     have d4:=cell_keep (HI.out.hu4 k hlt) bA hnx
     have d5:=cell_keep (HI.out.hu5 k hlt) bA hnx
     have d6:=cell_keep (HI.out.hu6 k hlt) bA hnx
     have d7:=cell_keep (HI.out.hu7 k hlt) bA hnx
     have d8:=cell_keep (HI.out.hu8 k hlt) bA hnx
     have d9:=cell_keep (HI.out.hu9 k hlt) bA hnx
     go_wp2
     obtain⟨W,hW⟩:∃ W,W=wr.alloc (.cells #[.int .i64 (q1 k),.int .i64 (q2 k),.int .i64 (q3 k),.int .i64 (q4 k),.int .i64 (q5 k),.int .i64 (q6 k),.int .i64 (q7 k),.int .i64 (q8 k),.string (s1 k),.string (s2 k)] 82):=⟨_,rfl⟩
     rw[← hW]
     have wb:W.heap[wr.heap.size]?=some (.cells #[.int .i64 (q1 k),.int .i64 (q2 k),.int .i64 (q3 k),.int .i64 (q4 k),.int .i64 (q5 k),.int .i64 (q6 k),.int .i64 (q7 k),.int .i64 (q8 k),.string (s1 k),.string (s2 k)] 82):=by rw[hW]; exact heap_alloc_new _ _
     have wB:Below wa.heap.size wa W:=by rw[hW]; exact hnx.alloc hnx.size _
     have wI:Lib.IsBuilderF 88 5 wa.heap.size wa.heap.size (Lib.byteCells (B k)) W:=by rw[hW]; exact bF_below hI ((Below.refl _ wr).alloc (Nat.le_refl _) _)
     have wz:W.heap.size=wr.heap.size+1:=by rw[hW]; exact Array.size_push ..
     have v0:W.cell? ⟨wr.heap.size,0,none⟩=some (.int .i64 (q1 k)):=by simp[World.cell?,wb]
     have v1:W.cell? ⟨wr.heap.size,1,none⟩=some (.int .i64 (q2 k)):=by simp[World.cell?,wb]
     have v2:W.cell? ⟨wr.heap.size,2,none⟩=some (.int .i64 (q3 k)):=by simp[World.cell?,wb]
     have v3:W.cell? ⟨wr.heap.size,3,none⟩=some (.int .i64 (q4 k)):=by simp[World.cell?,wb]
     have v4:W.cell? ⟨wr.heap.size,4,none⟩=some (.int .i64 (q5 k)):=by simp[World.cell?,wb]
     have v5:W.cell? ⟨wr.heap.size,5,none⟩=some (.int .i64 (q6 k)):=by simp[World.cell?,wb]
     have v6:W.cell? ⟨wr.heap.size,6,none⟩=some (.int .i64 (q7 k)):=by simp[World.cell?,wb]
     have v7:W.cell? ⟨wr.heap.size,7,none⟩=some (.int .i64 (q8 k)):=by simp[World.cell?,wb]
     have v8:W.cell? ⟨wr.heap.size,8,none⟩=some (.string (s1 k)):=by simp[World.cell?,wb]
     have v9:W.cell? ⟨wr.heap.size,9,none⟩=some (.string (s2 k)):=by simp[World.cell?,wb]
     clear hW hI hnx d0 d1 d2 d3 d4 d5 d6 d7 d8 d9
     go_region
     ·obtain⟨zB,zI,yp,yx,z4⟩:=reg_prep (C:=#[.int .i64 (q1 k),.int .i64 (q2 k),.int .i64 (q3 k),.int .i64 (q4 k)]) (D:=#[.int .i64 (q6 k),.int .i64 (q7 k),.int .i64 (q8 k),.string (s1 k),.string (s2 k)]) (tc:=80) (td:=70) wI wB v4
      obtain⟨Z,hZ⟩:∃ Z,Z=((W.alloc (pitO (q1 k) (q2 k) (q3 k) (q4 k))).alloc (strO (q6 k) (q7 k) (q8 k) (s1 k) (s2 k))).drew:=⟨_,rfl⟩
      rw[← hZ]
      unfold pitO strO at hZ
      rw[← hZ] at zB zI yp yx z4
      rw[wz] at yp yx
      have p0:Z.cell? ⟨wr.heap.size+1,0,none⟩=some (.int .i64 (q1 k)):=yp 0
      have p1:Z.cell? ⟨wr.heap.size+1,1,none⟩=some (.int .i64 (q2 k)):=yp 1
      have p2:Z.cell? ⟨wr.heap.size+1,2,none⟩=some (.int .i64 (q3 k)):=yp 2
      have p3:Z.cell? ⟨wr.heap.size+1,3,none⟩=some (.int .i64 (q4 k)):=yp 3
      have x0:Z.cell? ⟨wr.heap.size+1+1,0,none⟩=some (.int .i64 (q6 k)):=yx 0
      have x1:Z.cell? ⟨wr.heap.size+1+1,1,none⟩=some (.int .i64 (q7 k)):=yx 1
      have x2:Z.cell? ⟨wr.heap.size+1+1,2,none⟩=some (.int .i64 (q8 k)):=yx 2
      have x3:Z.cell? ⟨wr.heap.size+1+1,3,none⟩=some (.string (s1 k)):=yx 3
      clear hZ yp yx v0 v1 v2 v3 v4 v5 v6 v7 v8 v9 wI wB wb wz
      obtain⟨T,hL,hT⟩:=HI.out.haU k hlt
      have lT:=HI.out.hlB (k+1) hlt
      rw[hT,List.length_append] at lT
      by_cases e2:s2 k=⟨#[]⟩
      ·have e2b:(s2 k == ⟨#[]⟩)=true:=by rw[e2]; rfl
       rw[if_pos e2] at hL
       obtain⟨B2,hcell,I2⟩:=one_prep (Y:=luO (q1 k) (q2 k) (q3 k) (q4 k) (q5 k) (q6 k) (q7 k) (q8 k) (s1 k) ⟨#[45]⟩) zI zB
       have C9:=HI.out.hc39 _ Z.heap.size 11 _ _ (bA.trans (below_low B2 bA.size)) rfl hcell hL
       have nb:¬ 9223372036854775807<T.length:=by omega
       go_wp2_with (go_at_call 39; refine C9.mono ?_; rintro e w2 ⟨rfl,b2⟩)
       have hsz2:=B2.size
       have hsz3:=b2.size
       have I3:=bF_below I2 b2
       have B3:=B2.trans (below_low b2 hsz2)
       have z1:(⟨T.toArray⟩:ByteArray).size=T.length:=rfl
       have sc:Lib.strCells (⟨T.toArray⟩:ByteArray)=Lib.byteCells T:=by rw[Lib.strCells_eq]
       have W9:=Tryz.writeString wa.heap.size wa.heap.size _ ⟨T.toArray⟩ w2 I3 (by rw[Lib.byteCells_length,z1]; omega) (Nat.le_trans B2.size hsz3)
       rw[sc,← Lib.byteCells_append,← hT] at W9
       have S9:=Lib.hid sc
       clear sc C9 I2 I3 z1
       go_wp2_with (go_at_call 38; go_loud (refine W9.mono ?_; rintro e w3 ⟨rfl,b3,b4⟩))
       have R3:Below wa.heap.size wa w3:=B3.trans b4
       have R4:Lib.IsBuilderF 88 5 wa.heap.size wa.heap.size (Lib.byteCells (B (k+1))) w3:=.inr b3
       clear b3 b4 B3 B2 b2 S9 W9
       go_wp2_with fail
       exact⟨⟨k+1,rfl,hlt,R4,R3⟩,by simp[intOf]; omega⟩
      ·have e2b:=ba_ne e2
       rw[if_neg e2] at hL
       obtain⟨B2,hcell,I2⟩:=one_prep (Y:=luO (q1 k) (q2 k) (q3 k) (q4 k) (q5 k) (q6 k) (q7 k) (q8 k) (s1 k) (s2 k)) zI zB
       have C9:=HI.out.hc39 _ Z.heap.size 11 _ _ (bA.trans (below_low B2 bA.size)) rfl hcell hL
       have nb:¬ 9223372036854775807<T.length:=by omega
       go_wp2_with (go_at_call 39; refine C9.mono ?_; rintro e w2 ⟨rfl,b2⟩)
       have hsz2:=B2.size
       have hsz3:=b2.size
       have I3:=bF_below I2 b2
       have B3:=B2.trans (below_low b2 hsz2)
       have z1:(⟨T.toArray⟩:ByteArray).size=T.length:=rfl
       have sc:Lib.strCells (⟨T.toArray⟩:ByteArray)=Lib.byteCells T:=by rw[Lib.strCells_eq]
       have W9:=Tryz.writeString wa.heap.size wa.heap.size _ ⟨T.toArray⟩ w2 I3 (by rw[Lib.byteCells_length,z1]; omega) (Nat.le_trans B2.size hsz3)
       rw[sc,← Lib.byteCells_append,← hT] at W9
       have S9:=Lib.hid sc
       clear sc C9 I2 I3 z1
       go_wp2_with (go_at_call 38; go_loud (refine W9.mono ?_; rintro e w3 ⟨rfl,b3,b4⟩))
       have R3:Below wa.heap.size wa w3:=B3.trans b4
       have R4:Lib.IsBuilderF 88 5 wa.heap.size wa.heap.size (Lib.byteCells (B (k+1))) w3:=.inr b3
       clear b3 b4 B3 B2 b2 S9 W9
       go_wp2_with fail
       exact⟨⟨k+1,rfl,hlt,R4,R3⟩,by simp[intOf]; omega⟩
     ·obtain⟨zB,zI,yx,yp,z4⟩:=reg_prep (C:=#[.int .i64 (q6 k),.int .i64 (q7 k),.int .i64 (q8 k),.string (s1 k),.string (s2 k)]) (D:=#[.int .i64 (q1 k),.int .i64 (q2 k),.int .i64 (q3 k),.int .i64 (q4 k)]) (tc:=70) (td:=80) wI wB v4
      obtain⟨Z,hZ⟩:∃ Z,Z=((W.alloc (strO (q6 k) (q7 k) (q8 k) (s1 k) (s2 k))).alloc (pitO (q1 k) (q2 k) (q3 k) (q4 k))).drew:=⟨_,rfl⟩
      rw[← hZ]
      unfold pitO strO at hZ
      rw[← hZ] at zB zI yp yx z4
      rw[wz] at yp yx
      have p0:Z.cell? ⟨wr.heap.size+1+1,0,none⟩=some (.int .i64 (q1 k)):=yp 0
      have p1:Z.cell? ⟨wr.heap.size+1+1,1,none⟩=some (.int .i64 (q2 k)):=yp 1
      have p2:Z.cell? ⟨wr.heap.size+1+1,2,none⟩=some (.int .i64 (q3 k)):=yp 2
      have p3:Z.cell? ⟨wr.heap.size+1+1,3,none⟩=some (.int .i64 (q4 k)):=yp 3
      have x0:Z.cell? ⟨wr.heap.size+1,0,none⟩=some (.int .i64 (q6 k)):=yx 0
      have x1:Z.cell? ⟨wr.heap.size+1,1,none⟩=some (.int .i64 (q7 k)):=yx 1
      have x2:Z.cell? ⟨wr.heap.size+1,2,none⟩=some (.int .i64 (q8 k)):=yx 2
      have x3:Z.cell? ⟨wr.heap.size+1,3,none⟩=some (.string (s1 k)):=yx 3
      clear hZ yp yx v0 v1 v2 v3 v4 v5 v6 v7 v8 v9 wI wB wb wz
      obtain⟨T,hL,hT⟩:=HI.out.haU k hlt
      have lT:=HI.out.hlB (k+1) hlt
      rw[hT,List.length_append] at lT
      by_cases e2:s2 k=⟨#[]⟩
      ·have e2b:(s2 k == ⟨#[]⟩)=true:=by rw[e2]; rfl
       rw[if_pos e2] at hL
       obtain⟨B2,hcell,I2⟩:=one_prep (Y:=luO (q1 k) (q2 k) (q3 k) (q4 k) (q5 k) (q6 k) (q7 k) (q8 k) (s1 k) ⟨#[45]⟩) zI zB
       have C9:=HI.out.hc39 _ Z.heap.size 11 _ _ (bA.trans (below_low B2 bA.size)) rfl hcell hL
       have nb:¬ 9223372036854775807<T.length:=by omega
       go_wp2_with (go_at_call 39; refine C9.mono ?_; rintro e w2 ⟨rfl,b2⟩)
       have hsz2:=B2.size
       have hsz3:=b2.size
       have I3:=bF_below I2 b2
       have B3:=B2.trans (below_low b2 hsz2)
       have z1:(⟨T.toArray⟩:ByteArray).size=T.length:=rfl
       have sc:Lib.strCells (⟨T.toArray⟩:ByteArray)=Lib.byteCells T:=by rw[Lib.strCells_eq]
       have W9:=Tryz.writeString wa.heap.size wa.heap.size _ ⟨T.toArray⟩ w2 I3 (by rw[Lib.byteCells_length,z1]; omega) (Nat.le_trans B2.size hsz3)
       rw[sc,← Lib.byteCells_append,← hT] at W9
       have S9:=Lib.hid sc
       clear sc C9 I2 I3 z1
       go_wp2_with (go_at_call 38; go_loud (refine W9.mono ?_; rintro e w3 ⟨rfl,b3,b4⟩))
       have R3:Below wa.heap.size wa w3:=B3.trans b4
       have R4:Lib.IsBuilderF 88 5 wa.heap.size wa.heap.size (Lib.byteCells (B (k+1))) w3:=.inr b3
       clear b3 b4 B3 B2 b2 S9 W9
       go_wp2_with fail
       exact⟨⟨k+1,rfl,hlt,R4,R3⟩,by simp[intOf]; omega⟩
      ·have e2b:=ba_ne e2
       rw[if_neg e2] at hL
       obtain⟨B2,hcell,I2⟩:=one_prep (Y:=luO (q1 k) (q2 k) (q3 k) (q4 k) (q5 k) (q6 k) (q7 k) (q8 k) (s1 k) (s2 k)) zI zB
       have C9:=HI.out.hc39 _ Z.heap.size 11 _ _ (bA.trans (below_low B2 bA.size)) rfl hcell hL
       have nb:¬ 9223372036854775807<T.length:=by omega
       go_wp2_with (go_at_call 39; refine C9.mono ?_; rintro e w2 ⟨rfl,b2⟩)
       have hsz2:=B2.size
       have hsz3:=b2.size
       have I3:=bF_below I2 b2
       have B3:=B2.trans (below_low b2 hsz2)
       have z1:(⟨T.toArray⟩:ByteArray).size=T.length:=rfl
       have sc:Lib.strCells (⟨T.toArray⟩:ByteArray)=Lib.byteCells T:=by rw[Lib.strCells_eq]
       have W9:=Tryz.writeString wa.heap.size wa.heap.size _ ⟨T.toArray⟩ w2 I3 (by rw[Lib.byteCells_length,z1]; omega) (Nat.le_trans B2.size hsz3)
       rw[sc,← Lib.byteCells_append,← hT] at W9
       have S9:=Lib.hid sc
       clear sc C9 I2 I3 z1
       go_wp2_with (go_at_call 38; go_loud (refine W9.mono ?_; rintro e w3 ⟨rfl,b3,b4⟩))
       have R3:Below wa.heap.size wa w3:=B3.trans b4
       have R4:Lib.IsBuilderF 88 5 wa.heap.size wa.heap.size (Lib.byteCells (B (k+1))) w3:=.inr b3
       clear b3 b4 B3 B2 b2 S9 W9
       go_wp2_with fail
       exact⟨⟨k+1,rfl,hlt,R4,R3⟩,by simp[intOf]; omega⟩
    ·have hlt':¬ (k:Int)<n2:=by omega
     obtain rfl:k=n2:=by omega
     go_wp2_with (go_at_call 40; refine (Tryz.stringAny _ _ _ _ hI hnx.size).mono ?_; rintro e w3 ⟨rfl,_,b3⟩)
     go_ret2
     exact⟨rfl,bA.trans (below_low (hnx.trans b3) bA.size)⟩
end Go.Proofs
