--
import Derived.Test.YtllhkifkiabkbaaGreatDoorAbsNatM
import Derived.Test.YtllhkifkiabkbaaGreatDoorAbsRowM
set_option linter.unusedSimpArgs false
set_option linter.unusedVariables false
namespace Go.Abs
open Go.ChangeShapes Go.WideShapes Go.RowKit
variable {P:Program}
def SameV (v:Value):Prop:=∀ (ρ:Ren) v',VRel ρ v v'→v'=v
theorem SameV.plain {v:Value} (h:plainV v=true):SameV v:=fun _ _ r=>r.plain_inv h
theorem SameV.pair {a b:Value} (ha:plainV a=true) (hb:plainV b=true):SameV (.tuple #[a,b]):=fun ρ v' r=>by
 obtain⟨ys,rfl,l⟩:=r.tuple_inv
 have:=LRel.plain_same (xs:=[a,b]) (by simp[ha,hb]) l
 obtain⟨ys⟩:=ys
 simp at this
 subst this; rfl
theorem e0_call {E:EProg} (hE:ProgOk P E) {d:Nat} {f:FuncId} {vs:List Value} {h:Heap} {v:Value} (hc:E.call d h.length f vs h=some (v,h)) (hv:SameV v) {w:World} {args:List Value} {ρ:Ren}
  (hg:GlobOk E.glob ρ) (hla:LaidOk P E.glob (w.heap.size≤·) w) (hs:∀ K,Sim K (w.heap.size≤·) ρ h.get w) (hd:∀ i L,ρ i=some L→i<h.length) (ha:LRel (VRel ρ) vs args) :
  Calls P f args.toArray w fun e w'=>e=.returned v∧Below w.heap.size w w':=by
 have:=(prog_sound hE d h.length f vs h _ h (Nat.le_refl _) hc).2.2.2 ρ w (w.heap.size≤·) args (fun _ hk=>hk) ⟨hg,hla⟩ (hs _) hd ha
 refine this.mono fun e w' ⟨v',ρ',he,_,hr,_,_,_,hf⟩=>?_
 rw[hv _ _ hr] at he
 exact⟨he,hf.os,hf.tape,hf.output,hf.size,fun k hk=>hf.block k hk (by omega)⟩
def onlyB (n b:Nat) (k:Blk):Heap:=(List.range n).map fun i=>if i=b then some k else none
theorem onlyB_len (n b:Nat) (k:Blk):(onlyB n b k).length=n:=by simp[onlyB]
theorem onlyB_get {n b:Nat} {k:Blk} (h:b<n):(onlyB n b k).get b=some k:=by
 unfold Heap.get onlyB
 rw[List.getElem?_map,List.getElem?_range h]
 simp
theorem onlyB_none {n b i:Nat} {k:Blk} (h:i≠b):(onlyB n b k).get i=none:=by
 unfold Heap.get onlyB
 by_cases q:i<n
 ·rw[List.getElem?_map,List.getElem?_range q]
  simp[h]
 ·rw[List.getElem?_eq_none (by simp; omega)]; rfl
theorem onlyB_sim {K:LoopKind} {Own:Nat→Prop} {ρ:Ren} {w:World} {n b:Nat} {cs:List Value} {L:Loc} (hL:ρ b=some L) (hk:L.map=false) (hc:CellsOk ρ L ⟨cs,false⟩ w.heap[L.blk]?):Sim K Own ρ (onlyB n b ⟨cs,false⟩).get w:=by
 refine⟨fun i k M h1 h2=>?_,fun i k M h1 _ h3=>?_,fun i j k c M M' _ h1 h2=>?_⟩
 ·by_cases q:i=b
  ·subst q
   rw[hL] at h2; cases h2
   unfold Heap.get onlyB at h1
   by_cases z:i<n
   ·rw[List.getElem?_map,List.getElem?_range z] at h1
    simp at h1; subst h1
    exact hc.ok hk
   ·rw[List.getElem?_eq_none (by simp; omega)] at h1; cases h1
  ·rw[onlyB_none q] at h1; cases h1
 ·by_cases q:i=b
  ·subst q
   unfold Heap.get onlyB at h1
   by_cases z:i<n
   ·rw[List.getElem?_map,List.getElem?_range z] at h1
    simp at h1; subst h1; cases h3
   ·rw[List.getElem?_eq_none (by simp; omega)] at h1; cases h1
  ·rw[onlyB_none q] at h1; cases h1
 ·by_cases q:i=b
  ·subst q
   unfold Heap.get onlyB at h1
   by_cases z:i<n
   ·rw[List.getElem?_map,List.getElem?_range z] at h1
    simp at h1; subst h1; cases h2
   ·rw[List.getElem?_eq_none (by simp; omega)] at h1; cases h1
  ·rw[onlyB_none q] at h1; cases h1
end Go.Abs
namespace Go.Abs
open Go.ChangeShapes Go.WideShapes Go.RowKit
def keepB (h:Heap) (S:Nat→Bool):Heap:=(List.range h.length).map fun i=>if S i then (h.get i).map (fun k=>⟨k.cells,false⟩) else none
theorem keepB_len (h:Heap) (S:Nat→Bool):(keepB h S).length=h.length:=by simp[keepB]
theorem keepB_at {h:Heap} {S:Nat→Bool} {i:Nat} (hi:i<h.length):(keepB h S).get i=if S i then (h.get i).map (fun k=>⟨k.cells,false⟩) else none:=by
 show ((keepB h S)[i]?).getD none=_
 unfold keepB
 rw[List.getElem?_map,List.getElem?_range hi]; rfl
theorem keepB_get {h:Heap} {S:Nat→Bool} {i:Nat} {k:Blk} (hs:S i=true) (hk:h.get i=some k):(keepB h S).get i=some ⟨k.cells,false⟩:=by
 rw[keepB_at (Heap.get_lt hk),hs,hk]; rfl
theorem keepB_inv {h:Heap} {S:Nat→Bool} {i:Nat} {b:Blk} (hb:(keepB h S).get i=some b):S i=true∧b.rw=false∧∃ k,h.get i=some k∧b.cells=k.cells:=by
 have hi:i<h.length:=by have:=Heap.get_lt hb; rwa [keepB_len] at this
 rw[keepB_at hi] at hb
 by_cases q:S i=true
 ·rw[if_pos q] at hb
  rcases e:h.get i with _ | k
  ·rw[e] at hb; cases hb
  ·rw[e] at hb; cases hb
   exact⟨q,rfl,k,rfl,rfl⟩
 ·rw[if_neg q] at hb; cases hb
theorem keepB_sim {K K':LoopKind} {Own Own':Nat→Prop} {ρ:Ren} {h:Heap} {S:Nat→Bool} {w w':World} (hs:Sim K Own ρ h.get w) (hm:∀ i L,S i=true→ρ i=some L→L.map=false) (hw:∀ b,b<w.heap.size→w'.heap[b]?=w.heap[b]?):Sim K' Own' ρ (keepB h S).get w':=by
 refine⟨fun i b L h1 h2=>?_,fun i b L h1 _ h3=>?_,fun i j b c L M _ h1 h2=>?_⟩
 ·obtain⟨q,r,k,hk,hc⟩:=keepB_inv h1
  have lt:=hs.lt i k L hk h2
  have mp:=hm i L q h2
  obtain⟨cur,e,fz,c1,c2,c3,c4,c5⟩:=(hs.blk i k L hk h2).1 mp
  obtain⟨cells,rw0⟩:=b
  simp only at r hc
  subst r hc
  refine CellsOk.ok ⟨cur,e,fz,?_,c2,c3,(fun q=>by cases q),c5⟩ mp
  rw[hw _ lt]; exact c1
 ·obtain⟨_,r,_⟩:=keepB_inv h1
  rw[r] at h3; cases h3
 ·obtain⟨_,r,_⟩:=keepB_inv h1
  rw[r] at h2; cases h2
end Go.Abs
