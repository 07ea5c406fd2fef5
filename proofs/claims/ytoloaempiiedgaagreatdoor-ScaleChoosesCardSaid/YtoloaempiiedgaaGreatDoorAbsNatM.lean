--
import Derived.Test.YtoloaempiiedgaaGreatDoorAbsBase
import Derived.Lib.AtoiAll
import Derived.Lib.ItoaNum
import Derived.Test.YtoloaempiiedgaaGreatDoorAbsSoundM
import Derived.ProofKit
import Derived.Below
import Derived.Lib.Bytealg
import Derived.Lib.Join
set_option linter.unusedSimpArgs false
set_option linter.unusedVariables false
namespace Go.Abs
def digs (n:Nat):List UInt8:=if n<10 then [UInt8.ofNat (48+n)] else digs (n / 10)++[UInt8.ofNat (48+n % 10)]
termination_by n
decreasing_by omega
def dec (n:Int):List UInt8:=if n<0 then 45::digs n.natAbs else digs n.natAbs
end Go.Abs
namespace Go.Abs
end Go.Abs
namespace Go.Abs
open Go.ChangeShapes Go.WideShapes Go.RowKit
variable {K:LoopKind} {P:Program} {glob:List Nat} {f:FuncId} {lim:Nat} {vs:List Value} {h:Heap}
theorem below_frame {Own:Nat→Prop} {w w':World} (b:Below w.heap.size w w'):Frame Own w w':=⟨b.os,b.tape,b.output,b.size,fun k hk _=>b.block k hk⟩
theorem below_same {w w':World} (b:Below w.heap.size w w'):∀ (i:Nat) (x:Obj),w.heap[i]?=some x→(∀ d,x≠Obj.deferred d)→w'.heap[i]?=some x:=fun i x e _=>by
 rw[b.block i (Array.getElem?_eq_some_iff.1 e).1]; exact e
theorem callOk_plain {v:Value} (hf:callable P f=true) (hp:vs.all plainV=true) (hv:∀ ρ,VRel ρ v v)
  (hc:∀ (w:World) (Own:Nat→Prop) (ρ:Ren),GlobOk glob ρ→LaidOk P glob Own w→Sim K Own ρ h.get w→Calls P f vs.toArray w fun e w'=>e=.returned v∧Below w.heap.size w w'):CallOk P K glob f lim vs h v h:=by
 refine⟨hf,Nat.le_refl _,.refl _ _,fun ρ w Own args hown hg hs hd hr=>?_⟩
 obtain rfl:=LRel.plain_same hp hr
 refine (hc w Own ρ hg.1 hg.2 hs).mono ?_
 rintro e w' ⟨rfl,b⟩
 exact⟨v,ρ,rfl,fun _ _=>rfl,hv ρ,hs.same (below_same b),hd,fun i L q1 q2=>absurd (hd i L q1) (by omega),below_frame b⟩
end Go.Abs
namespace Go.Abs
open Go.ChangeShapes Go.WideShapes Go.RowKit
variable {K:LoopKind} {P:Program} {glob:List Nat} {f:FuncId} {lim:Nat} {vs:List Value} {h:Heap}
theorem callOk_push {v:Value} {b:Blk} (hlim:lim≤h.length) (hf:callable P f=true) (hp:vs.all plainV=true)
  (hc:∀ (w:World) (Own:Nat→Prop) (ρ:Ren),GlobOk glob ρ→LaidOk P glob Own w→Sim K Own ρ h.get w→Calls P f vs.toArray w fun e w'=>∃ v' L,e=.returned v'∧L.blk=w.heap.size∧w.heap.size<w'.heap.size∧Below w.heap.size w w' ∧
   (∀ ρ,BlkOk K ρ L b w'.heap[L.blk]?)∧(∀ ρ':Ren,ρ' h.length=some L→VRel ρ' v v')):CallOk P K glob f lim vs h v (h++[some b]):=by
 refine⟨hf,by simp,Kept.push b hlim,fun ρ w Own args hown hg hs hd hr=>?_⟩
 obtain rfl:=LRel.plain_same hp hr
 refine (hc w Own ρ hg.1 hg.2 hs).mono ?_
 rintro e w' ⟨v',L,rfl,hL,hsz,bl,hb,hv⟩
 have hid:ρ h.length=none:=by
  rcases q:ρ h.length with _ | L
  ·rfl
  ·exact absurd (hd _ _ q) (by omega)
 have eff:EffOk K ρ h.length w w' (upd ρ h.length L) (.push b):=⟨L,rfl,hL,hsz,bl.block,hb ρ⟩
 obtain⟨s1,f1,l1,d1⟩:=sim_step hs eff ⟨bl.os,bl.tape,bl.output⟩ (fun _=>hid) hown trivial
 have e1:(Eff.push b).upd h.get h.length=(h.push b).get:=(Eff.upd_apply h (.push b) trivial).symm
 rw[e1] at s1
 have hup:upd ρ h.length L h.length=some L:=by simp[upd]
 refine⟨v',upd ρ h.length L,rfl,fun i hi=>by simp[upd,Nat.ne_of_lt hi],hv _ hup,s1,fun i M q=>?_,fun i M q z=>?_,f1⟩
 ·rw[List.length_append,List.length_singleton]
  rcases d1 i M q with p | ⟨p,_⟩
  ·have:=hd i M p; omega
  ·omega
 ·rcases d1 i M q with p | ⟨p,_⟩
  ·have:=hd i M p; omega
  ·subst p
   rw[hup] at q; cases q
   exact⟨hown _ (by omega),by omega⟩
def natGrow:List Value→Heap→Option (Value × Heap)
 | [.slice none 0 0,.int .i64 n],h=>if n=0 then some (.slice none 0 0,h) else if 0<n∧n≤1000000000 then some (.slice (some ⟨h.length,0,none⟩) 0 1,h++[some ⟨[],true⟩]) else none
 | _,_=>none
theorem natGrow_ok {te:TypeId} (hf:callable P f=true)
  (c1:∀ w,Calls P f #[.slice none 0 0,.int .i64 0] w fun e w'=>e=.returned (.slice none 0 0)∧w'=w)
  (c2:∀ (n:Nat),0<n→n≤1000000000→∀ w,Calls P f #[.slice none 0 0,.int .i64 n] w fun e w'=>∃ cap cur,e=.returned (.slice (some ⟨w.heap.size,0,none⟩) 0 cap)∧w'=w.drew.alloc (.cells cur te)∧cur.size=cap∧cap≤maxLen)
  (lim:Nat) (vs:List Value) (h:Heap) (v:Value) (h':Heap) (hlim:lim≤h.length) (hN:natGrow vs h=some (v,h')):CallOk P K glob f lim vs h v h':=by
 unfold natGrow at hN
 split at hN
 ·rename_i n
  split at hN
  ·rename_i h0
   cases hN
   subst h0
   exact callOk_plain hf rfl (fun ρ=>.plain rfl) fun w Own ρ _ _ _=>(c1 w).mono fun e w' ⟨a,b⟩=>⟨a,b ▸ Below.refl _ _⟩
  ·split at hN
   ·rename_i hn
    cases hN
    obtain⟨k,rfl⟩:=Int.eq_ofNat_of_zero_le (show 0≤n by omega)
    refine callOk_push hlim hf rfl fun w Own ρ _ _ _=>(c2 k (by omega) (by omega) w).mono ?_
    rintro e w' ⟨cap,cur,rfl,rfl,hcs,hmx⟩
    have hk:=MapKept.heap_alloc w.drew (.cells cur te)
    have hsz:(w.drew.alloc (.cells cur te)).heap.size=w.heap.size+1:=by show (w.heap.push _).size=_; simp
    refine⟨_,⟨w.heap.size,0,cap,false⟩,rfl,rfl,by omega,⟨rfl,rfl,rfl,by omega,fun j hj=>hk.2 j hj⟩,fun ρ=>CellsOk.ok ⟨cur,te,(0,0),hk.1,by simp[hcs],by simp,fun _=>rfl,fun i v hv=>by simp at hv⟩ rfl,fun ρ' hρ=>?_⟩
    exact VRel.slice hρ (Nat.zero_le _) rfl (fun _=>rfl) (fun q=>absurd q (by decide)) (fun _=>⟨rfl,by simp⟩) hmx
   ·cases hN
 ·cases hN
end Go.Abs
