--
import Derived.Test.YtllhkifkiabkbaaGreatDoorAbsNatM
set_option linter.unusedSimpArgs false
set_option linter.unusedVariables false
namespace Go.Abs
open Go.ChangeShapes Go.WideShapes Go.RowKit
variable {K:LoopKind} {P:Program} {glob:List Nat} {f:FuncId} {lim:Nat} {vs:List Value} {h:Heap}
theorem VRel.slice_map {ρ:Ren} {b o n s:Nat} {v':Value} {L:Loc} (h:VRel ρ (.slice (some ⟨b,o,none⟩) n s) v') (hL:ρ b=some L):L.map=false:=by
 cases h with
 | plain h=>simp[plainV] at h
 | slice h a b c d e f k=>obtain rfl:=Option.some.inj (hL.symm.trans h); exact k
def strsOf:List Value→Option (List ByteArray)
 | []=>some []
 | .string s::r=>(strsOf r).map (s::·)
 | _::_=>none
theorem strsOf_get:∀ {l:List Value} {xs:List ByteArray},strsOf l=some xs→∀ (j:Nat) x,xs[j]?=some x→l[j]?=some (.string x)
 | [],xs,h,j,x,q=>by cases h; cases q
 | v::r,xs,h,j,x,q=>by
  cases v <;> try (cases h; done)
  rename_i s
  obtain⟨ys,e,rfl⟩:=Option.map_eq_some_iff.1 h
  cases j with
  | zero=>cases q; rfl
  | succ j=>exact strsOf_get e j x q
theorem strsOf_map:∀ (xs:List ByteArray),strsOf (xs.map .string)=some xs
 | []=>rfl
 | x::r=>by simp[strsOf,strsOf_map r]
def natJoin:List Value→Heap→Option (Value × Heap)
 | [.slice (some ⟨b,o,none⟩) n 1,.string sep],h=>match h.get b with
  | some blk=>match strsOf ((blk.cells.drop o).take n) with
   | some xs=>if xs.length=n∧n≤140737488355328∧(Lib.join (xs.map (·.data.toList)) sep.data.toList).length≤140737488355328 then some (.string ⟨(Lib.join (xs.map (·.data.toList)) sep.data.toList).toArray⟩,h) else none
   | none=>none
  | none=>none
 | _,_=>none
theorem natJoin_ok (hf:callable P f=true)
  (hc:∀ (bk o c:Nat) (xs:List ByteArray) (sep:ByteArray) (w:World),(∀ (j:Nat) x,xs[j]?=some x→w.cell? ⟨bk,o+j,none⟩=some (.string x))→bk<w.heap.size→xs.length≤140737488355328→xs.length≤c →
   (Lib.join (xs.map (·.data.toList)) sep.data.toList).length≤140737488355328 →
   Calls P f #[.slice (some ⟨bk,o,none⟩) xs.length c,.string sep] w fun e w'=>e=.returned (.string ⟨(Lib.join (xs.map (·.data.toList)) sep.data.toList).toArray⟩)∧Below w.heap.size w w')
  (hz:∀ (a:Option Addr) (c:Nat) (sep:ByteArray) (w:World),Calls P f #[.slice a 0 c,.string sep] w fun e w'=>e=.returned (.string ⟨#[]⟩)∧w'=w)
  (lim:Nat) (vs:List Value) (h:Heap) (v:Value) (h':Heap) (_:lim≤h.length) (hN:natJoin vs h=some (v,h')):CallOk P K glob f lim vs h v h':=by
 unfold natJoin at hN
 split at hN
 ·rename_i b o n sep
  split at hN
  ·rename_i blk hb
   split at hN
   ·rename_i xs hx
    split at hN
    ·rename_i hs
     obtain⟨h1,h2,h3⟩:=hs
     cases hN
     refine⟨hf,Nat.le_refl _,.refl _ _,fun ρ w Own args hown hg hsim hd hr=>?_⟩
     match args,hr with
     | [x,y],hr =>
      obtain⟨L,a,cap,hL,rfl,hn,ha,hsp,hz0,hcc,hm⟩:=hr.1.slice_inv
      obtain rfl:=hr.2.1.string_inv
      have fin:Calls P f #[.slice (some a) n cap,.string sep] w fun e w'=>e=.returned (.string ⟨(Lib.join (xs.map (·.data.toList)) sep.data.toList).toArray⟩)∧Below w.heap.size w w':=by
       by_cases q:cap=0
       ·obtain rfl:n=0:=by omega
        obtain rfl:xs=[]:=List.length_eq_zero_iff.1 h1
        exact (hz _ _ _ _).mono fun e w' ⟨p,r⟩=>⟨p,r ▸ Below.refl _ _⟩
       ·obtain⟨hoff,htot⟩:=hcc q
        have hspot:=hsp q
        obtain⟨ab,ao,asp⟩:=a
        simp only at ha hoff hspot
        subst ha hoff hspot
        have hlt:=hsim.lt b blk L hb hL
        have hk:=hr.1.slice_map hL
        obtain⟨cur,e,fz,c1,c2,c3,c4,c5⟩:=(hsim.blk b blk L hb hL).1 hk
        have:=hc L.blk (L.off+o) cap xs sep w (fun j x hj=>?_) hlt (by omega) (by omega) h3
        ·rw[h1] at this; exact this
        ·have g:=strsOf_get hx j x hj
         have hjn:j<n:=by
          have:=(List.getElem?_eq_some_iff.1 hj).1; omega
         rw[List.getElem?_take_of_lt hjn,List.getElem?_drop] at g
         obtain⟨v',q1,q2⟩:=c5 _ _ g
         obtain rfl:=q2.string_inv
         simp only[World.cell?,c1]
         rw[Nat.add_assoc]
         simpa using q1
      refine fin.mono ?_
      rintro e w' ⟨rfl,bl⟩
      exact⟨_,ρ,rfl,fun _ _=>rfl,.plain rfl,hsim.same (below_same bl),hd,fun i L q1 q2=>absurd (hd i L q1) (by omega),below_frame bl⟩
    ·cases hN
   ·cases hN
  ·cases hN
 ·cases hN
end Go.Abs
