--
import Derived.Test.YtllhkifkiabkbaaGreatDoorAbsRowM
import Derived.Test.YtllhkifkiabkbaaGreatDoorAbsWpM
set_option linter.unusedSimpArgs false
set_option linter.unusedVariables false
namespace Go.Abs
end Go.Abs
namespace Go.Abs
theorem typ_slX {α:Type} {cts:List CT} (hk:0<cts.length) (enc:α→List Value) (dec:(Nat→Value)→α) (hl:∀ a,(enc a).length=cts.length) {d:Nat} {h:Heap}
  (hd:∀ g:Nat→Value,(∀ j t,cts[j]?=some t→Typ d h t (g j))→∀ j,j<cts.length→(enc (dec g))[j]?=some (g j))
  {u:Value} (t:Typ (d+1) h (.sl cts) u) :
  ∃ l:List α,Sl cts.length h u l.length (cS enc l)∧l.length≤maxLen∧∀ a∈l,∃ g:Nat→Value,a=dec g∧∀ j t,cts[j]?=some t→Typ d h t (g j):=by
 obtain⟨n,cs,s,hn,q⟩:=t
 have hs:cs.length=n * cts.length:=s.size
 let G:Nat→Nat→Value:=fun i j=>(cs[i * cts.length+j]?).getD .nilIface
 have lt:∀ i j,i<n→j<cts.length→i * cts.length+j<cs.length:=fun i j hi hj=>by
  have:(i+1) * cts.length≤n * cts.length:=Nat.mul_le_mul_right _ hi
  rw[Nat.add_mul] at this; omega
 have hG:∀ i j,i<n→j<cts.length→cs[i * cts.length+j]?=some (G i j):=fun i j hi hj=>by
  have h0:=List.getElem?_eq_getElem (lt i j hi hj)
  simp only[G]; rw[h0]; rfl
 have hT:∀ i,i<n→∀ j t,cts[j]?=some t→Typ d h t (G i j):=fun i hi j t ht=>by
  have hj:j<cts.length:=(List.getElem?_eq_some_iff.1 ht).1
  exact q i j t _ hi ht (hG i j hi hj)
 let l:List α:=(List.range n).map fun i=>dec (G i)
 have hll:l.length=n:=by simp[l]
 have hg:∀ i (hi:i<l.length),l[i]=dec (G i):=fun i hi=>by simp[l]
 have hcs:cs=cS enc l:=by
  apply List.ext_getElem?
  intro m
  rcases Nat.lt_or_ge m (n * cts.length) with z | z
  ·have hi:m / cts.length<n:=Nat.div_lt_of_lt_mul (by rw[Nat.mul_comm]; exact z)
   have hj:m % cts.length<cts.length:=Nat.mod_lt _ hk
   have e:m=m / cts.length * cts.length+m % cts.length:=by rw[Nat.mul_comm]; exact (Nat.div_add_mod m cts.length).symm
   rw[e,hG _ _ hi hj,cS_get hl l _ _ (by omega) hj,hg _ (by omega),hd _ (hT _ hi) _ hj]
  ·rw[List.getElem?_eq_none (by omega),List.getElem?_eq_none (by rw[cS_len hl,hll]; omega)]
 refine⟨l,?_,by omega,fun a ha=>?_⟩
 ·rw[hll,← hcs]; exact s
 ·obtain⟨i,hi,rfl⟩:=List.getElem_of_mem ha
  rw[hg i hi]
  exact⟨G i,rfl,hT i (by omega)⟩
end Go.Abs
