--
import Derived.Test.YtllhkifkiabkbaaGreatDoorAbsBVD
import Derived.Test.YtllhkifkiabkbaaGreatDoorAbsMono
set_option linter.unusedSimpArgs false
set_option linter.unusedVariables false
namespace Go.Abs
namespace B.T.U
set_option maxRecDepth 100000
set_option maxHeartbeats 400000
def decW:List Value→Option (List Wi)
 | []=>some []
 | .string a::.int .i64 b::.int .i64 c::.int .i64 d::r=>(decW r).map (⟨a,b,c,d⟩::·)
 | _=>none
theorem decW_cells:∀ {l:List Wi},decW (cS encW l)=some l
 | []=>rfl
 | ⟨a,b,c,d⟩::r=>by
  have:cS encW (⟨a,b,c,d⟩::r)=.string a::i64 b::i64 c::i64 d::cS encW r:=by simp[cS,encW]
  rw[this,decW,decW_cells]; rfl
theorem decW_inv:∀ (n:Nat) {cs:List Value} {l:List Wi},cs.length≤n→decW cs=some l→cs=cS encW l:=by
 intro n
 induction n with
 | zero =>
  intro cs l hn h
  obtain rfl:cs=[]:=List.length_eq_zero_iff.1 (by omega)
  cases h; rfl
 | succ n ih =>
  intro cs l hn h
  unfold decW at h
  split at h
  ·cases h; rfl
  ·rename_i a b c d r
   obtain⟨m,hm,rfl⟩:=Option.map_eq_some_iff.1 h
   rw[ih (by simp at hn; omega) hm]
   simp[cS,encW]
  ·cases h
def decN:List Value→Option (List Un)
 | []=>some []
 | .int .i64 a::.int .i64 b::.int .i64 c::.int .i64 d::.int .i64 e::.int .i64 f::.int .i64 g::.int .i64 h::.string x::.string y::r=>(decN r).map (⟨a,b,c,d,e,⟨f,g,h,x,y⟩⟩::·)
 | _=>none
theorem decN_cells:∀ {l:List Un},decN (cS encN l)=some l
 | []=>rfl
 | ⟨a,b,c,d,e,⟨f,g,h,x,y⟩⟩::r=>by
  have:cS encN (⟨a,b,c,d,e,⟨f,g,h,x,y⟩⟩::r)=i64 a::i64 b::i64 c::i64 d::i64 e::i64 f::i64 g::i64 h::.string x::.string y::cS encN r:=by simp[cS,encN]
  rw[this,decN,decN_cells]; rfl
theorem decN_inv:∀ (n:Nat) {cs:List Value} {l:List Un},cs.length≤n→decN cs=some l→cs=cS encN l:=by
 intro n
 induction n with
 | zero =>
  intro cs l hn h
  obtain rfl:cs=[]:=List.length_eq_zero_iff.1 (by omega)
  cases h; rfl
 | succ n ih =>
  intro cs l hn h
  unfold decN at h
  split at h
  ·cases h; rfl
  ·rename_i r
   obtain⟨m,hm,rfl⟩:=Option.map_eq_some_iff.1 h
   rw[ih (by simp at hn; omega) hm]
   simp[cS,encN]
  ·cases h
noncomputable def prVS (f:Int) (wl:List Wi) (l:List Un):Value:=if (stE f wl l).2=0 then .tuple #[tx (tU f wl l l.length),i64 0] else .tuple #[tx [],i64 (stE f wl l).2]
open Classical in
noncomputable def natPrintS:List Value→Heap→Option (Value × Heap)
 | [.agg xs],h=>match xs.toList with
  | [.int .i64 f,.slice (some ⟨b,0,none⟩) n 4,.slice (some ⟨c,0,none⟩) m 10]=>match h.get b,h.get c,h.get 0 with
   | some k1,some k2,some k0=>match decW k1.cells,decN k2.cells with
    | some wl,some l=>if wl.length=n∧l.length=m∧n≤1000∧Nms wl∧k0.cells=[.int .u64 2,.int .u64 3,.int .u64 5] then some (prVS f wl l,h) else none
    | _,_=>none
   | _,_,_=>none
  | _=>none
 | _,_=>none
noncomputable def efP:EFun:=⟨.skip,[],.nat natPrintS,0⟩
noncomputable def E1:EProg:=⟨fun f=>if f=7 then some efP else E.fn f,E.glob,E.fuel⟩
theorem E1_le:E.Le E1:=⟨fun f F h=>by
 show (if f=7 then some efP else E.fn f)=some F
 by_cases q:f=7
 ·subst q; cases h
 ·rw[if_neg q]; exact h,rfl,rfl⟩
theorem up1 {d lim:Nat} {f:FuncId} {a:List Value} {h:Heap} {r:Value × Heap} (e:E.call d lim f a h=some r):E1.call d lim f a h=some r:=E1_le.call d _ _ _ _ _ e
theorem c7 {d lim b c:Nat} {h:Heap} {f:Int} {wl:List Wi} {l:List Un} (e1:h.get b=some ⟨cS encW wl,true⟩) (e2:h.get c=some ⟨cS encN l,true⟩) (e0:∃ rw,h.get 0=some ⟨[.int .u64 2,.int .u64 3,.int .u64 5],rw⟩) (hw:wl.length≤1000) (hn:Nms wl) :
  E1.call (d+1) lim 7 [stV f (.slice (some ⟨b,0,none⟩) wl.length 4) (.slice (some ⟨c,0,none⟩) l.length 10)] h=some (prVS f wl l,h):=by
 have q:E1.fn 7=some efP:=rfl
 obtain⟨r0,e0⟩:=e0
 simp only[EProg.call,q,efP]
 unfold natPrintS
 simp only[e1,e2,e0,decW_cells,decN_cells]
 rw[if_pos ⟨rfl,rfl,hw,hn,rfl⟩]
end B.T.U
end Go.Abs
