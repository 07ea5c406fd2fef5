--
import Derived.Test.YtllhkifkiabkbaaGreatDoorAbsBUM
import Derived.Test.YtllhkifkiabkbaaGreatDoorAbsBTV
import Derived.Test.YtllhkifkiabkbaaGreatDoorAbsDecN
import Derived.Test.YtllhkifkiabkbaaGreatDoorAbsWpO
set_option linter.unusedSimpArgs false
set_option linter.unusedVariables false
namespace Go.Abs
namespace B.T.U
set_option maxRecDepth 100000
set_option maxHeartbeats 0
theorem c81 {d lim:Nat} {h:Heap} {l:List UInt8}:E.call (d+2) lim 81 [tx l,.int .u8 10] h=some (i64 (Lib.indexByte l 10),h):=by
 have k:∀ lim H,E.call (d+1) lim 123 [tx l,.int .u8 10] H=some (i64 (Lib.indexByte l 10),H):=fun lim H=>rfl
 refine call1 fn81 rfl (by simp[ef81]) ?_
 simp[ef81,k]
theorem c199 {d lim:Nat} {h:Heap} {l p:List UInt8}:E.call (d+1) lim 199 [tx l,tx p] h=some (.bool (decide (l.take p.length=p)),h):=by
 refine call1 fn199 rfl (by simp[ef199]) ?_
 by_cases q:p.length≤l.length
 ·have q2:¬ l.length<p.length:=by omega
  simp[ef199,q,q2]
 ·have q2:l.length<p.length:=by omega
  have:l.take p.length≠p:=fun e=>by
   have:=congrArg List.length e
   rw[List.length_take] at this; omega
  simp[ef199,q,q2,this]
theorem c167 {d lim:Nat} {h:Heap} {l p:List UInt8}:E.call (d+2) lim 167 [tx l,tx p] h=some (tx (if l.take p.length=p then l.drop p.length else l),h):=by
 refine call1 fn167 rfl (by simp[ef167]) ?_
 by_cases q:l.take p.length=p
 ·have:p.length≤l.length:=by
   have:=congrArg List.length q
   rw[List.length_take] at this; omega
  simp[ef167,c199,q,this]
 ·simp[ef167,c199,q]
theorem c126 {d lim:Nat} {h:Heap} {l p:List UInt8}:E.call (d+3) lim 126 [tx l,tx p] h=some (tx (if l.take p.length=p then l.drop p.length else l),h):=by
 refine call1 fn126 rfl (by simp[ef126]) ?_
 simp[ef126,c167]
theorem trim_unsg (l:List UInt8):(if l.take 1=[45] then l.drop 1 else l)=unsg l:=by
 rcases l with _ | ⟨c,r⟩
 ·rfl
 ·by_cases h:c=45
  ·subst h; rfl
  ·simp[h,unsg]
theorem c124y {d lim:Nat} {h:Heap} {a:List UInt8} (hl:a.length<1000000):E.call (d+1) lim 124 [tx (a++[10]),tx [10]] h=some (.bool true,h):=by
 refine call1 fn124 rfl (by simp[ef124]) ?_
 have w:IntKind.i64.wrap (a.length:Int)=(a.length:Int):=by rw[wrapR (by unfold R64; omega)]
 have t:(a++[10]).take (a.length+1)=a++[10]:=List.take_of_length_le (by simp)
 simp[ef124,w,t]
 omega
theorem c124n {d lim:Nat} {h:Heap} {a:List UInt8} (ha:(10:UInt8) ∉ a) (hl:a.length<1000000):E.call (d+1) lim 124 [tx a,tx [10]] h=some (.bool false,h):=by
 refine call1 fn124 rfl (by simp[ef124]) ?_
 rcases Nat.eq_zero_or_pos a.length with z | z
 ·obtain rfl:a=[]:=List.length_eq_zero_iff.1 z
  simp[ef124]
 ·have w:IntKind.i64.wrap ((a.length:Int)-1)=((a.length-1:Nat):Int):=by rw[wrapR (by unfold R64; omega)]; omega
  have t:¬ (a.drop (a.length-1)=[10]):=fun q=>ha (by
   have:(10:UInt8)∈a.drop (a.length-1):=by rw[q]; simp
   exact List.mem_of_mem_drop this)
  have z1:1≤a.length:=z
  have z1':(1:Int)≤a.length:=by omega
  simp[ef124,w,z1,z1',t]
  done
end B.T.U
end Go.Abs
namespace Go.Abs
namespace B.T.U
set_option maxRecDepth 100000
set_option maxHeartbeats 0
theorem c82y {d lim:Nat} {h:Heap} {a:List UInt8} (hl:a.length<1000000):E.call (d+2) lim 82 [tx (a++[10]),tx [10]] h=some (.tuple #[tx a,.bool true],h):=by
 have k:=fun H:Heap=>c124y (d:=d) (lim:=h.length) (h:=H) hl
 refine call1 fn82 rfl (by simp[ef82]) ?_
 have w:IntKind.i64.wrap (a.length:Int)=(a.length:Int):=by rw[wrapR (by unfold R64; omega)]
 simp[ef82,k,w]
theorem c82n {d lim:Nat} {h:Heap} {a:List UInt8} (ha:(10:UInt8) ∉ a) (hl:a.length<1000000):E.call (d+2) lim 82 [tx a,tx [10]] h=some (.tuple #[tx a,.bool false],h):=by
 have k:=fun H:Heap=>c124n (d:=d) (lim:=h.length) (h:=H) ha hl
 refine call1 fn82 rfl (by simp[ef82]) ?_
 simp[ef82,k]
theorem c45y {d lim:Nat} {h:Heap} {a:List UInt8} (hl:a.length<1000000):E.call (d+3) lim 45 [tx (a++[10]),tx [10]] h=some (.tuple #[tx a,.bool true],h):=by
 have k:=fun H:Heap=>c82y (d:=d) (lim:=h.length) (h:=H) hl
 refine call1 fn45 rfl (by simp[ef45]) ?_
 simp[ef45,k]
theorem c45n {d lim:Nat} {h:Heap} {a:List UInt8} (ha:(10:UInt8) ∉ a) (hl:a.length<1000000):E.call (d+3) lim 45 [tx a,tx [10]] h=some (.tuple #[tx a,.bool false],h):=by
 have k:=fun H:Heap=>c82n (d:=d) (lim:=h.length) (h:=H) ha hl
 refine call1 fn45 rfl (by simp[ef45]) ?_
 simp[ef45,k]
def lVI (b:Nat) (L:List Int):Value:=if L=[] then .slice none 0 0 else .slice (some ⟨b,0,none⟩) L.length 1
def lBI (L:List Int):List (Option Blk):=if L=[] then [] else [some ⟨cI L,true⟩]
def wdA (ws:List (List UInt8)) (i:Nat):List UInt8:=(ws[i]?).getD []
theorem wdA_get {ws:List (List UInt8)} {i:Nat} (h:i<ws.length):(T.cT ws)[i]?=some (tx (wdA ws i)):=by
 apply T.cT_get
 unfold wdA
 rw[List.getElem?_eq_getElem h]; rfl
def nmO (R:List UInt8→Int × Bool) (ws:List (List UInt8)):Nat→List Int
 | 0=>[]
 | i+1=>nmO R ws i++[(R (wdA ws i)).1]
theorem nmO_len (R:List UInt8→Int × Bool) (ws:List (List UInt8)):∀ i,(nmO R ws i).length=i
 | 0=>rfl
 | i+1=>by rw[nmO,List.length_append,nmO_len R ws i]; rfl
theorem nmO_take (R:List UInt8→Int × Bool) (ws:List (List UInt8)):∀ i,i≤ws.length→nmO R ws i=(ws.take i).map (fun w=>(R w).1)
 | 0,_=>rfl
 | i+1,h=>by
  rw[nmO,nmO_take R ws i (by omega),List.take_succ_eq_append_getElem (by omega),List.map_append]
  unfold wdA
  rw[List.getElem?_eq_getElem (by omega)]; rfl
theorem nmW_ok {R:List UInt8→Int × Bool} {cnt:Nat} {ws:List (List UInt8)} (h:∀ j,j<ws.length→(R (wdA ws j)).2=true):nmW R cnt ws=(nmO R ws ws.length,decide (ws.length=cnt)):=by
 unfold nmW
 rw[if_pos,nmO_take R ws _ (Nat.le_refl _),List.take_length]
 rw[List.all_eq_true]
 intro w hw
 obtain⟨j,hj,rfl⟩:=List.getElem_of_mem hw
 have:=h j hj
 unfold wdA at this
 rw[List.getElem?_eq_getElem hj] at this
 exact this
theorem nmW_bad {R:List UInt8→Int × Bool} {cnt:Nat} {ws:List (List UInt8)} {j:Nat} (hj:j<ws.length) (h:(R (wdA ws j)).2=false):nmW R cnt ws=([],false):=by
 unfold nmW
 rw[if_neg]
 intro q
 have:=List.all_eq_true.1 q ws[j] (List.getElem_mem hj)
 unfold wdA at h
 rw[List.getElem?_eq_getElem hj] at h
 rw[show (R ws[j]).2=false from h] at this; cases this
theorem wd_len (c:UInt8):∀ (s:List UInt8) (w:List UInt8),w∈cutB c s→w.length≤s.length
 | [],w,h=>by simp[cutB] at h; subst h; exact Nat.le_refl _
 | x::r,w,h=>by
  unfold cutB at h
  split at h
  ·rcases List.mem_cons.1 h with q | q
   ·subst q; simp
   ·have:=wd_len c r w q; rw[List.length_cons]; omega
  ·rcases e:cutB c r with _ | ⟨v,vs⟩
   ·rw[e] at h; cases h
   ·rw[e] at h
    rcases List.mem_cons.1 h with q | q
    ·have:=wd_len c r v (by rw[e]; simp)
     subst q; simp; exact this
    ·have:=wd_len c r w (by rw[e]; simp[q]); rw[List.length_cons]; omega
theorem wdA_len (c:UInt8) (s:List UInt8) (i:Nat):(wdA (cutB c s) i).length≤s.length:=by
 unfold wdA
 rcases e:(cutB c s)[i]? with _ | w
 ·simp
 ·exact wd_len c s w (List.mem_of_getElem? e)
theorem cut_cnt (c:UInt8) (s:List UInt8):(cutB c s).length≤s.length+1:=by
 rw[T.cutB_count]
 have:=List.count_le_length (a:=c) (l:=s)
 omega
theorem cI_pl (l:List Int):(cI l).all plainV=true:=by simp[cI,plainV]
theorem cI_snoc (l:List Int) (x:Int):cI l++[i64 x]=cI (l++[x]):=by simp[cI]
end B.T.U
end Go.Abs
namespace Go.Abs
namespace B.T.U
set_option maxRecDepth 100000
set_option maxHeartbeats 0
abbrev pt (b:Nat):Value:=.pointer (some ⟨b,0,none⟩)
theorem c44 {d lim:Nat} {h:Heap} {s:List UInt8}:E.call (d+1) lim 44 [tx s] h=some (.func (.func 80) #[] #[pt h.length],h++[some ⟨[tx s],true⟩]):=by
 refine call_pure fn44 rfl (by simp[ef44]) ?_
 simp[ef44]
theorem c80 {d lim r b:Nat} {Q:List UInt8→Heap→Prop} {F:Heap→Prop} (g:∀ s H,Q s H→H.get b=some ⟨[tx s],true⟩∧s.length<100000∧lim≤b) (en:∀ H,Q [] H→F H)
  (full:∀ a c H,(10:UInt8) ∉ a→Q (a++10::c) H→∃ u H',EProg.roundOf E (E.call (d+2)) lim r [tx (a++[10])] (H.put b (some ⟨[tx c],true⟩))=some (.bool u,H')∧(if u=true then Q c H' else F H'))
  (rest:∀ a H,(10:UInt8) ∉ a→a≠[]→Q a H→∃ u H',EProg.roundOf E (E.call (d+2)) lim r [tx a] (H.put b (some ⟨[tx []],true⟩))=some (.bool u,H')∧(if u=true then Q [] H' else F H'))
  {s:List UInt8} {H:Heap} (q:Q s H):∃ H',E.call (d+3) lim 80 [yieldVal r,pt b] H=some (.tuple #[],H')∧F H':=by
 have key:∃ v H',E.call (d+3) lim 80 [yieldVal r,pt b] H=some (v,H')∧(v=.tuple #[]∧F H'):=by
  refine full_ex (Q:=fun v H'=>v=.tuple #[]∧F H') fn80 rfl (by simp[ef80]) ?_
  have sl:=(g s H q).2
  simp[ef80]
  refine wpC_loop (fun y st=>∃ (t:List UInt8) (G:Heap),y=t.length∧Q t G∧st=⟨[(0,yieldVal r),(1,pt b)],G⟩) s.length (by show s.length<2 ^ 64; omega) ?_ ?_
  ·simp[St.tidy]
   exact⟨s,rfl,q⟩
  ·rintro y hy _ ⟨t,G,rfl,qt,rfl⟩
   obtain⟨gb,tl,lb⟩:=g t G qt
   have ck:=cell_get (o:=0) gb
   have ck':G.cell b 0=some (tx t):=ck
   rcases ht:t with _ | ⟨x,y⟩
   ·subst ht
    have:=en G qt
    simp[ck']
    exact this
   ·have t0:0<t.length:=by rw[ht]; simp
    have t0':(0:Int)<t.length:=by omega
    rw[← ht]
    by_cases hm:(10:UInt8)∈t
    ·obtain⟨a,c,rfl,na⟩:=mem_split hm
     have ix:=fun H':Heap=>c81 (d:=d) (lim:=lim) (h:=H') (l:=a++10::c)
     simp only[idx_at na] at ix
     simp only[List.length_append,List.length_cons] at tl t0' t0
     have w1:IntKind.i64.wrap ((a.length:Int)+1)=((a.length+1:Nat):Int):=by rw[wrap_eq (by omega) (by omega)]; rfl
     obtain⟨u,H',ro,hu⟩:=full a c G na qt
     have tk:(a++10::c).take (a.length+1)=a++[10]:=by
      rw[List.take_append,List.take_of_length_le (by omega)]; simp
     have td:((a++10::c).take (a.length+(c.length+1))).drop (a.length+1)=c:=by
      rw[List.take_of_length_le (by simp),← List.drop_drop,List.drop_left]; rfl
     rcases u with _ | _
     ·simp at hu
      simp[ck',ix,w1,t0,tk,td,gb,lb,ro,St.tidy]
      exact⟨fun _=>⟨by omega,hu⟩,fun z=>by omega⟩
     ·simp at hu
      simp[ck',ix,w1,t0,tk,td,gb,lb,ro,St.tidy]
      exact⟨fun _=>⟨by omega,c.length,by omega,c,rfl,hu⟩,fun z=>by omega⟩
    ·have ix:=fun H':Heap=>c81 (d:=d) (lim:=lim) (h:=H') (l:=t)
     simp only[idx_no hm] at ix
     obtain⟨u,H',ro,hu⟩:=rest t G hm (by rw[ht]; simp) qt
     rcases u with _ | _
     ·simp at hu
      simp[ck',ix,t0,gb,lb,ro,St.tidy]
      exact hu
     ·simp at hu
      simp[ck',ix,t0,gb,lb,ro,St.tidy]
      exact⟨0,t0,[],rfl,hu⟩
 obtain⟨_,H',e,rfl,hF⟩:=key
 exact⟨H',e,hF⟩
end B.T.U
end Go.Abs
