--
import Derived.Test.YtllhkifkiabkbaaGreatDoorAbsBWN
import Derived.Test.YtllhkifkiabkbaaGreatDoorAbsBSN
import Derived.Test.YtllhkifkiabkbaaGreatDoorAbsBGM
set_option linter.unusedSimpArgs false
set_option linter.unusedVariables false
namespace Go.Abs
namespace B
set_option maxRecDepth 100000
set_option maxHeartbeats 0
theorem Sl_own {α:Type} {f:α→List Value} {es:Nat} (hf:∀ a,(f a).length=es) {h:Heap} {b n:Nat} {l:List α} {rw:Bool} (e:h.get b=some ⟨cS f l,rw⟩) (hn:n=l.length):Sl es h (.slice (some ⟨b,0,none⟩) n es) l.length (cS f l):=by
 subst hn
 exact⟨by simp,by rw[cS_len hf],fun _=>rfl,.inr ⟨b,0,l.length,es,rfl,Heap.get_lt e⟩,fun k hk=>by simp only[slB_some,slO_some,Nat.zero_add]; rw[cell_get e]⟩
theorem cW_plain (l:List Wi):(cS encW l).all plainV=true:=by
 simp[cS,List.all_flatMap,encW,plainV]
theorem cW_one (l:List Wi):(cS encW l).all Value.oneCell'=true:=by
 simp[cS,List.all_flatMap,encW,Value.oneCell']
def nms20 (l:List Wi) (i:Nat):Bool:=if i<l.length then (if 20<(atW l i).name.size then false else nms20 l (i+1)) else true
termination_by l.length-i
theorem nms_lt {l:List Wi} {i:Nat} (h:i<l.length):nms20 l i=if 20<(atW l i).name.size then false else nms20 l (i+1):=by rw[nms20,if_pos h]
theorem nms_ge {l:List Wi} {i:Nat} (h:¬ i<l.length):nms20 l i=true:=by rw[nms20,if_neg h]
theorem nms_all {l:List Wi}:∀ (k i:Nat),l.length-i=k→nms20 l i=true→∀ j,i≤j→j<l.length→(atW l j).name.size≤20
 | 0,i,hk,_,j,h1,h2=>by omega
 | k+1,i,hk,h,j,h1,h2=>by
  rw[nms_lt (by omega)] at h
  split at h
  ·cases h
  ·rename_i e
   rcases Nat.eq_or_lt_of_le h1 with rfl | h3
   ·omega
   ·exact nms_all k (i+1) (by omega) h j h3 h2
def shortB (l:List Wi):Bool:=if (6<l.length∧l.length≤20)∨23<l.length then false else nms20 l 0
theorem short_ok {l:List Wi} (h:shortB l=true):l.length≤23∧Nms l:=by
 unfold shortB at h
 split at h
 ·cases h
 ·rename_i q
  refine⟨by omega,fun i hi=>?_⟩
  have:=nms_all _ 0 rfl h i (by omega) hi
  omega
theorem c35 {d lim:Nat} {h:Heap} {v:Value} {l:List Wi} (s:SlW h v l):E.call (d+1) lim 35 [v] h=some (.bool (shortB l),h):=by
 have r:=s.rules2
 refine call1 fn35 rfl (by simp[ef35]) ?_
 by_cases h1:6<l.length∧l.length≤20
 ·have i1:(6:Int)<l.length:=by omega
  have i2:(l.length:Int)≤20:=by omega
  have e:shortB l=false:=by unfold shortB; rw[if_pos (.inl h1)]
  simp[ef35,r,h1.1,h1.2,i1,i2,Int.not_le.2 i1,Nat.not_le.2 h1.1,e]
 by_cases h2:23<l.length
 ·have i1:(6:Int)<l.length:=by omega
  have i2:¬ (l.length:Int)≤20:=by omega
  have i3:(23:Int)<l.length:=by omega
  have n1:6<l.length:=by omega
  have n2:¬ l.length≤20:=by omega
  have e:shortB l=false:=by unfold shortB; rw[if_pos (.inr h2)]
  simp[ef35,r,h2,i1,i2,i3,n1,n2,Int.not_le.2 i1,Int.not_le.2 i3,Nat.not_le.2 n1,Nat.not_le.2 h2,e]
 have e:shortB l=nms20 l 0:=by unfold shortB; rw[if_neg (by omega)]
 rw[e]
 have i23:¬ (23:Int)<l.length:=by omega
 have n23:¬ 23<l.length:=by omega
 rcases Nat.lt_or_ge 6 l.length with h6 | h6
 ·have i6:(6:Int)<l.length:=by omega
  have n20:¬ l.length≤20:=by omega
  have i20:¬ (l.length:Int)≤20:=by omega
  simp[ef35,r,h6,i6,n20,i20,i23,n23,Int.not_le.2 i6,Nat.not_le.2 h6,Int.not_lt.1 i23,Nat.not_lt.1 n23]
  refine wpC_loop (fun q st=>∃ i,q=l.length-i∧i≤l.length∧nms20 l i=nms20 l 0∧st=⟨[(0,v),(3,i64 (i:Nat))],h.freeze⟩) l.length (by show l.length<2 ^ 64; omega) ?_ ?_
  ·simp[St.tidy,r]
   exact⟨0,by omega,by omega,rfl,rfl⟩
  ·rintro q hq _ ⟨i,rfl,hi,hc,rfl⟩
   by_cases hlt:i<l.length
   ·have w1':=w1 (i:=i) (by omega)
    simp only[W] at w1'
    have p:=cW_0 hlt
    have k4:i * 4<l.length * 4:=by omega
    have hlti:(i:Int)<l.length:=by omega
    rw[nms_lt hlt] at hc
    by_cases q:20<(atW l i).name.size
    ·rw[if_pos q] at hc
     have qi:(20:Int)<(atW l i).name.size:=by omega
     simp[hlt,Nat.not_le.2 hlt,hlti,r,k4,p,q,qi,Nat.not_le.2 q,Int.not_le.2 qi,← hc]
    ·rw[if_neg q] at hc
     have qi:¬ (20:Int)<(atW l i).name.size:=by omega
     simp[hlt,Nat.not_le.2 hlt,hlti,r,k4,p,q,qi,Nat.not_lt.1 q,Int.not_lt.1 qi,w1',St.tidy]
     exact⟨l.length-(i+1),by omega,i+1,by omega,by omega,hc,by omega⟩
   ·obtain rfl:i=l.length:=by omega
    rw[nms_ge (by omega)] at hc
    simp[r,← hc]
 ·have i6:¬ (6:Int)<l.length:=by omega
  have n6:¬ 6<l.length:=by omega
  simp[ef35,r,i6,n6,i23,n23,Int.not_lt.1 i6,h6,Int.not_lt.1 i23,Nat.not_lt.1 n23]
  refine wpC_loop (fun q st=>∃ i,q=l.length-i∧i≤l.length∧nms20 l i=nms20 l 0∧st=⟨[(0,v),(3,i64 (i:Nat))],h.freeze⟩) l.length (by show l.length<2 ^ 64; omega) ?_ ?_
  ·simp[St.tidy,r]
   exact⟨0,by omega,by omega,rfl,rfl⟩
  ·rintro q hq _ ⟨i,rfl,hi,hc,rfl⟩
   by_cases hlt:i<l.length
   ·have w1':=w1 (i:=i) (by omega)
    simp only[W] at w1'
    have p:=cW_0 hlt
    have k4:i * 4<l.length * 4:=by omega
    have hlti:(i:Int)<l.length:=by omega
    rw[nms_lt hlt] at hc
    by_cases q:20<(atW l i).name.size
    ·rw[if_pos q] at hc
     have qi:(20:Int)<(atW l i).name.size:=by omega
     simp[hlt,Nat.not_le.2 hlt,hlti,r,k4,p,q,qi,Nat.not_le.2 q,Int.not_le.2 qi,← hc]
    ·rw[if_neg q] at hc
     have qi:¬ (20:Int)<(atW l i).name.size:=by omega
     simp[hlt,Nat.not_le.2 hlt,hlti,r,k4,p,q,qi,Nat.not_lt.1 q,Int.not_lt.1 qi,w1',St.tidy]
     exact⟨l.length-(i+1),by omega,i+1,by omega,by omega,hc,by omega⟩
   ·obtain rfl:i=l.length:=by omega
    rw[nms_ge (by omega)] at hc
    simp[r,← hc]
end B
end Go.Abs
namespace Go.Abs
namespace B
set_option maxRecDepth 100000
set_option maxHeartbeats 0
def namedB (s:Sd):Bool:=decide (s.wire.size≤20) && decide (s.wrap.size≤20)
theorem c36 {d lim:Nat} {h:Heap} {s:Sd}:E.call (d+1) lim 36 [sdV s] h=some (.bool (namedB s),h):=by
 refine call1 fn36 rfl (by simp[ef36]) ?_
 unfold namedB
 by_cases h1:s.wire.size≤20
 ·have i1:(s.wire.size:Int)≤20:=by omega
  by_cases h2:s.wrap.size≤20
  ·have i2:(s.wrap.size:Int)≤20:=by omega
   simp[ef36,h1,h2,i1,i2]
  ·have i2:¬ (s.wrap.size:Int)≤20:=by omega
   simp[ef36,h1,h2,i1,i2]
 ·have i1:¬ (s.wire.size:Int)≤20:=by omega
  simp[ef36,h1,i1]
def steelN:ByteArray:=⟨#[115,116,101,101,108]⟩
def steelW:Wi:=⟨steelN,24661,180000,97000000⟩
def plainS:Sd:=⟨40000,1000,0,steelN,⟨#[]⟩⟩
theorem c30 {d lim:Nat} {h:Heap}:E.call (d+1) lim 30 [] h=some (.slice (some ⟨h.length,0,none⟩) 1 4,h++[some ⟨cS encW [steelW],true⟩]):=by
 refine call_pure fn30 rfl (by simp[ef30]) ?_
 simp[ef30,cS,encW,steelW,steelN]
theorem c31 {d lim:Nat} {h:Heap}:E.call (d+1) lim 31 [] h=some (sdV plainS,h):=by
 refine call1 fn31 rfl (by simp[ef31]) ?_
 simp[ef31,plainS,steelN]
end B
end Go.Abs
