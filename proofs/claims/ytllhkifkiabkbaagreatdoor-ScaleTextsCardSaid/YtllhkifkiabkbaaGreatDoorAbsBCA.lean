--
import Derived.Test.YtllhkifkiabkbaaGreatDoorAbsBGM
import Derived.Test.YtllhkifkiabkbaaGreatDoorAbsWpM
import Derived.Laws.Strings
set_option linter.unusedSimpArgs false
set_option linter.unusedVariables false
namespace Go.Abs
namespace B
set_option maxRecDepth 100000
set_option maxHeartbeats 0
abbrev W (n:Int):Int:=IntKind.wrap .i64 n
theorem w1 {i:Nat} (h:i<1000000):W ((i:Int)+1)=((i+1:Nat):Int):=by unfold W; rw[wrap_eq (by omega) (by omega)]; rfl
theorem bytes_len (s:ByteArray):s.toList.length=s.size:=by rw[ByteArray.toList_eq]; simp
def bN (s:ByteArray) (i:Nat):Int:=(((s.toList[i]?).getD 0).toNat:Int)
def letN (x:Int):Bool:=(decide (97≤x) && decide (x≤122)) || (decide (65≤x) && decide (x≤90))
def digN (x:Int):Bool:=decide (48≤x) && decide (x≤57)
def badN (x:Int):Bool:=!letN x && !digN x && !decide (x=45)
def nameB (s:ByteArray):Bool:=decide (s.size≠0) && decide (s.size≤12) && letN (bN s 0) && (List.range s.size).all fun i=>!badN (bN s i)
theorem bN_get {s:ByteArray} {i:Nat} (h:i<s.size):(s.toList)[i]?=some ((s.toList)[i]'(by rw[bytes_len]; exact h)):=List.getElem?_eq_getElem _
theorem bN_eq {s:ByteArray} {i:Nat} (h:i<s.size):((s.toList[i]'(by rw[bytes_len]; exact h)).toNat:Int)=bN s i:=by
 unfold bN; rw[bN_get h]; rfl
theorem c114 {d lim:Nat} {h:Heap} {x:Int}:E.call (d+1) lim 114 [.int .u8 x] h=some (.bool (letN x),h):=by
 refine call1 fn114 rfl (by simp[ef114]) ?_
 simp[ef114,letN]
 grind
theorem c115 {d lim:Nat} {h:Heap} {x:Int}:E.call (d+1) lim 115 [.int .u8 x] h=some (.bool (digN x),h):=by
 refine call1 fn115 rfl (by simp[ef115]) ?_
 simp[ef115,digN]
 grind
theorem nameB_true {s:ByteArray}:nameB s=true↔s.size≠0∧s.size≤12∧letN (bN s 0)=true∧∀ i,i<s.size→badN (bN s i)=false:=by
 simp[nameB,and_assoc]
theorem c73 {d lim:Nat} {h:Heap} {s:ByteArray}:E.call (d+2) lim 73 [.string s] h=some (.bool (nameB s),h):=by
 refine call1 fn73 rfl (by simp[ef73]) ?_
 have hget:∀ i,i<s.size→∃ c:UInt8,s.toList[i]?=some c∧(c.toNat:Int)=bN s i:=fun i hi=>⟨_,bN_get hi,bN_eq hi⟩
 by_cases h0:s.size=0
 ·have:nameB s=false:=by simp[nameB,h0]
  simp[ef73,h0,this]
 ·by_cases h12:s.size≤12
  ·obtain⟨c0,g0,f0⟩:=hget 0 (by omega)
   have i12:¬ (12:Int)<s.size:=by omega
   by_cases hl:letN (bN s 0)=true
   ·simp[ef73,h0,i12,h12,c114,hl,g0,f0]
    refine wpC_loop (fun q st=>∃ i,q=s.size-i∧i≤s.size∧(∀ j,j<i→badN (bN s j)=false)∧st=⟨[(0,.string s),(3,i64 (i:Nat))],h.freeze⟩) s.size (by show s.size<2 ^ 64; omega) ?_ ?_
    ·simp[St.tidy]
     exact⟨0,by omega,by omega,fun j hj=>by omega,rfl⟩
    ·rintro q hq _ ⟨i,rfl,hi,hb,rfl⟩
     by_cases hlt:i<s.size
     ·obtain⟨ci,gi,fi⟩:=hget i hlt
      have w1':=w1 (i:=i) (by omega)
      simp only[W] at w1'
      by_cases hbad:badN (bN s i)=true
      ·have:nameB s=false:=by
        rw[Bool.eq_false_iff]; intro q
        have:=(nameB_true.1 q).2.2.2 i hlt
        rw[hbad] at this; cases this
       unfold badN at hbad
       simp at hbad
       simp[hlt,c114,c115,gi,fi,hbad,this]
      ·have hb2:badN (bN s i)=false:=by simpa using hbad
       have fin:∃ j,j<s.size-i∧∃ k,j=s.size-k∧k≤s.size∧(∀ j,j<k→badN (bN s j)=false)∧(i:Int)+1=(k:Int) :=
        ⟨s.size-(i+1),by omega,i+1,rfl,by omega,fun j hj=>by
         by_cases e:j=i
         ·subst e; exact hb2
         ·exact hb j (by omega),rfl⟩
       unfold badN at hb2
       simp at hb2
       by_cases q1:letN (bN s i)=true
       ·simp[hlt,c114,c115,gi,fi,q1,w1',St.tidy]; exact fin
       ·simp only[Bool.not_eq_true] at q1
        by_cases q2:digN (bN s i)=true
        ·simp[hlt,c114,c115,gi,fi,q1,q2,w1',St.tidy]; exact fin
        ·simp only[Bool.not_eq_true] at q2
         have q3:=hb2 q1 q2
         simp[hlt,c114,c115,gi,fi,q1,q2,q3,w1',St.tidy]; exact⟨fun _=>fin,fun _=>⟨fun _=>fin,fun _=>fin⟩⟩
     ·have e:i=s.size:=by omega
      subst e
      have:nameB s=true:=nameB_true.2 ⟨h0,h12,hl,hb⟩
      simp[this]
   ·have:nameB s=false:=by simp[nameB,hl]
    simp only[Bool.not_eq_true] at hl
    simp[ef73,h0,i12,h12,c114,hl,g0,f0,this]
  ·have i12:(12:Int)<s.size:=by omega
   have:nameB s=false:=by simp[nameB,h12]
   simp[ef73,h0,i12,this]
def stopN (i:Nat) (x:Int):Bool:=!letN x && (decide (i=0) || (!decide (x=45) && (decide (x<48) || decide (57<x))))
theorem stopN_bad {i:Nat} {x:Int} (h:i≠0):stopN i x=badN x:=by
 unfold stopN badN digN
 grind
theorem c107 {d lim:Nat} {h:Heap} {s:ByteArray} (hs:s.size≤10000):E.call (d+1) lim 107 [.string s] h=some (.bool (nameB s),h):=by
 refine call1 fn107 rfl (by simp[ef107]) ?_
 have hget:∀ i,i<s.size→∃ c:UInt8,s.toList[i]?=some c∧(c.toNat:Int)=bN s i:=fun i hi=>⟨_,bN_get hi,bN_eq hi⟩
 have hcell:∀ i,i<s.size→(s.toList.map fun c=>Value.int .u8 c.toNat)[i]?=some (.int .u8 (bN s i)):=fun i hi=>by
  obtain⟨c,e,f⟩:=hget i hi
  rw[List.getElem?_map,e]; simp[f]
 have hp:(s.toList.map fun c=>Value.int .u8 c.toNat).all plainV=true:=by simp[List.all_map]
 have hm:s.size≤maxLen:=Nat.le_trans hs (by decide)
 have hl:(s.toList.map fun c=>Value.int .u8 c.toNat).length=s.size:=by simp[bytes_len]
 simp only[ef107]
 simp[hm]
 generalize (s.toList.map fun c=>Value.int .u8 c.toNat)=L at *
 refine wpC_loop (fun q st=>∃ i,q=s.size-i∧i≤s.size∧(∀ j,j<i→stopN j (bN s j)=false)∧st=⟨[(0,.string s),(7,.slice (some ⟨h.length,0,none⟩) s.size 1),(8,i64 (s.size:Nat)),(9,i64 (i:Nat))],h.freeze++[some ⟨L,false⟩]⟩) s.size (by show s.size<2 ^ 64; omega) ?_ ?_
 ·simp[St.tidy,hp]
  exact⟨0,by omega,by omega,fun j hj=>by omega,rfl⟩
 ·rintro q hq _ ⟨i,rfl,hi,hb,rfl⟩
  by_cases hlt:i<s.size
  ·have ci:=hcell i hlt
   have w1':=w1 (i:=i) (by omega)
   simp only[W] at w1'
   by_cases hst:stopN i (bN s i)=true
   ·have hn:nameB s=false:=by
     rw[Bool.eq_false_iff]; intro q
     obtain⟨q1,q2,q3,q4⟩:=nameB_true.1 q
     by_cases i0:i=0
     ·subst i0; unfold stopN at hst; rw[q3] at hst; simp at hst
     ·rw[stopN_bad i0,q4 i hlt] at hst; cases hst
    generalize bN s i=x at *
    have h3:¬ (97≤x∧x≤122)∧¬ (65≤x∧x≤90)∧(i=0∨(x≠45∧(x<48∨57<x))):=by unfold stopN letN at hst; grind
    simp[hlt,ci,hn]
    clear hst hb hcell hget hp ci hq hi hm hs hn
    repeat' (first | refine And.intro ?_ ?_ | intro _)
    all_goals omega
   ·have hb2:stopN i (bN s i)=false:=by simpa using hst
    have fin:∃ j,j<s.size-i∧∃ k,j=s.size-k∧k≤s.size∧(∀ j,j<k→stopN j (bN s j)=false)∧(i:Int)+1=(k:Int) :=
     ⟨s.size-(i+1),by omega,i+1,rfl,by omega,fun j hj=>by
      by_cases e:j=i
      ·subst e; exact hb2
      ·exact hb j (by omega),rfl⟩
    clear hb
    generalize hx:bN s i=x at *
    generalize hF:(∃ j,j<s.size-i∧∃ k,j=s.size-k∧k≤s.size∧(∀ j,j<k→stopN j (bN s j)=false)∧(i:Int)+1=(k:Int))=F at *
    have h3:(97≤x∧x≤122)∨(65≤x∧x≤90)∨(i≠0∧(x=45∨(48≤x∧x≤57))):=by unfold stopN letN at hb2; grind
    have hFt:F:=fin
    simp[hlt,ci,w1',St.tidy,hp,hF,hFt]
    clear hcell hget hF hp ci w1' fin hq hi hm hs hx hb2
    repeat' (first | refine And.intro ?_ ?_ | intro _)
    all_goals (exfalso; omega)
  ·have e:i=s.size:=by omega
   subst e
   have hn:nameB s=(decide (s.size≠0) && decide (s.size≤12)):=by
    rw[Bool.eq_iff_iff,nameB_true]
    constructor
    ·rintro ⟨q1,q2,_⟩; simp[q1,q2]
    ·intro q
     rw[Bool.and_eq_true,decide_eq_true_eq,decide_eq_true_eq] at q
     refine⟨q.1,q.2,?_,fun j hj=>?_⟩
     ·have:=hb 0 (by omega)
      unfold stopN at this; simpa using this
     ·by_cases j0:j=0
      ·subst j0
       have:=hb 0 (by omega)
       unfold stopN at this; simp at this
       simp[badN,this]
      ·rw[← stopN_bad j0]; exact hb j hj
   by_cases h0:s.size=0
   ·have e0:=bytes_nil.2 h0
    have hn0:nameB s=false:=by rw[hn,h0]; rfl
    subst e0
    simp[hn0]
   ·have e0:¬ s=⟨#[]⟩:=fun q=>h0 (bytes_nil.1 q)
    simp[e0,hn,h0]
    omega
end B
end Go.Abs
namespace Go.Abs
namespace B
set_option maxRecDepth 100000
set_option maxHeartbeats 0
structure Wi where
 name:ByteArray
 mass:Int
 str:Int
 stiff:Int
structure Sd where
 len:Int
 core:Int
 over:Int
 wire:ByteArray
 wrap:ByteArray
def noW:Wi:=⟨⟨#[]⟩,0,0,0⟩
def atW (l:List Wi) (i:Nat):Wi:=l[i]?.getD noW
theorem atW_get {l:List Wi} {i:Nat} (h:i<l.length):l[i]=atW l i:=by unfold atW; rw[List.getElem?_eq_getElem h]; rfl
def idxW:List Wi→ByteArray→Nat
 | [],_=>0
 | w::r,n=>if w.name=n then 0 else idxW r n+1
theorem idxW_le:∀ (l:List Wi) (n:ByteArray),idxW l n≤l.length
 | [],_=>Nat.le_refl _
 | w::r,n=>by have:=idxW_le r n; simp only[idxW,List.length_cons]; split <;> omega
theorem idxW_hit:∀ {l:List Wi} {n:ByteArray} {i:Nat},i<l.length→(∀ j,j<i→(atW l j).name≠n)→(atW l i).name=n→idxW l n=i
 | [],_,_,h,_,_=>by simp at h
 | w::r,n,0,_,_,e=>by simp only[atW,List.getElem?_cons_zero,Option.getD_some] at e; simp[idxW,e]
 | w::r,n,i+1,h,q,e=>by
  have h0:w.name≠n:=by have:=q 0 (by omega); simpa [atW] using this
  have ih:=idxW_hit (l:=r) (n:=n) (i:=i) (by simpa using h) (fun j hj=>by have:=q (j+1) (by omega); simpa [atW] using this) (by simpa [atW] using e)
  simp[idxW,h0,ih]
theorem idxW_none:∀ {l:List Wi} {n:ByteArray},(∀ j,j<l.length→(atW l j).name≠n)→idxW l n=l.length
 | [],_,_=>rfl
 | w::r,n,q=>by
  have h0:w.name≠n:=by have:=q 0 (by simp); simpa [atW] using this
  have ih:=idxW_none (l:=r) (n:=n) (fun j hj=>by have:=q (j+1) (by simpa using hj); simpa [atW] using this)
  simp[idxW,h0,ih]
theorem idxW_name:∀ {l:List Wi} {n:ByteArray},idxW l n<l.length→(atW l (idxW l n)).name=n
 | [],_,h=>by simp at h
 | w::r,n,h=>by
  by_cases h0:w.name=n
  ·simp[idxW,h0,atW]
  ·simp only[idxW,if_neg h0,List.length_cons] at h ⊢
   have:=idxW_name (l:=r) (n:=n) (by omega)
   simpa [atW] using this
def getW (l:List Wi) (n:ByteArray):Wi:=atW l (idxW l n)
def hasW (l:List Wi) (n:ByteArray):Bool:=decide (idxW l n<l.length)
theorem getW_no {l:List Wi} {n:ByteArray} (h:hasW l n=false):getW l n=noW:=by
 have h1:=idxW_le l n
 have h2:¬ idxW l n<l.length:=by simpa [hasW] using h
 unfold getW atW; rw[List.getElem?_eq_none (by omega)]; rfl
def wOk (w:Wi):Bool:=within w.mass 1 200000 && within w.str 1 1000000 && within w.stiff 0 100000000
def wErr (done:List Wi) (w:Wi):Int:=if nameB w.name=false then 4 else if hasW done w.name=true then 5 else if wOk w=false then 2 else 0
def chkWL (l:List Wi) (i:Nat):Int:=if i<l.length then (if wErr (l.take i) (atW l i)=0 then chkWL l (i+1) else wErr (l.take i) (atW l i)) else 0
termination_by l.length-i
theorem chkWL_lt {l:List Wi} {i:Nat} (h:i<l.length):chkWL l i=if wErr (l.take i) (atW l i)=0 then chkWL l (i+1) else wErr (l.take i) (atW l i):=by rw[chkWL,if_pos h]
theorem chkWL_ge {l:List Wi} {i:Nat} (h:¬ i<l.length):chkWL l i=0:=by rw[chkWL,if_neg h]
theorem chkWL_all {l:List Wi}:∀ (k i:Nat),l.length-i=k→chkWL l i=0→∀ j,i≤j→j<l.length→wErr (l.take j) (atW l j)=0
 | 0,i,hk,_,j,h1,h2=>by omega
 | k+1,i,hk,h,j,h1,h2=>by
  rw[chkWL_lt (by omega)] at h
  split at h
  ·rename_i e
   rcases Nat.eq_or_lt_of_le h1 with rfl | h3
   ·exact e
   ·exact chkWL_all k (i+1) (by omega) h j h3 h2
  ·rename_i e; exact absurd h e
def chkW (l:List Wi):Int:=if 20<l.length then 8 else chkWL l 0
theorem wErr_ok {done:List Wi} {w:Wi} (h:wErr done w=0):1≤w.mass∧w.mass≤200000∧1≤w.str∧w.str≤1000000∧0≤w.stiff∧w.stiff≤100000000:=by
 unfold wErr at h
 split at h
 ·cases h
 ·split at h
  ·cases h
  ·split at h
   ·cases h
   ·rename_i q
    simp only[Bool.not_eq_false] at q
    simp[wOk,within] at q
    omega
theorem chkW_ok {l:List Wi} (h:chkW l=0) {i:Nat} (hi:i<l.length):1≤(atW l i).mass∧(atW l i).mass≤200000∧1≤(atW l i).str∧(atW l i).str≤1000000∧0≤(atW l i).stiff∧(atW l i).stiff≤100000000:=by
 unfold chkW at h
 split at h
 ·cases h
 ·exact wErr_ok (chkWL_all _ 0 rfl h i (by omega) hi)
def sErr (l:List Wi) (s:Sd):Int :=
 if within s.len 1000 300000=false∨within s.core 100 3000=false∨within s.over 0 10000=false then 2
 else if (s.over≠0∧s.over≤s.core)∨¬ (s.over=0↔s.wrap=⟨#[]⟩) then 3
 else if hasW l s.wire=false∨(s.over≠0∧hasW l s.wrap=false) then 6
 else if (getW l s.wire).str * s.core * s.core<1000000 then 11 else 0
def chkD (l:List Wi) (s:Sd):Int:=if chkW l=0 then sErr l s else chkW l
def mOf (l:List Wi) (s:Sd):Int:=(getW l s.wire).mass * s.core * s.core+if s.over=0 then 0 else (getW l s.wrap).mass * (s.over * s.over-s.core * s.core)
def up (a b:Int):Int:=(a+b-1) / b
def wayL (s:Sd) (f:Int):Int:=f * s.len / 1000000
def wayH (s:Sd) (f:Int):Int:=up (f * s.len) 1000000
def sqL (x:Int):Int:=x * x / 10000
def sqH (x:Int):Int:=up (x * x) 10000
def tenL (l:List Wi) (s:Sd) (f:Int):Int:=(mOf l s / 10000) * sqL (wayL s f) / 1000000
def tenH (l:List Wi) (s:Sd) (f:Int):Int:=up (up (mOf l s) 10000 * sqH (wayH s f)) 1000000
def freqB (a b:Int):Bool:=decide (1≤a∧a≤b∧b≤10000000)
theorem mulB {a b A B:Int} (h0:0≤a) (h1:a≤A) (k0:0≤b) (k1:b≤B):0≤a * b∧a * b≤A * B :=
 ⟨Int.mul_nonneg h0 k0,Int.mul_le_mul h1 k1 k0 (Int.le_trans h0 h1)⟩
structure SdOk (l:List Wi) (s:Sd):Prop where
 w:chkW l=0
 len:1000≤s.len∧s.len≤300000
 core:100≤s.core∧s.core≤3000
 over:0≤s.over∧s.over≤10000
 wrp:s.over≠0→s.core<s.over∧hasW l s.wrap=true
 nowrp:s.over=0↔s.wrap=⟨#[]⟩
 wir:hasW l s.wire=true
 str:1000000≤(getW l s.wire).str * s.core * s.core
theorem SdOk.of {l:List Wi} {s:Sd} (h:chkD l s=0):SdOk l s:=by
 unfold chkD at h
 split at h
 ·rename_i hw
  unfold sErr at h
  split at h
  ·cases h
  ·rename_i q1
   split at h
   ·cases h
   ·rename_i q2
    split at h
    ·cases h
    ·rename_i q3
     split at h
     ·cases h
     ·rename_i q4
      simp only[not_or,Bool.not_eq_false] at q1 q3
      simp[within] at q1
      refine⟨hw,q1.1,q1.2.1,q1.2.2,fun ho=>?_,?_,q3.1,by omega⟩
      ·refine⟨?_,?_⟩
       ·rcases Int.lt_or_le s.core s.over with z | z
        ·exact z
        ·exact absurd (.inl ⟨ho,z⟩) q2
       ·rcases hq:hasW l s.wrap with _ | _
        ·exact absurd ⟨ho,hq⟩ q3.2
        ·rfl
      ·rcases Classical.em (s.over=0↔s.wrap=⟨#[]⟩) with z | z
       ·exact z
       ·exact absurd (.inr z) q2
 ·rename_i hw; exact absurd h hw
theorem getW_ok {l:List Wi} {n:ByteArray} (hw:chkW l=0) (h:hasW l n=true):1≤(getW l n).mass∧(getW l n).mass≤200000∧1≤(getW l n).str∧(getW l n).str≤1000000∧0≤(getW l n).stiff∧(getW l n).stiff≤100000000 :=
 chkW_ok hw (by simpa [hasW] using h)
theorem coreSq {l:List Wi} {s:Sd} (h:SdOk l s):10000≤s.core * s.core∧s.core * s.core≤9000000:=by
 have:=h.core
 have a:=mulB (a:=100) (b:=100) (A:=s.core) (B:=s.core) (by omega) (by omega) (by omega) (by omega)
 have b:=mulB (a:=s.core) (b:=s.core) (A:=3000) (B:=3000) (by omega) (by omega) (by omega) (by omega)
 omega
theorem overSq {l:List Wi} {s:Sd} (h:SdOk l s) (ho:s.over≠0):s.core * s.core<s.over * s.over∧s.over * s.over≤100000000:=by
 have c:=h.core
 have o:=h.over
 have w:=(h.wrp ho).1
 have b:=mulB (a:=s.over) (b:=s.over) (A:=10000) (B:=10000) (by omega) (by omega) (by omega) (by omega)
 have a:s.core * s.core<s.over * s.over:=Int.mul_lt_mul w (Int.le_of_lt w) (by omega) (by omega)
 omega
theorem massB {m a M A:Int} (h1:1≤m) (h2:m≤M) (k1:0≤a) (k2:a≤A):a≤m * a∧m * a≤M * A:=by
 have b:=mulB (a:=m) (b:=a) (A:=M) (B:=A) (by omega) h2 k1 k2
 have c:=mulB (a:=1) (b:=a) (A:=m) (B:=a) (by omega) h1 k1 (Int.le_refl _)
 omega
theorem mOf_bd {l:List Wi} {s:Sd} (h:SdOk l s):10000≤mOf l s∧mOf l s≤20000000000000:=by
 have c:=coreSq h
 obtain⟨m1,m2,_⟩:=getW_ok h.w h.wir
 have e:(getW l s.wire).mass * s.core * s.core=(getW l s.wire).mass * (s.core * s.core):=Int.mul_assoc _ _ _
 have a:=massB m1 m2 (show 0≤s.core * s.core by omega) (Int.le_refl _)
 unfold mOf
 split
 ·omega
 ·rename_i ho
  have o:=overSq h ho
  obtain⟨k1,k2,_⟩:=getW_ok h.w (h.wrp ho).2
  have b:=massB k1 k2 (show 0≤s.over * s.over-s.core * s.core by omega) (Int.le_refl _)
  omega
theorem strB {l:List Wi} {s:Sd} (h:SdOk l s):1000000≤(getW l s.wire).str * s.core * s.core∧(getW l s.wire).str * s.core * s.core≤9000000000000:=by
 have c:=coreSq h
 obtain⟨_,_,m1,m2,_⟩:=getW_ok h.w h.wir
 have e:(getW l s.wire).str * s.core * s.core=(getW l s.wire).str * (s.core * s.core):=Int.mul_assoc _ _ _
 have a:=massB m1 m2 (show 0≤s.core * s.core by omega) c.2
 have:=h.str
 omega
theorem way_bd {l:List Wi} {s:Sd} (h:SdOk l s) {f:Int} (h1:1≤f) (h2:f≤10000000):1000≤f * s.len∧f * s.len≤3000000000000∧0≤wayL s f∧wayL s f≤3000000∧1≤wayH s f∧wayH s f≤3000000∧wayL s f≤wayH s f:=by
 have c:=h.len
 have b:=mulB (a:=f) (b:=s.len) (A:=10000000) (B:=300000) (by omega) (by omega) (by omega) (by omega)
 have b2:=mulB (a:=1) (b:=1000) (A:=f) (B:=s.len) (by omega) (by omega) (by omega) (by omega)
 unfold wayL wayH up
 generalize f * s.len=y at *
 omega
theorem sq_bd {x M:Int} (h1:0≤x) (h2:x≤M):0≤x * x∧x * x≤M * M:=mulB h1 h2 h1 h2
theorem sqL_bd {x:Int} (h1:0≤x) (h2:x≤3000000):0≤x * x∧x * x≤9000000000000∧0≤sqL x∧sqL x≤900000000:=by
 have b:=sq_bd h1 h2
 unfold sqL
 generalize x * x=y at *
 omega
theorem sqH_bd {x:Int} (h1:0≤x) (h2:x≤3000000):0≤x * x∧x * x≤9000000000000∧0≤sqH x∧sqH x≤900000000∧(1≤x→1≤sqH x):=by
 have b:=sq_bd h1 h2
 have c:1≤x→1≤x * x:=fun z=>(mulB (a:=1) (b:=1) (A:=x) (B:=x) (by omega) z (by omega) z).2
 unfold sqH up
 generalize x * x=y at *
 omega
theorem ten_bd {l:List Wi} {s:Sd} (h:SdOk l s) {f g:Int} (h1:1≤f) (h3:1≤g) (h2:f≤10000000) (h4:g≤10000000) :
  0≤mOf l s / 10000∧mOf l s / 10000≤2000000000∧0≤up (mOf l s) 10000∧up (mOf l s) 10000≤2000000000 ∧
  0≤(mOf l s / 10000) * sqL (wayL s f)∧(mOf l s / 10000) * sqL (wayL s f)≤1800000000000000000 ∧
  0≤up (mOf l s) 10000 * sqH (wayH s g)∧up (mOf l s) 10000 * sqH (wayH s g)≤1800000000000000000 ∧
  0≤tenL l s f∧tenL l s f≤1800000000000∧1≤tenH l s g∧tenH l s g≤1800000000000:=by
 obtain⟨_,_,a1,a2,_,_,_⟩:=way_bd h h1 h2
 obtain⟨_,_,_,_,b1,b2,_⟩:=way_bd h h3 h4
 obtain⟨_,_,c1,c2⟩:=sqL_bd a1 a2
 obtain⟨_,_,d1,d2,d3⟩:=sqH_bd (by omega) b2
 have m:=mOf_bd h
 have m1:1≤mOf l s / 10000∧mOf l s / 10000≤2000000000:=by omega
 have m2:1≤up (mOf l s) 10000∧up (mOf l s) 10000≤2000000000:=by unfold up; omega
 have d4:=d3 b1
 unfold tenL tenH
 generalize sqL (wayL s f)=p at *
 generalize sqH (wayH s g)=q at *
 generalize mOf l s / 10000=u at *
 generalize up (mOf l s) 10000=v at *
 have e:=mulB (a:=u) (b:=p) (A:=2000000000) (B:=900000000) (by omega) m1.2 c1 c2
 have e2:=mulB (a:=v) (b:=q) (A:=2000000000) (B:=900000000) (by omega) m2.2 d1 d2
 have e3:=mulB (a:=1) (b:=1) (A:=v) (B:=q) (by omega) m2.1 (by omega) d4
 unfold up
 generalize u * p=y at *
 generalize v * q=z at *
 omega
def raL (s:Sd):Int:=1000 * s.core * s.core / s.len
def raH (s:Sd):Int:=up (1000 * s.core * s.core) s.len
def inL (l:List Wi) (s:Sd) (t:Int):Int:=(getW l s.wire).stiff * (raL s * raL s / 1000) / (1000 * t)
def inH (l:List Wi) (s:Sd) (t:Int):Int:=up ((getW l s.wire).stiff * up (raH s * raH s) 1000) (1000 * t)
theorem ra_bd {l:List Wi} {s:Sd} (h:SdOk l s):0≤1000 * s.core * s.core∧1000 * s.core * s.core≤9000000000∧0≤raL s∧raL s≤9000000∧0≤raH s∧raH s≤9000000:=by
 have c:=coreSq h
 have k:=h.len
 have e:1000 * s.core * s.core=1000 * (s.core * s.core):=Int.mul_assoc _ _ _
 unfold raL raH up
 rw[e]
 generalize s.core * s.core=y at *
 have h1:1000 * y / s.len≤9000000:=by
  have:1000 * y<(9000000+1) * s.len:=by omega
  have:=Int.ediv_lt_of_lt_mul (by omega) this
  omega
 have h2:(1000 * y+s.len-1) / s.len≤9000000:=by
  have:1000 * y+s.len-1<(9000000+1) * s.len:=by omega
  have:=Int.ediv_lt_of_lt_mul (by omega) this
  omega
 exact⟨by omega,by omega,Int.ediv_nonneg (by omega) (by omega),h1,Int.ediv_nonneg (by omega) (by omega),h2⟩
end B
end Go.Abs
namespace Go.Abs
namespace B
set_option maxRecDepth 100000
set_option maxHeartbeats 0
theorem qdiv_nn {a b:Int} (h:0≤a):qdiv a b=a / b:=by unfold qdiv; exact Int.tdiv_eq_ediv_of_nonneg h
theorem div_bd {a b:Int} (h:0≤a) (hb:0<b):0≤a / b∧a / b≤a:=⟨Int.ediv_nonneg h (Int.le_of_lt hb),Int.ediv_le_self _ h⟩
theorem up_neg {n m:Int} (hm:0<m):-((-n) / m)=up n m:=by
 unfold up
 have e:=Int.mul_ediv_add_emod (n+m-1) m
 have r0:=Int.emod_nonneg (n+m-1) (Int.ne_of_gt hm)
 have r1:=Int.emod_lt_of_pos (n+m-1) hm
 generalize (n+m-1) / m=q at *
 generalize (n+m-1) % m=s at *
 have:=(Int.ediv_emod_unique (a:=-n) (r:=m-1-s) (q:=-q) hm).2 ⟨by rw[Int.mul_neg]; omega,by omega,by omega⟩
 omega
theorem up_bd {a b:Int} (h:0≤a) (hb:0<b):0≤up a b∧up a b≤a:=by
 refine⟨by unfold up; exact Int.ediv_nonneg (by omega) (by omega),?_⟩
 rw[← up_neg hb]
 have e:=Int.mul_ediv_add_emod (-a) b
 have r1:=Int.emod_lt_of_pos (-a) hb
 have r0:=Int.emod_nonneg (-a) (Int.ne_of_gt hb)
 generalize (-a) / b=q at *
 generalize (-a) % b=s at *
 rcases Int.lt_or_le (-q) a with z | z
 ·omega
 ·rcases Int.lt_or_le a (-q) with z2 | z2
  ·exfalso
   have:=Int.mul_le_mul_of_nonneg_right (show (1:Int)≤b by omega) (show 0≤-q by omega)
   rw[Int.one_mul,Int.mul_neg] at this
   have h3:b * q≤-a-s:=by omega
   have:b * (q+a+1)≤0:=by
    have:b * (q+a+1)≤b * 0:=Int.mul_le_mul_of_nonneg_left (by omega) (by omega)
    simpa using this
   rw[Int.mul_add,Int.mul_add,Int.mul_one] at this
   have ba:a≤b * a:=by
    have:=Int.mul_le_mul_of_nonneg_right (show (1:Int)≤b by omega) h
    rwa [Int.one_mul] at this
   omega
  ·omega
end B
end Go.Abs
