--
import Derived.Test.YtllhkifkiabkbaaGreatDoorAbsBT1
import Derived.Test.YtllhkifkiabkbaaGreatDoorAbsWpO
import Derived.Test.YtllhkifkiabkbaaGreatDoorAbsBZ4
set_option linter.unusedSimpArgs false
set_option linter.unusedVariables false
namespace Go.Abs
namespace B
set_option maxRecDepth 100000
set_option maxHeartbeats 0
structure Un where
 two:Int
 three:Int
 five:Int
 den:Int
 count:Int
 sd:Sd
def noU:Un:=⟨0,0,0,0,0,⟨0,0,0,⟨#[]⟩,⟨#[]⟩⟩⟩
def atN (l:List Un) (i:Nat):Un:=l[i]?.getD noU
theorem atN_get {l:List Un} {i:Nat} (h:i<l.length):l[i]=atN l i:=by unfold atN; rw[List.getElem?_eq_getElem h]; rfl
def encN (u:Un):List Value:=[i64 u.two,i64 u.three,i64 u.five,i64 u.den,i64 u.count,i64 u.sd.len,i64 u.sd.core,i64 u.sd.over,.string u.sd.wire,.string u.sd.wrap]
theorem cN_part {l:List Un} {i:Nat} (h:i<l.length):((cS encN l).drop (i * 10)).take 10=encN (atN l i):=by
 rw[cS_part (f:=encN) (es:=10) (fun _=>rfl) l i h,atN_get h]
theorem cN_sub {l:List Un} {i j m:Nat} (h:i<l.length) (hm:j+m≤10):((cS encN l).drop (i * 10+j)).take m=((encN (atN l i)).drop j).take m:=by
 have p:=cN_part h
 have e:((cS encN l).drop (i * 10+j)).take m=(((((cS encN l).drop (i * 10)).take 10).drop j).take m):=by
  rw[List.drop_take,List.drop_drop,List.take_take,Nat.min_eq_left (by omega)]
 rw[e,p]
theorem cN_j {l:List Un} {i j:Nat} (h:i<l.length) (hj:j<10):(cS encN l)[i * 10+j]?=(encN (atN l i))[j]?:=by
 rw[cS_get (f:=encN) (es:=10) (fun _=>rfl) l i j h hj,atN_get h]
abbrev SlN (h:Heap) (v:Value) (l:List Un):Prop:=Sl 10 h v l.length (cS encN l)
abbrev stV (f:Int) (v w:Value):Value:=.agg #[i64 f,v,w]
abbrev ptU (u:Un):Value:=pt u.two u.three u.five u.den
def isP (u:Un):Bool:=isPitch u.two u.three u.five u.den
theorem den_ok {u:Un} (h:isP u=true):1≤u.den:=(isPitch_R h).2.2.2.1
noncomputable def eL (u:Un) (t:Int):Nat:=if h:1≤u.den then Classical.choose (encS u.two u.three u.five u.den h t.toNat) else 0
noncomputable def eH (u:Un) (t:Int):Nat:=if h:1≤u.den then Classical.choose (Classical.choose_spec (encS u.two u.three u.five u.den h t.toNat)) else 0
theorem eS {u:Un} (h:isP u=true) (t:Int):EncS u.two u.three u.five u.den t.toNat (eL u t) (eH u t):=by
 have hd:=den_ok h
 unfold eL eH
 rw[dif_pos hd,dif_pos hd]
 exact Classical.choose_spec (Classical.choose_spec (encS u.two u.three u.five u.den hd t.toNat))
noncomputable def fE (u:Un) (t:Int):Int:=if eH u t≤1000000000000000 then 0 else 8
noncomputable def fL (u:Un) (t:Int):Int:=if eH u t≤1000000000000000 then (eL u t:Int) else 0
noncomputable def fH (u:Un) (t:Int):Int:=if eH u t≤1000000000000000 then (eH u t:Int) else 0
theorem enc_prog {d lim:Nat} {h:Heap} {u:Un} {t:Int} (sp:Pr h) (hp:isP u=true) (ht:within t 1000 10000000=true):E.call (d+5) lim 109 [ptU u,i64 t] h=some (rge (fL u t) (fH u t) (fE u t),h):=by
 have ht':1000≤t∧t≤10000000:=by simpa [within] using ht
 have S:=eS hp t
 have k:=c109 (d:=d) (lim:=lim) sp hp (t:=t.toNat) (by omega) S
 obtain⟨s1,s2,s3⟩:=small_eq S.lt.1
 rw[s1,s2,s3,show ((t.toNat:Nat):Int)=t by omega] at k
 exact k
theorem enc_ref {d lim:Nat} {h:Heap} {u:Un} {t:Int} (hp:isP u=true) (ht:within t 1000 10000000=true):E.call (d+4) lim 77 [ptU u,i64 t] h=some (rge (fL u t) (fH u t) (fE u t),h):=by
 have ht':1000≤t∧t≤10000000:=by simpa [within] using ht
 have S:=eS hp t
 have k:=c77 (d:=d) (lim:=lim) (h:=h) hp (t:=t.toNat) (by omega) S
 rw[show ((t.toNat:Nat):Int)=t by omega] at k
 exact k
def ordU (u w:Un):Int:=ordP u.two u.three u.five u.den w.two w.three w.five w.den
theorem ord_prog {d lim:Nat} {h:Heap} {u w:Un} (sp:Pr h) (h1:isP u=true) (h2:isP w=true):E.call (d+6) lim 110 [ptU u,ptU w] h=some (.tuple #[i64 (ordU u w),i64 0],h):=c110 sp h1 h2 (two_pitch h1 h2)
theorem ord_ref {d lim:Nat} {h:Heap} {u w:Un} (h1:isP u=true) (h2:isP w=true):E.call (d+4) lim 79 [ptU u,ptU w] h=some (i64 (ordU u w),h):=c79 (two_pitch h1 h2)
noncomputable def uErr (wl:List Wi) (t:Int) (l:List Un) (i:Nat):Int :=
 if isP (atN l i)=false then 2 else if within (atN l i).count 1 4=false then 2 else if sErr wl (atN l i).sd≠0 then sErr wl (atN l i).sd
 else if fE (atN l i) t≠0 then fE (atN l i) t else if freqB (fL (atN l i) t) (fH (atN l i) t)=false then 2 else if 0<i∧ordU (atN l i) (atN l (i-1))≤0 then 9 else 0
noncomputable def chkUL (wl:List Wi) (t:Int) (l:List Un) (i:Nat):Int × Int:=if i<l.length then (if uErr wl t l i=0 then chkUL wl t l (i+1) else ((i:Int),uErr wl t l i)) else (0,0)
termination_by l.length-i
theorem chkUL_lt {wl:List Wi} {t:Int} {l:List Un} {i:Nat} (h:i<l.length):chkUL wl t l i=if uErr wl t l i=0 then chkUL wl t l (i+1) else ((i:Int),uErr wl t l i):=by rw[chkUL,if_pos h]
theorem chkUL_ge {wl:List Wi} {t:Int} {l:List Un} {i:Nat} (h:¬ i<l.length):chkUL wl t l i=(0,0):=by rw[chkUL,if_neg h]
theorem chkUL_all {wl:List Wi} {t:Int} {l:List Un}:∀ (k i:Nat),l.length-i=k→(chkUL wl t l i).2=0→∀ j,i≤j→j<l.length→uErr wl t l j=0
 | 0,i,hk,_,j,h1,h2=>by omega
 | k+1,i,hk,h,j,h1,h2=>by
  rw[chkUL_lt (by omega)] at h
  split at h
  ·rename_i e
   rcases Nat.eq_or_lt_of_le h1 with rfl | h3
   ·exact e
   ·exact chkUL_all k (i+1) (by omega) h j h3 h2
  ·rename_i e; exact absurd h e
noncomputable def stE (t:Int) (wl:List Wi) (l:List Un):Int × Int :=
 if within t 1000 10000000=false then (0,2) else if chkW wl≠0 then (0,chkW wl) else if 90<l.length then (0,8) else chkUL wl t l 0
structure UOk (wl:List Wi) (t:Int) (l:List Un) (i:Nat):Prop where
 p:isP (atN l i)=true
 cnt:1≤(atN l i).count∧(atN l i).count≤4
 sd:SdOk wl (atN l i).sd
 e:fE (atN l i) t=0
 f:FOk (fL (atN l i) t) (fH (atN l i) t)
theorem UOk.of {wl:List Wi} {t:Int} {l:List Un} {i:Nat} (hw:chkW wl=0) (h:uErr wl t l i=0):UOk wl t l i:=by
 unfold uErr at h
 split at h
 ·cases h
 ·rename_i q1
  split at h
  ·cases h
  ·rename_i q2
   split at h
   ·rename_i q3; exact absurd h q3
   ·rename_i q3
    split at h
    ·rename_i q4; exact absurd h q4
    ·rename_i q4
     split at h
     ·cases h
     ·rename_i q5
      simp only[Bool.not_eq_false,ne_eq,Decidable.not_not] at q1 q2 q3 q4 q5
      exact⟨q1,by simpa [within] using q2,SdOk.of (by unfold chkD; rw[if_pos hw,q3]),q4,FOk.of q5⟩
structure StOk (t:Int) (wl:List Wi) (l:List Un):Prop where
 fork:within t 1000 10000000=true
 w:chkW wl=0
 few:l.length≤90
 u:∀ i,i<l.length→UOk wl t l i
theorem StOk.of {t:Int} {wl:List Wi} {l:List Un} (h:(stE t wl l).2=0):StOk t wl l:=by
 unfold stE at h
 split at h
 ·cases h
 ·rename_i q1
  split at h
  ·rename_i q2; exact absurd h q2
  ·rename_i q2
   split at h
   ·cases h
   ·simp only[Bool.not_eq_false,ne_eq,Decidable.not_not] at q1 q2
    exact⟨q1,q2,by omega,fun i hi=>UOk.of q2 (chkUL_all _ 0 rfl h i (by omega) hi)⟩
end B
end Go.Abs
namespace Go.Abs
namespace B
set_option maxRecDepth 100000
set_option maxHeartbeats 0
theorem cN_p4 {l:List Un} {i:Nat} (h:i<l.length):((cS encN l).drop (i * 10)).take 4=[i64 (atN l i).two,i64 (atN l i).three,i64 (atN l i).five,i64 (atN l i).den]:=by
 have:=cN_sub (j:=0) (m:=4) h (by omega)
 rw[Nat.add_zero] at this
 rw[this]; rfl
theorem cN_s5 {l:List Un} {i:Nat} (h:i<l.length):((cS encN l).drop (i * 10+5)).take 5=[i64 (atN l i).sd.len,i64 (atN l i).sd.core,i64 (atN l i).sd.over,.string (atN l i).sd.wire,.string (atN l i).sd.wrap]:=by
 rw[cN_sub (j:=5) (m:=5) h (by omega)]; rfl
theorem c75 {d lim:Nat} {h:Heap} {a b c e:Int}:E.call (d+2) lim 75 [pt a b c e] h=some (.bool (isPitch a b c e),h):=by
 refine call1 fn75 rfl (by simp[ef75]) ?_
 simp[ef75,wpC_unroll,wpI_step,E_fuel',c41,St.tidy]
 grind [isPitch]
theorem w1s {i:Nat} (h0:0<i) (h:i<1000000):IntKind.wrap .i64 ((i:Int)-1)=((i-1:Nat):Int):=by rw[wrap_eq (by omega) (by omega)]; omega
theorem c69 {d lim:Nat} {h:Heap} {v w:Value} {wl:List Wi} {l:List Un} {t:Int} {i:Nat} (sp:Pr h) (s:SlW h v wl) (q:SlN h w l) (hw:chkW wl=0) (hnm:Nms wl) (ht:within t 1000 10000000=true) (hi:i<l.length) (hl:l.length≤1000)
  (hp:0<i→isP (atN l (i-1))=true):E.call (d+7) lim 69 [stV t v w,i64 (i:Int)] h=some (i64 (uErr wl t l i),h):=by
 have few:=chkW_few hw
 have r:=q.rules2
 have p:=cN_part hi
 have k10:i * 10+10≤l.length * 10:=by omega
 have hii:(i:Int)<l.length:=by omega
 have sp':=fun L=>(Sl_freeze.2 sp).app L
 have k92:=fun lim L s'=>c99 (d:=d+2) (lim:=lim) (s:=s') ((Sl_freeze.2 s).app L) (by omega) hnm
 have k69:=fun lim hh a b c=>c67 (d:=d+5) (lim:=lim) (h:=hh) (a:=a) (b:=b) (c:=c)
 have k120:=fun lim hh a b c e=>c108 (d:=d+4) (lim:=lim) (h:=hh) (a:=a) (b:=b) (c:=c) (e:=e)
 have k132:=fun lim hh a b=>c100 (d:=d+5) (lim:=lim) (h:=hh) (a:=a) (b:=b)
 refine call1 fn69 rfl (by simp[ef69]) ?_
 generalize hE:uErr wl t l i=E0
 unfold uErr at hE
 have k92u:=fun lim L=>k92 lim L (atN l i).sd
 generalize hu:atN l i=u at *
 simp only[encN] at p
 simp only[sdV,chkD,if_pos hw] at k92u
 rcases q1:isP u with _ | _
 ·rw[if_pos q1] at hE
  have cp:checkPitch u.two u.three u.five u.den=2:=by unfold isP at q1; simp[checkPitch,q1]
  subst hE
  simp[ef69,r,hii,k10,p,k120,cp]
 have cp:checkPitch u.two u.three u.five u.den=0:=check0.2 q1
 rw[if_neg (by rw[q1]; simp)] at hE
 rcases q2:within u.count 1 4 with _ | _
 ·rw[if_pos q2] at hE
  subst hE
  simp[ef69,r,hii,k10,p,k120,cp,k69,q2]
 rw[if_neg (by rw[q2]; simp)] at hE
 by_cases q3:sErr wl u.sd≠0
 ·rw[if_pos q3] at hE
  subst hE
  simp[ef69,r,hii,k10,p,k120,cp,k69,q2,k92u,q3]
 rw[if_neg q3] at hE
 have q3':sErr wl u.sd=0:=by simpa using q3
 have k57:=fun lim L=>enc_prog (d:=d+1) (lim:=lim) (sp' L) q1 ht
 by_cases q4:fE u t≠0
 ·rw[if_pos q4] at hE
  subst hE
  simp[ef69,r,hii,k10,p,k120,cp,k69,q2,k92u,q3',k57,q4]
 rw[if_neg q4] at hE
 have q4':fE u t=0:=by simpa using q4
 rcases q5:freqB (fL u t) (fH u t) with _ | _
 ·rw[if_pos q5] at hE
  subst hE
  simp[ef69,r,hii,k10,p,k120,cp,k69,q2,k92u,q3',k57,q4',k132,q5]
 rw[if_neg (by rw[q5]; simp)] at hE
 rcases Nat.eq_zero_or_pos i with z | z
 ·subst z
  rw[if_neg (by omega)] at hE
  subst hE
  have pp:=fun L=>((Sl_freeze.2 q).app L).part (k:=0) (m:=10) (by omega) (by omega)
  simp only[Nat.zero_mul,List.drop_zero] at p
  simp only[Nat.add_zero,List.drop_zero,p] at pp
  have l0:0<l.length:=by omega
  simp[ef69,r,l0,hii,k10,pp,p,k120,cp,k69,q2,k92u,q3',k57,q4',k132,q5]
 ·have z0:i≠0:=by omega
  have wi:=w1s z (by omega)
  have p4:=cN_p4 (l:=l) (i:=i-1) (by omega)
  have k4:(i-1) * 10+4≤l.length * 10:=by omega
  have ip:((i-1:Nat):Int)<l.length:=by omega
  have pw:=hp z
  have k133:=fun lim L=>ord_prog (d:=d) (lim:=lim) (sp' L) q1 pw
  generalize hy:atN l (i-1)=y at *
  generalize i-1=ip' at *
  by_cases q6:ordU u y≤0
  ·rw[if_pos ⟨z,q6⟩] at hE
   subst hE
   simp[ef69,r,hii,k10,p,k120,cp,k69,q2,k92u,q3',k57,q4',k132,q5,z0,wi,ip,k4,p4,k133,q6]
  ·rw[if_neg (fun h=>q6 h.2)] at hE
   subst hE
   simp[ef69,r,hii,k10,p,k120,cp,k69,q2,k92u,q3',k57,q4',k132,q5,z0,wi,ip,k4,p4,k133,q6]
theorem c43 {d lim:Nat} {h:Heap} {v w:Value} {wl:List Wi} {l:List Un} {t:Int} {i:Nat} (s:SlW h v wl) (q:SlN h w l) (hw:chkW wl=0) (ht:within t 1000 10000000=true) (hi:i<l.length) (hl:l.length≤1000)
  (hp:0<i→isP (atN l (i-1))=true):E.call (d+5) lim 43 [stV t v w,i64 (i:Int)] h=some (i64 (uErr wl t l i),h):=by
 have few:=chkW_few hw
 have r:=q.rules2
 have p:=cN_part hi
 have k10:i * 10+10≤l.length * 10:=by omega
 have hii:(i:Int)<l.length:=by omega
 have k94:=fun lim L s'=>c76 (d:=d+2) (lim:=lim) (s:=s') ((Sl_freeze.2 s).app L) hw
 have k18:=fun lim hh a b c=>c41 (d:=d+3) (lim:=lim) (h:=hh) (a:=a) (b:=b) (c:=c)
 have k136:=fun lim hh a b c e=>c75 (d:=d+2) (lim:=lim) (h:=hh) (a:=a) (b:=b) (c:=c) (e:=e)
 have k137:=fun lim hh a b=>c78 (d:=d+2) (lim:=lim) (h:=hh) (a:=a) (b:=b)
 refine call1 fn43 rfl (by simp[ef43]) ?_
 generalize hE:uErr wl t l i=E0
 unfold uErr at hE
 have k94u:=fun lim L=>k94 lim L (atN l i).sd
 generalize hu:atN l i=u at *
 simp only[encN] at p
 simp only[sdV] at k94u
 have p0:=fun (z:i=0) L=>((Sl_freeze.2 q).app L).part (k:=0) (m:=10) (by omega) (by omega)
 rcases q1:isP u with _ | _
 ·rw[if_pos q1] at hE
  have cp:isPitch u.two u.three u.five u.den=false:=q1
  subst hE
  simp[ef43,r,hii,k10,p,k136,cp]
 have cp:isPitch u.two u.three u.five u.den=true:=q1
 rw[if_neg (by rw[q1]; simp)] at hE
 rcases q2:within u.count 1 4 with _ | _
 ·rw[if_pos q2] at hE
  subst hE
  simp[ef43,r,hii,k10,p,k136,cp,k18,q2]
 rw[if_neg (by rw[q2]; simp)] at hE
 by_cases q3:sErr wl u.sd≠0
 ·rw[if_pos q3] at hE
  subst hE
  simp[ef43,r,hii,k10,p,k136,cp,k18,q2,k94u,q3]
 rw[if_neg q3] at hE
 have q3':sErr wl u.sd=0:=by simpa using q3
 have k77:=fun lim hh=>enc_ref (d:=d) (lim:=lim) (h:=hh) q1 ht
 by_cases q4:fE u t≠0
 ·rw[if_pos q4] at hE
  subst hE
  simp[ef43,r,hii,k10,p,k136,cp,k18,q2,k94u,q3',k77,q4]
 rw[if_neg q4] at hE
 have q4':fE u t=0:=by simpa using q4
 rcases q5:freqB (fL u t) (fH u t) with _ | _
 ·rw[if_pos q5] at hE
  subst hE
  simp[ef43,r,hii,k10,p,k136,cp,k18,q2,k94u,q3',k77,q4',k137,q5]
 rw[if_neg (by rw[q5]; simp)] at hE
 rcases Nat.eq_zero_or_pos i with z | z
 ·subst z
  rw[if_neg (by omega)] at hE
  subst hE
  have pp:=p0 rfl
  simp only[Nat.zero_mul,List.drop_zero] at p
  simp only[Nat.add_zero,List.drop_zero,p] at pp
  have l0:0<l.length:=by omega
  simp[ef43,r,l0,hii,k10,pp,p,k136,cp,k18,q2,k94u,q3',k77,q4',k137,q5]
 ·have z0:i≠0:=by omega
  have zi:(0:Int)<i:=by omega
  have wi:=w1s z (by omega)
  have p4:=cN_p4 (l:=l) (i:=i-1) (by omega)
  have k4:(i-1) * 10+4≤l.length * 10:=by omega
  have ip:((i-1:Nat):Int)<l.length:=by omega
  have pw:=hp z
  have k138:=fun lim hh=>ord_ref (d:=d) (lim:=lim) (h:=hh) q1 pw
  generalize hy:atN l (i-1)=y at *
  generalize i-1=ip' at *
  by_cases q6:ordU u y≤0
  ·rw[if_pos ⟨z,q6⟩] at hE
   subst hE
   simp[ef43,r,hii,k10,p,k136,cp,k18,q2,k94u,q3',k77,q4',k137,q5,z0,z,zi,wi,ip,k4,p4,k138,q6]
  ·rw[if_neg (fun h=>q6 h.2)] at hE
   subst hE
   simp[ef43,r,hii,k10,p,k136,cp,k18,q2,k94u,q3',k77,q4',k137,q5,z0,z,zi,wi,ip,k4,p4,k138,q6]
end B
end Go.Abs
namespace Go.Abs
namespace B
set_option maxRecDepth 100000
set_option maxHeartbeats 0
theorem chkUL_P {wl:List Wi} {t:Int} {l:List Un} {i:Nat} (h:∀ j,j<i→uErr wl t l j=0) (h0:0<i):isP (atN l (i-1))=true:=by
 have:=h (i-1) (by omega)
 unfold uErr at this
 split at this
 ·cases this
 ·rename_i q; simpa using q
theorem c37 {d lim:Nat} {h:Heap} {v w:Value} {wl:List Wi} {l:List Un} {t:Int} (sp:Pr h) (s:SlW h v wl) (q:SlN h w l) (hwl:wl.length≤1000) (hnm:Nms wl) :
  E.call (d+8) lim 37 [stV t v w] h=some (.tuple #[i64 (stE t wl l).1,i64 (stE t wl l).2],h):=by
 have rs:=s.rules2
 have r:=q.rules2
 have so:=s.own
 have qo:=q.own
 have k69:=fun lim hh a b c=>c67 (d:=d+6) (lim:=lim) (h:=hh) (a:=a) (b:=b) (c:=c)
 have k70:=fun lim L=>c68 (d:=d+5) (lim:=lim) ((Sl_freeze.2 s).app L) hwl hnm
 refine call1 fn37 rfl (by simp[ef37]) ?_
 unfold stE
 rcases ht:within t 1000 10000000 with _ | _
 ·simp[ef37,k69,ht]
 by_cases hw:chkW wl≠0
 ·simp[ef37,k69,ht,k70,hw]
 have hw:chkW wl=0:=by simpa using hw
 by_cases h90:90<l.length
 ·have i90:(90:Int)<l.length:=by omega
  simp[ef37,k69,ht,k70,hw,r,h90,i90,Int.not_le.2 i90,Nat.not_le.2 h90]
 have i90:¬ (90:Int)<l.length:=by omega
 have k71:=fun lim L i hi hp=>c69 (d:=d) (lim:=lim) (i:=i) ((Sl_freeze.2 sp).app L) ((Sl_freeze.2 s).app L) ((Sl_freeze.2 q).app L) hw hnm ht hi (by omega) hp
 generalize hC:chkUL wl t l 0=C0
 simp[ef37,k69,ht,k70,hw,r,h90,i90,Int.not_lt.1 i90,Nat.not_lt.1 h90]
 refine wpC_loop (fun y st=>∃ i,y=l.length-i∧i≤l.length∧chkUL wl t l i=C0∧(∀ j,j<i→uErr wl t l j=0)∧st=⟨[(1,.pointer (some ⟨h.length,0,none⟩)),(23,i64 (l.length:Int)),(24,i64 (i:Nat))],h.freeze++[some ⟨[i64 t,v,w],true⟩]⟩) l.length (by show l.length<2 ^ 64; omega) ?_ ?_
 ·simp[St.tidy,collect_box,so,qo,rs,r]
  exact⟨0,by omega,by omega,hC,fun j hj=>absurd hj (by omega),rfl⟩
 ·rintro y hy _ ⟨i,rfl,hi,hc,ha,rfl⟩
  by_cases hlt:i<l.length
  ·have w1':=w1 (i:=i) (by omega)
   simp only[W] at w1'
   have hlti:(i:Int)<l.length:=by omega
   have km:=fun lim L=>k71 lim L i hlt (chkUL_P ha)
   rw[chkUL_lt hlt] at hc
   by_cases e:uErr wl t l i=0
   ·rw[if_pos e] at hc
    simp[hlt,hlti,km,e,w1',St.tidy,collect_box,so,qo,rs,r]
    exact⟨l.length-(i+1),by omega,i+1,by omega,by omega,hc,fun j hj=>by
     rcases Nat.lt_or_ge j i with z | z
     ·exact ha j z
     ·obtain rfl:j=i:=by omega
      exact e,by omega⟩
   ·rw[if_neg e] at hc
    subst hc
    simp[hlt,hlti,km,e]
  ·obtain rfl:i=l.length:=by omega
   rw[chkUL_ge (by omega)] at hc
   subst hc
   simp
theorem c9 {d lim:Nat} {h:Heap} {v w:Value} {wl:List Wi} {l:List Un} {t:Int} (s:SlW h v wl) (q:SlN h w l) (hwl:wl.length≤1000) :
  E.call (d+6) lim 9 [stV t v w] h=some (.tuple #[i64 (stE t wl l).1,i64 (stE t wl l).2],h):=by
 have rs:=s.rules2
 have r:=q.rules2
 have so:=s.own
 have qo:=q.own
 have k18:=fun lim hh a b c=>c41 (d:=d+4) (lim:=lim) (h:=hh) (a:=a) (b:=b) (c:=c)
 have k75:=fun lim L=>c42 (d:=d+2) (lim:=lim) ((Sl_freeze.2 s).app L) hwl
 refine call1 fn9 rfl (by simp[ef9]) ?_
 unfold stE
 rcases ht:within t 1000 10000000 with _ | _
 ·simp[ef9,k18,ht]
 by_cases hw:chkW wl≠0
 ·simp[ef9,k18,ht,k75,hw]
 have hw:chkW wl=0:=by simpa using hw
 by_cases h90:90<l.length
 ·have i90:(90:Int)<l.length:=by omega
  simp[ef9,k18,ht,k75,hw,r,h90,i90,Int.not_le.2 i90,Nat.not_le.2 h90]
 have i90:¬ (90:Int)<l.length:=by omega
 have k76:=fun lim L i hi hp=>c43 (d:=d) (lim:=lim) (i:=i) ((Sl_freeze.2 s).app L) ((Sl_freeze.2 q).app L) hw ht hi (by omega) hp
 generalize hC:chkUL wl t l 0=C0
 simp[ef9,k18,ht,k75,hw,r,h90,i90,Int.not_lt.1 i90,Nat.not_lt.1 h90]
 refine wpC_loop (fun y st=>∃ i,y=l.length-i∧i≤l.length∧chkUL wl t l i=C0∧(∀ j,j<i→uErr wl t l j=0)∧st=⟨[(1,.pointer (some ⟨h.length,0,none⟩)),(5,i64 (i:Nat))],h.freeze++[some ⟨[i64 t,v,w],true⟩]⟩) l.length (by show l.length<2 ^ 64; omega) ?_ ?_
 ·simp[St.tidy,collect_box,so,qo,rs,r]
  exact⟨0,by omega,by omega,hC,fun j hj=>absurd hj (by omega),rfl⟩
 ·rintro y hy _ ⟨i,rfl,hi,hc,ha,rfl⟩
  by_cases hlt:i<l.length
  ·have w1':=w1 (i:=i) (by omega)
   simp only[W] at w1'
   have hlti:(i:Int)<l.length:=by omega
   have km:=fun lim L=>k76 lim L i hlt (chkUL_P ha)
   rw[chkUL_lt hlt] at hc
   by_cases e:uErr wl t l i=0
   ·rw[if_pos e] at hc
    simp[hlt,Nat.not_le.2 hlt,hlti,r,km,e,w1',St.tidy,collect_box,so,qo,rs]
    exact⟨l.length-(i+1),by omega,i+1,by omega,by omega,hc,fun j hj=>by
     rcases Nat.lt_or_ge j i with z | z
     ·exact ha j z
     ·obtain rfl:j=i:=by omega
      exact e,by omega⟩
   ·rw[if_neg e] at hc
    subst hc
    simp[hlt,Nat.not_le.2 hlt,hlti,r,km,e]
  ·obtain rfl:i=l.length:=by omega
   rw[chkUL_ge (by omega)] at hc
   subst hc
   simp[r]
end B
end Go.Abs
namespace Go.Abs
namespace B
set_option maxRecDepth 100000
set_option maxHeartbeats 0
def nmdL (l:List Un) (i:Nat):Bool:=if i<l.length then (if namedB (atN l i).sd=false then false else nmdL l (i+1)) else true
termination_by l.length-i
theorem nmd_lt {l:List Un} {i:Nat} (h:i<l.length):nmdL l i=if namedB (atN l i).sd=false then false else nmdL l (i+1):=by rw[nmdL,if_pos h]
theorem nmd_ge {l:List Un} {i:Nat} (h:¬ i<l.length):nmdL l i=true:=by rw[nmdL,if_neg h]
def fewB (wl:List Wi) (l:List Un):Bool:=if shortB wl=false then false else if 6<l.length then false else nmdL l 0
theorem few_ok {wl:List Wi} {l:List Un} (h:fewB wl l=true):wl.length≤23∧Nms wl∧l.length≤6:=by
 unfold fewB at h
 split at h
 ·cases h
 ·rename_i q
  split at h
  ·cases h
  ·have:=short_ok (by simpa using q)
   exact⟨this.1,this.2,by omega⟩
theorem c6 {d lim:Nat} {h:Heap} {v w:Value} {wl:List Wi} {l:List Un} {t:Int} (s:SlW h v wl) (q:SlN h w l):E.call (d+2) lim 6 [stV t v w] h=some (.bool (fewB wl l),h):=by
 have rs:=s.rules2
 have r:=q.rules2
 have so:=s.own
 have qo:=q.own
 have k67:=fun lim L=>c35 (d:=d) (lim:=lim) ((Sl_freeze.2 s).app L)
 have k68:=fun lim hh s=>c36 (d:=d) (lim:=lim) (h:=hh) (s:=s)
 simp only[sdV] at k68
 refine call1 fn6 rfl (by simp[ef6]) ?_
 unfold fewB
 rcases q1:shortB wl with _ | _
 ·simp[ef6,k67,q1]
 by_cases q2:6<l.length
 ·have i2:(6:Int)<l.length:=by omega
  simp[ef6,k67,q1,r,q2,i2,Int.not_le.2 i2,Nat.not_le.2 q2]
 have i2:¬ (6:Int)<l.length:=by omega
 generalize hC:nmdL l 0=C0
 simp[ef6,k67,q1,r,q2,i2,Int.not_lt.1 i2,Nat.not_lt.1 q2]
 refine wpC_loop (fun y st=>∃ i,y=l.length-i∧i≤l.length∧nmdL l i=C0∧st=⟨[(1,.pointer (some ⟨h.length,0,none⟩)),(3,i64 (i:Nat))],h.freeze++[some ⟨[i64 t,v,w],true⟩]⟩) l.length (by show l.length<2 ^ 64; omega) ?_ ?_
 ·simp[St.tidy,collect_box,so,qo,rs,r]
  exact⟨0,by omega,by omega,hC,rfl⟩
 ·rintro y hy _ ⟨i,rfl,hi,hc,rfl⟩
  by_cases hlt:i<l.length
  ·have w1':=w1 (i:=i) (by omega)
   simp only[W] at w1'
   have hlti:(i:Int)<l.length:=by omega
   have p5:=cN_s5 (l:=l) (i:=i) hlt
   have k5:i * 10+5+5≤l.length * 10:=by omega
   rw[nmd_lt hlt] at hc
   generalize hu:atN l i=u at *
   rcases e:namedB u.sd with _ | _
   ·rw[if_pos e] at hc
    subst hc
    simp[hlt,Nat.not_le.2 hlt,hlti,r,k68,e,p5,k5]
   ·rw[if_neg (by rw[e]; simp)] at hc
    simp[hlt,Nat.not_le.2 hlt,hlti,r,k68,e,w1',p5,k5,St.tidy,collect_box,so,qo,rs]
    exact⟨l.length-(i+1),by omega,i+1,by omega,by omega,hc,by omega⟩
  ·obtain rfl:i=l.length:=by omega
   rw[nmd_ge (by omega)] at hc
   subst hc
   simp[r]
theorem cU_plain (l:List Un):(cS encN l).all plainV=true:=by simp[cS,List.all_flatMap,encN,plainV]
theorem cU_one (l:List Un):(cS encN l).all Value.oneCell'=true:=by simp[cS,List.all_flatMap,encN,Value.oneCell']
theorem added0 {es:Nat} {h h':Heap} {v:Value} {n:Nat} {cs:List Value} (s:Sl es h v n cs) (hn:n=0):E.added h' es v=some (0,[],[]):=by
 subst hn
 rcases s.low with rfl | ⟨bv,o',m',t',rfl,hbv⟩
 ·rfl
 ·obtain rfl:m'=0:=by
   have:=s.len
   simpa using this
  rfl
theorem c8 {d lim:Nat} {h:Heap} {v w:Value} {wl:List Wi} {l:List Un} {t:Int} (s:SlW h v wl) (q:SlN h w l) (hwl:wl.length≤1000) (hl:l.length≤1000) :
  E.call (d+1) lim 8 [stV t v w] h=some (stV t (.slice (some ⟨h.length,0,none⟩) wl.length 4) (.slice (some ⟨h.length+1,0,none⟩) l.length 10),h++[some ⟨cS encW wl,true⟩,some ⟨cS encN l,true⟩]):=by
 have pw:=cW_plain wl
 have pn:=cU_plain l
 have ow:=cW_one wl
 have on:=cU_one l
 refine call_pure fn8 rfl (by simp[ef8]) ?_
 rcases Nat.eq_zero_or_pos wl.length with hz | hz
 ·have a1:=fun hh=>added0 (h':=hh) s hz
  have el:wl=[]:=List.eq_nil_of_length_eq_zero hz
  subst el
  have e1:cS encW []=[]:=rfl
  rcases Nat.eq_zero_or_pos l.length with lz | lz
  ·have a2:=fun hh=>added0 (h':=hh) q lz
   have el:l=[]:=List.eq_nil_of_length_eq_zero lz
   subst el
   have e2:cS encN []=[]:=rfl
   simp[ef8,E.append,zeros,fillL,a1,a2,e1,e2,maxLen,Blk_addrs_nil,Blk_ren_nil]
  ·obtain⟨b2,o2,kc2,rfl,G2,g3,g4,hb2⟩:=q.blkF (by omega) (by decide)
   have l0:l.length≠0:=by omega
   have m3:l.length * 96≤140737488355328:=by omega
   have m4:l.length≤9223372036854775807:=by omega
   try simp at g3 g4
   have A2:∀ L,E.added (h.freeze++L) 10 (.slice (some ⟨b2,o2,none⟩) l.length 10)=some (l.length,cS encN l,[b2]):=fun L=>by simp[E.added,G2,g3,g4,l0]
   simp[ef8,E.append,A2,zeros,fillL,a1,e1,l0,on,pn,m3,m4,maxLen,Blk_addrs_nil,Blk_ren_nil]
 ·obtain⟨b,o',kc,rfl,G,g1,g2,hb'⟩:=s.blkF (by omega) (by decide)
  have n0:wl.length≠0:=by omega
  have m1:wl.length * 40≤140737488355328:=by omega
  have m2:wl.length≤9223372036854775807:=by omega
  try simp at g1 g2
  rcases Nat.eq_zero_or_pos l.length with lz | lz
  ·have a2:=fun hh=>added0 (h':=hh) q lz
   have el:l=[]:=List.eq_nil_of_length_eq_zero lz
   subst el
   have e2:cS encN []=[]:=rfl
   have A1:∀ L,E.added (h.freeze++L) 4 (.slice (some ⟨b,o',none⟩) wl.length 4)=some (wl.length,cS encW wl,[b]):=fun L=>by simp[E.added,G,g1,g2,n0]
   simp[ef8,E.append,A1,zeros,fillL,a2,e2,n0,ow,pw,m1,m2,maxLen,Blk_addrs_nil,Blk_ren_nil]
  ·obtain⟨b2,o2,kc2,rfl,G2,g3,g4,hb2⟩:=q.blkF (by omega) (by decide)
   have l0:l.length≠0:=by omega
   have m3:l.length * 96≤140737488355328:=by omega
   have m4:l.length≤9223372036854775807:=by omega
   try simp at g3 g4
   simp[ef8,E.append,E.added,zeros,fillL,G,g1,g2,n0,ow,pw,m1,m2,G2,g3,g4,l0,on,pn,m3,m4,maxLen]
end B
end Go.Abs
