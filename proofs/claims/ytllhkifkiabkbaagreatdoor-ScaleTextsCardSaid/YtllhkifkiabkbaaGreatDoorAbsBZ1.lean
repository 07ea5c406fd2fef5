--
import Derived.Test.YtllhkifkiabkbaaGreatDoorAbsBXM
import Derived.Test.YtllhkifkiabkbaaGreatDoorAbsBLY
set_option linter.unusedSimpArgs false
set_option linter.unusedVariables false
namespace Go.Abs
namespace B
set_option maxRecDepth 100000
set_option maxHeartbeats 0
theorem steel_chk:chkW [steelW]=0:=by
 have e:wErr [] steelW=0:=by decide +kernel
 have l1:¬ 20<([steelW]:List Wi).length:=by decide
 unfold chkW
 rw[if_neg l1,chkWL_lt (by decide)]
 rw[show ([steelW]:List Wi).take 0=[] from rfl,show atW [steelW] 0=steelW from rfl,if_pos e]
 exact chkWL_ge (by decide)
theorem steel_ok:chkD [steelW] plainS=0:=by
 have e:sErr [steelW] plainS=0:=by decide +kernel
 unfold chkD
 rw[if_pos steel_chk,e]
theorem steel_heard:heardE [steelW] plainS 440000 440000=0:=by
 unfold heardE
 rw[if_pos steel_ok]; decide
theorem steel_ten:tenL [steelW] plainS 440000=76389∧tenH [steelW] plainS 440000=76390:=by decide +kernel
theorem steel_inh:inL [steelW] plainS 76390=793624∧inH [steelW] plainS 76389=793636:=by decide +kernel
theorem steel_nms:Nms [steelW]:=by
 intro i hi
 have:i=0:=by simpa using hi
 subst this
 decide
def exR:List XR:=[(1000,2000),(1500,1800)]
theorem ex_ok:lenE exR 0 100=0:=by
 have c:chkRL exR 0=0:=by
  rw[chkRL_lt (by decide),if_pos (by decide),chkRL_lt (by decide),if_pos (by decide),chkRL_ge (by decide)]
 unfold lenE
 rw[if_neg (by decide),if_pos c]
 decide
theorem ex_smo:smo exR 0 100=[1900,1800]:=by decide +kernel
theorem ex_try:∃ X,tryR (sysL exR 0 100) (exR.length+1) (exR.length+1) 0=some X:=by
 have:(tryR (sysL exR 0 100) (exR.length+1) (exR.length+1) 0).isSome=true:=by decide +kernel
 exact Option.isSome_iff_exists.1 this
abbrev bA:Option Blk:=some ⟨[i64 440000,i64 440000],true⟩
abbrev bS:Option Blk:=some ⟨cS encW [steelW],true⟩
theorem c5 {d lim:Nat} {h:Heap}:E.call (d+8) lim 5 [] h=some (.bool true,h):=by
 obtain⟨X,hX⟩:=ex_try
 have g1:Heap.get (h.freeze++[bA,bS]).freeze (h.length+1)=some ⟨cS encW [steelW],false⟩:=hget_freeze (k:=⟨cS encW [steelW],true⟩) (by rw[hget_base (by simp)]; rfl)
 have g3:∀ T,Heap.get (h.freeze++[bA,bS,T,bS]).freeze (h.length+3)=some ⟨cS encW [steelW],false⟩:=fun T=>hget_freeze (k:=⟨cS encW [steelW],true⟩) (by rw[hget_base (by simp)]; rfl)
 have k15:=fun lim=>c29 (d:=d) (lim:=lim) (s:=plainS) (a:=440000) (b:=440000) (Sl_own (f:=encW) (es:=4) (fun _=>rfl) g1 rfl) (by simp) steel_nms
 have k27:=fun lim T=>c32 (d:=d) (lim:=lim) (s:=plainS) (a:=440000) (b:=440000) (Sl_own (f:=encW) (es:=4) (fun _=>rfl) (g3 T) rfl) (by simp) steel_nms
 obtain⟨t1,t2⟩:=steel_ten
 obtain⟨n1,n2⟩:=steel_inh
 have ie:inE [steelW] plainS 440000=0:=by simp[inE,t1]
 simp only[steel_heard,t1,t2,rgE,if_true,ie,n1,n2] at k15 k27
 have gR:∀ T T' L,Heap.get (h.freeze++(bA::bS::T::bS::T'::some ⟨cS encR exR,true⟩::L)) (h.length+5)=some ⟨cS encR exR,true⟩:=fun T T' L=>by rw[hget_base (by simp)]; rfl
 have k32:=fun lim T T'=>c33a (d:=d+3) (lim:=lim) (Sl_own (f:=encR) (es:=2) (fun _=>rfl) (gR T T' []) rfl) ex_ok hX
 have er:cS encR exR=[i64 1000,i64 2000,i64 1500,i64 1800]:=rfl
 have e2:exR.length=2:=rfl
 simp only[smoV,smoK,ex_smo,e2] at k32
 have gI:∀ T T',Heap.get (h.freeze++[bA,bS,T,bS,T',some ⟨cS encR exR,true⟩,some ⟨cI [1900,1800],true⟩,some ⟨cI [1900,1800],true⟩]) (h.length+6)=some ⟨cI [1900,1800],true⟩:=fun T T'=>by rw[hget_base (by simp)]; rfl
 have gJ:∀ T T',Heap.get (h.freeze++[bA,bS,T,bS,T',some ⟨cS encR exR,true⟩,some ⟨cI [1900,1800],true⟩,some ⟨cI [1900,1800],true⟩]) (h.length+7)=some ⟨cI [1900,1800],true⟩:=fun T T'=>by rw[hget_base (by simp)]; rfl
 have k37:=fun lim T T'=>c34 (d:=d+6) (lim:=lim) (SlI'_own (gI T T') rfl) (SlI'_own (gJ T T') rfl) (by simp)
 rw[er] at k32 k37
 simp[cI] at k15 k27 k32 k37
 refine call1 fn5 rfl (by simp[ef5]) ?_
 simp[ef5,c30,c31,k15,k27,k32,k37,cI,zeros]
end B
end Go.Abs
