--
import Derived.Test.YtoloaempiiedgaaGreatDoorAbsQZ1
set_option linter.unusedSimpArgs false
set_option linter.unusedVariables false
namespace Go.Abs
namespace Q
set_option maxRecDepth 100000
set_option maxHeartbeats 0
theorem cR_plain (l:List XR):(cS encR l).all plainV=true:=by simp[cS,List.all_flatMap,encR,plainV]
theorem ownI {h:Heap} {l:List Int} {n:Nat} (A:List (Option Blk)) {k:Nat} (hk:A[k]?=some (some ⟨cI l,true⟩)) (hn:n=l.length):SlI' (h.freeze++A) (.slice (some ⟨h.length+k,0,none⟩) n 1) l :=
 SlI'_own (by rw[hget_base (by simp),hk]; rfl) hn
end Q
end Go.Abs
