--
import Derived.Test.YtmjkdaloalaiiaaGreatDoorAbsMV4
import Derived.Test.YtmjkdaloalaiiaaGreatDoorAbsWpO
set_option linter.unusedSimpArgs false
set_option linter.unusedVariables false
namespace Go.Abs
namespace M
set_option maxRecDepth 100000
set_option maxHeartbeats 0
def cT (L : List (List UInt8)) : List Value := L.map tx
theorem cT_len (L : List (List UInt8)) : (cT L).length = L.length := by simp [cT]
theorem cT_snoc (L : List (List UInt8)) (x : List UInt8) : cT L ++ [tx x] = cT (L ++ [x]) := by simp [cT]
theorem cT_plain' (L : List (List UInt8)) : (cT L).all plainV = true := by simp [cT, plainV]
theorem cT_get {L : List (List UInt8)} {i : Nat} {x : List UInt8} (h : L[i]? = some x) : (cT L)[i]? = some (tx x) := by simp [cT, h]
def lVT (b : Nat) (L : List (List UInt8)) : Value := if L = [] then .slice none 0 0 else .slice (some ⟨b, 0, none⟩) L.length 1
def lBT (L : List (List UInt8)) : List (Option Blk) := if L = [] then [] else [some ⟨cT L, true⟩]
end M
end Go.Abs
