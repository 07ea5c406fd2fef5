--
import Derived.Test.YtmjkdaloalaiiaaGreatDoorAbsMX3
import Derived.Test.YtmjkdaloalaiiaaGreatDoorAbsMR
set_option linter.unusedSimpArgs false
set_option linter.unusedVariables false
namespace Go.Abs
namespace M
set_option maxRecDepth 100000
theorem law4 {te : TypeId} (h0 : Heap) (e0 : h0 = h00 te) : ∀ (bs : List (Option Blk)) us, Heap.freeze (h0 ++ bs) = h0 ++ bs → (∀ n, ctBlocks (([ctT] : List (Bool × List CT)).flatMap (·.2)) = some n → bs.length = n) →
  ArgsV 6 (h0 ++ bs) [ctT] us → ∃ h', E.call 21 (h0 ++ bs).length 4 us (h0 ++ bs) = some (.bool true, h') := by
 intro bs us hf k a
 obtain ⟨u, rfl, a1⟩ := args1 a
 obtain ⟨C, nm, P, S, rfl, t, _, hR⟩ := arg_tm a1
 rw [tx_of nm] at t
 subst e0
 exact ⟨_, walk4 t hR (er00 te bs) (sp00 te bs)⟩
end M
end Go.Abs
