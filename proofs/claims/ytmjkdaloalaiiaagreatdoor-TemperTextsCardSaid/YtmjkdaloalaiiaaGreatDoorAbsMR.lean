--
import Derived.Test.YtmjkdaloalaiiaaGreatDoorAbsMWN
set_option linter.unusedSimpArgs false
set_option linter.unusedVariables false
namespace Go.Abs
namespace M
set_option maxRecDepth 100000
def h00 (te : TypeId) : Heap := [primesB, some ⟨[.iface te (.pointer (some ⟨4, 0, none⟩))], false⟩, some ⟨[.iface te (.pointer (some ⟨5, 0, none⟩))], false⟩, some ⟨[], false⟩, none, none]
theorem er00 (te : TypeId) (L : Heap) : Er (h00 te ++ L) := Er.app ⟨rfl, rfl⟩
theorem sp00 (te : TypeId) (L : Heap) : SlU (h00 te ++ L) (.slice (some ⟨0, 0, none⟩) 3 1) [2, 3, 5] := sp1 _
theorem law3 {te : TypeId} (h0 : Heap) (e0 : h0 = h00 te) : ∀ (bs : List (Option Blk)) us, Heap.freeze (h0 ++ bs) = h0 ++ bs → (∀ n, ctBlocks (([(false, [.str])] : List (Bool × List CT)).flatMap (·.2)) = some n → bs.length = n) →
  ArgsV 6 (h0 ++ bs) [(false, [.str])] us → ∃ h', E.call 21 (h0 ++ bs).length 3 us (h0 ++ bs) = some (.bool true, h') := by
 intro bs us hf k a
 obtain ⟨u, rfl, a1⟩ := args1 a
 obtain ⟨s, rfl, hs⟩ := arg_str a1
 rw [tx_of s]
 subst e0
 exact ⟨_, walk3 (er00 te bs) (sp00 te bs)⟩
end M
end Go.Abs
