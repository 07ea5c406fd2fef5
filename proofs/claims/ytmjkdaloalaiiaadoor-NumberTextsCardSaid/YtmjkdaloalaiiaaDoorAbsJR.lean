--
import Derived.Test.YtmjkdaloalaiiaaDoorAbsJLM
import Derived.Test.YtmjkdaloalaiiaaDoorAbsJArgs
import Derived.Test.YtmjkdaloalaiiaaDoorAbsJT
set_option linter.unusedSimpArgs false
set_option linter.unusedVariables false
namespace Go.Abs
namespace J
set_option maxRecDepth 100000
theorem law3 {te : TypeId} (h0 : Heap) (e0 : h0 = [primesB, some ⟨[.iface te (.pointer (some ⟨4, 0, none⟩))], false⟩, some ⟨[.iface te (.pointer (some ⟨5, 0, none⟩))], false⟩, some ⟨[], false⟩, none, none]) : ∀ (bs : List (Option Blk)) us, Heap.freeze (h0 ++ bs) = h0 ++ bs → (∀ n, ctBlocks (([(true, [ctI, ctI]), (false, [.str])] : List (Bool × List CT)).flatMap (·.2)) = some n → bs.length = n) →
  ArgsV 6 (h0 ++ bs) [(true, [ctI, ctI]), (false, [.str])] us → ∃ h', E.call 21 (h0 ++ bs).length 3 us (h0 ++ bs) = some (.bool true, h') := by
 intro bs us hf k a
 obtain rfl := none_of k rfl
 rw [List.append_nil] at *
 obtain ⟨u, v, rfl, a1, a2⟩ := args2 a
 obtain ⟨x, y, rfl, hx, hy⟩ := arg_agg2 a1
 obtain ⟨s, rfl, hs⟩ := arg_str a2
 rw [tx_of s]
 have e : Er h0 := by subst e0; exact ⟨rfl, rfl⟩
 refine ⟨_, number_walk (d := 15) e hx hy fun b => ?_⟩
 rw [hf]
 subst e0
 exact awake6 _ _ _ _ _ _ _
end J
end Go.Abs
