/- Chapter 7: laws at all arguments of their types. -/
import Derived.Test.YtfbelnhibipndaaAbsUArgs
import Derived.Test.YtfbelnhibipndaaAbsTypM
import Derived.Test.YtfbelnhibipndaaAbsUC0
set_option linter.unusedSimpArgs false
set_option linter.unusedVariables false
namespace Go.Abs
namespace U
set_option maxRecDepth 100000
/-- A law at all arguments of its types. -/
def Law (f : Nat) (cts : List (Bool × List CT)) : Prop := ∀ (bs : List (Option Blk)) us, Heap.freeze (([] : Heap) ++ bs) = [] ++ bs → (∀ n, ctBlocks (cts.flatMap (·.2)) = some n → bs.length = n) →
    ArgsV 6 (([] : Heap) ++ bs) cts us → ∃ h', E.call 31 (([] : Heap) ++ bs).length f us ([] ++ bs) = some (.bool true, h')
abbrev cI1 : Bool × List CT := (false, [ctI])
abbrev cP2 : Bool × List CT := (false, [.sl [ctI, ctI]])
theorem arg_p2 {d : Nat} {h : Heap} {u : Value} (a : ArgV (d + 1) h cP2 u) : ∃ l : List P2, Sl2 h u l := by
  obtain ⟨l, s, _, _⟩ := typ_slG (k := 2) (by decide) enc2 (fun g => (g 0, g 1)) (fun _ => rfl) (fun g j hj => by
    have : j = 0 ∨ j = 1 := by omega
    rcases this with rfl | rfl <;> rfl) (a.2 0 _ _ rfl rfl)
  exact ⟨l, s⟩
end U
end Go.Abs
