/- Chapter 7: laws at all arguments of their types. -/
import Derived.Test.YtfbelnhibipndaaAbsUArgs
import Derived.Test.YtfbelnhibipndaaAbsTypM
import Derived.Test.YtfbelnhibipndaaAbsUD0
set_option linter.unusedSimpArgs false
set_option linter.unusedVariables false
namespace Go.Abs
namespace U
set_option maxRecDepth 100000
/-- A law at all arguments of its types. -/
def Law (f : Nat) (cts : List (Bool × List CT)) : Prop := ∀ (bs : List (Option Blk)) us, Heap.freeze (([] : Heap) ++ bs) = [] ++ bs → (∀ n, ctBlocks (cts.flatMap (·.2)) = some n → bs.length = n) →
    ArgsV 6 (([] : Heap) ++ bs) cts us → ∃ h', E.call 31 (([] : Heap) ++ bs).length f us ([] ++ bs) = some (.bool true, h')
abbrev cI1 : Bool × List CT := (false, [ctI])
end U
end Go.Abs
