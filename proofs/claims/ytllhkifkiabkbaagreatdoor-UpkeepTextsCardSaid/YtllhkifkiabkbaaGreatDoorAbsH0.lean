/- The functions, compiled for the abstract evaluator. Written by wip/abs/Print.lean. -/
import Derived.Test.YtllhkifkiabkbaaGreatDoorAbsWpM
import Derived.Test.YtllhkifkiabkbaaGreatDoorAbsNatM
import Derived.Test.YtllhkifkiabkbaaGreatDoorAbsNat3
set_option linter.unusedSimpArgs false
set_option linter.unusedVariables false
set_option maxRecDepth 100000
set_option maxHeartbeats 0
namespace Go.Abs.H
open Go Go.Abs
/-- The package variables. -/
def glob : List Nat := [0, 3, 4, 2]

end Go.Abs.H
namespace Go.Abs.H
open Go Go.Abs
@[reducible, simp] def xi (d : Nat) (o : EOp) : EOper := ⟨some d, o, none, [], false, false⟩
@[reducible, simp] def xg (d : Nat) (o : EOp) (g : Nat) (b : Bool) : EOper := ⟨some d, o, some (g, b), [], false, false⟩
@[reducible, simp] def xm (d s : Nat) : EOper := ⟨some d, .move (.tmp s), none, [], false, false⟩
@[reducible, simp] def xz : Value := .int .i64 0
end Go.Abs.H
