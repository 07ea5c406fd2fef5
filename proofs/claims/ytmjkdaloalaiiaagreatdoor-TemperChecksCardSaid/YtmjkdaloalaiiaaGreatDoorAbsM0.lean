--
import Derived.Test.YtmjkdaloalaiiaaGreatDoorAbsWpM
import Derived.Test.YtmjkdaloalaiiaaGreatDoorAbsNatM
import Derived.Test.YtmjkdaloalaiiaaGreatDoorAbsNat3
set_option linter.unusedSimpArgs false
set_option linter.unusedVariables false
set_option maxRecDepth 100000
set_option maxHeartbeats 0
namespace Go.Abs.M
open Go Go.Abs
def glob : List Nat := [4, 1, 2, 3]
end Go.Abs.M
namespace Go.Abs.M
open Go Go.Abs
@[reducible, simp] def xi (d : Nat) (o : EOp) : EOper := ⟨some d, o, none, [], false, false⟩
@[reducible, simp] def xg (d : Nat) (o : EOp) (g : Nat) (b : Bool) : EOper := ⟨some d, o, some (g, b), [], false, false⟩
@[reducible, simp] def xm (d s : Nat) : EOper := ⟨some d, .move (.tmp s), none, [], false, false⟩
@[reducible, simp] def xz : Value := .int .i64 0
@[reducible, simp] def xr (l : List EOper) : ECode := .region false l
@[reducible, simp] def xR (l : List EOper) : ECode := .region true l
@[reducible, simp] def xl (d s : Nat) : EOper := ⟨some d, .load false 1 (.tmp s), none, [], false, false⟩
@[reducible, simp] def xL (d n s : Nat) : EOper := ⟨some d, .load true n (.tmp s), none, [], false, false⟩
@[reducible, simp] def xf (d o s : Nat) : EOper := ⟨some d, .fieldAddr o (.tmp s), none, [], false, false⟩
@[reducible, simp] def xa (d a b : Nat) : EOper := ⟨some d, .indexAddr none 1 (.tmp a) (.tmp b), none, [], false, false⟩
@[reducible, simp] def xn (d s : Nat) : EOper := ⟨some d, .len false (.tmp s), none, [], false, false⟩
@[reducible, simp] def xb (d : Nat) (o : BinOp) (a b : Operand) : EOper := ⟨some d, .bin o a b, none, [], false, false⟩
@[reducible, simp] def xB (d : Nat) (o : BinOp) (a b : Nat) : EOper := ⟨some d, .bin o (.tmp a) (.tmp b), none, [], false, false⟩
@[reducible, simp] def xv (d s : Nat) : EOper := ⟨some d, .box (.tmp s), none, [], false, false⟩
@[reducible, simp] def xe (d s i : Nat) : EOper := ⟨some d, .extract (.tmp s) i, none, [], false, false⟩
@[reducible, simp] def xc (d f : Nat) (l : List Operand) : EOper := ⟨some d, .call f l, none, [], false, false⟩
@[reducible, simp] def xC (d f : Nat) (l : List Operand) : EOper := ⟨some d, .call f l, none, [], false, true⟩
@[reducible, simp] def xt (n a b : Nat) : EOper := ⟨none, .store n (.tmp a) (.tmp b), none, [], false, false⟩
@[reducible, simp] def yl (d s g : Nat) (b : Bool) : EOper := ⟨some d, .load false 1 (.tmp s), some (g, b), [], false, false⟩
@[reducible, simp] def yf (d o s g : Nat) (b : Bool) : EOper := ⟨some d, .fieldAddr o (.tmp s), some (g, b), [], false, false⟩
@[reducible, simp] def ya (d a c g : Nat) (b : Bool) : EOper := ⟨some d, .indexAddr none 1 (.tmp a) (.tmp c), some (g, b), [], false, false⟩
@[reducible, simp] def ym (d s g : Nat) (b : Bool) : EOper := ⟨some d, .move (.tmp s), some (g, b), [], false, false⟩
@[reducible, simp] def yb (d : Nat) (o : BinOp) (a c : Operand) (g : Nat) (b : Bool) : EOper := ⟨some d, .bin o a c, some (g, b), [], false, false⟩
@[reducible, simp] def xk (n : Int) : Operand := .const (.int .i64 n)
@[reducible, simp] def xq : Operand := .const xz
@[reducible, simp] def xT : Operand := .const (.bool true)
@[reducible, simp] def xF : Operand := .const (.bool false)
end Go.Abs.M
