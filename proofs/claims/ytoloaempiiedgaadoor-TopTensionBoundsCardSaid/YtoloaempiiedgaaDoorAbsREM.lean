--
import Derived.Test.YtoloaempiiedgaaDoorAbsRUN
import Derived.Test.YtoloaempiiedgaaDoorAbsRVM
import Derived.Test.YtoloaempiiedgaaDoorAbsRNM
set_option linter.unusedSimpArgs false
set_option linter.unusedVariables false
namespace Go.Abs
namespace R
set_option maxRecDepth 100000
set_option maxHeartbeats 0
noncomputable def erA (t : Int) (wl : List Wi) (l : List Un) (L : Lm) (G : List Int) : Int := if (stE t wl l).2 ≠ 0 then (stE t wl l).2 else if lmE L ≠ 0 then lmE L else ggE G
def cor (u : Un) (g : Int) : Un := { u with sd := { u.sd with core := g } }
end R
end Go.Abs
namespace Go.Abs
namespace R
set_option maxRecDepth 100000
set_option maxHeartbeats 0
noncomputable def alB (wl : List Wi) (t : Int) (u : Un) (L : Lm) (c : Int) : Bool := decide (sErr wl (cor u c).sd = 0) && kpB wl t (cor u c) L
end R
end Go.Abs
namespace Go.Abs
namespace R
set_option maxRecDepth 100000
set_option maxHeartbeats 0
structure NL (h : Heap) (v : Value) (n : Nat) (vs : Nat → Value) (f : Nat → List Int) : Prop where
 sl : Sl 1 h v n ((List.range n).map vs)
 row : ∀ i, i < n → SlI' h (vs i) (f i)
end R
end Go.Abs
