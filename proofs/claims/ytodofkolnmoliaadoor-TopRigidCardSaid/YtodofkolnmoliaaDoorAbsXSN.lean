/- Systems of differences: the reference's solver. -/
import Derived.Test.YtodofkolnmoliaaDoorAbsXSM
import Derived.Test.YtodofkolnmoliaaDoorAbsTypM
set_option linter.unusedSimpArgs false
set_option linter.unusedVariables false
/- Systems of differences: the reference's solver. -/
namespace Go.Abs
namespace X
set_option maxRecDepth 100000
set_option maxHeartbeats 0
end X
end Go.Abs
/- Systems of differences: the program's solver. -/
namespace Go.Abs
namespace X
set_option maxRecDepth 100000
set_option maxHeartbeats 0
@[simp] theorem cN_plain (l : List Nat) : (cN l).all plainV = true := by simp [cN, plainV]
end X
end Go.Abs
/- Systems of differences: lists compared; ways round checked. -/
namespace Go.Abs
namespace X
set_option maxRecDepth 100000
set_option maxHeartbeats 0
/-- What a check of a way round wants. -/
structure Way (n : Nat) (l : List Bd) (r : List Int) (f : Nat → Nat) : Prop where
  p1 : 1 ≤ r.length
  pn : r.length ≤ 60
  at_ : ∀ i, i < r.length → r[i]? = some ((f i : Nat) : Int)
  lt : ∀ i, i < r.length → f i < l.length
end X
end Go.Abs
/- Systems of differences: the plain facts of the law. -/
namespace Go.Abs
namespace X
set_option maxRecDepth 100000
set_option maxHeartbeats 0
end X
end Go.Abs
