/- The functions, compiled for the abstract evaluator. Written by wip/abs/Print.lean. -/
import Derived.Test.YtfbelnhibipndaaGreatDoorAbsZ0
set_option linter.unusedSimpArgs false
set_option linter.unusedVariables false
set_option maxRecDepth 100000
set_option maxHeartbeats 0
namespace Go.Abs.Z
open Go Go.Abs
/-- slices.medianOrdered[int] -/
def ef227 : EFun := ⟨
 .seq (.region false [⟨(some 10), .move (.const (.int .i64 0)), none, [], false, false⟩])
 (.seq (.region false [⟨(some 12), .move (.tmp 0), none, [], false, false⟩,
     ⟨(some 13), .move (.tmp 1), none, [], false, false⟩,
     ⟨(some 14), .move (.tmp 2), none, [], false, false⟩,
     ⟨(some 15), .move (.tmp 4), none, [], false, false⟩,
     ⟨(some 16), .call 241 [(.tmp 12), (.tmp 13), (.tmp 14), (.tmp 15)], none, [], false, false⟩,
     ⟨(some 11), .move (.tmp 16), none, [], false, false⟩,
     ⟨(some 17), .extract (.tmp 11) 0, none, [], false, false⟩,
     ⟨(some 18), .extract (.tmp 11) 1, none, [], false, false⟩,
     ⟨(some 1), .move (.tmp 17), none, [], false, false⟩,
     ⟨(some 2), .move (.tmp 18), none, [], false, false⟩])
  (.seq (.region false [⟨(some 20), .move (.tmp 0), none, [], false, false⟩,
      ⟨(some 21), .move (.tmp 2), none, [], false, false⟩,
      ⟨(some 22), .move (.tmp 3), none, [], false, false⟩,
      ⟨(some 23), .move (.tmp 4), none, [], false, false⟩,
      ⟨(some 24), .call 241 [(.tmp 20), (.tmp 21), (.tmp 22), (.tmp 23)], none, [], false, false⟩,
      ⟨(some 19), .move (.tmp 24), none, [], false, false⟩,
      ⟨(some 25), .extract (.tmp 19) 0, none, [], false, false⟩,
      ⟨(some 26), .extract (.tmp 19) 1, none, [], false, false⟩,
      ⟨(some 2), .move (.tmp 25), none, [], false, false⟩,
      ⟨(some 3), .move (.tmp 26), none, [], false, false⟩])
   (.seq (.region false [⟨(some 28), .move (.tmp 0), none, [], false, false⟩,
       ⟨(some 29), .move (.tmp 1), none, [], false, false⟩,
       ⟨(some 30), .move (.tmp 2), none, [], false, false⟩,
       ⟨(some 31), .move (.tmp 4), none, [], false, false⟩,
       ⟨(some 32), .call 241 [(.tmp 28), (.tmp 29), (.tmp 30), (.tmp 31)], none, [], false, false⟩,
       ⟨(some 27), .move (.tmp 32), none, [], false, false⟩,
       ⟨(some 33), .extract (.tmp 27) 0, none, [], false, false⟩,
       ⟨(some 34), .extract (.tmp 27) 1, none, [], false, false⟩,
       ⟨(some 1), .move (.tmp 33), none, [], false, false⟩,
       ⟨(some 2), .move (.tmp 34), none, [], false, false⟩])
    (.seq (.region false [⟨(some 35), .move (.tmp 2), none, [], false, false⟩,
        ⟨(some 10), .move (.tmp 35), none, [], false, false⟩])
     (.ret))))),
 [.tmp 10], .trunc, 36⟩

/-- cmp.Compare[int] -/
def ef228 : EFun := ⟨
 .seq (.region false [⟨(some 4), .move (.const (.int .i64 0)), none, [], false, false⟩])
 (.seq (.region false [⟨(some 7), .move (.tmp 0), none, [], false, false⟩,
     ⟨(some 8), .call 200 [(.tmp 7)], none, [], false, false⟩,
     ⟨(some 5), .move (.tmp 8), none, [], false, false⟩])
  (.seq (.region false [⟨(some 9), .move (.tmp 1), none, [], false, false⟩,
      ⟨(some 10), .call 200 [(.tmp 9)], none, [], false, false⟩,
      ⟨(some 6), .move (.tmp 10), none, [], false, false⟩])
   (.seq (.seq (.region false [⟨(some 11), .move (.tmp 5), none, [], false, false⟩])
     (.cond (.tmp 11) (.seq (.seq (.region false [⟨(some 12), .move (.tmp 6), none, [], false, false⟩])
        (.cond (.tmp 12) (.seq (.region false [⟨(some 4), .move (.const (.int .i64 0)), none, [], false, false⟩])
          (.ret))
         (.skip)))
       (.seq (.region false [⟨(some 4), .move (.const (.int .i64 (-1))), none, [], false, false⟩])
        (.ret)))
      (.skip)))
    (.seq (.seq (.region false [⟨(some 13), .move (.tmp 6), none, [], false, false⟩])
      (.cond (.tmp 13) (.seq (.region false [⟨(some 4), .move (.const (.int .i64 1)), none, [], false, false⟩])
        (.ret))
       (.skip)))
     (.seq (.seq (.region false [⟨(some 14), .move (.tmp 0), none, [], false, false⟩,
          ⟨(some 15), .move (.tmp 1), none, [], false, false⟩,
          ⟨(some 16), .bin .lss (.tmp 14) (.tmp 15), none, [], false, false⟩])
       (.cond (.tmp 16) (.seq (.region false [⟨(some 4), .move (.const (.int .i64 (-1))), none, [], false, false⟩])
         (.ret))
        (.skip)))
      (.seq (.seq (.region false [⟨(some 17), .move (.tmp 0), none, [], false, false⟩,
           ⟨(some 18), .move (.tmp 1), none, [], false, false⟩,
           ⟨(some 19), .bin .gtr (.tmp 17) (.tmp 18), none, [], false, false⟩])
        (.cond (.tmp 19) (.seq (.region false [⟨(some 4), .move (.const (.int .i64 1)), none, [], false, false⟩])
          (.ret))
         (.skip)))
       (.seq (.region false [⟨(some 4), .move (.const (.int .i64 0)), none, [], false, false⟩])
        (.ret)))))))),
 [.tmp 4], .pure, 20⟩

/-- slices.order2Ordered[int] -/
def ef241 : EFun := ⟨
 .seq (.region false [⟨(some 8), .move (.const (.int .i64 0)), none, [], false, false⟩,
    ⟨(some 9), .move (.const (.int .i64 0)), none, [], false, false⟩])
 (.seq (.seq (.region true [⟨(some 10), .move (.tmp 0), none, [], false, false⟩,
      ⟨(some 11), .move (.tmp 2), none, [], false, false⟩,
      ⟨(some 12), .indexAddr none 1 (.tmp 10) (.tmp 11), none, [], false, false⟩,
      ⟨(some 13), .load false 1 (.tmp 12), none, [], false, false⟩,
      ⟨(some 14), .move (.tmp 0), none, [], false, false⟩,
      ⟨(some 15), .move (.tmp 1), none, [], false, false⟩,
      ⟨(some 16), .indexAddr none 1 (.tmp 14) (.tmp 15), none, [], false, false⟩,
      ⟨(some 17), .load false 1 (.tmp 16), none, [], false, false⟩,
      ⟨(some 18), .call 159 [(.tmp 13), (.tmp 17)], none, [], false, false⟩])
   (.cond (.tmp 18) (.seq (.region false [⟨(some 19), .move (.tmp 3), none, [], false, false⟩,
        ⟨(some 20), .nilCheck (.tmp 19), none, [], false, false⟩,
        ⟨(some 21), .load false 1 (.tmp 20), none, [], false, false⟩,
        ⟨(some 22), .bin .add (.tmp 21) (.const (.int .i64 1)), none, [], false, false⟩,
        ⟨(some 23), .nilCheck (.tmp 19), none, [], false, false⟩,
        ⟨none, .store 1 (.tmp 23) (.tmp 22), none, [], false, false⟩])
     (.seq (.region false [⟨(some 24), .move (.tmp 2), none, [], false, false⟩,
         ⟨(some 25), .move (.tmp 1), none, [], false, false⟩,
         ⟨(some 8), .move (.tmp 24), none, [], false, false⟩,
         ⟨(some 9), .move (.tmp 25), none, [], false, false⟩])
      (.ret)))
    (.skip)))
  (.seq (.region false [⟨(some 26), .move (.tmp 1), none, [], false, false⟩,
      ⟨(some 27), .move (.tmp 2), none, [], false, false⟩,
      ⟨(some 8), .move (.tmp 26), none, [], false, false⟩,
      ⟨(some 9), .move (.tmp 27), none, [], false, false⟩])
   (.ret))),
 [.tmp 8, .tmp 9], .trunc, 28⟩

end Go.Abs.Z
