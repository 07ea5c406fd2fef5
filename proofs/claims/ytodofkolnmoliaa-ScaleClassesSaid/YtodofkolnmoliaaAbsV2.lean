/- The functions, compiled for the abstract evaluator. Written by wip/abs/Print.lean. -/
import Derived.Test.YtodofkolnmoliaaAbsV0
set_option linter.unusedSimpArgs false
set_option linter.unusedVariables false
set_option maxRecDepth 100000
set_option maxHeartbeats 0
namespace Go.Abs.V
open Go Go.Abs
/-- agraffe/number.relax -/
def ef74 : EFun := ⟨
 .seq (.region false [⟨(some 6), .move (.const (.int .i64 0)), none, [], false, false⟩])
 (.seq (.region false [⟨(some 7), .move (.const (.int .i64 (-1))), none, [], false, false⟩])
  (.seq (.seq (.region false [⟨(some 11), .move (.tmp 0), none, [], false, false⟩,
       ⟨(some 12), .len false (.tmp 11), none, [], false, false⟩,
       ⟨(some 13), .move (.const (.int .i64 0)), none, [], false, false⟩])
    (.block 0 (.loop (some [1, 2, 7, 11, 12, 13]) (
      .seq (.region false [⟨(some 14), .bin .lss (.tmp 13) (.tmp 12), none, [], false, false⟩])
       (.seq (.cond (.tmp 14) (.skip)
         (.exit 0))
        (.seq (.block 1 (.seq (.region false [⟨(some 15), .move (.tmp 13), none, [], false, false⟩,
              ⟨(some 16), .indexAddr none 3 (.tmp 11) (.tmp 13), none, [], false, false⟩,
              ⟨(some 17), .load true 3 (.tmp 16), none, [], false, false⟩,
              ⟨(some 9), .push [(.int .i64 0), (.int .i64 0), (.int .i64 0)], none, [], false, false⟩,
              ⟨(some 8), .move (.tmp 15), none, [], false, false⟩,
              ⟨none, .store 3 (.tmp 9) (.tmp 17), none, [], false, false⟩])
           (.seq (.region true [⟨(some 18), .move (.tmp 1), none, [], false, false⟩,
               ⟨(some 19), .fieldAddr 0 (.tmp 9), none, [], false, false⟩,
               ⟨(some 20), .load false 1 (.tmp 19), none, [], false, false⟩,
               ⟨(some 21), .indexAddr none 1 (.tmp 18) (.tmp 20), none, [], false, false⟩,
               ⟨(some 22), .load false 1 (.tmp 21), none, [], false, false⟩,
               ⟨(some 23), .fieldAddr 2 (.tmp 9), none, [], false, false⟩,
               ⟨(some 24), .load false 1 (.tmp 23), none, [], false, false⟩,
               ⟨(some 25), .bin .add (.tmp 22) (.tmp 24), none, [], false, false⟩,
               ⟨(some 10), .move (.tmp 25), none, [], false, false⟩])
            (.seq (.region false [⟨(some 26), .move (.tmp 10), none, [], false, false⟩,
                ⟨(some 27), .move (.tmp 1), none, [], false, false⟩,
                ⟨(some 28), .fieldAddr 1 (.tmp 9), none, [], false, false⟩,
                ⟨(some 29), .load false 1 (.tmp 28), none, [], false, false⟩,
                ⟨(some 30), .indexAddr none 1 (.tmp 27) (.tmp 29), none, [], false, false⟩,
                ⟨(some 31), .load false 1 (.tmp 30), none, [], false, false⟩,
                ⟨(some 32), .bin .lss (.tmp 26) (.tmp 31), none, [], false, false⟩])
             (.cond (.tmp 32) (.seq (.region true [⟨(some 33), .move (.tmp 1), none, [], false, false⟩,
                  ⟨(some 34), .fieldAddr 1 (.tmp 9), none, [], false, false⟩,
                  ⟨(some 35), .load false 1 (.tmp 34), none, [], false, false⟩,
                  ⟨(some 36), .move (.tmp 2), none, [], false, false⟩,
                  ⟨(some 37), .fieldAddr 1 (.tmp 9), none, [], false, false⟩,
                  ⟨(some 38), .load false 1 (.tmp 37), none, [], true, false⟩,
                  ⟨(some 39), .move (.tmp 10), none, [], false, false⟩,
                  ⟨(some 40), .move (.tmp 8), none, [], false, false⟩,
                  ⟨(some 41), .indexAddr none 1 (.tmp 33) (.tmp 35), none, [], false, false⟩,
                  ⟨none, .store 1 (.tmp 41) (.tmp 39), none, [5], false, false⟩,
                  ⟨(some 42), .indexAddr none 1 (.tmp 36) (.tmp 38), none, [], false, false⟩,
                  ⟨none, .store 1 (.tmp 42) (.tmp 40), none, [], false, false⟩])
               (.region false [⟨(some 43), .fieldAddr 1 (.tmp 9), none, [], false, false⟩,
                  ⟨(some 44), .load false 1 (.tmp 43), none, [], false, false⟩,
                  ⟨(some 7), .move (.tmp 44), none, [], false, false⟩]))
              (.skip))))))
         (.region false [⟨(some 45), .bin .add (.tmp 13) (.const (.int .i64 1)), none, [], false, false⟩,
            ⟨(some 13), .move (.tmp 45), none, [], false, false⟩])))))))
   (.seq (.region false [⟨(some 46), .move (.tmp 7), none, [], false, false⟩,
       ⟨(some 6), .move (.tmp 46), none, [], false, false⟩])
    (.ret)))),
 [.tmp 6], .trunc, 47⟩

/-- slices.Reverse[[]int,int] -/
def ef75 : EFun := ⟨
 .seq (.region false [⟨(some 4), .move (.tmp 0), none, [], false, false⟩,
    ⟨(some 5), .len false (.tmp 4), none, [], false, false⟩,
    ⟨(some 6), .bin .sub (.tmp 5) (.const (.int .i64 1)), none, [], false, false⟩,
    ⟨(some 2), .move (.const (.int .i64 0)), none, [], false, false⟩,
    ⟨(some 3), .move (.tmp 6), none, [], false, false⟩])
 (.block 0 (.loop (some [0, 2, 3]) (
   .seq (.seq (.region false [⟨(some 7), .move (.tmp 2), none, [], false, false⟩,
        ⟨(some 8), .move (.tmp 3), none, [], false, false⟩,
        ⟨(some 9), .bin .lss (.tmp 7) (.tmp 8), none, [], false, false⟩])
     (.cond (.tmp 9) (.skip)
      (.exit 0)))
    (.seq (.block 1 (.region true [⟨(some 14), .move (.tmp 0), none, [], false, false⟩,
         ⟨(some 15), .move (.tmp 2), none, [], false, false⟩,
         ⟨(some 16), .move (.tmp 0), none, [], false, false⟩,
         ⟨(some 17), .move (.tmp 3), none, [], false, false⟩,
         ⟨(some 18), .move (.tmp 0), none, [], false, false⟩,
         ⟨(some 19), .move (.tmp 3), none, [], false, false⟩,
         ⟨(some 20), .indexAddr none 1 (.tmp 18) (.tmp 19), none, [], false, false⟩,
         ⟨(some 21), .load false 1 (.tmp 20), none, [], false, false⟩,
         ⟨(some 22), .move (.tmp 0), none, [], false, false⟩,
         ⟨(some 23), .move (.tmp 2), none, [], false, false⟩,
         ⟨(some 24), .indexAddr none 1 (.tmp 22) (.tmp 23), none, [], false, false⟩,
         ⟨(some 25), .load false 1 (.tmp 24), none, [], false, false⟩,
         ⟨(some 26), .indexAddr none 1 (.tmp 14) (.tmp 15), none, [], false, false⟩,
         ⟨none, .store 1 (.tmp 26) (.tmp 21), none, [], false, false⟩,
         ⟨(some 27), .indexAddr none 1 (.tmp 16) (.tmp 17), none, [], false, false⟩,
         ⟨none, .store 1 (.tmp 27) (.tmp 25), none, [], false, false⟩]))
     (.region false [⟨(some 10), .move (.tmp 2), none, [], false, false⟩,
        ⟨(some 11), .bin .add (.tmp 10) (.const (.int .i64 1)), none, [], false, false⟩,
        ⟨(some 12), .move (.tmp 3), none, [], false, false⟩,
        ⟨(some 13), .bin .sub (.tmp 12) (.const (.int .i64 1)), none, [], false, false⟩,
        ⟨(some 2), .move (.tmp 11), none, [], false, false⟩,
        ⟨(some 3), .move (.tmp 13), none, [], false, false⟩]))))),
 [], .trunc, 28⟩

/-- sort.Search -/
def ef76 : EFun := ⟨
 .seq (.region false [⟨(some 4), .move (.const (.int .i64 0)), none, [], false, false⟩])
 (.seq (.region false [⟨(some 8), .move (.tmp 0), none, [], false, false⟩,
     ⟨(some 5), .move (.const (.int .i64 0)), none, [], false, false⟩,
     ⟨(some 6), .move (.tmp 8), none, [], false, false⟩])
  (.seq (.block 0 (.loop (some [1, 5, 6]) (
     .seq (.seq (.region false [⟨(some 9), .move (.tmp 5), none, [], false, false⟩,
          ⟨(some 10), .move (.tmp 6), none, [], false, false⟩,
          ⟨(some 11), .bin .lss (.tmp 9) (.tmp 10), none, [], false, false⟩])
       (.cond (.tmp 11) (.skip)
        (.exit 0)))
      (.block 1 (.seq (.region false [⟨(some 12), .move (.tmp 5), none, [], false, false⟩,
           ⟨(some 13), .move (.tmp 6), none, [], false, false⟩,
           ⟨(some 14), .bin .add (.tmp 12) (.tmp 13), none, [], false, false⟩,
           ⟨(some 15), .conv .u64 (.tmp 14), none, [], false, false⟩,
           ⟨(some 16), .bin .shr (.tmp 15) (.const (.int .u64 1)), none, [], false, false⟩,
           ⟨(some 17), .conv .i64 (.tmp 16), none, [], false, false⟩,
           ⟨(some 7), .move (.tmp 17), none, [], false, false⟩])
        (.seq (.region false [⟨(some 18), .move (.tmp 1), none, [], false, false⟩,
            ⟨(some 19), .move (.tmp 7), none, [], false, false⟩,
            ⟨(some 20), .callVal (.tmp 18) [(.tmp 19)], none, [], false, false⟩,
            ⟨(some 21), .un .not (.tmp 20), none, [], false, false⟩])
         (.cond (.tmp 21) (.region false [⟨(some 22), .move (.tmp 7), none, [], false, false⟩,
             ⟨(some 23), .bin .add (.tmp 22) (.const (.int .i64 1)), none, [], false, false⟩,
             ⟨(some 5), .move (.tmp 23), none, [], false, false⟩])
          (.region false [⟨(some 24), .move (.tmp 7), none, [], false, false⟩,
             ⟨(some 6), .move (.tmp 24), none, [], false, false⟩]))))))))
   (.seq (.region false [⟨(some 25), .move (.tmp 5), none, [], false, false⟩,
       ⟨(some 4), .move (.tmp 25), none, [], false, false⟩])
    (.ret)))),
 [.tmp 4], .pure, 26⟩

/-- sort.SearchInts$1 -/
def ef77 : EFun := ⟨
 .seq (.region false [⟨(some 4), .move (.const (.bool false)), none, [], false, false⟩])
 (.seq (.region true [⟨(some 5), .load false 1 (.tmp 1), none, [], false, false⟩,
     ⟨(some 6), .move (.tmp 0), none, [], false, false⟩,
     ⟨(some 7), .indexAddr none 1 (.tmp 5) (.tmp 6), none, [], false, false⟩,
     ⟨(some 8), .load false 1 (.tmp 7), none, [], false, false⟩,
     ⟨(some 9), .load false 1 (.tmp 2), none, [], false, false⟩,
     ⟨(some 10), .bin .geq (.tmp 8) (.tmp 9), none, [], false, false⟩,
     ⟨(some 4), .move (.tmp 10), none, [], false, false⟩])
  (.ret)),
 [.tmp 4], .pure, 11⟩

end Go.Abs.V
