/- The functions, compiled for the abstract evaluator. Written by wip/abs/Print.lean. -/
import Derived.Test.YtodofkolnmoliaaDoorAbsX0
set_option linter.unusedSimpArgs false
set_option linter.unusedVariables false
set_option maxRecDepth 100000
set_option maxHeartbeats 0
namespace Go.Abs.X
open Go Go.Abs
/-- agraffe/number.CheckPitch -/
def ef120 : EFun := ⟨
 .seq (.region false [⟨(some 1), .box (.tmp 0), none, [], false, false⟩,
    ⟨(some 2), .move (.const (.int .i64 0)), none, [], false, false⟩])
 (.seq (.seq (.region false [⟨(some 5), .load true 4 (.tmp 1), none, [], false, false⟩,
      ⟨(some 6), .call 124 [(.tmp 5)], none, [], false, false⟩,
      ⟨(some 7), .move (.const (.int .i64 0)), none, [], false, false⟩])
   (.block 0 (.loop (some [1, 6, 7]) (
     .seq (.region false [⟨(some 8), .bin .lss (.tmp 7) (.const (.int .i64 3)), none, [], false, false⟩])
      (.seq (.cond (.tmp 8) (.skip)
        (.exit 0))
       (.seq (.block 1 (.seq (.region false [⟨(some 9), .index 3 1 false (.tmp 6) (.tmp 7), none, [], false, false⟩,
             ⟨(some 4), .move (.tmp 9), none, [], false, false⟩])
          (.seq (.region false [⟨(some 10), .move (.tmp 4), none, [], false, false⟩,
              ⟨(some 11), .call 121 [(.tmp 10), (.const (.int .i64 (-400))), (.const (.int .i64 400))], none, [], false, false⟩,
              ⟨(some 12), .un .not (.tmp 11), none, [], false, false⟩])
           (.cond (.tmp 12) (.seq (.region false [⟨(some 2), .move (.const (.int .i64 2)), none, [], false, false⟩])
             (.ret))
            (.skip)))))
        (.region false [⟨(some 13), .bin .add (.tmp 7) (.const (.int .i64 1)), none, [], false, false⟩,
           ⟨(some 7), .move (.tmp 13), none, [], false, false⟩])))))))
  (.seq (.seq (.region false [⟨(some 14), .fieldAddr 3 (.tmp 1), none, [], false, false⟩,
       ⟨(some 15), .load false 1 (.tmp 14), none, [], false, false⟩,
       ⟨(some 16), .call 121 [(.tmp 15), (.const (.int .i64 1)), (.const (.int .i64 12))], none, [], false, false⟩,
       ⟨(some 17), .un .not (.tmp 16), none, [], false, false⟩])
    (.cond (.tmp 17) (.seq (.region false [⟨(some 2), .move (.const (.int .i64 2)), none, [], false, false⟩])
      (.ret))
     (.skip)))
   (.seq (.region false [⟨(some 2), .move (.const (.int .i64 0)), none, [], false, false⟩])
    (.ret)))),
 [.tmp 2], .pure, 18⟩

/-- agraffe/number.within -/
def ef121 : EFun := ⟨
 .seq (.region false [⟨(some 6), .move (.const (.bool false)), none, [], false, false⟩])
 (.seq (.region false [⟨(some 7), .move (.tmp 0), none, [], false, false⟩,
     ⟨(some 8), .move (.tmp 1), none, [], false, false⟩,
     ⟨(some 9), .bin .geq (.tmp 7) (.tmp 8), none, [], false, false⟩,
     ⟨(some 10), .move (.tmp 9), none, [], false, false⟩,
     ⟨(some 11), .move (.tmp 0), (some (10, true)), [], false, false⟩,
     ⟨(some 12), .move (.tmp 2), (some (10, true)), [], false, false⟩,
     ⟨(some 13), .bin .leq (.tmp 11) (.tmp 12), (some (10, true)), [], false, false⟩,
     ⟨(some 14), .pick (.tmp 10) (.tmp 13) (.const (.bool false)), none, [], false, false⟩,
     ⟨(some 6), .move (.tmp 14), none, [], false, false⟩])
  (.ret)),
 [.tmp 6], .pure, 15⟩

/-- agraffe/number.reduced -/
def ef122 : EFun := ⟨
 .seq (.region false [⟨(some 1), .box (.tmp 0), none, [], false, false⟩,
    ⟨(some 2), .push [(.int .i64 0), (.int .i64 0), (.int .i64 0), (.int .i64 0)], none, [], false, false⟩])
 (.seq (.region true [⟨(some 4), .fieldAddr 0 (.tmp 1), none, [], false, false⟩,
     ⟨(some 5), .load false 1 (.tmp 4), none, [], false, false⟩,
     ⟨(some 6), .fieldAddr 1 (.tmp 1), none, [], false, false⟩,
     ⟨(some 7), .load false 1 (.tmp 6), none, [], false, false⟩,
     ⟨(some 8), .call 164 [(.tmp 5), (.tmp 7)], none, [], false, true⟩,
     ⟨(some 9), .fieldAddr 2 (.tmp 1), none, [], false, false⟩,
     ⟨(some 10), .load false 1 (.tmp 9), none, [], false, false⟩,
     ⟨(some 11), .fieldAddr 3 (.tmp 1), none, [], false, false⟩,
     ⟨(some 12), .load false 1 (.tmp 11), none, [], false, false⟩,
     ⟨(some 13), .call 164 [(.tmp 10), (.tmp 12)], none, [], false, false⟩,
     ⟨(some 14), .call 164 [(.tmp 8), (.tmp 13)], none, [], false, false⟩,
     ⟨(some 3), .move (.tmp 14), none, [], false, false⟩])
  (.seq (.region true [⟨(some 15), .fieldAddr 0 (.tmp 1), none, [], false, false⟩,
      ⟨(some 16), .load false 1 (.tmp 15), none, [], false, false⟩,
      ⟨(some 17), .move (.tmp 3), none, [], false, false⟩,
      ⟨(some 18), .bin .quo (.tmp 16) (.tmp 17), none, [], false, false⟩,
      ⟨(some 19), .fieldAddr 1 (.tmp 1), none, [], false, false⟩,
      ⟨(some 20), .load false 1 (.tmp 19), none, [], false, false⟩,
      ⟨(some 21), .move (.tmp 3), none, [], false, false⟩,
      ⟨(some 22), .bin .quo (.tmp 20) (.tmp 21), none, [], false, false⟩,
      ⟨(some 23), .fieldAddr 2 (.tmp 1), none, [], false, false⟩,
      ⟨(some 24), .load false 1 (.tmp 23), none, [], false, false⟩,
      ⟨(some 25), .move (.tmp 3), none, [], false, false⟩,
      ⟨(some 26), .bin .quo (.tmp 24) (.tmp 25), none, [], false, false⟩,
      ⟨(some 27), .fieldAddr 3 (.tmp 1), none, [], false, false⟩,
      ⟨(some 28), .load false 1 (.tmp 27), none, [], false, false⟩,
      ⟨(some 29), .move (.tmp 3), none, [], false, false⟩,
      ⟨(some 30), .bin .quo (.tmp 28) (.tmp 29), none, [], false, false⟩,
      ⟨(some 31), .build [(.int .i64 0), (.int .i64 0), (.int .i64 0), (.int .i64 0)] [(0, 1, (.tmp 18)), (1, 1, (.tmp 22)), (2, 1, (.tmp 26)), (3, 1, (.tmp 30))], none, [], false, false⟩,
      ⟨none, .store 4 (.tmp 2) (.tmp 31), none, [], false, false⟩])
   (.ret))),
 [.cell 2 true 4], .pure, 32⟩

/-- agraffe/number.quotientOf -/
def ef123 : EFun := ⟨
 .seq (.region false [⟨(some 1), .box (.tmp 0), none, [], false, false⟩,
    ⟨(some 2), .push [(.slice none 0 0), (.slice none 0 0)], none, [], false, false⟩])
 (.seq (.region false [⟨(some 6), .buildSlice 1 1 [(.int .u64 0)] [(0, 1, (.const (.int .u64 1)))], none, [], false, false⟩,
     ⟨(some 7), .buildSlice 1 1 [(.int .u64 0)] [(0, 1, (.const (.int .u64 1)))], none, [], false, false⟩,
     ⟨(some 8), .build [(.slice none 0 0), (.slice none 0 0)] [(0, 1, (.tmp 6)), (1, 1, (.tmp 7))], none, [], false, false⟩,
     ⟨(some 3), .push [(.slice none 0 0), (.slice none 0 0)], none, [], false, false⟩,
     ⟨none, .store 2 (.tmp 3) (.tmp 8), none, [], false, false⟩])
  (.seq (.seq (.region false [⟨(some 9), .load true 3 (.tmp 1), none, [], false, false⟩,
       ⟨(some 10), .move (.const (.int .i64 0)), none, [], false, false⟩])
    (.block 0 (.loop (some [2, 3, 9, 10]) (
      .seq (.region false [⟨(some 11), .bin .lss (.tmp 10) (.const (.int .i64 3)), none, [], false, false⟩])
       (.seq (.cond (.tmp 11) (.skip)
         (.exit 0))
        (.seq (.block 1 (.seq (.region false [⟨(some 12), .move (.tmp 10), none, [], false, false⟩,
              ⟨(some 13), .index 3 1 false (.tmp 9) (.tmp 10), none, [], false, false⟩,
              ⟨(some 4), .move (.tmp 12), none, [], false, false⟩,
              ⟨(some 5), .move (.tmp 13), none, [], false, false⟩])
           (.seq (.region true [⟨(some 14), .move (.tmp 4), none, [], false, false⟩,
               ⟨(some 15), .indexAddr (some 3) 1 (.global 0) (.tmp 14), none, [], false, false⟩,
               ⟨(some 16), .load false 1 (.tmp 15), none, [], false, false⟩,
               ⟨(some 17), .move (.tmp 5), none, [], false, false⟩,
               ⟨(some 18), .max [(.tmp 17), (.const (.int .i64 0))], none, [], false, false⟩,
               ⟨(some 19), .fieldAddr 0 (.tmp 3), none, [], false, false⟩,
               ⟨(some 20), .load false 1 (.tmp 19), none, [], false, false⟩,
               ⟨(some 21), .call 125 [(.tmp 16), (.tmp 18), (.tmp 20)], none, [], false, false⟩,
               ⟨(some 22), .fieldAddr 0 (.tmp 3), none, [], false, false⟩,
               ⟨none, .store 1 (.tmp 22) (.tmp 21), none, [], false, false⟩])
            (.region true [⟨(some 23), .move (.tmp 4), none, [], false, false⟩,
               ⟨(some 24), .indexAddr (some 3) 1 (.global 0) (.tmp 23), none, [], false, false⟩,
               ⟨(some 25), .load false 1 (.tmp 24), none, [], false, false⟩,
               ⟨(some 26), .move (.tmp 5), none, [], false, false⟩,
               ⟨(some 27), .un .neg (.tmp 26), none, [], false, false⟩,
               ⟨(some 28), .max [(.tmp 27), (.const (.int .i64 0))], none, [], false, false⟩,
               ⟨(some 29), .fieldAddr 1 (.tmp 3), none, [], false, false⟩,
               ⟨(some 30), .load false 1 (.tmp 29), none, [], false, false⟩,
               ⟨(some 31), .call 125 [(.tmp 25), (.tmp 28), (.tmp 30)], none, [], false, false⟩,
               ⟨(some 32), .fieldAddr 1 (.tmp 3), none, [], false, false⟩,
               ⟨none, .store 1 (.tmp 32) (.tmp 31), none, [], false, false⟩]))))
         (.region false [⟨(some 33), .bin .add (.tmp 10) (.const (.int .i64 1)), none, [], false, false⟩,
            ⟨(some 10), .move (.tmp 33), none, [], false, false⟩])))))))
   (.seq (.region false [⟨(some 34), .load true 2 (.tmp 3), none, [], false, false⟩,
       ⟨none, .store 2 (.tmp 2) (.tmp 34), none, [], false, false⟩])
    (.ret)))),
 [.cell 2 true 2], .pure, 35⟩

/-- agraffe/number.exponents -/
def ef124 : EFun := ⟨
 .seq (.region false [⟨(some 1), .box (.tmp 0), none, [], false, false⟩,
    ⟨(some 2), .push [(.int .i64 0), (.int .i64 0), (.int .i64 0)], none, [], false, false⟩])
 (.seq (.region false [⟨(some 3), .fieldAddr 0 (.tmp 1), none, [], false, false⟩,
     ⟨(some 4), .load false 1 (.tmp 3), none, [], false, false⟩,
     ⟨(some 5), .fieldAddr 1 (.tmp 1), none, [], false, false⟩,
     ⟨(some 6), .load false 1 (.tmp 5), none, [], false, false⟩,
     ⟨(some 7), .fieldAddr 2 (.tmp 1), none, [], false, false⟩,
     ⟨(some 8), .load false 1 (.tmp 7), none, [], false, false⟩,
     ⟨(some 9), .build [(.int .i64 0), (.int .i64 0), (.int .i64 0)] [(0, 1, (.tmp 4)), (1, 1, (.tmp 6)), (2, 1, (.tmp 8))], none, [], false, false⟩,
     ⟨none, .store 3 (.tmp 2) (.tmp 9), none, [], false, false⟩])
  (.ret)),
 [.cell 2 true 3], .pure, 10⟩

/-- agraffe/number.power -/
def ef125 : EFun := ⟨
 .seq (.region false [⟨(some 6), .move (.const (.slice none 0 0)), none, [], false, false⟩])
 (.seq (.block 0 (.loop (some [0, 1, 2]) (
    .seq (.seq (.region false [⟨(some 10), .move (.tmp 1), none, [], false, false⟩,
         ⟨(some 11), .bin .gtr (.tmp 10) (.const (.int .i64 0)), none, [], false, false⟩])
      (.cond (.tmp 11) (.skip)
       (.exit 0)))
     (.block 1 (.seq (.region false [⟨(some 7), .move (.const (.int .u64 1)), none, [], false, false⟩])
       (.seq (.block 2 (.loop (some [0, 1, 2, 7]) (
          .seq (.seq (.region false [⟨(some 12), .move (.tmp 1), none, [], false, false⟩,
               ⟨(some 13), .bin .gtr (.tmp 12) (.const (.int .i64 0)), none, [], false, false⟩])
            (.cond (.tmp 13) (.skip)
             (.exit 2)))
           (.block 3 (.seq (.region false [⟨(some 15), .move (.tmp 7), none, [], false, false⟩,
                ⟨(some 16), .move (.tmp 0), none, [], false, false⟩,
                ⟨(some 17), .call 165 [(.tmp 15), (.tmp 16)], none, [], false, false⟩,
                ⟨(some 14), .move (.tmp 17), none, [], false, false⟩,
                ⟨(some 18), .extract (.tmp 14) 0, none, [], false, false⟩,
                ⟨(some 19), .extract (.tmp 14) 1, none, [], false, false⟩,
                ⟨(some 8), .move (.tmp 18), none, [], false, false⟩,
                ⟨(some 9), .move (.tmp 19), none, [], false, false⟩])
             (.seq (.seq (.region false [⟨(some 20), .move (.tmp 8), none, [], false, false⟩,
                  ⟨(some 21), .bin .neq (.tmp 20) (.const (.int .u64 0)), none, [], false, false⟩])
               (.cond (.tmp 21) (.exit 2)
                (.skip)))
              (.region false [⟨(some 22), .move (.tmp 9), none, [], false, false⟩,
                 ⟨(some 23), .move (.tmp 1), none, [], false, false⟩,
                 ⟨(some 24), .bin .sub (.tmp 23) (.const (.int .i64 1)), none, [], false, false⟩,
                 ⟨(some 7), .move (.tmp 22), none, [], false, false⟩,
                 ⟨(some 1), .move (.tmp 24), none, [], false, false⟩])))))))
        (.region false [⟨(some 25), .move (.tmp 2), none, [], false, false⟩,
           ⟨(some 26), .move (.tmp 7), none, [], false, false⟩,
           ⟨(some 27), .call 166 [(.tmp 25), (.tmp 26)], none, [], false, false⟩,
           ⟨(some 2), .move (.tmp 27), none, [], false, false⟩])))))))
  (.seq (.region false [⟨(some 28), .move (.tmp 2), none, [], false, false⟩,
      ⟨(some 6), .move (.tmp 28), none, [], false, false⟩])
   (.ret))),
 [.tmp 6], .pure, 29⟩

/-- agraffe/number.Enclose$1 -/
def ef126 : EFun := ⟨
 .seq (.region false [⟨(some 4), .move (.const (.int .i64 0)), none, [], false, false⟩])
 (.seq (.region true [⟨(some 5), .move (.tmp 0), none, [], false, false⟩,
     ⟨(some 6), .conv .u64 (.tmp 5), none, [], false, false⟩,
     ⟨(some 7), .fieldAddr 3 (.tmp 1), none, [], false, false⟩,
     ⟨(some 8), .load false 1 (.tmp 7), none, [], false, false⟩,
     ⟨(some 9), .fieldAddr 1 (.tmp 2), none, [], false, false⟩,
     ⟨(some 10), .load false 1 (.tmp 9), none, [], false, false⟩,
     ⟨(some 11), .call 125 [(.tmp 6), (.tmp 8), (.tmp 10)], none, [], false, true⟩,
     ⟨(some 12), .fieldAddr 0 (.tmp 2), none, [], false, false⟩,
     ⟨(some 13), .load false 1 (.tmp 12), none, [], false, false⟩,
     ⟨(some 14), .call 127 [(.tmp 11), (.tmp 13)], none, [], false, false⟩,
     ⟨(some 4), .move (.tmp 14), none, [], false, false⟩])
  (.ret)),
 [.tmp 4], .pure, 15⟩

/-- (agraffe/number.natural).cmp -/
def ef127 : EFun := ⟨
 .seq (.region false [⟨(some 4), .move (.const (.int .i64 0)), none, [], false, false⟩])
 (.seq (.seq (.region false [⟨(some 6), .move (.tmp 0), none, [], false, false⟩,
      ⟨(some 7), .len false (.tmp 6), none, [], false, false⟩,
      ⟨(some 8), .move (.tmp 1), none, [], false, false⟩,
      ⟨(some 9), .len false (.tmp 8), none, [], false, false⟩,
      ⟨(some 10), .bin .neq (.tmp 7) (.tmp 9), none, [], false, false⟩])
   (.cond (.tmp 10) (.seq (.seq (.region false [⟨(some 11), .move (.tmp 0), none, [], false, false⟩,
         ⟨(some 12), .len false (.tmp 11), none, [], false, false⟩,
         ⟨(some 13), .move (.tmp 1), none, [], false, false⟩,
         ⟨(some 14), .len false (.tmp 13), none, [], false, false⟩,
         ⟨(some 15), .bin .lss (.tmp 12) (.tmp 14), none, [], false, false⟩])
      (.cond (.tmp 15) (.seq (.region false [⟨(some 4), .move (.const (.int .i64 (-1))), none, [], false, false⟩])
        (.ret))
       (.skip)))
     (.seq (.region false [⟨(some 4), .move (.const (.int .i64 1)), none, [], false, false⟩])
      (.ret)))
    (.skip)))
  (.seq (.seq (.region false [⟨(some 16), .move (.tmp 0), none, [], false, false⟩,
       ⟨(some 17), .len false (.tmp 16), none, [], false, false⟩,
       ⟨(some 18), .bin .sub (.tmp 17) (.const (.int .i64 1)), none, [], false, false⟩,
       ⟨(some 5), .move (.tmp 18), none, [], false, false⟩])
    (.block 0 (.loop (some [0, 1, 5]) (
      .seq (.seq (.region false [⟨(some 19), .move (.tmp 5), none, [], false, false⟩,
           ⟨(some 20), .bin .geq (.tmp 19) (.const (.int .i64 0)), none, [], false, false⟩])
        (.cond (.tmp 20) (.skip)
         (.exit 0)))
       (.seq (.block 1 (.block 2 (.seq (.region true [⟨(some 24), .move (.tmp 0), none, [], false, false⟩,
              ⟨(some 25), .move (.tmp 5), none, [], false, false⟩,
              ⟨(some 26), .indexAddr none 1 (.tmp 24) (.tmp 25), none, [], false, false⟩,
              ⟨(some 27), .load false 1 (.tmp 26), none, [], false, false⟩,
              ⟨(some 28), .move (.tmp 1), none, [], false, false⟩,
              ⟨(some 29), .move (.tmp 5), none, [], false, false⟩,
              ⟨(some 30), .indexAddr none 1 (.tmp 28) (.tmp 29), none, [], false, false⟩,
              ⟨(some 31), .load false 1 (.tmp 30), none, [], false, false⟩,
              ⟨(some 32), .bin .lss (.tmp 27) (.tmp 31), none, [], false, false⟩,
              ⟨(some 23), .move (.tmp 32), none, [], false, false⟩])
           (.cond (.tmp 23) (.seq (.region false [⟨(some 4), .move (.const (.int .i64 (-1))), none, [], false, false⟩])
             (.ret))
            (.seq (.region true [⟨(some 34), .move (.tmp 0), none, [], false, false⟩,
                ⟨(some 35), .move (.tmp 5), none, [], false, false⟩,
                ⟨(some 36), .indexAddr none 1 (.tmp 34) (.tmp 35), none, [], false, false⟩,
                ⟨(some 37), .load false 1 (.tmp 36), none, [], false, false⟩,
                ⟨(some 38), .move (.tmp 1), none, [], false, false⟩,
                ⟨(some 39), .move (.tmp 5), none, [], false, false⟩,
                ⟨(some 40), .indexAddr none 1 (.tmp 38) (.tmp 39), none, [], false, false⟩,
                ⟨(some 41), .load false 1 (.tmp 40), none, [], false, false⟩,
                ⟨(some 42), .bin .gtr (.tmp 37) (.tmp 41), none, [], false, false⟩,
                ⟨(some 33), .move (.tmp 42), none, [], false, false⟩])
             (.cond (.tmp 33) (.seq (.region false [⟨(some 4), .move (.const (.int .i64 1)), none, [], false, false⟩])
               (.ret))
              (.skip)))))))
        (.region false [⟨(some 21), .move (.tmp 5), none, [], false, false⟩,
           ⟨(some 22), .bin .sub (.tmp 21) (.const (.int .i64 1)), none, [], false, false⟩,
           ⟨(some 5), .move (.tmp 22), none, [], false, false⟩]))))))
   (.seq (.region false [⟨(some 4), .move (.const (.int .i64 0)), none, [], false, false⟩])
    (.ret)))),
 [.tmp 4], .pure, 43⟩

/-- agraffe/number.small -/
def ef128 : EFun := ⟨
 .seq (.region false [⟨(some 1), .box (.tmp 0), none, [], false, false⟩,
    ⟨(some 2), .push [(.int .i64 0), (.int .i64 0)], none, [], false, false⟩,
    ⟨(some 3), .move (.const (.int .i64 0)), none, [], false, false⟩])
 (.seq (.seq (.region false [⟨(some 4), .load true 2 (.tmp 1), none, [], false, false⟩,
      ⟨(some 5), .call 167 [(.tmp 4)], none, [], false, false⟩,
      ⟨(some 6), .bin .neq (.tmp 5) (.const (.int .i64 0)), none, [], false, false⟩])
   (.cond (.tmp 6) (.seq (.region false [⟨(some 7), .build [(.int .i64 0), (.int .i64 0)] [], none, [], false, false⟩,
        ⟨none, .store 2 (.tmp 2) (.tmp 7), none, [], false, false⟩,
        ⟨(some 3), .move (.const (.int .i64 8)), none, [], false, false⟩])
     (.ret))
    (.skip)))
  (.seq (.region false [⟨(some 8), .load true 2 (.tmp 1), none, [], false, false⟩,
      ⟨none, .store 2 (.tmp 2) (.tmp 8), none, [], false, false⟩,
      ⟨(some 3), .move (.const (.int .i64 0)), none, [], false, false⟩])
   (.ret))),
 [.cell 2 true 2, .tmp 3], .pure, 9⟩

/-- agraffe/scale.heard -/
def ef129 : EFun := ⟨
 .seq (.region false [⟨(some 4), .box (.tmp 1), none, [], false, false⟩,
    ⟨(some 5), .box (.tmp 2), none, [], false, false⟩,
    ⟨(some 6), .push [(.string ⟨#[]⟩), (.int .i64 0), (.int .i64 0), (.int .i64 0), (.int .i64 0), (.int .i64 0), (.int .i64 0), (.string ⟨#[]⟩), (.string ⟨#[]⟩), (.int .i64 0), (.int .i64 0), (.int .i64 0), (.int .i64 0)], none, [], false, false⟩,
    ⟨(some 7), .move (.const (.int .i64 0)), none, [], false, false⟩])
 (.seq (.seq (.region false [⟨(some 10), .move (.tmp 0), none, [], false, false⟩,
      ⟨(some 11), .load true 5 (.tmp 4), none, [], false, false⟩,
      ⟨(some 12), .call 92 [(.tmp 10), (.tmp 11)], none, [], false, false⟩,
      ⟨(some 8), .move (.tmp 12), none, [], false, false⟩])
   (.seq (.region false [⟨(some 13), .move (.tmp 8), none, [], false, false⟩,
       ⟨(some 14), .bin .neq (.tmp 13) (.const (.int .i64 0)), none, [], false, false⟩])
    (.cond (.tmp 14) (.seq (.region false [⟨(some 15), .build [(.string ⟨#[]⟩), (.int .i64 0), (.int .i64 0), (.int .i64 0), (.int .i64 0), (.int .i64 0), (.int .i64 0), (.string ⟨#[]⟩), (.string ⟨#[]⟩), (.int .i64 0), (.int .i64 0), (.int .i64 0), (.int .i64 0)] [], none, [], false, false⟩,
         ⟨(some 16), .move (.tmp 8), none, [], false, false⟩,
         ⟨none, .store 13 (.tmp 6) (.tmp 15), none, [], false, false⟩,
         ⟨(some 7), .move (.tmp 16), none, [], false, false⟩])
      (.ret))
     (.skip))))
  (.seq (.seq (.region false [⟨(some 17), .load true 2 (.tmp 5), none, [], false, false⟩,
       ⟨(some 18), .call 132 [(.tmp 17)], none, [], false, false⟩,
       ⟨(some 9), .move (.tmp 18), none, [], false, false⟩])
    (.seq (.region false [⟨(some 19), .move (.tmp 9), none, [], false, false⟩,
        ⟨(some 20), .bin .neq (.tmp 19) (.const (.int .i64 0)), none, [], false, false⟩])
     (.cond (.tmp 20) (.seq (.region false [⟨(some 21), .build [(.string ⟨#[]⟩), (.int .i64 0), (.int .i64 0), (.int .i64 0), (.int .i64 0), (.int .i64 0), (.int .i64 0), (.string ⟨#[]⟩), (.string ⟨#[]⟩), (.int .i64 0), (.int .i64 0), (.int .i64 0), (.int .i64 0)] [], none, [], false, false⟩,
          ⟨(some 22), .move (.tmp 9), none, [], false, false⟩,
          ⟨none, .store 13 (.tmp 6) (.tmp 21), none, [], false, false⟩,
          ⟨(some 7), .move (.tmp 22), none, [], false, false⟩])
       (.ret))
      (.skip))))
   (.seq (.region false [⟨(some 23), .move (.tmp 0), none, [], false, false⟩,
       ⟨(some 24), .load true 5 (.tmp 4), none, [], false, false⟩,
       ⟨(some 25), .load true 2 (.tmp 5), none, [], false, false⟩,
       ⟨(some 26), .call 89 [(.tmp 23), (.tmp 24), (.tmp 25)], none, [], false, false⟩,
       ⟨none, .store 13 (.tmp 6) (.tmp 26), none, [], false, false⟩,
       ⟨(some 7), .move (.const (.int .i64 0)), none, [], false, false⟩])
    (.ret)))),
 [.cell 6 true 13, .tmp 7], .pure, 27⟩

/-- (agraffe/scale.sound).inharmonicity -/
def ef130 : EFun := ⟨
 .seq (.region false [⟨(some 1), .box (.tmp 0), none, [], false, false⟩,
    ⟨(some 2), .push [(.int .i64 0), (.int .i64 0)], none, [], false, false⟩,
    ⟨(some 3), .move (.const (.int .i64 0)), none, [], false, false⟩])
 (.seq (.seq (.region false [⟨(some 7), .fieldAddr 11 (.tmp 1), none, [], false, false⟩,
      ⟨(some 8), .fieldAddr 0 (.tmp 7), none, [], false, false⟩,
      ⟨(some 9), .load false 1 (.tmp 8), none, [], false, false⟩,
      ⟨(some 10), .bin .eql (.tmp 9) (.const (.int .i64 0)), none, [], false, false⟩])
   (.cond (.tmp 10) (.seq (.region false [⟨(some 11), .build [(.int .i64 0), (.int .i64 0)] [], none, [], false, false⟩,
        ⟨none, .store 2 (.tmp 2) (.tmp 11), none, [], false, false⟩,
        ⟨(some 3), .move (.const (.int .i64 11)), none, [], false, false⟩])
     (.ret))
    (.skip)))
  (.seq (.region false [⟨(some 12), .fieldAddr 4 (.tmp 1), none, [], false, false⟩,
      ⟨(some 13), .fieldAddr 1 (.tmp 12), none, [], false, false⟩,
      ⟨(some 14), .load false 1 (.tmp 13), none, [], false, false⟩,
      ⟨(some 15), .bin .mul (.const (.int .i64 1000)) (.tmp 14), none, [], false, false⟩,
      ⟨(some 16), .fieldAddr 4 (.tmp 1), none, [], false, false⟩,
      ⟨(some 17), .fieldAddr 1 (.tmp 16), none, [], false, false⟩,
      ⟨(some 18), .load false 1 (.tmp 17), none, [], false, false⟩,
      ⟨(some 19), .bin .mul (.tmp 15) (.tmp 18), none, [], false, false⟩,
      ⟨(some 4), .move (.tmp 19), none, [], false, false⟩])
   (.seq (.region false [⟨(some 20), .move (.tmp 4), none, [], false, false⟩,
       ⟨(some 21), .move (.tmp 4), none, [], false, false⟩,
       ⟨(some 22), .fieldAddr 4 (.tmp 1), none, [], false, false⟩,
       ⟨(some 23), .fieldAddr 0 (.tmp 22), none, [], false, false⟩,
       ⟨(some 24), .load false 1 (.tmp 23), none, [], false, false⟩,
       ⟨(some 25), .call 146 [(.tmp 20), (.tmp 21), (.tmp 24)], none, [], false, false⟩,
       ⟨(some 5), .push [(.int .i64 0), (.int .i64 0)], none, [], false, false⟩,
       ⟨none, .store 2 (.tmp 5) (.tmp 25), none, [], false, false⟩])
    (.seq (.region false [⟨(some 26), .fieldAddr 0 (.tmp 5), none, [], false, false⟩,
        ⟨(some 27), .load false 1 (.tmp 26), none, [], false, false⟩,
        ⟨(some 28), .fieldAddr 0 (.tmp 5), none, [], false, false⟩,
        ⟨(some 29), .load false 1 (.tmp 28), none, [], false, false⟩,
        ⟨(some 30), .bin .mul (.tmp 27) (.tmp 29), none, [], false, false⟩,
        ⟨(some 31), .fieldAddr 1 (.tmp 5), none, [], false, false⟩,
        ⟨(some 32), .load false 1 (.tmp 31), none, [], false, false⟩,
        ⟨(some 33), .fieldAddr 1 (.tmp 5), none, [], false, false⟩,
        ⟨(some 34), .load false 1 (.tmp 33), none, [], false, false⟩,
        ⟨(some 35), .bin .mul (.tmp 32) (.tmp 34), none, [], false, false⟩,
        ⟨(some 36), .call 146 [(.tmp 30), (.tmp 35), (.const (.int .i64 1000))], none, [], false, false⟩,
        ⟨(some 6), .push [(.int .i64 0), (.int .i64 0)], none, [], false, false⟩,
        ⟨none, .store 2 (.tmp 6) (.tmp 36), none, [], false, false⟩])
     (.seq (.region false [⟨(some 37), .fieldAddr 0 (.tmp 1), none, [], false, false⟩,
         ⟨(some 38), .fieldAddr 3 (.tmp 37), none, [], false, false⟩,
         ⟨(some 39), .load false 1 (.tmp 38), none, [], false, false⟩,
         ⟨(some 40), .fieldAddr 0 (.tmp 6), none, [], false, false⟩,
         ⟨(some 41), .load false 1 (.tmp 40), none, [], false, false⟩,
         ⟨(some 42), .bin .mul (.tmp 39) (.tmp 41), none, [], false, false⟩,
         ⟨(some 43), .fieldAddr 11 (.tmp 1), none, [], false, false⟩,
         ⟨(some 44), .fieldAddr 1 (.tmp 43), none, [], false, false⟩,
         ⟨(some 45), .load false 1 (.tmp 44), none, [], false, false⟩,
         ⟨(some 46), .bin .mul (.const (.int .i64 1000)) (.tmp 45), none, [], false, false⟩,
         ⟨(some 47), .fieldAddr 0 (.tmp 1), none, [], false, false⟩,
         ⟨(some 48), .fieldAddr 3 (.tmp 47), none, [], false, false⟩,
         ⟨(some 49), .load false 1 (.tmp 48), none, [], false, false⟩,
         ⟨(some 50), .fieldAddr 1 (.tmp 6), none, [], false, false⟩,
         ⟨(some 51), .load false 1 (.tmp 50), none, [], false, false⟩,
         ⟨(some 52), .bin .mul (.tmp 49) (.tmp 51), none, [], false, false⟩,
         ⟨(some 53), .fieldAddr 11 (.tmp 1), none, [], false, false⟩,
         ⟨(some 54), .fieldAddr 0 (.tmp 53), none, [], false, false⟩,
         ⟨(some 55), .load false 1 (.tmp 54), none, [], false, false⟩,
         ⟨(some 56), .bin .mul (.const (.int .i64 1000)) (.tmp 55), none, [], false, false⟩,
         ⟨(some 57), .call 148 [(.tmp 42), (.tmp 46), (.tmp 52), (.tmp 56)], none, [], false, false⟩,
         ⟨none, .store 2 (.tmp 2) (.tmp 57), none, [], false, false⟩,
         ⟨(some 3), .move (.const (.int .i64 0)), none, [], false, false⟩])
      (.ret)))))),
 [.cell 2 true 2, .tmp 3], .pure, 58⟩

/-- agraffe/scale.isName -/
def ef131 : EFun := ⟨
 .seq (.region false [⟨(some 2), .move (.const (.bool false)), none, [], false, false⟩])
 (.seq (.seq (.region false [⟨(some 6), .move (.tmp 0), none, [], false, false⟩,
      ⟨(some 7), .bytesOf (.tmp 6), none, [], false, false⟩,
      ⟨(some 8), .len false (.tmp 7), none, [], false, false⟩,
      ⟨(some 9), .move (.const (.int .i64 0)), none, [], false, false⟩])
   (.block 0 (.loop (some [0, 7, 8, 9]) (
     .seq (.region false [⟨(some 10), .bin .lss (.tmp 9) (.tmp 8), none, [], false, false⟩])
      (.seq (.cond (.tmp 10) (.skip)
        (.exit 0))
       (.seq (.block 1 (.seq (.region false [⟨(some 11), .move (.tmp 9), none, [], false, false⟩,
             ⟨(some 12), .indexAddr none 1 (.tmp 7) (.tmp 9), none, [], false, false⟩,
             ⟨(some 13), .load false 1 (.tmp 12), none, [], false, false⟩,
             ⟨(some 3), .move (.tmp 11), none, [], false, false⟩,
             ⟨(some 4), .move (.tmp 13), none, [], false, false⟩])
          (.seq (.region false [⟨(some 14), .move (.tmp 4), none, [], false, false⟩,
              ⟨(some 15), .bin .geq (.tmp 14) (.const (.int .u8 97)), none, [], false, false⟩,
              ⟨(some 16), .move (.tmp 15), none, [], false, false⟩,
              ⟨(some 17), .move (.tmp 4), (some (16, true)), [], false, false⟩,
              ⟨(some 18), .bin .leq (.tmp 17) (.const (.int .u8 122)), (some (16, true)), [], false, false⟩,
              ⟨(some 19), .pick (.tmp 16) (.tmp 18) (.const (.bool false)), none, [], false, false⟩,
              ⟨(some 20), .move (.tmp 19), none, [], false, false⟩,
              ⟨(some 21), .move (.tmp 4), (some (20, false)), [], false, false⟩,
              ⟨(some 22), .bin .geq (.tmp 21) (.const (.int .u8 65)), (some (20, false)), [], false, false⟩,
              ⟨(some 23), .move (.tmp 22), (some (20, false)), [], false, false⟩,
              ⟨(some 24), .move (.tmp 4), (some (23, true)), [], false, false⟩,
              ⟨(some 25), .bin .leq (.tmp 24) (.const (.int .u8 90)), (some (23, true)), [], false, false⟩,
              ⟨(some 26), .pick (.tmp 23) (.tmp 25) (.const (.bool false)), (some (20, false)), [], false, false⟩,
              ⟨(some 27), .pick (.tmp 20) (.const (.bool true)) (.tmp 26), none, [], false, false⟩,
              ⟨(some 5), .move (.tmp 27), none, [], false, false⟩])
           (.seq (.region false [⟨(some 28), .move (.tmp 5), none, [], false, false⟩,
               ⟨(some 29), .un .not (.tmp 28), none, [], false, false⟩,
               ⟨(some 30), .move (.tmp 29), none, [], false, false⟩,
               ⟨(some 31), .move (.tmp 3), (some (30, true)), [], false, false⟩,
               ⟨(some 32), .bin .eql (.tmp 31) (.const (.int .i64 0)), (some (30, true)), [], false, false⟩,
               ⟨(some 33), .move (.tmp 32), (some (30, true)), [], false, false⟩,
               ⟨(some 34), .move (.tmp 4), (some (33, false)), [], false, false⟩,
               ⟨(some 35), .bin .neq (.tmp 34) (.const (.int .u8 45)), (some (33, false)), [], false, false⟩,
               ⟨(some 36), .move (.tmp 35), (some (33, false)), [], false, false⟩,
               ⟨(some 37), .move (.tmp 4), (some (36, true)), [], false, false⟩,
               ⟨(some 38), .bin .lss (.tmp 37) (.const (.int .u8 48)), (some (36, true)), [], false, false⟩,
               ⟨(some 39), .move (.tmp 38), (some (36, true)), [], false, false⟩,
               ⟨(some 40), .move (.tmp 4), (some (39, false)), [], false, false⟩,
               ⟨(some 41), .bin .gtr (.tmp 40) (.const (.int .u8 57)), (some (39, false)), [], false, false⟩,
               ⟨(some 42), .pick (.tmp 39) (.const (.bool true)) (.tmp 41), (some (36, true)), [], false, false⟩,
               ⟨(some 43), .pick (.tmp 36) (.tmp 42) (.const (.bool false)), (some (33, false)), [], false, false⟩,
               ⟨(some 44), .pick (.tmp 33) (.const (.bool true)) (.tmp 43), (some (30, true)), [], false, false⟩,
               ⟨(some 45), .pick (.tmp 30) (.tmp 44) (.const (.bool false)), none, [], false, false⟩])
            (.cond (.tmp 45) (.seq (.region false [⟨(some 2), .move (.const (.bool false)), none, [], false, false⟩])
              (.ret))
             (.skip))))))
        (.region false [⟨(some 46), .bin .add (.tmp 9) (.const (.int .i64 1)), none, [], false, false⟩,
           ⟨(some 9), .move (.tmp 46), none, [], false, false⟩])))))))
  (.seq (.region false [⟨(some 47), .move (.tmp 0), none, [], false, false⟩,
      ⟨(some 48), .bin .neq (.tmp 47) (.const (.string ⟨#[]⟩)), none, [], false, false⟩,
      ⟨(some 49), .move (.tmp 48), none, [], false, false⟩,
      ⟨(some 50), .move (.tmp 0), (some (49, true)), [], false, false⟩,
      ⟨(some 51), .len true (.tmp 50), (some (49, true)), [], false, false⟩,
      ⟨(some 52), .bin .leq (.tmp 51) (.const (.int .i64 12)), (some (49, true)), [], false, false⟩,
      ⟨(some 53), .pick (.tmp 49) (.tmp 52) (.const (.bool false)), none, [], false, false⟩,
      ⟨(some 2), .move (.tmp 53), none, [], false, false⟩])
   (.ret))),
 [.tmp 2], .pure, 54⟩

/-- agraffe/scale.checkFrequency -/
def ef132 : EFun := ⟨
 .seq (.region false [⟨(some 1), .box (.tmp 0), none, [], false, false⟩,
    ⟨(some 2), .move (.const (.int .i64 0)), none, [], false, false⟩])
 (.seq (.seq (.region false [⟨(some 3), .fieldAddr 0 (.tmp 1), none, [], false, false⟩,
      ⟨(some 4), .load false 1 (.tmp 3), none, [], false, false⟩,
      ⟨(some 5), .bin .lss (.tmp 4) (.const (.int .i64 1)), none, [], false, false⟩,
      ⟨(some 6), .move (.tmp 5), none, [], false, false⟩,
      ⟨(some 7), .fieldAddr 0 (.tmp 1), (some (6, false)), [], false, false⟩,
      ⟨(some 8), .load false 1 (.tmp 7), (some (6, false)), [], false, false⟩,
      ⟨(some 9), .fieldAddr 1 (.tmp 1), (some (6, false)), [], false, false⟩,
      ⟨(some 10), .load false 1 (.tmp 9), (some (6, false)), [], false, false⟩,
      ⟨(some 11), .bin .gtr (.tmp 8) (.tmp 10), (some (6, false)), [], false, false⟩,
      ⟨(some 12), .pick (.tmp 6) (.const (.bool true)) (.tmp 11), none, [], false, false⟩,
      ⟨(some 13), .move (.tmp 12), none, [], false, false⟩,
      ⟨(some 14), .fieldAddr 1 (.tmp 1), (some (13, false)), [], false, false⟩,
      ⟨(some 15), .load false 1 (.tmp 14), (some (13, false)), [], false, false⟩,
      ⟨(some 16), .bin .gtr (.tmp 15) (.const (.int .i64 10000000)), (some (13, false)), [], false, false⟩,
      ⟨(some 17), .pick (.tmp 13) (.const (.bool true)) (.tmp 16), none, [], false, false⟩])
   (.cond (.tmp 17) (.seq (.region false [⟨(some 2), .move (.const (.int .i64 2)), none, [], false, false⟩])
     (.ret))
    (.skip)))
  (.seq (.region false [⟨(some 2), .move (.const (.int .i64 0)), none, [], false, false⟩])
   (.ret))),
 [.tmp 2], .pure, 18⟩

/-- agraffe/number.Order -/
def ef133 : EFun := ⟨
 .seq (.region false [⟨(some 2), .box (.tmp 0), none, [], false, false⟩,
    ⟨(some 3), .box (.tmp 1), none, [], false, false⟩,
    ⟨(some 4), .move (.const (.int .i64 0)), none, [], false, false⟩,
    ⟨(some 5), .move (.const (.int .i64 0)), none, [], false, false⟩])
 (.seq (.seq (.region false [⟨(some 7), .load true 4 (.tmp 2), none, [], false, false⟩,
      ⟨(some 8), .load true 4 (.tmp 3), none, [], false, false⟩,
      ⟨(some 9), .call 168 [(.tmp 7), (.tmp 8)], none, [], false, false⟩,
      ⟨(some 6), .move (.tmp 9), none, [], false, false⟩])
   (.seq (.region false [⟨(some 10), .move (.tmp 6), none, [], false, false⟩,
       ⟨(some 11), .bin .neq (.tmp 10) (.const (.int .i64 0)), none, [], false, false⟩])
    (.cond (.tmp 11) (.seq (.region false [⟨(some 12), .move (.tmp 6), none, [], false, false⟩,
         ⟨(some 4), .move (.const (.int .i64 0)), none, [], false, false⟩,
         ⟨(some 5), .move (.tmp 12), none, [], false, false⟩])
      (.ret))
     (.skip))))
  (.seq (.region false [⟨(some 13), .load true 4 (.tmp 2), none, [], false, false⟩,
      ⟨(some 14), .load true 4 (.tmp 3), none, [], false, false⟩,
      ⟨(some 15), .call 169 [(.tmp 13), (.tmp 14)], none, [], false, false⟩,
      ⟨(some 4), .move (.tmp 15), none, [], false, false⟩,
      ⟨(some 5), .move (.const (.int .i64 0)), none, [], false, false⟩])
   (.ret))),
 [.tmp 4, .tmp 5], .pure, 16⟩

/-- agraffe/agraffebase.IsName -/
def ef134 : EFun := ⟨
 .seq (.region false [⟨(some 2), .move (.const (.bool false)), none, [], false, false⟩])
 (.seq (.seq (.region false [⟨(some 4), .move (.tmp 0), none, [], false, false⟩,
      ⟨(some 5), .len true (.tmp 4), none, [], false, false⟩,
      ⟨(some 6), .bin .eql (.tmp 5) (.const (.int .i64 0)), none, [], false, false⟩,
      ⟨(some 7), .move (.tmp 6), none, [], false, false⟩,
      ⟨(some 8), .move (.tmp 0), (some (7, false)), [], false, false⟩,
      ⟨(some 9), .len true (.tmp 8), (some (7, false)), [], false, false⟩,
      ⟨(some 10), .bin .gtr (.tmp 9) (.const (.int .i64 12)), (some (7, false)), [], false, false⟩,
      ⟨(some 11), .pick (.tmp 7) (.const (.bool true)) (.tmp 10), none, [], false, false⟩,
      ⟨(some 12), .move (.tmp 11), none, [], false, false⟩,
      ⟨(some 13), .move (.tmp 0), (some (12, false)), [], false, false⟩,
      ⟨(some 14), .strIndex (.tmp 13) (.const (.int .i64 0)), (some (12, false)), [], false, false⟩,
      ⟨(some 15), .call 170 [(.tmp 14)], (some (12, false)), [], false, false⟩,
      ⟨(some 16), .un .not (.tmp 15), (some (12, false)), [], false, false⟩,
      ⟨(some 17), .pick (.tmp 12) (.const (.bool true)) (.tmp 16), none, [], false, false⟩])
   (.cond (.tmp 17) (.seq (.region false [⟨(some 2), .move (.const (.bool false)), none, [], false, false⟩])
     (.ret))
    (.skip)))
  (.seq (.seq (.region false [⟨(some 3), .move (.const (.int .i64 0)), none, [], false, false⟩])
    (.block 0 (.loop (some [0, 3]) (
      .seq (.seq (.region false [⟨(some 18), .move (.tmp 3), none, [], false, false⟩,
           ⟨(some 19), .move (.tmp 0), none, [], false, false⟩,
           ⟨(some 20), .len true (.tmp 19), none, [], false, false⟩,
           ⟨(some 21), .bin .lss (.tmp 18) (.tmp 20), none, [], false, false⟩])
        (.cond (.tmp 21) (.skip)
         (.exit 0)))
       (.seq (.block 1 (.seq (.region false [⟨(some 24), .move (.tmp 0), none, [], false, false⟩,
             ⟨(some 25), .move (.tmp 3), none, [], false, false⟩,
             ⟨(some 26), .strIndex (.tmp 24) (.tmp 25), none, [], false, false⟩,
             ⟨(some 27), .call 170 [(.tmp 26)], none, [], false, false⟩,
             ⟨(some 28), .un .not (.tmp 27), none, [], false, false⟩,
             ⟨(some 29), .move (.tmp 28), none, [], false, false⟩,
             ⟨(some 30), .move (.tmp 0), (some (29, true)), [], false, false⟩,
             ⟨(some 31), .move (.tmp 3), (some (29, true)), [], false, false⟩,
             ⟨(some 32), .strIndex (.tmp 30) (.tmp 31), (some (29, true)), [], false, false⟩,
             ⟨(some 33), .call 171 [(.tmp 32)], (some (29, true)), [], false, false⟩,
             ⟨(some 34), .un .not (.tmp 33), (some (29, true)), [], false, false⟩,
             ⟨(some 35), .pick (.tmp 29) (.tmp 34) (.const (.bool false)), none, [], false, false⟩,
             ⟨(some 36), .move (.tmp 35), none, [], false, false⟩,
             ⟨(some 37), .move (.tmp 0), (some (36, true)), [], false, false⟩,
             ⟨(some 38), .move (.tmp 3), (some (36, true)), [], false, false⟩,
             ⟨(some 39), .strIndex (.tmp 37) (.tmp 38), (some (36, true)), [], false, false⟩,
             ⟨(some 40), .bin .neq (.tmp 39) (.const (.int .u8 45)), (some (36, true)), [], false, false⟩,
             ⟨(some 41), .pick (.tmp 36) (.tmp 40) (.const (.bool false)), none, [], false, false⟩])
          (.cond (.tmp 41) (.seq (.region false [⟨(some 2), .move (.const (.bool false)), none, [], false, false⟩])
            (.ret))
           (.skip))))
        (.region false [⟨(some 22), .move (.tmp 3), none, [], false, false⟩,
           ⟨(some 23), .bin .add (.tmp 22) (.const (.int .i64 1)), none, [], false, false⟩,
           ⟨(some 3), .move (.tmp 23), none, [], false, false⟩]))))))
   (.seq (.region false [⟨(some 2), .move (.const (.bool true)), none, [], false, false⟩])
    (.ret)))),
 [.tmp 2], .pure, 42⟩

/-- agraffe/agrafferef02.Find -/
def ef135 : EFun := ⟨
 .seq (.region false [⟨(some 4), .move (.const (.int .i64 0)), none, [], false, false⟩])
 (.seq (.seq (.region false [⟨(some 5), .move (.const (.int .i64 0)), none, [], false, false⟩])
   (.block 0 (.loop (some [0, 1, 5]) (
     .seq (.seq (.region false [⟨(some 6), .move (.tmp 5), none, [], false, false⟩,
          ⟨(some 7), .move (.tmp 0), none, [], false, false⟩,
          ⟨(some 8), .len false (.tmp 7), none, [], false, false⟩,
          ⟨(some 9), .bin .lss (.tmp 6) (.tmp 8), none, [], false, false⟩])
       (.cond (.tmp 9) (.skip)
        (.exit 0)))
      (.seq (.block 1 (.seq (.region false [⟨(some 12), .move (.tmp 0), none, [], false, false⟩,
            ⟨(some 13), .move (.tmp 5), none, [], false, false⟩,
            ⟨(some 14), .indexAddr none 4 (.tmp 12) (.tmp 13), none, [], false, false⟩,
            ⟨(some 15), .fieldAddr 0 (.tmp 14), none, [], false, false⟩,
            ⟨(some 16), .load false 1 (.tmp 15), none, [], false, false⟩,
            ⟨(some 17), .move (.tmp 1), none, [], false, false⟩,
            ⟨(some 18), .bin .eql (.tmp 16) (.tmp 17), none, [], false, false⟩])
         (.cond (.tmp 18) (.seq (.region false [⟨(some 19), .move (.tmp 5), none, [], false, false⟩,
              ⟨(some 4), .move (.tmp 19), none, [], false, false⟩])
           (.ret))
          (.skip))))
       (.region false [⟨(some 10), .move (.tmp 5), none, [], false, false⟩,
          ⟨(some 11), .bin .add (.tmp 10) (.const (.int .i64 1)), none, [], false, false⟩,
          ⟨(some 5), .move (.tmp 11), none, [], false, false⟩]))))))
  (.seq (.region false [⟨(some 4), .move (.const (.int .i64 (-1))), none, [], false, false⟩])
   (.ret))),
 [.tmp 4], .pure, 20⟩

/-- agraffe/agrafferef01.IsPitch -/
def ef136 : EFun := ⟨
 .seq (.region false [⟨(some 1), .box (.tmp 0), none, [], false, false⟩,
    ⟨(some 2), .move (.const (.bool false)), none, [], false, false⟩])
 (.seq (.seq (.region false [⟨(some 5), .fieldAddr 0 (.tmp 1), none, [], false, false⟩,
      ⟨(some 6), .load false 1 (.tmp 5), none, [], false, false⟩,
      ⟨(some 7), .fieldAddr 1 (.tmp 1), none, [], false, false⟩,
      ⟨(some 8), .load false 1 (.tmp 7), none, [], false, false⟩,
      ⟨(some 9), .fieldAddr 2 (.tmp 1), none, [], false, false⟩,
      ⟨(some 10), .load false 1 (.tmp 9), none, [], false, false⟩,
      ⟨(some 11), .build [(.int .i64 0), (.int .i64 0), (.int .i64 0)] [(0, 1, (.tmp 6)), (1, 1, (.tmp 8)), (2, 1, (.tmp 10))], none, [], false, false⟩,
      ⟨(some 12), .move (.const (.int .i64 0)), none, [], false, false⟩])
   (.block 0 (.loop (some [1, 11, 12]) (
     .seq (.region false [⟨(some 13), .bin .lss (.tmp 12) (.const (.int .i64 3)), none, [], false, false⟩])
      (.seq (.cond (.tmp 13) (.skip)
        (.exit 0))
       (.seq (.block 1 (.seq (.region false [⟨(some 14), .index 3 1 false (.tmp 11) (.tmp 12), none, [], false, false⟩,
             ⟨(some 4), .move (.tmp 14), none, [], false, false⟩])
          (.seq (.region false [⟨(some 15), .move (.tmp 4), none, [], false, false⟩,
              ⟨(some 16), .call 18 [(.tmp 15), (.const (.int .i64 (-400))), (.const (.int .i64 400))], none, [], false, false⟩,
              ⟨(some 17), .un .not (.tmp 16), none, [], false, false⟩])
           (.cond (.tmp 17) (.seq (.region false [⟨(some 2), .move (.const (.bool false)), none, [], false, false⟩])
             (.ret))
            (.skip)))))
        (.region false [⟨(some 18), .bin .add (.tmp 12) (.const (.int .i64 1)), none, [], false, false⟩,
           ⟨(some 12), .move (.tmp 18), none, [], false, false⟩])))))))
  (.seq (.region false [⟨(some 19), .fieldAddr 3 (.tmp 1), none, [], false, false⟩,
      ⟨(some 20), .load false 1 (.tmp 19), none, [], false, false⟩,
      ⟨(some 21), .call 18 [(.tmp 20), (.const (.int .i64 1)), (.const (.int .i64 12))], none, [], false, false⟩,
      ⟨(some 2), .move (.tmp 21), none, [], false, false⟩])
   (.ret))),
 [.tmp 2], .pure, 22⟩

/-- agraffe/agrafferef02.IsFrequency -/
def ef137 : EFun := ⟨
 .seq (.region false [⟨(some 1), .box (.tmp 0), none, [], false, false⟩,
    ⟨(some 2), .move (.const (.bool false)), none, [], false, false⟩])
 (.seq (.region false [⟨(some 3), .fieldAddr 0 (.tmp 1), none, [], false, false⟩,
     ⟨(some 4), .load false 1 (.tmp 3), none, [], false, false⟩,
     ⟨(some 5), .fieldAddr 1 (.tmp 1), none, [], false, false⟩,
     ⟨(some 6), .load false 1 (.tmp 5), none, [], false, false⟩,
     ⟨(some 7), .call 18 [(.tmp 4), (.const (.int .i64 1)), (.tmp 6)], none, [], false, false⟩,
     ⟨(some 8), .move (.tmp 7), none, [], false, false⟩,
     ⟨(some 9), .fieldAddr 1 (.tmp 1), (some (8, true)), [], false, false⟩,
     ⟨(some 10), .load false 1 (.tmp 9), (some (8, true)), [], false, false⟩,
     ⟨(some 11), .bin .leq (.tmp 10) (.const (.int .i64 10000000)), (some (8, true)), [], false, false⟩,
     ⟨(some 12), .pick (.tmp 8) (.tmp 11) (.const (.bool false)), none, [], false, false⟩,
     ⟨(some 2), .move (.tmp 12), none, [], false, false⟩])
  (.ret)),
 [.tmp 2], .pure, 13⟩

/-- agraffe/agrafferef01.Order -/
def ef138 : EFun := ⟨
 .seq (.region false [⟨(some 2), .box (.tmp 0), none, [], false, false⟩,
    ⟨(some 3), .box (.tmp 1), none, [], false, false⟩,
    ⟨(some 4), .move (.const (.int .i64 0)), none, [], false, false⟩])
 (.seq (.region false [⟨(some 8), .load true 4 (.tmp 2), none, [], false, false⟩,
     ⟨(some 9), .load true 4 (.tmp 3), none, [], false, false⟩,
     ⟨(some 10), .call 173 [(.tmp 8), (.tmp 9), (.const (.int .i64 (-1)))], none, [], false, false⟩,
     ⟨(some 11), .call 172 [(.tmp 10)], none, [], false, false⟩,
     ⟨(some 5), .push [(.int .i64 0), (.int .i64 0), (.int .i64 0), (.int .i64 0)], none, [], false, false⟩,
     ⟨none, .store 4 (.tmp 5) (.tmp 11), none, [], false, false⟩])
  (.seq (.region false [⟨(some 13), .fieldAddr 0 (.tmp 5), none, [], false, false⟩,
      ⟨(some 14), .load false 1 (.tmp 13), none, [], false, false⟩,
      ⟨(some 15), .fieldAddr 1 (.tmp 5), none, [], false, false⟩,
      ⟨(some 16), .load false 1 (.tmp 15), none, [], false, false⟩,
      ⟨(some 17), .fieldAddr 2 (.tmp 5), none, [], false, false⟩,
      ⟨(some 18), .load false 1 (.tmp 17), none, [], false, false⟩,
      ⟨(some 19), .call 139 [(.tmp 14), (.tmp 16), (.tmp 18)], none, [], false, false⟩,
      ⟨(some 12), .move (.tmp 19), none, [], false, false⟩,
      ⟨(some 20), .extract (.tmp 12) 0, none, [], false, false⟩,
      ⟨(some 21), .extract (.tmp 12) 1, none, [], false, false⟩,
      ⟨(some 6), .move (.tmp 20), none, [], false, false⟩,
      ⟨(some 7), .move (.tmp 21), none, [], false, false⟩])
   (.seq (.region false [⟨(some 22), .move (.tmp 6), none, [], false, false⟩,
       ⟨(some 23), .move (.tmp 7), none, [], false, false⟩,
       ⟨(some 24), .call 143 [(.tmp 22), (.tmp 23)], none, [], false, false⟩,
       ⟨(some 4), .move (.tmp 24), none, [], false, false⟩])
    (.ret)))),
 [.tmp 4], .pure, 25⟩

/-- agraffe/agrafferef01.parts -/
def ef139 : EFun := ⟨
 .seq (.region false [⟨(some 6), .move (.const (.slice none 0 0)), none, [], false, false⟩,
    ⟨(some 7), .move (.const (.slice none 0 0)), none, [], false, false⟩])
 (.seq (.region false [⟨(some 13), .buildSlice 1 1 [(.int .i64 0)] [(0, 1, (.const (.int .i64 1)))], none, [], false, false⟩,
     ⟨(some 14), .buildSlice 1 1 [(.int .i64 0)] [(0, 1, (.const (.int .i64 1)))], none, [], false, false⟩,
     ⟨(some 8), .move (.tmp 13), none, [], false, false⟩,
     ⟨(some 9), .move (.tmp 14), none, [], false, false⟩])
  (.seq (.seq (.region false [⟨(some 15), .move (.tmp 0), none, [], false, false⟩,
       ⟨(some 16), .move (.tmp 1), none, [], false, false⟩,
       ⟨(some 17), .move (.tmp 2), none, [], false, false⟩,
       ⟨(some 18), .build [(.int .i64 0), (.int .i64 0), (.int .i64 0)] [(0, 1, (.tmp 15)), (1, 1, (.tmp 16)), (2, 1, (.tmp 17))], none, [], false, false⟩,
       ⟨(some 19), .move (.const (.int .i64 0)), none, [], false, false⟩])
    (.block 0 (.loop (some [8, 9, 18, 19]) (
      .seq (.region false [⟨(some 20), .bin .lss (.tmp 19) (.const (.int .i64 3)), none, [], false, false⟩])
       (.seq (.cond (.tmp 20) (.skip)
         (.exit 0))
        (.seq (.block 1 (.seq (.region false [⟨(some 21), .move (.tmp 19), none, [], false, false⟩,
              ⟨(some 22), .index 3 1 false (.tmp 18) (.tmp 19), none, [], false, false⟩,
              ⟨(some 10), .move (.tmp 21), none, [], false, false⟩,
              ⟨(some 11), .move (.tmp 22), none, [], false, false⟩])
           (.seq (.region false [⟨(some 23), .build [(.int .i64 0), (.int .i64 0), (.int .i64 0)] [(0, 1, (.const (.int .i64 2))), (1, 1, (.const (.int .i64 3))), (2, 1, (.const (.int .i64 5)))], none, [], false, false⟩,
               ⟨(some 24), .move (.tmp 10), none, [], false, false⟩,
               ⟨(some 25), .index 3 1 false (.tmp 23) (.tmp 24), none, [], false, false⟩,
               ⟨(some 26), .call 142 [(.tmp 25)], none, [], false, false⟩,
               ⟨(some 12), .move (.tmp 26), none, [], false, false⟩])
            (.seq (.region false [⟨(some 27), .move (.tmp 11), none, [], false, false⟩,
                ⟨(some 28), .bin .gtr (.tmp 27) (.const (.int .i64 0)), none, [], false, false⟩])
             (.cond (.tmp 28) (.region false [⟨(some 29), .move (.tmp 8), none, [], false, false⟩,
                 ⟨(some 30), .move (.tmp 12), none, [], false, false⟩,
                 ⟨(some 31), .move (.tmp 11), none, [], false, false⟩,
                 ⟨(some 32), .call 141 [(.tmp 30), (.tmp 31)], none, [], false, false⟩,
                 ⟨(some 33), .call 140 [(.tmp 29), (.tmp 32)], none, [], false, false⟩,
                 ⟨(some 8), .move (.tmp 33), none, [], false, false⟩])
              (.region false [⟨(some 34), .move (.tmp 9), none, [], false, false⟩,
                 ⟨(some 35), .move (.tmp 12), none, [], false, false⟩,
                 ⟨(some 36), .move (.tmp 11), none, [], false, false⟩,
                 ⟨(some 37), .un .neg (.tmp 36), none, [], false, false⟩,
                 ⟨(some 38), .call 141 [(.tmp 35), (.tmp 37)], none, [], false, false⟩,
                 ⟨(some 39), .call 140 [(.tmp 34), (.tmp 38)], none, [], false, false⟩,
                 ⟨(some 9), .move (.tmp 39), none, [], false, false⟩]))))))
         (.region false [⟨(some 40), .bin .add (.tmp 19) (.const (.int .i64 1)), none, [], false, false⟩,
            ⟨(some 19), .move (.tmp 40), none, [], false, false⟩])))))))
   (.seq (.region false [⟨(some 41), .move (.tmp 8), none, [], false, false⟩,
       ⟨(some 42), .move (.tmp 9), none, [], false, false⟩,
       ⟨(some 6), .move (.tmp 41), none, [], false, false⟩,
       ⟨(some 7), .move (.tmp 42), none, [], false, false⟩])
    (.ret)))),
 [.tmp 6, .tmp 7], .pure, 43⟩

/-- agraffe/agrafferef01.mul -/
def ef140 : EFun := ⟨
 .seq (.region false [⟨(some 4), .move (.const (.slice none 0 0)), none, [], false, false⟩])
 (.seq (.region false [⟨(some 10), .move (.tmp 0), none, [], false, false⟩,
     ⟨(some 11), .len false (.tmp 10), none, [], false, false⟩,
     ⟨(some 12), .move (.tmp 1), none, [], false, false⟩,
     ⟨(some 13), .len false (.tmp 12), none, [], false, false⟩,
     ⟨(some 14), .bin .add (.tmp 11) (.tmp 13), none, [], false, false⟩,
     ⟨(some 15), .bin .add (.tmp 14) (.const (.int .i64 1)), none, [], false, false⟩,
     ⟨(some 16), .makeSlice 1 8 [(.int .i64 0)] (.tmp 15) (.tmp 15), none, [], false, false⟩,
     ⟨(some 5), .move (.tmp 16), none, [], false, false⟩])
  (.seq (.seq (.region false [⟨(some 6), .move (.const (.int .i64 0)), none, [], false, false⟩])
    (.block 0 (.loop (some [0, 1, 5, 6]) (
      .seq (.seq (.region false [⟨(some 17), .move (.tmp 6), none, [], false, false⟩,
           ⟨(some 18), .move (.tmp 0), none, [], false, false⟩,
           ⟨(some 19), .len false (.tmp 18), none, [], false, false⟩,
           ⟨(some 20), .bin .lss (.tmp 17) (.tmp 19), none, [], false, false⟩])
        (.cond (.tmp 20) (.skip)
         (.exit 0)))
       (.seq (.block 1 (.seq (.region false [⟨(some 7), .move (.const (.int .i64 0)), none, [], false, false⟩])
          (.seq (.region false [⟨(some 8), .move (.const (.int .i64 0)), none, [], false, false⟩])
           (.block 2 (.loop (some [0, 1, 5, 6, 7, 8]) (
             .seq (.seq (.region false [⟨(some 23), .move (.tmp 8), none, [], false, false⟩,
                  ⟨(some 24), .move (.tmp 1), none, [], false, false⟩,
                  ⟨(some 25), .len false (.tmp 24), none, [], false, false⟩,
                  ⟨(some 26), .bin .lss (.tmp 23) (.tmp 25), none, [], false, false⟩,
                  ⟨(some 27), .move (.tmp 26), none, [], false, false⟩,
                  ⟨(some 28), .move (.tmp 7), (some (27, false)), [], false, false⟩,
                  ⟨(some 29), .bin .gtr (.tmp 28) (.const (.int .i64 0)), (some (27, false)), [], false, false⟩,
                  ⟨(some 30), .pick (.tmp 27) (.const (.bool true)) (.tmp 29), none, [], false, false⟩])
               (.cond (.tmp 30) (.skip)
                (.exit 2)))
              (.seq (.block 3 (.seq (.region false [⟨(some 33), .move (.tmp 5), none, [], false, false⟩,
                    ⟨(some 34), .move (.tmp 6), none, [], false, false⟩,
                    ⟨(some 35), .move (.tmp 8), none, [], false, false⟩,
                    ⟨(some 36), .bin .add (.tmp 34) (.tmp 35), none, [], false, false⟩,
                    ⟨(some 37), .indexAddr none 1 (.tmp 33) (.tmp 36), none, [], false, false⟩,
                    ⟨(some 38), .load false 1 (.tmp 37), none, [], false, false⟩,
                    ⟨(some 39), .move (.tmp 7), none, [], false, false⟩,
                    ⟨(some 40), .bin .add (.tmp 38) (.tmp 39), none, [], false, false⟩,
                    ⟨(some 9), .move (.tmp 40), none, [], false, false⟩])
                 (.seq (.seq (.region false [⟨(some 41), .move (.tmp 8), none, [], false, false⟩,
                      ⟨(some 42), .move (.tmp 1), none, [], false, false⟩,
                      ⟨(some 43), .len false (.tmp 42), none, [], false, false⟩,
                      ⟨(some 44), .bin .lss (.tmp 41) (.tmp 43), none, [], false, false⟩])
                   (.cond (.tmp 44) (.region true [⟨(some 45), .move (.tmp 9), none, [], false, false⟩,
                       ⟨(some 46), .move (.tmp 0), none, [], false, false⟩,
                       ⟨(some 47), .move (.tmp 6), none, [], false, false⟩,
                       ⟨(some 48), .indexAddr none 1 (.tmp 46) (.tmp 47), none, [], false, false⟩,
                       ⟨(some 49), .load false 1 (.tmp 48), none, [], false, false⟩,
                       ⟨(some 50), .move (.tmp 1), none, [], false, false⟩,
                       ⟨(some 51), .move (.tmp 8), none, [], false, false⟩,
                       ⟨(some 52), .indexAddr none 1 (.tmp 50) (.tmp 51), none, [], false, false⟩,
                       ⟨(some 53), .load false 1 (.tmp 52), none, [], false, false⟩,
                       ⟨(some 54), .bin .mul (.tmp 49) (.tmp 53), none, [], false, false⟩,
                       ⟨(some 55), .bin .add (.tmp 45) (.tmp 54), none, [], false, false⟩,
                       ⟨(some 9), .move (.tmp 55), none, [], false, false⟩])
                    (.skip)))
                  (.region false [⟨(some 56), .move (.tmp 5), none, [], false, false⟩,
                     ⟨(some 57), .move (.tmp 6), none, [], false, false⟩,
                     ⟨(some 58), .move (.tmp 8), none, [], false, false⟩,
                     ⟨(some 59), .bin .add (.tmp 57) (.tmp 58), none, [], false, false⟩,
                     ⟨(some 60), .move (.tmp 9), none, [], false, false⟩,
                     ⟨(some 61), .bin .rem (.tmp 60) (.const (.int .i64 10000)), none, [], false, false⟩,
                     ⟨(some 62), .move (.tmp 9), none, [], false, false⟩,
                     ⟨(some 63), .bin .quo (.tmp 62) (.const (.int .i64 10000)), none, [], false, false⟩,
                     ⟨(some 64), .indexAddr none 1 (.tmp 56) (.tmp 59), none, [], false, false⟩,
                     ⟨none, .store 1 (.tmp 64) (.tmp 61), none, [], false, false⟩,
                     ⟨(some 7), .move (.tmp 63), none, [], false, false⟩]))))
               (.region false [⟨(some 31), .move (.tmp 8), none, [], false, false⟩,
                  ⟨(some 32), .bin .add (.tmp 31) (.const (.int .i64 1)), none, [], false, false⟩,
                  ⟨(some 8), .move (.tmp 32), none, [], false, false⟩]))))))))
        (.region false [⟨(some 21), .move (.tmp 6), none, [], false, false⟩,
           ⟨(some 22), .bin .add (.tmp 21) (.const (.int .i64 1)), none, [], false, false⟩,
           ⟨(some 6), .move (.tmp 22), none, [], false, false⟩]))))))
   (.seq (.block 4 (.loop (some [5]) (
      .seq (.seq (.region false [⟨(some 65), .move (.tmp 5), none, [], false, false⟩,
           ⟨(some 66), .len false (.tmp 65), none, [], false, false⟩,
           ⟨(some 67), .bin .gtr (.tmp 66) (.const (.int .i64 0)), none, [], false, false⟩,
           ⟨(some 68), .move (.tmp 67), none, [], false, false⟩,
           ⟨(some 69), .move (.tmp 5), (some (68, true)), [], false, false⟩,
           ⟨(some 70), .move (.tmp 5), (some (68, true)), [], false, false⟩,
           ⟨(some 71), .len false (.tmp 70), (some (68, true)), [], false, false⟩,
           ⟨(some 72), .bin .sub (.tmp 71) (.const (.int .i64 1)), (some (68, true)), [], false, false⟩,
           ⟨(some 73), .indexAddr none 1 (.tmp 69) (.tmp 72), (some (68, true)), [], false, false⟩,
           ⟨(some 74), .load false 1 (.tmp 73), (some (68, true)), [], false, false⟩,
           ⟨(some 75), .bin .eql (.tmp 74) (.const (.int .i64 0)), (some (68, true)), [], false, false⟩,
           ⟨(some 76), .pick (.tmp 68) (.tmp 75) (.const (.bool false)), none, [], false, false⟩])
        (.cond (.tmp 76) (.skip)
         (.exit 4)))
       (.block 5 (.region false [⟨(some 77), .move (.tmp 5), none, [], false, false⟩,
           ⟨(some 78), .move (.tmp 5), none, [], false, false⟩,
           ⟨(some 79), .len false (.tmp 78), none, [], false, false⟩,
           ⟨(some 80), .bin .sub (.tmp 79) (.const (.int .i64 1)), none, [], false, false⟩,
           ⟨(some 81), .slice 1 (.tmp 77) none (some (.tmp 80)), none, [], false, false⟩,
           ⟨(some 5), .move (.tmp 81), none, [], false, false⟩])))))
    (.seq (.region false [⟨(some 82), .move (.tmp 5), none, [], false, false⟩,
        ⟨(some 4), .move (.tmp 82), none, [], false, false⟩])
     (.ret))))),
 [.tmp 4], .pure, 83⟩

/-- agraffe/agrafferef01.pow -/
def ef141 : EFun := ⟨
 .seq (.region false [⟨(some 4), .move (.const (.slice none 0 0)), none, [], false, false⟩])
 (.seq (.region false [⟨(some 6), .buildSlice 1 1 [(.int .i64 0)] [(0, 1, (.const (.int .i64 1)))], none, [], false, false⟩,
     ⟨(some 5), .move (.tmp 6), none, [], false, false⟩])
  (.seq (.block 0 (.loop (some [0, 1, 5]) (
     .seq (.seq (.region false [⟨(some 7), .move (.tmp 1), none, [], false, false⟩,
          ⟨(some 8), .bin .gtr (.tmp 7) (.const (.int .i64 0)), none, [], false, false⟩])
       (.cond (.tmp 8) (.skip)
        (.exit 0)))
      (.block 1 (.seq (.seq (.region false [⟨(some 9), .move (.tmp 1), none, [], false, false⟩,
            ⟨(some 10), .bin .rem (.tmp 9) (.const (.int .i64 2)), none, [], false, false⟩,
            ⟨(some 11), .bin .eql (.tmp 10) (.const (.int .i64 1)), none, [], false, false⟩])
         (.cond (.tmp 11) (.region false [⟨(some 12), .move (.tmp 5), none, [], false, false⟩,
             ⟨(some 13), .move (.tmp 0), none, [], false, false⟩,
             ⟨(some 14), .call 140 [(.tmp 12), (.tmp 13)], none, [], false, false⟩,
             ⟨(some 5), .move (.tmp 14), none, [], false, false⟩])
          (.skip)))
        (.region false [⟨(some 15), .move (.tmp 0), none, [], false, false⟩,
           ⟨(some 16), .move (.tmp 0), none, [], false, false⟩,
           ⟨(some 17), .call 140 [(.tmp 15), (.tmp 16)], none, [], false, false⟩,
           ⟨(some 18), .move (.tmp 1), none, [], false, false⟩,
           ⟨(some 19), .bin .quo (.tmp 18) (.const (.int .i64 2)), none, [], false, false⟩,
           ⟨(some 0), .move (.tmp 17), none, [], false, false⟩,
           ⟨(some 1), .move (.tmp 19), none, [], false, false⟩]))))))
   (.seq (.region false [⟨(some 20), .move (.tmp 5), none, [], false, false⟩,
       ⟨(some 4), .move (.tmp 20), none, [], false, false⟩])
    (.ret)))),
 [.tmp 4], .pure, 21⟩

/-- agraffe/agrafferef01.of -/
def ef142 : EFun := ⟨
 .seq (.region false [⟨(some 2), .move (.const (.slice none 0 0)), none, [], false, false⟩])
 (.seq (.region false [⟨(some 3), .move (.const (.slice none 0 0)), none, [], false, false⟩])
  (.seq (.block 0 (.loop (some [0, 3]) (
     .seq (.seq (.region false [⟨(some 4), .move (.tmp 0), none, [], false, false⟩,
          ⟨(some 5), .bin .gtr (.tmp 4) (.const (.int .i64 0)), none, [], false, false⟩])
       (.cond (.tmp 5) (.skip)
        (.exit 0)))
      (.block 1 (.seq (.region false [⟨(some 6), .move (.tmp 3), none, [], false, false⟩,
           ⟨(some 7), .move (.tmp 0), none, [], false, false⟩,
           ⟨(some 8), .bin .rem (.tmp 7) (.const (.int .i64 10000)), none, [], false, false⟩,
           ⟨(some 9), .buildSlice 1 1 [(.int .i64 0)] [(0, 1, (.tmp 8))], none, [], false, false⟩,
           ⟨(some 10), .append 1 8 (.tmp 6) (.tmp 9), none, [], false, false⟩,
           ⟨(some 3), .move (.tmp 10), none, [], false, false⟩])
        (.region false [⟨(some 11), .move (.tmp 0), none, [], false, false⟩,
           ⟨(some 12), .bin .quo (.tmp 11) (.const (.int .i64 10000)), none, [], false, false⟩,
           ⟨(some 0), .move (.tmp 12), none, [], false, false⟩]))))))
   (.seq (.region false [⟨(some 13), .move (.tmp 3), none, [], false, false⟩,
       ⟨(some 2), .move (.tmp 13), none, [], false, false⟩])
    (.ret)))),
 [.tmp 2], .pure, 14⟩

/-- agraffe/agrafferef01.cmp -/
def ef143 : EFun := ⟨
 .seq (.region false [⟨(some 4), .move (.const (.int .i64 0)), none, [], false, false⟩])
 (.seq (.seq (.region false [⟨(some 6), .move (.tmp 0), none, [], false, false⟩,
      ⟨(some 7), .len false (.tmp 6), none, [], false, false⟩,
      ⟨(some 8), .move (.tmp 1), none, [], false, false⟩,
      ⟨(some 9), .len false (.tmp 8), none, [], false, false⟩,
      ⟨(some 10), .bin .neq (.tmp 7) (.tmp 9), none, [], false, false⟩])
   (.cond (.tmp 10) (.seq (.seq (.region false [⟨(some 11), .move (.tmp 0), none, [], false, false⟩,
         ⟨(some 12), .len false (.tmp 11), none, [], false, false⟩,
         ⟨(some 13), .move (.tmp 1), none, [], false, false⟩,
         ⟨(some 14), .len false (.tmp 13), none, [], false, false⟩,
         ⟨(some 15), .bin .lss (.tmp 12) (.tmp 14), none, [], false, false⟩])
      (.cond (.tmp 15) (.seq (.region false [⟨(some 4), .move (.const (.int .i64 (-1))), none, [], false, false⟩])
        (.ret))
       (.skip)))
     (.seq (.region false [⟨(some 4), .move (.const (.int .i64 1)), none, [], false, false⟩])
      (.ret)))
    (.skip)))
  (.seq (.seq (.region false [⟨(some 16), .move (.tmp 0), none, [], false, false⟩,
       ⟨(some 17), .len false (.tmp 16), none, [], false, false⟩,
       ⟨(some 18), .bin .sub (.tmp 17) (.const (.int .i64 1)), none, [], false, false⟩,
       ⟨(some 5), .move (.tmp 18), none, [], false, false⟩])
    (.block 0 (.loop (some [0, 1, 5]) (
      .seq (.seq (.region false [⟨(some 19), .move (.tmp 5), none, [], false, false⟩,
           ⟨(some 20), .bin .geq (.tmp 19) (.const (.int .i64 0)), none, [], false, false⟩])
        (.cond (.tmp 20) (.skip)
         (.exit 0)))
       (.seq (.block 1 (.seq (.seq (.region true [⟨(some 23), .move (.tmp 0), none, [], false, false⟩,
              ⟨(some 24), .move (.tmp 5), none, [], false, false⟩,
              ⟨(some 25), .indexAddr none 1 (.tmp 23) (.tmp 24), none, [], false, false⟩,
              ⟨(some 26), .load false 1 (.tmp 25), none, [], false, false⟩,
              ⟨(some 27), .move (.tmp 1), none, [], false, false⟩,
              ⟨(some 28), .move (.tmp 5), none, [], false, false⟩,
              ⟨(some 29), .indexAddr none 1 (.tmp 27) (.tmp 28), none, [], false, false⟩,
              ⟨(some 30), .load false 1 (.tmp 29), none, [], false, false⟩,
              ⟨(some 31), .bin .lss (.tmp 26) (.tmp 30), none, [], false, false⟩])
           (.cond (.tmp 31) (.seq (.region false [⟨(some 4), .move (.const (.int .i64 (-1))), none, [], false, false⟩])
             (.ret))
            (.skip)))
          (.seq (.region true [⟨(some 32), .move (.tmp 0), none, [], false, false⟩,
              ⟨(some 33), .move (.tmp 5), none, [], false, false⟩,
              ⟨(some 34), .indexAddr none 1 (.tmp 32) (.tmp 33), none, [], false, false⟩,
              ⟨(some 35), .load false 1 (.tmp 34), none, [], false, false⟩,
              ⟨(some 36), .move (.tmp 1), none, [], false, false⟩,
              ⟨(some 37), .move (.tmp 5), none, [], false, false⟩,
              ⟨(some 38), .indexAddr none 1 (.tmp 36) (.tmp 37), none, [], false, false⟩,
              ⟨(some 39), .load false 1 (.tmp 38), none, [], false, false⟩,
              ⟨(some 40), .bin .gtr (.tmp 35) (.tmp 39), none, [], false, false⟩])
           (.cond (.tmp 40) (.seq (.region false [⟨(some 4), .move (.const (.int .i64 1)), none, [], false, false⟩])
             (.ret))
            (.skip)))))
        (.region false [⟨(some 21), .move (.tmp 5), none, [], false, false⟩,
           ⟨(some 22), .bin .sub (.tmp 21) (.const (.int .i64 1)), none, [], false, false⟩,
           ⟨(some 5), .move (.tmp 22), none, [], false, false⟩]))))))
   (.seq (.region false [⟨(some 4), .move (.const (.int .i64 0)), none, [], false, false⟩])
    (.ret)))),
 [.tmp 4], .pure, 41⟩

/-- agraffe/agrafferef02.Tension -/
def ef144 : EFun := ⟨
 .seq (.region false [⟨(some 4), .box (.tmp 1), none, [], false, false⟩,
    ⟨(some 5), .box (.tmp 2), none, [], false, false⟩,
    ⟨(some 6), .push [(.int .i64 0), (.int .i64 0)], none, [], false, false⟩])
 (.seq (.region false [⟨(some 10), .load true 5 (.tmp 4), none, [], false, false⟩,
     ⟨(some 11), .load true 2 (.tmp 5), none, [], false, false⟩,
     ⟨(some 12), .call 174 [(.tmp 10), (.tmp 11)], none, [], false, false⟩,
     ⟨(some 7), .push [(.int .i64 0), (.int .i64 0)], none, [], false, false⟩,
     ⟨none, .store 2 (.tmp 7) (.tmp 12), none, [], false, false⟩])
  (.seq (.region false [⟨(some 13), .load true 2 (.tmp 7), none, [], false, false⟩,
      ⟨(some 14), .load true 2 (.tmp 7), none, [], false, false⟩,
      ⟨(some 15), .call 151 [(.tmp 13), (.tmp 14)], none, [], false, false⟩,
      ⟨(some 16), .call 150 [(.const (.int .i64 10000))], none, [], false, false⟩,
      ⟨(some 17), .call 149 [(.tmp 15), (.tmp 16)], none, [], false, false⟩,
      ⟨(some 8), .push [(.int .i64 0), (.int .i64 0)], none, [], false, false⟩,
      ⟨none, .store 2 (.tmp 8) (.tmp 17), none, [], false, false⟩])
   (.seq (.region false [⟨(some 18), .move (.tmp 0), none, [], false, false⟩,
       ⟨(some 19), .load true 5 (.tmp 4), none, [], false, false⟩,
       ⟨(some 20), .call 175 [(.tmp 18), (.tmp 19)], none, [], false, false⟩,
       ⟨(some 21), .call 150 [(.tmp 20)], none, [], false, false⟩,
       ⟨(some 22), .call 150 [(.const (.int .i64 10000))], none, [], false, false⟩,
       ⟨(some 23), .call 149 [(.tmp 21), (.tmp 22)], none, [], false, false⟩,
       ⟨(some 9), .push [(.int .i64 0), (.int .i64 0)], none, [], false, false⟩,
       ⟨none, .store 2 (.tmp 9) (.tmp 23), none, [], false, false⟩])
    (.seq (.region false [⟨(some 24), .load true 2 (.tmp 9), none, [], false, false⟩,
        ⟨(some 25), .load true 2 (.tmp 8), none, [], false, false⟩,
        ⟨(some 26), .call 151 [(.tmp 24), (.tmp 25)], none, [], false, false⟩,
        ⟨(some 27), .call 150 [(.const (.int .i64 1000000))], none, [], false, false⟩,
        ⟨(some 28), .call 149 [(.tmp 26), (.tmp 27)], none, [], false, false⟩,
        ⟨none, .store 2 (.tmp 6) (.tmp 28), none, [], false, false⟩])
     (.ret))))),
 [.cell 6 true 2], .pure, 29⟩

/-- agraffe/scale.wire -/
def ef145 : EFun := ⟨
 .seq (.region false [⟨(some 3), .box (.tmp 1), none, [], false, false⟩,
    ⟨(some 4), .push [(.string ⟨#[]⟩), (.int .i64 0), (.int .i64 0), (.int .i64 0)], none, [], false, false⟩,
    ⟨(some 5), .move (.const (.bool false)), none, [], false, false⟩])
 (.seq (.region false [⟨(some 7), .move (.tmp 0), none, [], false, false⟩,
     ⟨(some 8), .makeFunc (.func 177) [(.tmp 3)], none, [], false, false⟩,
     ⟨(some 9), .call 176 [(.tmp 7), (.tmp 8)], none, [], false, false⟩,
     ⟨(some 6), .move (.tmp 9), none, [], false, false⟩])
  (.seq (.seq (.region false [⟨(some 10), .move (.tmp 6), none, [], false, false⟩,
       ⟨(some 11), .bin .lss (.tmp 10) (.const (.int .i64 0)), none, [], false, false⟩])
    (.cond (.tmp 11) (.seq (.region false [⟨(some 12), .build [(.string ⟨#[]⟩), (.int .i64 0), (.int .i64 0), (.int .i64 0)] [], none, [], false, false⟩,
         ⟨none, .store 4 (.tmp 4) (.tmp 12), none, [], false, false⟩,
         ⟨(some 5), .move (.const (.bool false)), none, [], false, false⟩])
      (.ret))
     (.skip)))
   (.seq (.region false [⟨(some 13), .move (.tmp 0), none, [], false, false⟩,
       ⟨(some 14), .move (.tmp 6), none, [], false, false⟩,
       ⟨(some 15), .indexAddr none 4 (.tmp 13) (.tmp 14), none, [], false, false⟩,
       ⟨(some 16), .load true 4 (.tmp 15), none, [], false, false⟩,
       ⟨none, .store 4 (.tmp 4) (.tmp 16), none, [], false, false⟩,
       ⟨(some 5), .move (.const (.bool true)), none, [], false, false⟩])
    (.ret)))),
 [.cell 4 true 4, .tmp 5], .pure, 17⟩

/-- agraffe/scale.parted -/
def ef146 : EFun := ⟨
 .seq (.region false [⟨(some 6), .push [(.int .i64 0), (.int .i64 0)], none, [], false, false⟩])
 (.seq (.region false [⟨(some 7), .move (.tmp 0), none, [], false, false⟩,
     ⟨(some 8), .move (.tmp 2), none, [], false, false⟩,
     ⟨(some 9), .move (.tmp 1), none, [], false, false⟩,
     ⟨(some 10), .move (.tmp 2), none, [], false, false⟩,
     ⟨(some 11), .call 148 [(.tmp 7), (.tmp 8), (.tmp 9), (.tmp 10)], none, [], false, false⟩,
     ⟨none, .store 2 (.tmp 6) (.tmp 11), none, [], false, false⟩])
  (.ret)),
 [.cell 6 true 2], .pure, 12⟩

/-- agraffe/scale.mass -/
def ef147 : EFun := ⟨
 .seq (.region false [⟨(some 3), .box (.tmp 1), none, [], false, false⟩,
    ⟨(some 4), .move (.const (.int .i64 0)), none, [], false, false⟩])
 (.seq (.region false [⟨(some 11), .move (.tmp 0), none, [], false, false⟩,
     ⟨(some 12), .fieldAddr 3 (.tmp 3), none, [], false, false⟩,
     ⟨(some 13), .load false 1 (.tmp 12), none, [], false, false⟩,
     ⟨(some 14), .call 145 [(.tmp 11), (.tmp 13)], none, [], false, false⟩,
     ⟨(some 10), .move (.tmp 14), none, [], false, false⟩,
     ⟨(some 15), .extract (.tmp 10) 0, none, [], false, false⟩,
     ⟨(some 16), .extract (.tmp 10) 1, none, [], false, false⟩,
     ⟨(some 5), .push [(.string ⟨#[]⟩), (.int .i64 0), (.int .i64 0), (.int .i64 0)], none, [], false, false⟩,
     ⟨none, .store 4 (.tmp 5) (.tmp 15), none, [], false, false⟩,
     ⟨(some 6), .move (.tmp 16), none, [], false, false⟩])
  (.seq (.region false [⟨(some 17), .fieldAddr 1 (.tmp 5), none, [], false, false⟩,
      ⟨(some 18), .load false 1 (.tmp 17), none, [], false, false⟩,
      ⟨(some 19), .fieldAddr 1 (.tmp 3), none, [], false, false⟩,
      ⟨(some 20), .load false 1 (.tmp 19), none, [], false, false⟩,
      ⟨(some 21), .bin .mul (.tmp 18) (.tmp 20), none, [], false, false⟩,
      ⟨(some 22), .fieldAddr 1 (.tmp 3), none, [], false, false⟩,
      ⟨(some 23), .load false 1 (.tmp 22), none, [], false, false⟩,
      ⟨(some 24), .bin .mul (.tmp 21) (.tmp 23), none, [], false, false⟩,
      ⟨(some 7), .move (.tmp 24), none, [], false, false⟩])
   (.seq (.seq (.region false [⟨(some 25), .fieldAddr 2 (.tmp 3), none, [], false, false⟩,
        ⟨(some 26), .load false 1 (.tmp 25), none, [], false, false⟩,
        ⟨(some 27), .bin .neq (.tmp 26) (.const (.int .i64 0)), none, [], false, false⟩])
     (.cond (.tmp 27) (.seq (.region false [⟨(some 29), .move (.tmp 0), none, [], false, false⟩,
          ⟨(some 30), .fieldAddr 4 (.tmp 3), none, [], false, false⟩,
          ⟨(some 31), .load false 1 (.tmp 30), none, [], false, false⟩,
          ⟨(some 32), .call 145 [(.tmp 29), (.tmp 31)], none, [], false, false⟩,
          ⟨(some 28), .move (.tmp 32), none, [], false, false⟩,
          ⟨(some 33), .extract (.tmp 28) 0, none, [], false, false⟩,
          ⟨(some 34), .extract (.tmp 28) 1, none, [], false, false⟩,
          ⟨(some 8), .push [(.string ⟨#[]⟩), (.int .i64 0), (.int .i64 0), (.int .i64 0)], none, [], false, false⟩,
          ⟨none, .store 4 (.tmp 8) (.tmp 33), none, [], false, false⟩,
          ⟨(some 9), .move (.tmp 34), none, [], false, false⟩])
       (.region false [⟨(some 35), .move (.tmp 7), none, [], false, false⟩,
          ⟨(some 36), .fieldAddr 1 (.tmp 8), none, [], false, false⟩,
          ⟨(some 37), .load false 1 (.tmp 36), none, [], false, false⟩,
          ⟨(some 38), .fieldAddr 2 (.tmp 3), none, [], false, false⟩,
          ⟨(some 39), .load false 1 (.tmp 38), none, [], false, false⟩,
          ⟨(some 40), .fieldAddr 2 (.tmp 3), none, [], false, false⟩,
          ⟨(some 41), .load false 1 (.tmp 40), none, [], false, false⟩,
          ⟨(some 42), .bin .mul (.tmp 39) (.tmp 41), none, [], false, false⟩,
          ⟨(some 43), .fieldAddr 1 (.tmp 3), none, [], false, false⟩,
          ⟨(some 44), .load false 1 (.tmp 43), none, [], false, false⟩,
          ⟨(some 45), .fieldAddr 1 (.tmp 3), none, [], false, false⟩,
          ⟨(some 46), .load false 1 (.tmp 45), none, [], false, false⟩,
          ⟨(some 47), .bin .mul (.tmp 44) (.tmp 46), none, [], false, false⟩,
          ⟨(some 48), .bin .sub (.tmp 42) (.tmp 47), none, [], false, false⟩,
          ⟨(some 49), .bin .mul (.tmp 37) (.tmp 48), none, [], false, false⟩,
          ⟨(some 50), .bin .add (.tmp 35) (.tmp 49), none, [], false, false⟩,
          ⟨(some 7), .move (.tmp 50), none, [], false, false⟩]))
      (.skip)))
    (.seq (.region false [⟨(some 51), .move (.tmp 7), none, [], false, false⟩,
        ⟨(some 4), .move (.tmp 51), none, [], false, false⟩])
     (.ret))))),
 [.tmp 4], .pure, 52⟩

/-- agraffe/scale.part -/
def ef148 : EFun := ⟨
 .seq (.region false [⟨(some 8), .push [(.int .i64 0), (.int .i64 0)], none, [], false, false⟩])
 (.seq (.region true [⟨(some 9), .move (.tmp 0), none, [], false, false⟩,
     ⟨(some 10), .move (.tmp 1), none, [], false, false⟩,
     ⟨(some 11), .bin .quo (.tmp 9) (.tmp 10), none, [], false, false⟩,
     ⟨(some 12), .move (.tmp 2), none, [], false, false⟩,
     ⟨(some 13), .move (.tmp 3), none, [], false, false⟩,
     ⟨(some 14), .bin .add (.tmp 12) (.tmp 13), none, [], false, false⟩,
     ⟨(some 15), .bin .sub (.tmp 14) (.const (.int .i64 1)), none, [], false, false⟩,
     ⟨(some 16), .move (.tmp 3), none, [], false, false⟩,
     ⟨(some 17), .bin .quo (.tmp 15) (.tmp 16), none, [], false, false⟩,
     ⟨(some 18), .build [(.int .i64 0), (.int .i64 0)] [(0, 1, (.tmp 11)), (1, 1, (.tmp 17))], none, [], false, false⟩,
     ⟨none, .store 2 (.tmp 8) (.tmp 18), none, [], false, false⟩])
  (.ret)),
 [.cell 8 true 2], .pure, 19⟩

/-- agraffe/agrafferef02.over -/
def ef149 : EFun := ⟨
 .seq (.region false [⟨(some 2), .box (.tmp 0), none, [], false, false⟩,
    ⟨(some 3), .box (.tmp 1), none, [], false, false⟩,
    ⟨(some 4), .push [(.int .i64 0), (.int .i64 0)], none, [], false, false⟩])
 (.seq (.region true [⟨(some 5), .fieldAddr 0 (.tmp 2), none, [], false, false⟩,
     ⟨(some 6), .load false 1 (.tmp 5), none, [], false, false⟩,
     ⟨(some 7), .fieldAddr 1 (.tmp 3), none, [], false, false⟩,
     ⟨(some 8), .load false 1 (.tmp 7), none, [], false, false⟩,
     ⟨(some 9), .call 162 [(.tmp 6), (.tmp 8)], none, [], false, true⟩,
     ⟨(some 10), .fieldAddr 1 (.tmp 2), none, [], false, false⟩,
     ⟨(some 11), .load false 1 (.tmp 10), none, [], false, false⟩,
     ⟨(some 12), .fieldAddr 0 (.tmp 3), none, [], false, false⟩,
     ⟨(some 13), .load false 1 (.tmp 12), none, [], false, false⟩,
     ⟨(some 14), .call 163 [(.tmp 11), (.tmp 13)], none, [], false, false⟩,
     ⟨(some 15), .build [(.int .i64 0), (.int .i64 0)] [(0, 1, (.tmp 9)), (1, 1, (.tmp 14))], none, [], false, false⟩,
     ⟨none, .store 2 (.tmp 4) (.tmp 15), none, [], false, false⟩])
  (.ret)),
 [.cell 4 true 2], .pure, 16⟩

/-- agraffe/agrafferef02.one -/
def ef150 : EFun := ⟨
 .seq (.region false [⟨(some 2), .push [(.int .i64 0), (.int .i64 0)], none, [], false, false⟩])
 (.seq (.region false [⟨(some 3), .move (.tmp 0), none, [], false, false⟩,
     ⟨(some 4), .move (.tmp 0), none, [], false, false⟩,
     ⟨(some 5), .build [(.int .i64 0), (.int .i64 0)] [(0, 1, (.tmp 3)), (1, 1, (.tmp 4))], none, [], false, false⟩,
     ⟨none, .store 2 (.tmp 2) (.tmp 5), none, [], false, false⟩])
  (.ret)),
 [.cell 2 true 2], .pure, 6⟩

/-- agraffe/agrafferef02.times -/
def ef151 : EFun := ⟨
 .seq (.region false [⟨(some 2), .box (.tmp 0), none, [], false, false⟩,
    ⟨(some 3), .box (.tmp 1), none, [], false, false⟩,
    ⟨(some 4), .push [(.int .i64 0), (.int .i64 0)], none, [], false, false⟩])
 (.seq (.region false [⟨(some 5), .fieldAddr 0 (.tmp 2), none, [], false, false⟩,
     ⟨(some 6), .load false 1 (.tmp 5), none, [], false, false⟩,
     ⟨(some 7), .fieldAddr 0 (.tmp 3), none, [], false, false⟩,
     ⟨(some 8), .load false 1 (.tmp 7), none, [], false, false⟩,
     ⟨(some 9), .bin .mul (.tmp 6) (.tmp 8), none, [], false, false⟩,
     ⟨(some 10), .fieldAddr 1 (.tmp 2), none, [], false, false⟩,
     ⟨(some 11), .load false 1 (.tmp 10), none, [], false, false⟩,
     ⟨(some 12), .fieldAddr 1 (.tmp 3), none, [], false, false⟩,
     ⟨(some 13), .load false 1 (.tmp 12), none, [], false, false⟩,
     ⟨(some 14), .bin .mul (.tmp 11) (.tmp 13), none, [], false, false⟩,
     ⟨(some 15), .build [(.int .i64 0), (.int .i64 0)] [(0, 1, (.tmp 9)), (1, 1, (.tmp 14))], none, [], false, false⟩,
     ⟨none, .store 2 (.tmp 4) (.tmp 15), none, [], false, false⟩])
  (.ret)),
 [.cell 4 true 2], .pure, 16⟩

/-- agraffe/agraffebase.Floor -/
def ef162 : EFun := ⟨
 .seq (.region false [⟨(some 4), .move (.const (.int .i64 0)), none, [], false, false⟩])
 (.seq (.region false [⟨(some 6), .move (.tmp 0), none, [], false, false⟩,
     ⟨(some 7), .move (.tmp 1), none, [], false, false⟩,
     ⟨(some 8), .bin .quo (.tmp 6) (.tmp 7), none, [], false, false⟩,
     ⟨(some 5), .move (.tmp 8), none, [], false, false⟩])
  (.seq (.seq (.region false [⟨(some 9), .move (.tmp 0), none, [], false, false⟩,
       ⟨(some 10), .move (.tmp 1), none, [], false, false⟩,
       ⟨(some 11), .bin .rem (.tmp 9) (.tmp 10), none, [], false, false⟩,
       ⟨(some 12), .bin .lss (.tmp 11) (.const (.int .i64 0)), none, [], false, false⟩])
    (.cond (.tmp 12) (.region false [⟨(some 13), .move (.tmp 5), none, [], false, false⟩,
        ⟨(some 14), .bin .sub (.tmp 13) (.const (.int .i64 1)), none, [], false, false⟩,
        ⟨(some 5), .move (.tmp 14), none, [], false, false⟩])
     (.skip)))
   (.seq (.region false [⟨(some 15), .move (.tmp 5), none, [], false, false⟩,
       ⟨(some 4), .move (.tmp 15), none, [], false, false⟩])
    (.ret)))),
 [.tmp 4], .pure, 16⟩

/-- agraffe/agraffebase.Ceil -/
def ef163 : EFun := ⟨
 .seq (.region false [⟨(some 4), .move (.const (.int .i64 0)), none, [], false, false⟩])
 (.seq (.region false [⟨(some 5), .move (.tmp 0), none, [], false, false⟩,
     ⟨(some 6), .un .neg (.tmp 5), none, [], false, false⟩,
     ⟨(some 7), .move (.tmp 1), none, [], false, false⟩,
     ⟨(some 8), .call 162 [(.tmp 6), (.tmp 7)], none, [], false, false⟩,
     ⟨(some 9), .un .neg (.tmp 8), none, [], false, false⟩,
     ⟨(some 4), .move (.tmp 9), none, [], false, false⟩])
  (.ret)),
 [.tmp 4], .pure, 10⟩

/-- agraffe/number.gcd -/
def ef164 : EFun := ⟨
 .seq (.region false [⟨(some 4), .move (.const (.int .i64 0)), none, [], false, false⟩])
 (.seq (.block 0 (.loop (some [0, 1]) (
    .seq (.seq (.region false [⟨(some 5), .move (.tmp 1), none, [], false, false⟩,
         ⟨(some 6), .bin .neq (.tmp 5) (.const (.int .i64 0)), none, [], false, false⟩])
      (.cond (.tmp 6) (.skip)
       (.exit 0)))
     (.block 1 (.region true [⟨(some 7), .move (.tmp 1), none, [], false, false⟩,
         ⟨(some 8), .move (.tmp 0), none, [], false, false⟩,
         ⟨(some 9), .move (.tmp 1), none, [], false, false⟩,
         ⟨(some 10), .bin .rem (.tmp 8) (.tmp 9), none, [], false, false⟩,
         ⟨(some 0), .move (.tmp 7), none, [], false, false⟩,
         ⟨(some 1), .move (.tmp 10), none, [], false, false⟩])))))
  (.seq (.seq (.region false [⟨(some 11), .move (.tmp 0), none, [], false, false⟩,
       ⟨(some 12), .bin .lss (.tmp 11) (.const (.int .i64 0)), none, [], false, false⟩])
    (.cond (.tmp 12) (.seq (.region false [⟨(some 13), .move (.tmp 0), none, [], false, false⟩,
         ⟨(some 14), .un .neg (.tmp 13), none, [], false, false⟩,
         ⟨(some 4), .move (.tmp 14), none, [], false, false⟩])
      (.ret))
     (.skip)))
   (.seq (.region false [⟨(some 15), .move (.tmp 0), none, [], false, false⟩,
       ⟨(some 4), .move (.tmp 15), none, [], false, false⟩])
    (.ret)))),
 [.tmp 4], .pure, 16⟩

/-- math/bits.Mul64 -/
def ef165 : EFun := ⟨
 .seq (.region false [⟨(some 4), .move (.const (.int .u64 0)), none, [], false, false⟩,
    ⟨(some 5), .move (.const (.int .u64 0)), none, [], false, false⟩])
 (.seq (.region false [⟨(some 14), .move (.tmp 0), none, [], false, false⟩,
     ⟨(some 15), .bin .and (.tmp 14) (.const (.int .u64 4294967295)), none, [], false, false⟩,
     ⟨(some 6), .move (.tmp 15), none, [], false, false⟩])
  (.seq (.region false [⟨(some 16), .move (.tmp 0), none, [], false, false⟩,
      ⟨(some 17), .bin .shr (.tmp 16) (.const (.int .u64 32)), none, [], false, false⟩,
      ⟨(some 7), .move (.tmp 17), none, [], false, false⟩])
   (.seq (.region false [⟨(some 18), .move (.tmp 1), none, [], false, false⟩,
       ⟨(some 19), .bin .and (.tmp 18) (.const (.int .u64 4294967295)), none, [], false, false⟩,
       ⟨(some 8), .move (.tmp 19), none, [], false, false⟩])
    (.seq (.region false [⟨(some 20), .move (.tmp 1), none, [], false, false⟩,
        ⟨(some 21), .bin .shr (.tmp 20) (.const (.int .u64 32)), none, [], false, false⟩,
        ⟨(some 9), .move (.tmp 21), none, [], false, false⟩])
     (.seq (.region false [⟨(some 22), .move (.tmp 6), none, [], false, false⟩,
         ⟨(some 23), .move (.tmp 8), none, [], false, false⟩,
         ⟨(some 24), .bin .mul (.tmp 22) (.tmp 23), none, [], false, false⟩,
         ⟨(some 10), .move (.tmp 24), none, [], false, false⟩])
      (.seq (.region false [⟨(some 25), .move (.tmp 7), none, [], false, false⟩,
          ⟨(some 26), .move (.tmp 8), none, [], false, false⟩,
          ⟨(some 27), .bin .mul (.tmp 25) (.tmp 26), none, [], false, false⟩,
          ⟨(some 28), .move (.tmp 10), none, [], false, false⟩,
          ⟨(some 29), .bin .shr (.tmp 28) (.const (.int .u64 32)), none, [], false, false⟩,
          ⟨(some 30), .bin .add (.tmp 27) (.tmp 29), none, [], false, false⟩,
          ⟨(some 11), .move (.tmp 30), none, [], false, false⟩])
       (.seq (.region false [⟨(some 31), .move (.tmp 11), none, [], false, false⟩,
           ⟨(some 32), .bin .and (.tmp 31) (.const (.int .u64 4294967295)), none, [], false, false⟩,
           ⟨(some 12), .move (.tmp 32), none, [], false, false⟩])
        (.seq (.region false [⟨(some 33), .move (.tmp 11), none, [], false, false⟩,
            ⟨(some 34), .bin .shr (.tmp 33) (.const (.int .u64 32)), none, [], false, false⟩,
            ⟨(some 13), .move (.tmp 34), none, [], false, false⟩])
         (.seq (.region false [⟨(some 35), .move (.tmp 12), none, [], false, false⟩,
             ⟨(some 36), .move (.tmp 6), none, [], false, false⟩,
             ⟨(some 37), .move (.tmp 9), none, [], false, false⟩,
             ⟨(some 38), .bin .mul (.tmp 36) (.tmp 37), none, [], false, false⟩,
             ⟨(some 39), .bin .add (.tmp 35) (.tmp 38), none, [], false, false⟩,
             ⟨(some 12), .move (.tmp 39), none, [], false, false⟩])
          (.seq (.region false [⟨(some 40), .move (.tmp 7), none, [], false, false⟩,
              ⟨(some 41), .move (.tmp 9), none, [], false, false⟩,
              ⟨(some 42), .bin .mul (.tmp 40) (.tmp 41), none, [], false, false⟩,
              ⟨(some 43), .move (.tmp 13), none, [], false, false⟩,
              ⟨(some 44), .bin .add (.tmp 42) (.tmp 43), none, [], false, false⟩,
              ⟨(some 45), .move (.tmp 12), none, [], false, false⟩,
              ⟨(some 46), .bin .shr (.tmp 45) (.const (.int .u64 32)), none, [], false, false⟩,
              ⟨(some 47), .bin .add (.tmp 44) (.tmp 46), none, [], false, false⟩,
              ⟨(some 4), .move (.tmp 47), none, [], false, false⟩])
           (.seq (.region false [⟨(some 48), .move (.tmp 0), none, [], false, false⟩,
               ⟨(some 49), .move (.tmp 1), none, [], false, false⟩,
               ⟨(some 50), .bin .mul (.tmp 48) (.tmp 49), none, [], false, false⟩,
               ⟨(some 5), .move (.tmp 50), none, [], false, false⟩])
            (.ret)))))))))))),
 [.tmp 4, .tmp 5], .pure, 51⟩

/-- (agraffe/number.natural).times -/
def ef166 : EFun := ⟨
 .seq (.region false [⟨(some 4), .move (.const (.slice none 0 0)), none, [], false, false⟩])
 (.seq (.region false [⟨(some 13), .move (.tmp 0), none, [], false, false⟩,
     ⟨(some 14), .len false (.tmp 13), none, [], false, false⟩,
     ⟨(some 15), .bin .add (.tmp 14) (.const (.int .i64 1)), none, [], false, false⟩,
     ⟨(some 16), .makeSlice 1 8 [(.int .u64 0)] (.const (.int .i64 0)) (.tmp 15), none, [], false, false⟩,
     ⟨(some 5), .move (.tmp 16), none, [], false, false⟩])
  (.seq (.region false [⟨(some 6), .move (.const (.int .u64 0)), none, [], false, false⟩])
   (.seq (.seq (.region false [⟨(some 17), .move (.tmp 0), none, [], false, false⟩,
        ⟨(some 18), .len false (.tmp 17), none, [], false, false⟩,
        ⟨(some 19), .move (.const (.int .i64 0)), none, [], false, false⟩])
     (.block 0 (.loop (some [1, 5, 6, 17, 18, 19]) (
       .seq (.region false [⟨(some 20), .bin .lss (.tmp 19) (.tmp 18), none, [], false, false⟩])
        (.seq (.cond (.tmp 20) (.skip)
          (.exit 0))
         (.seq (.block 1 (.seq (.region false [⟨(some 21), .indexAddr none 1 (.tmp 17) (.tmp 19), none, [], false, false⟩,
               ⟨(some 22), .load false 1 (.tmp 21), none, [], false, false⟩,
               ⟨(some 8), .move (.tmp 22), none, [], false, false⟩])
            (.seq (.region false [⟨(some 24), .move (.tmp 8), none, [], false, false⟩,
                ⟨(some 25), .move (.tmp 1), none, [], false, false⟩,
                ⟨(some 26), .call 165 [(.tmp 24), (.tmp 25)], none, [], false, false⟩,
                ⟨(some 23), .move (.tmp 26), none, [], false, false⟩,
                ⟨(some 27), .extract (.tmp 23) 0, none, [], false, false⟩,
                ⟨(some 28), .extract (.tmp 23) 1, none, [], false, false⟩,
                ⟨(some 9), .move (.tmp 27), none, [], false, false⟩,
                ⟨(some 10), .move (.tmp 28), none, [], false, false⟩])
             (.seq (.region false [⟨(some 30), .move (.tmp 10), none, [], false, false⟩,
                 ⟨(some 31), .move (.tmp 6), none, [], false, false⟩,
                 ⟨(some 32), .add64 (.tmp 30) (.tmp 31) (.const (.int .u64 0)), none, [], false, false⟩,
                 ⟨(some 29), .move (.tmp 32), none, [], false, false⟩,
                 ⟨(some 33), .extract (.tmp 29) 0, none, [], false, false⟩,
                 ⟨(some 34), .extract (.tmp 29) 1, none, [], false, false⟩,
                 ⟨(some 11), .move (.tmp 33), none, [], false, false⟩,
                 ⟨(some 12), .move (.tmp 34), none, [], false, false⟩])
              (.seq (.region false [⟨(some 35), .move (.tmp 5), none, [], false, false⟩,
                  ⟨(some 36), .move (.tmp 11), none, [], false, false⟩,
                  ⟨(some 37), .buildSlice 1 1 [(.int .u64 0)] [(0, 1, (.tmp 36))], none, [], false, false⟩,
                  ⟨(some 38), .append 1 8 (.tmp 35) (.tmp 37), none, [], false, false⟩,
                  ⟨(some 5), .move (.tmp 38), none, [], false, false⟩])
               (.region false [⟨(some 39), .move (.tmp 9), none, [], false, false⟩,
                  ⟨(some 40), .move (.tmp 12), none, [], false, false⟩,
                  ⟨(some 41), .bin .add (.tmp 39) (.tmp 40), none, [], false, false⟩,
                  ⟨(some 6), .move (.tmp 41), none, [], false, false⟩]))))))
          (.region false [⟨(some 42), .bin .add (.tmp 19) (.const (.int .i64 1)), none, [], false, false⟩,
             ⟨(some 19), .move (.tmp 42), none, [], false, false⟩])))))))
    (.seq (.seq (.region false [⟨(some 43), .move (.tmp 6), none, [], false, false⟩,
         ⟨(some 44), .bin .gtr (.tmp 43) (.const (.int .u64 0)), none, [], false, false⟩])
      (.cond (.tmp 44) (.region false [⟨(some 45), .move (.tmp 5), none, [], false, false⟩,
          ⟨(some 46), .move (.tmp 6), none, [], false, false⟩,
          ⟨(some 47), .buildSlice 1 1 [(.int .u64 0)] [(0, 1, (.tmp 46))], none, [], false, false⟩,
          ⟨(some 48), .append 1 8 (.tmp 45) (.tmp 47), none, [], false, false⟩,
          ⟨(some 5), .move (.tmp 48), none, [], false, false⟩])
       (.skip)))
     (.seq (.region false [⟨(some 49), .move (.tmp 5), none, [], false, false⟩,
         ⟨(some 4), .move (.tmp 49), none, [], false, false⟩])
      (.ret)))))),
 [.tmp 4], .pure, 50⟩

/-- agraffe/number.CheckRange -/
def ef167 : EFun := ⟨
 .seq (.region false [⟨(some 1), .box (.tmp 0), none, [], false, false⟩,
    ⟨(some 2), .move (.const (.int .i64 0)), none, [], false, false⟩])
 (.seq (.block 0 (.seq (.region false [⟨(some 4), .fieldAddr 0 (.tmp 1), none, [], false, false⟩,
       ⟨(some 5), .load false 1 (.tmp 4), none, [], false, false⟩,
       ⟨(some 6), .call 121 [(.tmp 5), (.const (.int .i64 (-1000000000000000))), (.const (.int .i64 1000000000000000))], none, [], false, false⟩,
       ⟨(some 7), .un .not (.tmp 6), none, [], false, false⟩,
       ⟨(some 8), .move (.tmp 7), none, [], false, false⟩,
       ⟨(some 9), .fieldAddr 1 (.tmp 1), (some (8, false)), [], false, false⟩,
       ⟨(some 10), .load false 1 (.tmp 9), (some (8, false)), [], false, false⟩,
       ⟨(some 11), .call 121 [(.tmp 10), (.const (.int .i64 (-1000000000000000))), (.const (.int .i64 1000000000000000))], (some (8, false)), [], false, false⟩,
       ⟨(some 12), .un .not (.tmp 11), (some (8, false)), [], false, false⟩,
       ⟨(some 13), .pick (.tmp 8) (.const (.bool true)) (.tmp 12), none, [], false, false⟩,
       ⟨(some 3), .move (.tmp 13), none, [], false, false⟩])
    (.cond (.tmp 3) (.seq (.region false [⟨(some 2), .move (.const (.int .i64 2)), none, [], false, false⟩])
      (.ret))
     (.seq (.region false [⟨(some 15), .fieldAddr 0 (.tmp 1), none, [], false, false⟩,
         ⟨(some 16), .load false 1 (.tmp 15), none, [], false, false⟩,
         ⟨(some 17), .fieldAddr 1 (.tmp 1), none, [], false, false⟩,
         ⟨(some 18), .load false 1 (.tmp 17), none, [], false, false⟩,
         ⟨(some 19), .bin .gtr (.tmp 16) (.tmp 18), none, [], false, false⟩,
         ⟨(some 14), .move (.tmp 19), none, [], false, false⟩])
      (.cond (.tmp 14) (.seq (.region false [⟨(some 2), .move (.const (.int .i64 9)), none, [], false, false⟩])
        (.ret))
       (.skip))))))
  (.seq (.region false [⟨(some 2), .move (.const (.int .i64 0)), none, [], false, false⟩])
   (.ret))),
 [.tmp 2], .pure, 20⟩

/-- agraffe/number.checkPitches -/
def ef168 : EFun := ⟨
 .seq (.region false [⟨(some 2), .box (.tmp 0), none, [], false, false⟩,
    ⟨(some 3), .box (.tmp 1), none, [], false, false⟩,
    ⟨(some 4), .move (.const (.int .i64 0)), none, [], false, false⟩])
 (.seq (.seq (.region false [⟨(some 6), .load true 4 (.tmp 2), none, [], false, false⟩,
      ⟨(some 7), .call 120 [(.tmp 6)], none, [], false, false⟩,
      ⟨(some 5), .move (.tmp 7), none, [], false, false⟩])
   (.seq (.region false [⟨(some 8), .move (.tmp 5), none, [], false, false⟩,
       ⟨(some 9), .bin .neq (.tmp 8) (.const (.int .i64 0)), none, [], false, false⟩])
    (.cond (.tmp 9) (.seq (.region false [⟨(some 10), .move (.tmp 5), none, [], false, false⟩,
         ⟨(some 4), .move (.tmp 10), none, [], false, false⟩])
      (.ret))
     (.skip))))
  (.seq (.region false [⟨(some 11), .load true 4 (.tmp 3), none, [], false, false⟩,
      ⟨(some 12), .call 120 [(.tmp 11)], none, [], false, false⟩,
      ⟨(some 4), .move (.tmp 12), none, [], false, false⟩])
   (.ret))),
 [.tmp 4], .pure, 13⟩

/-- agraffe/number.order -/
def ef169 : EFun := ⟨
 .seq (.region false [⟨(some 2), .box (.tmp 0), none, [], false, false⟩,
    ⟨(some 3), .box (.tmp 1), none, [], false, false⟩,
    ⟨(some 4), .move (.const (.int .i64 0)), none, [], false, false⟩])
 (.seq (.region false [⟨(some 6), .load true 4 (.tmp 2), none, [], false, false⟩,
     ⟨(some 7), .load true 4 (.tmp 3), none, [], false, false⟩,
     ⟨(some 8), .call 182 [(.tmp 6), (.tmp 7), (.const (.int .i64 (-1)))], none, [], false, false⟩,
     ⟨(some 9), .call 122 [(.tmp 8)], none, [], false, false⟩,
     ⟨(some 10), .call 124 [(.tmp 9)], none, [], false, false⟩,
     ⟨(some 11), .call 123 [(.tmp 10)], none, [], false, false⟩,
     ⟨(some 5), .push [(.slice none 0 0), (.slice none 0 0)], none, [], false, false⟩,
     ⟨none, .store 2 (.tmp 5) (.tmp 11), none, [], false, false⟩])
  (.seq (.region false [⟨(some 12), .fieldAddr 0 (.tmp 5), none, [], false, false⟩,
      ⟨(some 13), .load false 1 (.tmp 12), none, [], false, false⟩,
      ⟨(some 14), .fieldAddr 1 (.tmp 5), none, [], false, false⟩,
      ⟨(some 15), .load false 1 (.tmp 14), none, [], false, false⟩,
      ⟨(some 16), .call 127 [(.tmp 13), (.tmp 15)], none, [], false, false⟩,
      ⟨(some 4), .move (.tmp 16), none, [], false, false⟩])
   (.ret))),
 [.tmp 4], .pure, 17⟩

/-- agraffe/agraffebase.isLetter -/
def ef170 : EFun := ⟨
 .seq (.region false [⟨(some 2), .move (.const (.bool false)), none, [], false, false⟩])
 (.seq (.region false [⟨(some 3), .move (.tmp 0), none, [], false, false⟩,
     ⟨(some 4), .bin .geq (.tmp 3) (.const (.int .u8 97)), none, [], false, false⟩,
     ⟨(some 5), .move (.tmp 4), none, [], false, false⟩,
     ⟨(some 6), .move (.tmp 0), (some (5, true)), [], false, false⟩,
     ⟨(some 7), .bin .leq (.tmp 6) (.const (.int .u8 122)), (some (5, true)), [], false, false⟩,
     ⟨(some 8), .pick (.tmp 5) (.tmp 7) (.const (.bool false)), none, [], false, false⟩,
     ⟨(some 9), .move (.tmp 8), none, [], false, false⟩,
     ⟨(some 10), .move (.tmp 0), (some (9, false)), [], false, false⟩,
     ⟨(some 11), .bin .geq (.tmp 10) (.const (.int .u8 65)), (some (9, false)), [], false, false⟩,
     ⟨(some 12), .move (.tmp 11), (some (9, false)), [], false, false⟩,
     ⟨(some 13), .move (.tmp 0), (some (12, true)), [], false, false⟩,
     ⟨(some 14), .bin .leq (.tmp 13) (.const (.int .u8 90)), (some (12, true)), [], false, false⟩,
     ⟨(some 15), .pick (.tmp 12) (.tmp 14) (.const (.bool false)), (some (9, false)), [], false, false⟩,
     ⟨(some 16), .pick (.tmp 9) (.const (.bool true)) (.tmp 15), none, [], false, false⟩,
     ⟨(some 2), .move (.tmp 16), none, [], false, false⟩])
  (.ret)),
 [.tmp 2], .pure, 17⟩

/-- agraffe/agraffebase.isDigit -/
def ef171 : EFun := ⟨
 .seq (.region false [⟨(some 2), .move (.const (.bool false)), none, [], false, false⟩])
 (.seq (.region false [⟨(some 3), .move (.tmp 0), none, [], false, false⟩,
     ⟨(some 4), .bin .geq (.tmp 3) (.const (.int .u8 48)), none, [], false, false⟩,
     ⟨(some 5), .move (.tmp 4), none, [], false, false⟩,
     ⟨(some 6), .move (.tmp 0), (some (5, true)), [], false, false⟩,
     ⟨(some 7), .bin .leq (.tmp 6) (.const (.int .u8 57)), (some (5, true)), [], false, false⟩,
     ⟨(some 8), .pick (.tmp 5) (.tmp 7) (.const (.bool false)), none, [], false, false⟩,
     ⟨(some 2), .move (.tmp 8), none, [], false, false⟩])
  (.ret)),
 [.tmp 2], .pure, 9⟩

/-- agraffe/agrafferef01.Normal -/
def ef172 : EFun := ⟨
 .seq (.region false [⟨(some 1), .box (.tmp 0), none, [], false, false⟩,
    ⟨(some 2), .push [(.int .i64 0), (.int .i64 0), (.int .i64 0), (.int .i64 0)], none, [], false, false⟩])
 (.seq (.region true [⟨(some 4), .fieldAddr 0 (.tmp 1), none, [], false, false⟩,
     ⟨(some 5), .load false 1 (.tmp 4), none, [], false, false⟩,
     ⟨(some 6), .fieldAddr 1 (.tmp 1), none, [], false, false⟩,
     ⟨(some 7), .load false 1 (.tmp 6), none, [], false, false⟩,
     ⟨(some 8), .call 183 [(.tmp 5), (.tmp 7)], none, [], false, true⟩,
     ⟨(some 9), .fieldAddr 2 (.tmp 1), none, [], false, false⟩,
     ⟨(some 10), .load false 1 (.tmp 9), none, [], false, false⟩,
     ⟨(some 11), .fieldAddr 3 (.tmp 1), none, [], false, false⟩,
     ⟨(some 12), .load false 1 (.tmp 11), none, [], false, false⟩,
     ⟨(some 13), .call 183 [(.tmp 10), (.tmp 12)], none, [], false, false⟩,
     ⟨(some 14), .call 183 [(.tmp 8), (.tmp 13)], none, [], false, false⟩,
     ⟨(some 3), .move (.tmp 14), none, [], false, false⟩])
  (.seq (.region true [⟨(some 15), .fieldAddr 0 (.tmp 1), none, [], false, false⟩,
      ⟨(some 16), .load false 1 (.tmp 15), none, [], false, false⟩,
      ⟨(some 17), .move (.tmp 3), none, [], false, false⟩,
      ⟨(some 18), .bin .quo (.tmp 16) (.tmp 17), none, [], false, false⟩,
      ⟨(some 19), .fieldAddr 1 (.tmp 1), none, [], false, false⟩,
      ⟨(some 20), .load false 1 (.tmp 19), none, [], false, false⟩,
      ⟨(some 21), .move (.tmp 3), none, [], false, false⟩,
      ⟨(some 22), .bin .quo (.tmp 20) (.tmp 21), none, [], false, false⟩,
      ⟨(some 23), .fieldAddr 2 (.tmp 1), none, [], false, false⟩,
      ⟨(some 24), .load false 1 (.tmp 23), none, [], false, false⟩,
      ⟨(some 25), .move (.tmp 3), none, [], false, false⟩,
      ⟨(some 26), .bin .quo (.tmp 24) (.tmp 25), none, [], false, false⟩,
      ⟨(some 27), .fieldAddr 3 (.tmp 1), none, [], false, false⟩,
      ⟨(some 28), .load false 1 (.tmp 27), none, [], false, false⟩,
      ⟨(some 29), .move (.tmp 3), none, [], false, false⟩,
      ⟨(some 30), .bin .quo (.tmp 28) (.tmp 29), none, [], false, false⟩,
      ⟨(some 31), .build [(.int .i64 0), (.int .i64 0), (.int .i64 0), (.int .i64 0)] [(0, 1, (.tmp 18)), (1, 1, (.tmp 22)), (2, 1, (.tmp 26)), (3, 1, (.tmp 30))], none, [], false, false⟩,
      ⟨none, .store 4 (.tmp 2) (.tmp 31), none, [], false, false⟩])
   (.ret))),
 [.cell 2 true 4], .pure, 32⟩

/-- agraffe/agrafferef01.sum -/
def ef173 : EFun := ⟨
 .seq (.region false [⟨(some 3), .box (.tmp 0), none, [], false, false⟩,
    ⟨(some 4), .box (.tmp 1), none, [], false, false⟩,
    ⟨(some 6), .push [(.int .i64 0), (.int .i64 0), (.int .i64 0), (.int .i64 0)], none, [], false, false⟩])
 (.seq (.region false [⟨(some 7), .fieldAddr 0 (.tmp 3), none, [], false, false⟩,
     ⟨(some 8), .load false 1 (.tmp 7), none, [], false, false⟩,
     ⟨(some 9), .fieldAddr 3 (.tmp 4), none, [], false, false⟩,
     ⟨(some 10), .load false 1 (.tmp 9), none, [], false, false⟩,
     ⟨(some 11), .bin .mul (.tmp 8) (.tmp 10), none, [], false, false⟩,
     ⟨(some 12), .move (.tmp 2), none, [], false, false⟩,
     ⟨(some 13), .fieldAddr 0 (.tmp 4), none, [], false, false⟩,
     ⟨(some 14), .load false 1 (.tmp 13), none, [], false, false⟩,
     ⟨(some 15), .bin .mul (.tmp 12) (.tmp 14), none, [], false, false⟩,
     ⟨(some 16), .fieldAddr 3 (.tmp 3), none, [], false, false⟩,
     ⟨(some 17), .load false 1 (.tmp 16), none, [], false, false⟩,
     ⟨(some 18), .bin .mul (.tmp 15) (.tmp 17), none, [], false, false⟩,
     ⟨(some 19), .bin .add (.tmp 11) (.tmp 18), none, [], false, false⟩,
     ⟨(some 20), .fieldAddr 1 (.tmp 3), none, [], false, false⟩,
     ⟨(some 21), .load false 1 (.tmp 20), none, [], false, false⟩,
     ⟨(some 22), .fieldAddr 3 (.tmp 4), none, [], false, false⟩,
     ⟨(some 23), .load false 1 (.tmp 22), none, [], false, false⟩,
     ⟨(some 24), .bin .mul (.tmp 21) (.tmp 23), none, [], false, false⟩,
     ⟨(some 25), .move (.tmp 2), none, [], false, false⟩,
     ⟨(some 26), .fieldAddr 1 (.tmp 4), none, [], false, false⟩,
     ⟨(some 27), .load false 1 (.tmp 26), none, [], false, false⟩,
     ⟨(some 28), .bin .mul (.tmp 25) (.tmp 27), none, [], false, false⟩,
     ⟨(some 29), .fieldAddr 3 (.tmp 3), none, [], false, false⟩,
     ⟨(some 30), .load false 1 (.tmp 29), none, [], false, false⟩,
     ⟨(some 31), .bin .mul (.tmp 28) (.tmp 30), none, [], false, false⟩,
     ⟨(some 32), .bin .add (.tmp 24) (.tmp 31), none, [], false, false⟩,
     ⟨(some 33), .fieldAddr 2 (.tmp 3), none, [], false, false⟩,
     ⟨(some 34), .load false 1 (.tmp 33), none, [], false, false⟩,
     ⟨(some 35), .fieldAddr 3 (.tmp 4), none, [], false, false⟩,
     ⟨(some 36), .load false 1 (.tmp 35), none, [], false, false⟩,
     ⟨(some 37), .bin .mul (.tmp 34) (.tmp 36), none, [], false, false⟩,
     ⟨(some 38), .move (.tmp 2), none, [], false, false⟩,
     ⟨(some 39), .fieldAddr 2 (.tmp 4), none, [], false, false⟩,
     ⟨(some 40), .load false 1 (.tmp 39), none, [], false, false⟩,
     ⟨(some 41), .bin .mul (.tmp 38) (.tmp 40), none, [], false, false⟩,
     ⟨(some 42), .fieldAddr 3 (.tmp 3), none, [], false, false⟩,
     ⟨(some 43), .load false 1 (.tmp 42), none, [], false, false⟩,
     ⟨(some 44), .bin .mul (.tmp 41) (.tmp 43), none, [], false, false⟩,
     ⟨(some 45), .bin .add (.tmp 37) (.tmp 44), none, [], false, false⟩,
     ⟨(some 46), .fieldAddr 3 (.tmp 3), none, [], false, false⟩,
     ⟨(some 47), .load false 1 (.tmp 46), none, [], false, false⟩,
     ⟨(some 48), .fieldAddr 3 (.tmp 4), none, [], false, false⟩,
     ⟨(some 49), .load false 1 (.tmp 48), none, [], false, false⟩,
     ⟨(some 50), .bin .mul (.tmp 47) (.tmp 49), none, [], false, false⟩,
     ⟨(some 51), .build [(.int .i64 0), (.int .i64 0), (.int .i64 0), (.int .i64 0)] [(0, 1, (.tmp 19)), (1, 1, (.tmp 32)), (2, 1, (.tmp 45)), (3, 1, (.tmp 50))], none, [], false, false⟩,
     ⟨none, .store 4 (.tmp 6) (.tmp 51), none, [], false, false⟩])
  (.ret)),
 [.cell 6 true 4], .pure, 52⟩

/-- agraffe/agrafferef02.way -/
def ef174 : EFun := ⟨
 .seq (.region false [⟨(some 2), .box (.tmp 0), none, [], false, false⟩,
    ⟨(some 3), .box (.tmp 1), none, [], false, false⟩,
    ⟨(some 4), .push [(.int .i64 0), (.int .i64 0)], none, [], false, false⟩])
 (.seq (.region true [⟨(some 5), .load true 2 (.tmp 3), none, [], false, false⟩,
     ⟨(some 6), .fieldAddr 0 (.tmp 2), none, [], false, false⟩,
     ⟨(some 7), .load false 1 (.tmp 6), none, [], false, false⟩,
     ⟨(some 8), .call 150 [(.tmp 7)], none, [], false, true⟩,
     ⟨(some 9), .call 151 [(.tmp 5), (.tmp 8)], none, [], false, false⟩,
     ⟨(some 10), .call 150 [(.const (.int .i64 1000000))], none, [], false, false⟩,
     ⟨(some 11), .call 149 [(.tmp 9), (.tmp 10)], none, [], false, false⟩,
     ⟨none, .store 2 (.tmp 4) (.tmp 11), none, [], false, false⟩])
  (.ret)),
 [.cell 4 true 2], .pure, 12⟩

/-- agraffe/agrafferef02.MassOf -/
def ef175 : EFun := ⟨
 .seq (.region false [⟨(some 3), .box (.tmp 1), none, [], false, false⟩,
    ⟨(some 4), .move (.const (.int .i64 0)), none, [], false, false⟩])
 (.seq (.region true [⟨(some 6), .move (.tmp 0), none, [], false, false⟩,
     ⟨(some 7), .move (.tmp 0), none, [], false, false⟩,
     ⟨(some 8), .fieldAddr 3 (.tmp 3), none, [], false, false⟩,
     ⟨(some 9), .load false 1 (.tmp 8), none, [], false, false⟩,
     ⟨(some 10), .call 135 [(.tmp 7), (.tmp 9)], none, [], false, true⟩,
     ⟨(some 11), .indexAddr none 4 (.tmp 6) (.tmp 10), none, [], false, false⟩,
     ⟨(some 12), .fieldAddr 1 (.tmp 11), none, [], false, false⟩,
     ⟨(some 13), .load false 1 (.tmp 12), none, [], false, false⟩,
     ⟨(some 14), .fieldAddr 1 (.tmp 3), none, [], false, false⟩,
     ⟨(some 15), .load false 1 (.tmp 14), none, [], false, false⟩,
     ⟨(some 16), .bin .mul (.tmp 13) (.tmp 15), none, [], false, false⟩,
     ⟨(some 17), .fieldAddr 1 (.tmp 3), none, [], false, false⟩,
     ⟨(some 18), .load false 1 (.tmp 17), none, [], false, false⟩,
     ⟨(some 19), .bin .mul (.tmp 16) (.tmp 18), none, [], false, false⟩,
     ⟨(some 5), .move (.tmp 19), none, [], false, false⟩])
  (.seq (.seq (.region false [⟨(some 20), .fieldAddr 2 (.tmp 3), none, [], false, false⟩,
       ⟨(some 21), .load false 1 (.tmp 20), none, [], false, false⟩,
       ⟨(some 22), .bin .neq (.tmp 21) (.const (.int .i64 0)), none, [], false, false⟩])
    (.cond (.tmp 22) (.region true [⟨(some 23), .move (.tmp 5), none, [], false, false⟩,
        ⟨(some 24), .move (.tmp 0), none, [], false, false⟩,
        ⟨(some 25), .move (.tmp 0), none, [], false, false⟩,
        ⟨(some 26), .fieldAddr 4 (.tmp 3), none, [], false, false⟩,
        ⟨(some 27), .load false 1 (.tmp 26), none, [], false, false⟩,
        ⟨(some 28), .call 135 [(.tmp 25), (.tmp 27)], none, [], false, true⟩,
        ⟨(some 29), .indexAddr none 4 (.tmp 24) (.tmp 28), none, [], false, false⟩,
        ⟨(some 30), .fieldAddr 1 (.tmp 29), none, [], false, false⟩,
        ⟨(some 31), .load false 1 (.tmp 30), none, [], false, false⟩,
        ⟨(some 32), .fieldAddr 2 (.tmp 3), none, [], false, false⟩,
        ⟨(some 33), .load false 1 (.tmp 32), none, [], false, false⟩,
        ⟨(some 34), .fieldAddr 2 (.tmp 3), none, [], false, false⟩,
        ⟨(some 35), .load false 1 (.tmp 34), none, [], false, false⟩,
        ⟨(some 36), .bin .mul (.tmp 33) (.tmp 35), none, [], false, false⟩,
        ⟨(some 37), .fieldAddr 1 (.tmp 3), none, [], false, false⟩,
        ⟨(some 38), .load false 1 (.tmp 37), none, [], false, false⟩,
        ⟨(some 39), .fieldAddr 1 (.tmp 3), none, [], false, false⟩,
        ⟨(some 40), .load false 1 (.tmp 39), none, [], false, false⟩,
        ⟨(some 41), .bin .mul (.tmp 38) (.tmp 40), none, [], false, false⟩,
        ⟨(some 42), .bin .sub (.tmp 36) (.tmp 41), none, [], false, false⟩,
        ⟨(some 43), .bin .mul (.tmp 31) (.tmp 42), none, [], false, false⟩,
        ⟨(some 44), .bin .add (.tmp 23) (.tmp 43), none, [], false, false⟩,
        ⟨(some 5), .move (.tmp 44), none, [], false, false⟩])
     (.skip)))
   (.seq (.region false [⟨(some 45), .move (.tmp 5), none, [], false, false⟩,
       ⟨(some 4), .move (.tmp 45), none, [], false, false⟩])
    (.ret)))),
 [.tmp 4], .pure, 46⟩

/-- slices.IndexFunc[[]agraffe/api.Wire,agraffe/api.Wire] -/
def ef176 : EFun := ⟨
 .seq (.region false [⟨(some 4), .move (.const (.int .i64 0)), none, [], false, false⟩])
 (.seq (.seq (.region false [⟨(some 6), .move (.tmp 0), none, [], false, false⟩,
      ⟨(some 7), .len false (.tmp 6), none, [], false, false⟩,
      ⟨(some 8), .move (.const (.int .i64 0)), none, [], false, false⟩])
   (.block 0 (.loop (some [0, 1, 7, 8]) (
     .seq (.region false [⟨(some 9), .bin .lss (.tmp 8) (.tmp 7), none, [], false, false⟩])
      (.seq (.cond (.tmp 9) (.skip)
        (.exit 0))
       (.seq (.block 1 (.seq (.region false [⟨(some 10), .move (.tmp 8), none, [], false, false⟩,
             ⟨(some 5), .move (.tmp 10), none, [], false, false⟩])
          (.seq (.region false [⟨(some 11), .move (.tmp 1), none, [], false, false⟩,
              ⟨(some 12), .move (.tmp 0), none, [], false, false⟩,
              ⟨(some 13), .move (.tmp 5), none, [], false, false⟩,
              ⟨(some 14), .indexAddr none 4 (.tmp 12) (.tmp 13), none, [], false, false⟩,
              ⟨(some 15), .load true 4 (.tmp 14), none, [], false, false⟩,
              ⟨(some 16), .callVal (.tmp 11) [(.tmp 15)], none, [], false, false⟩])
           (.cond (.tmp 16) (.seq (.region false [⟨(some 17), .move (.tmp 5), none, [], false, false⟩,
                ⟨(some 4), .move (.tmp 17), none, [], false, false⟩])
             (.ret))
            (.skip)))))
        (.region false [⟨(some 18), .bin .add (.tmp 8) (.const (.int .i64 1)), none, [], false, false⟩,
           ⟨(some 8), .move (.tmp 18), none, [], false, false⟩])))))))
  (.seq (.region false [⟨(some 4), .move (.const (.int .i64 (-1))), none, [], false, false⟩])
   (.ret))),
 [.tmp 4], .pure, 19⟩

/-- agraffe/scale.wire$1 -/
def ef177 : EFun := ⟨
 .seq (.region false [⟨(some 2), .box (.tmp 0), none, [], false, false⟩,
    ⟨(some 3), .move (.const (.bool false)), none, [], false, false⟩])
 (.seq (.region false [⟨(some 4), .fieldAddr 0 (.tmp 2), none, [], false, false⟩,
     ⟨(some 5), .load false 1 (.tmp 4), none, [], false, false⟩,
     ⟨(some 6), .load false 1 (.tmp 1), none, [], false, false⟩,
     ⟨(some 7), .bin .eql (.tmp 5) (.tmp 6), none, [], false, false⟩,
     ⟨(some 3), .move (.tmp 7), none, [], false, false⟩])
  (.ret)),
 [.tmp 3], .pure, 8⟩

/-- agraffe/number.joined -/
def ef182 : EFun := ⟨
 .seq (.region false [⟨(some 3), .box (.tmp 0), none, [], false, false⟩,
    ⟨(some 4), .box (.tmp 1), none, [], false, false⟩,
    ⟨(some 6), .push [(.int .i64 0), (.int .i64 0), (.int .i64 0), (.int .i64 0)], none, [], false, false⟩])
 (.seq (.region false [⟨(some 7), .fieldAddr 0 (.tmp 3), none, [], false, false⟩,
     ⟨(some 8), .load false 1 (.tmp 7), none, [], false, false⟩,
     ⟨(some 9), .fieldAddr 3 (.tmp 4), none, [], false, false⟩,
     ⟨(some 10), .load false 1 (.tmp 9), none, [], false, false⟩,
     ⟨(some 11), .bin .mul (.tmp 8) (.tmp 10), none, [], false, false⟩,
     ⟨(some 12), .move (.tmp 2), none, [], false, false⟩,
     ⟨(some 13), .fieldAddr 0 (.tmp 4), none, [], false, false⟩,
     ⟨(some 14), .load false 1 (.tmp 13), none, [], false, false⟩,
     ⟨(some 15), .bin .mul (.tmp 12) (.tmp 14), none, [], false, false⟩,
     ⟨(some 16), .fieldAddr 3 (.tmp 3), none, [], false, false⟩,
     ⟨(some 17), .load false 1 (.tmp 16), none, [], false, false⟩,
     ⟨(some 18), .bin .mul (.tmp 15) (.tmp 17), none, [], false, false⟩,
     ⟨(some 19), .bin .add (.tmp 11) (.tmp 18), none, [], false, false⟩,
     ⟨(some 20), .fieldAddr 1 (.tmp 3), none, [], false, false⟩,
     ⟨(some 21), .load false 1 (.tmp 20), none, [], false, false⟩,
     ⟨(some 22), .fieldAddr 3 (.tmp 4), none, [], false, false⟩,
     ⟨(some 23), .load false 1 (.tmp 22), none, [], false, false⟩,
     ⟨(some 24), .bin .mul (.tmp 21) (.tmp 23), none, [], false, false⟩,
     ⟨(some 25), .move (.tmp 2), none, [], false, false⟩,
     ⟨(some 26), .fieldAddr 1 (.tmp 4), none, [], false, false⟩,
     ⟨(some 27), .load false 1 (.tmp 26), none, [], false, false⟩,
     ⟨(some 28), .bin .mul (.tmp 25) (.tmp 27), none, [], false, false⟩,
     ⟨(some 29), .fieldAddr 3 (.tmp 3), none, [], false, false⟩,
     ⟨(some 30), .load false 1 (.tmp 29), none, [], false, false⟩,
     ⟨(some 31), .bin .mul (.tmp 28) (.tmp 30), none, [], false, false⟩,
     ⟨(some 32), .bin .add (.tmp 24) (.tmp 31), none, [], false, false⟩,
     ⟨(some 33), .fieldAddr 2 (.tmp 3), none, [], false, false⟩,
     ⟨(some 34), .load false 1 (.tmp 33), none, [], false, false⟩,
     ⟨(some 35), .fieldAddr 3 (.tmp 4), none, [], false, false⟩,
     ⟨(some 36), .load false 1 (.tmp 35), none, [], false, false⟩,
     ⟨(some 37), .bin .mul (.tmp 34) (.tmp 36), none, [], false, false⟩,
     ⟨(some 38), .move (.tmp 2), none, [], false, false⟩,
     ⟨(some 39), .fieldAddr 2 (.tmp 4), none, [], false, false⟩,
     ⟨(some 40), .load false 1 (.tmp 39), none, [], false, false⟩,
     ⟨(some 41), .bin .mul (.tmp 38) (.tmp 40), none, [], false, false⟩,
     ⟨(some 42), .fieldAddr 3 (.tmp 3), none, [], false, false⟩,
     ⟨(some 43), .load false 1 (.tmp 42), none, [], false, false⟩,
     ⟨(some 44), .bin .mul (.tmp 41) (.tmp 43), none, [], false, false⟩,
     ⟨(some 45), .bin .add (.tmp 37) (.tmp 44), none, [], false, false⟩,
     ⟨(some 46), .fieldAddr 3 (.tmp 3), none, [], false, false⟩,
     ⟨(some 47), .load false 1 (.tmp 46), none, [], false, false⟩,
     ⟨(some 48), .fieldAddr 3 (.tmp 4), none, [], false, false⟩,
     ⟨(some 49), .load false 1 (.tmp 48), none, [], false, false⟩,
     ⟨(some 50), .bin .mul (.tmp 47) (.tmp 49), none, [], false, false⟩,
     ⟨(some 51), .build [(.int .i64 0), (.int .i64 0), (.int .i64 0), (.int .i64 0)] [(0, 1, (.tmp 19)), (1, 1, (.tmp 32)), (2, 1, (.tmp 45)), (3, 1, (.tmp 50))], none, [], false, false⟩,
     ⟨none, .store 4 (.tmp 6) (.tmp 51), none, [], false, false⟩])
  (.ret)),
 [.cell 6 true 4], .pure, 52⟩

/-- agraffe/agraffebase.Gcd -/
def ef183 : EFun := ⟨
 .seq (.region false [⟨(some 4), .move (.const (.int .i64 0)), none, [], false, false⟩])
 (.seq (.block 0 (.loop (some [0, 1]) (
    .seq (.seq (.region false [⟨(some 5), .move (.tmp 1), none, [], false, false⟩,
         ⟨(some 6), .bin .neq (.tmp 5) (.const (.int .i64 0)), none, [], false, false⟩])
      (.cond (.tmp 6) (.skip)
       (.exit 0)))
     (.block 1 (.region true [⟨(some 7), .move (.tmp 1), none, [], false, false⟩,
         ⟨(some 8), .move (.tmp 0), none, [], false, false⟩,
         ⟨(some 9), .move (.tmp 1), none, [], false, false⟩,
         ⟨(some 10), .bin .rem (.tmp 8) (.tmp 9), none, [], false, false⟩,
         ⟨(some 0), .move (.tmp 7), none, [], false, false⟩,
         ⟨(some 1), .move (.tmp 10), none, [], false, false⟩])))))
  (.seq (.region false [⟨(some 11), .move (.tmp 0), none, [], false, false⟩,
      ⟨(some 12), .call 55 [(.tmp 11)], none, [], false, false⟩,
      ⟨(some 4), .move (.tmp 12), none, [], false, false⟩])
   (.ret))),
 [.tmp 4], .pure, 13⟩

end Go.Abs.X
