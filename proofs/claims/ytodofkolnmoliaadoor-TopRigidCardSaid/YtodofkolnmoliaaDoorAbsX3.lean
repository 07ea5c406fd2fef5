/- The functions, compiled for the abstract evaluator. Written by wip/abs/Print.lean. -/
import Derived.Test.YtodofkolnmoliaaDoorAbsX0
set_option linter.unusedSimpArgs false
set_option linter.unusedVariables false
set_option maxRecDepth 100000
set_option maxHeartbeats 0
namespace Go.Abs.X
open Go Go.Abs
/-- agraffe/number.CheckPitch -/
def ef120 : EFun := ⟨
 .seq (.region false [⟨(some 1), .box (.tmp 0), none, [], false, false⟩,
    ⟨(some 2), .move (.const (.int .i64 0)), none, [], false, false⟩])
 (.seq (.seq (.region false [⟨(some 5), .load true 4 (.tmp 1), none, [], false, false⟩,
      ⟨(some 6), .call 124 [(.tmp 5)], none, [], false, false⟩,
      ⟨(some 7), .move (.const (.int .i64 0)), none, [], false, false⟩])
   (.block 0 (.loop (some [1, 6, 7]) (
     .seq (.region false [⟨(some 8), .bin .lss (.tmp 7) (.const (.int .i64 3)), none, [], false, false⟩])
      (.seq (.cond (.tmp 8) (.skip)
        (.exit 0))
       (.seq (.block 1 (.seq (.region false [⟨(some 9), .index 3 1 false (.tmp 6) (.tmp 7), none, [], false, false⟩,
             ⟨(some 4), .move (.tmp 9), none, [], false, false⟩])
          (.seq (.region false [⟨(some 10), .move (.tmp 4), none, [], false, false⟩,
              ⟨(some 11), .call 121 [(.tmp 10), (.const (.int .i64 (-400))), (.const (.int .i64 400))], none, [], false, false⟩,
              ⟨(some 12), .un .not (.tmp 11), none, [], false, false⟩])
           (.cond (.tmp 12) (.seq (.region false [⟨(some 2), .move (.const (.int .i64 2)), none, [], false, false⟩])
             (.ret))
            (.skip)))))
        (.region false [⟨(some 13), .bin .add (.tmp 7) (.const (.int .i64 1)), none, [], false, false⟩,
           ⟨(some 7), .move (.tmp 13), none, [], false, false⟩])))))))
  (.seq (.seq (.region false [⟨(some 14), .fieldAddr 3 (.tmp 1), none, [], false, false⟩,
       ⟨(some 15), .load false 1 (.tmp 14), none, [], false, false⟩,
       ⟨(some 16), .call 121 [(.tmp 15), (.const (.int .i64 1)), (.const (.int .i64 12))], none, [], false, false⟩,
       ⟨(some 17), .un .not (.tmp 16), none, [], false, false⟩])
    (.cond (.tmp 17) (.seq (.region false [⟨(some 2), .move (.const (.int .i64 2)), none, [], false, false⟩])
      (.ret))
     (.skip)))
   (.seq (.region false [⟨(some 2), .move (.const (.int .i64 0)), none, [], false, false⟩])
    (.ret)))),
 [.tmp 2], .pure, 18⟩

/-- agraffe/number.within -/
def ef121 : EFun := ⟨
 .seq (.region false [⟨(some 6), .move (.const (.bool false)), none, [], false, false⟩])
 (.seq (.region false [⟨(some 7), .move (.tmp 0), none, [], false, false⟩,
     ⟨(some 8), .move (.tmp 1), none, [], false, false⟩,
     ⟨(some 9), .bin .geq (.tmp 7) (.tmp 8), none, [], false, false⟩,
     ⟨(some 10), .move (.tmp 9), none, [], false, false⟩,
     ⟨(some 11), .move (.tmp 0), (some (10, true)), [], false, false⟩,
     ⟨(some 12), .move (.tmp 2), (some (10, true)), [], false, false⟩,
     ⟨(some 13), .bin .leq (.tmp 11) (.tmp 12), (some (10, true)), [], false, false⟩,
     ⟨(some 14), .pick (.tmp 10) (.tmp 13) (.const (.bool false)), none, [], false, false⟩,
     ⟨(some 6), .move (.tmp 14), none, [], false, false⟩])
  (.ret)),
 [.tmp 6], .pure, 15⟩

/-- agraffe/number.reduced -/
def ef122 : EFun := ⟨
 .seq (.region false [⟨(some 1), .box (.tmp 0), none, [], false, false⟩,
    ⟨(some 2), .push [(.int .i64 0), (.int .i64 0), (.int .i64 0), (.int .i64 0)], none, [], false, false⟩])
 (.seq (.region true [⟨(some 4), .fieldAddr 0 (.tmp 1), none, [], false, false⟩,
     ⟨(some 5), .load false 1 (.tmp 4), none, [], false, false⟩,
     ⟨(some 6), .fieldAddr 1 (.tmp 1), none, [], false, false⟩,
     ⟨(some 7), .load false 1 (.tmp 6), none, [], false, false⟩,
     ⟨(some 8), .call 164 [(.tmp 5), (.tmp 7)], none, [], false, true⟩,
     ⟨(some 9), .fieldAddr 2 (.tmp 1), none, [], false, false⟩,
     ⟨(some 10), .load false 1 (.tmp 9), none, [], false, false⟩,
     ⟨(some 11), .fieldAddr 3 (.tmp 1), none, [], false, false⟩,
     ⟨(some 12), .load false 1 (.tmp 11), none, [], false, false⟩,
     ⟨(some 13), .call 164 [(.tmp 10), (.tmp 12)], none, [], false, false⟩,
     ⟨(some 14), .call 164 [(.tmp 8), (.tmp 13)], none, [], false, false⟩,
     ⟨(some 3), .move (.tmp 14), none, [], false, false⟩])
  (.seq (.region true [⟨(some 15), .fieldAddr 0 (.tmp 1), none, [], false, false⟩,
      ⟨(some 16), .load false 1 (.tmp 15), none, [], false, false⟩,
      ⟨(some 17), .move (.tmp 3), none, [], false, false⟩,
      ⟨(some 18), .bin .quo (.tmp 16) (.tmp 17), none, [], false, false⟩,
      ⟨(some 19), .fieldAddr 1 (.tmp 1), none, [], false, false⟩,
      ⟨(some 20), .load false 1 (.tmp 19), none, [], false, false⟩,
      ⟨(some 21), .move (.tmp 3), none, [], false, false⟩,
      ⟨(some 22), .bin .quo (.tmp 20) (.tmp 21), none, [], false, false⟩,
      ⟨(some 23), .fieldAddr 2 (.tmp 1), none, [], false, false⟩,
      ⟨(some 24), .load false 1 (.tmp 23), none, [], false, false⟩,
      ⟨(some 25), .move (.tmp 3), none, [], false, false⟩,
      ⟨(some 26), .bin .quo (.tmp 24) (.tmp 25), none, [], false, false⟩,
      ⟨(some 27), .fieldAddr 3 (.tmp 1), none, [], false, false⟩,
      ⟨(some 28), .load false 1 (.tmp 27), none, [], false, false⟩,
      ⟨(some 29), .move (.tmp 3), none, [], false, false⟩,
      ⟨(some 30), .bin .quo (.tmp 28) (.tmp 29), none, [], false, false⟩,
      ⟨(some 31), .build [(.int .i64 0), (.int .i64 0), (.int .i64 0), (.int .i64 0)] [(0, 1, (.tmp 18)), (1, 1, (.tmp 22)), (2, 1, (.tmp 26)), (3, 1, (.tmp 30))], none, [], false, false⟩,
      ⟨none, .store 4 (.tmp 2) (.tmp 31), none, [], false, false⟩])
   (.ret))),
 [.cell 2 true 4], .pure, 32⟩

/-- agraffe/number.quotientOf -/
def ef123 : EFun := ⟨
 .seq (.region false [⟨(some 1), .box (.tmp 0), none, [], false, false⟩,
    ⟨(some 2), .push [(.slice none 0 0), (.slice none 0 0)], none, [], false, false⟩])
 (.seq (.region false [⟨(some 6), .buildSlice 1 1 [(.int .u64 0)] [(0, 1, (.const (.int .u64 1)))], none, [], false, false⟩,
     ⟨(some 7), .buildSlice 1 1 [(.int .u64 0)] [(0, 1, (.const (.int .u64 1)))], none, [], false, false⟩,
     ⟨(some 8), .build [(.slice none 0 0), (.slice none 0 0)] [(0, 1, (.tmp 6)), (1, 1, (.tmp 7))], none, [], false, false⟩,
     ⟨(some 3), .push [(.slice none 0 0), (.slice none 0 0)], none, [], false, false⟩,
     ⟨none, .store 2 (.tmp 3) (.tmp 8), none, [], false, false⟩])
  (.seq (.seq (.region false [⟨(some 9), .load true 3 (.tmp 1), none, [], false, false⟩,
       ⟨(some 10), .move (.const (.int .i64 0)), none, [], false, false⟩])
    (.block 0 (.loop (some [2, 3, 9, 10]) (
      .seq (.region false [⟨(some 11), .bin .lss (.tmp 10) (.const (.int .i64 3)), none, [], false, false⟩])
       (.seq (.cond (.tmp 11) (.skip)
         (.exit 0))
        (.seq (.block 1 (.seq (.region false [⟨(some 12), .move (.tmp 10), none, [], false, false⟩,
              ⟨(some 13), .index 3 1 false (.tmp 9) (.tmp 10), none, [], false, false⟩,
              ⟨(some 4), .move (.tmp 12), none, [], false, false⟩,
              ⟨(some 5), .move (.tmp 13), none, [], false, false⟩])
           (.seq (.region true [⟨(some 14), .move (.tmp 4), none, [], false, false⟩,
               ⟨(some 15), .indexAddr (some 3) 1 (.global 0) (.tmp 14), none, [], false, false⟩,
               ⟨(some 16), .load false 1 (.tmp 15), none, [], false, false⟩,
               ⟨(some 17), .move (.tmp 5), none, [], false, false⟩,
               ⟨(some 18), .max [(.tmp 17), (.const (.int .i64 0))], none, [], false, false⟩,
               ⟨(some 19), .fieldAddr 0 (.tmp 3), none, [], false, false⟩,
               ⟨(some 20), .load false 1 (.tmp 19), none, [], false, false⟩,
               ⟨(some 21), .call 125 [(.tmp 16), (.tmp 18), (.tmp 20)], none, [], false, false⟩,
               ⟨(some 22), .fieldAddr 0 (.tmp 3), none, [], false, false⟩,
               ⟨none, .store 1 (.tmp 22) (.tmp 21), none, [], false, false⟩])
            (.region true [⟨(some 23), .move (.tmp 4), none, [], false, false⟩,
               ⟨(some 24), .indexAddr (some 3) 1 (.global 0) (.tmp 23), none, [], false, false⟩,
               ⟨(some 25), .load false 1 (.tmp 24), none, [], false, false⟩,
               ⟨(some 26), .move (.tmp 5), none, [], false, false⟩,
               ⟨(some 27), .un .neg (.tmp 26), none, [], false, false⟩,
               ⟨(some 28), .max [(.tmp 27), (.const (.int .i64 0))], none, [], false, false⟩,
               ⟨(some 29), .fieldAddr 1 (.tmp 3), none, [], false, false⟩,
               ⟨(some 30), .load false 1 (.tmp 29), none, [], false, false⟩,
               ⟨(some 31), .call 125 [(.tmp 25), (.tmp 28), (.tmp 30)], none, [], false, false⟩,
               ⟨(some 32), .fieldAddr 1 (.tmp 3), none, [], false, false⟩,
               ⟨none, .store 1 (.tmp 32) (.tmp 31), none, [], false, false⟩]))))
         (.region false [⟨(some 33), .bin .add (.tmp 10) (.const (.int .i64 1)), none, [], false, false⟩,
            ⟨(some 10), .move (.tmp 33), none, [], false, false⟩])))))))
   (.seq (.region false [⟨(some 34), .load true 2 (.tmp 3), none, [], false, false⟩,
       ⟨none, .store 2 (.tmp 2) (.tmp 34), none, [], false, false⟩])
    (.ret)))),
 [.cell 2 true 2], .pure, 35⟩

/-- agraffe/number.exponents -/
def ef124 : EFun := ⟨
 .seq (.region false [⟨(some 1), .box (.tmp 0), none, [], false, false⟩,
    ⟨(some 2), .push [(.int .i64 0), (.int .i64 0), (.int .i64 0)], none, [], false, false⟩])
 (.seq (.region false [⟨(some 3), .fieldAddr 0 (.tmp 1), none, [], false, false⟩,
     ⟨(some 4), .load false 1 (.tmp 3), none, [], false, false⟩,
     ⟨(some 5), .fieldAddr 1 (.tmp 1), none, [], false, false⟩,
     ⟨(some 6), .load false 1 (.tmp 5), none, [], false, false⟩,
     ⟨(some 7), .fieldAddr 2 (.tmp 1), none, [], false, false⟩,
     ⟨(some 8), .load false 1 (.tmp 7), none, [], false, false⟩,
     ⟨(some 9), .build [(.int .i64 0), (.int .i64 0), (.int .i64 0)] [(0, 1, (.tmp 4)), (1, 1, (.tmp 6)), (2, 1, (.tmp 8))], none, [], false, false⟩,
     ⟨none, .store 3 (.tmp 2) (.tmp 9), none, [], false, false⟩])
  (.ret)),
 [.cell 2 true 3], .pure, 10⟩

/-- agraffe/number.power -/
def ef125 : EFun := ⟨
 .seq (.region false [⟨(some 6), .move (.const (.slice none 0 0)), none, [], false, false⟩])
 (.seq (.block 0 (.loop (some [0, 1, 2]) (
    .seq (.seq (.region false [⟨(some 10), .move (.tmp 1), none, [], false, false⟩,
         ⟨(some 11), .bin .gtr (.tmp 10) (.const (.int .i64 0)), none, [], false, false⟩])
      (.cond (.tmp 11) (.skip)
       (.exit 0)))
     (.block 1 (.seq (.region false [⟨(some 7), .move (.const (.int .u64 1)), none, [], false, false⟩])
       (.seq (.block 2 (.loop (some [0, 1, 2, 7]) (
          .seq (.seq (.region false [⟨(some 12), .move (.tmp 1), none, [], false, false⟩,
               ⟨(some 13), .bin .gtr (.tmp 12) (.const (.int .i64 0)), none, [], false, false⟩])
            (.cond (.tmp 13) (.skip)
             (.exit 2)))
           (.block 3 (.seq (.region false [⟨(some 15), .move (.tmp 7), none, [], false, false⟩,
                ⟨(some 16), .move (.tmp 0), none, [], false, false⟩,
                ⟨(some 17), .call 165 [(.tmp 15), (.tmp 16)], none, [], false, false⟩,
                ⟨(some 14), .move (.tmp 17), none, [], false, false⟩,
                ⟨(some 18), .extract (.tmp 14) 0, none, [], false, false⟩,
                ⟨(some 19), .extract (.tmp 14) 1, none, [], false, false⟩,
                ⟨(some 8), .move (.tmp 18), none, [], false, false⟩,
                ⟨(some 9), .move (.tmp 19), none, [], false, false⟩])
             (.seq (.seq (.region false [⟨(some 20), .move (.tmp 8), none, [], false, false⟩,
                  ⟨(some 21), .bin .neq (.tmp 20) (.const (.int .u64 0)), none, [], false, false⟩])
               (.cond (.tmp 21) (.exit 2)
                (.skip)))
              (.region false [⟨(some 22), .move (.tmp 9), none, [], false, false⟩,
                 ⟨(some 23), .move (.tmp 1), none, [], false, false⟩,
                 ⟨(some 24), .bin .sub (.tmp 23) (.const (.int .i64 1)), none, [], false, false⟩,
                 ⟨(some 7), .move (.tmp 22), none, [], false, false⟩,
                 ⟨(some 1), .move (.tmp 24), none, [], false, false⟩])))))))
        (.region false [⟨(some 25), .move (.tmp 2), none, [], false, false⟩,
           ⟨(some 26), .move (.tmp 7), none, [], false, false⟩,
           ⟨(some 27), .call 166 [(.tmp 25), (.tmp 26)], none, [], false, false⟩,
           ⟨(some 2), .move (.tmp 27), none, [], false, false⟩])))))))
  (.seq (.region false [⟨(some 28), .move (.tmp 2), none, [], false, false⟩,
      ⟨(some 6), .move (.tmp 28), none, [], false, false⟩])
   (.ret))),
 [.tmp 6], .pure, 29⟩

/-- agraffe/number.Enclose$1 -/
def ef126 : EFun := ⟨
 .seq (.region false [⟨(some 4), .move (.const (.int .i64 0)), none, [], false, false⟩])
 (.seq (.region true [⟨(some 5), .move (.tmp 0), none, [], false, false⟩,
     ⟨(some 6), .conv .u64 (.tmp 5), none, [], false, false⟩,
     ⟨(some 7), .fieldAddr 3 (.tmp 1), none, [], false, false⟩,
     ⟨(some 8), .load false 1 (.tmp 7), none, [], false, false⟩,
     ⟨(some 9), .fieldAddr 1 (.tmp 2), none, [], false, false⟩,
     ⟨(some 10), .load false 1 (.tmp 9), none, [], false, false⟩,
     ⟨(some 11), .call 125 [(.tmp 6), (.tmp 8), (.tmp 10)], none, [], false, true⟩,
     ⟨(some 12), .fieldAddr 0 (.tmp 2), none, [], false, false⟩,
     ⟨(some 13), .load false 1 (.tmp 12), none, [], false, false⟩,
     ⟨(some 14), .call 127 [(.tmp 11), (.tmp 13)], none, [], false, false⟩,
     ⟨(some 4), .move (.tmp 14), none, [], false, false⟩])
  (.ret)),
 [.tmp 4], .pure, 15⟩

/-- (agraffe/number.natural).cmp -/
def ef127 : EFun := ⟨
 .seq (.region false [⟨(some 4), .move (.const (.int .i64 0)), none, [], false, false⟩])
 (.seq (.seq (.region false [⟨(some 6), .move (.tmp 0), none, [], false, false⟩,
      ⟨(some 7), .len false (.tmp 6), none, [], false, false⟩,
      ⟨(some 8), .move (.tmp 1), none, [], false, false⟩,
      ⟨(some 9), .len false (.tmp 8), none, [], false, false⟩,
      ⟨(some 10), .bin .neq (.tmp 7) (.tmp 9), none, [], false, false⟩])
   (.cond (.tmp 10) (.seq (.seq (.region false [⟨(some 11), .move (.tmp 0), none, [], false, false⟩,
         ⟨(some 12), .len false (.tmp 11), none, [], false, false⟩,
         ⟨(some 13), .move (.tmp 1), none, [], false, false⟩,
         ⟨(some 14), .len false (.tmp 13), none, [], false, false⟩,
         ⟨(some 15), .bin .lss (.tmp 12) (.tmp 14), none, [], false, false⟩])
      (.cond (.tmp 15) (.seq (.region false [⟨(some 4), .move (.const (.int .i64 (-1))), none, [], false, false⟩])
        (.ret))
       (.skip)))
     (.seq (.region false [⟨(some 4), .move (.const (.int .i64 1)), none, [], false, false⟩])
      (.ret)))
    (.skip)))
  (.seq (.seq (.region false [⟨(some 16), .move (.tmp 0), none, [], false, false⟩,
       ⟨(some 17), .len false (.tmp 16), none, [], false, false⟩,
       ⟨(some 18), .bin .sub (.tmp 17) (.const (.int .i64 1)), none, [], false, false⟩,
       ⟨(some 5), .move (.tmp 18), none, [], false, false⟩])
    (.block 0 (.loop (some [0, 1, 5]) (
      .seq (.seq (.region false [⟨(some 19), .move (.tmp 5), none, [], false, false⟩,
           ⟨(some 20), .bin .geq (.tmp 19) (.const (.int .i64 0)), none, [], false, false⟩])
        (.cond (.tmp 20) (.skip)
         (.exit 0)))
       (.seq (.block 1 (.block 2 (.seq (.region true [⟨(some 24), .move (.tmp 0), none, [], false, false⟩,
              ⟨(some 25), .move (.tmp 5), none, [], false, false⟩,
              ⟨(some 26), .indexAddr none 1 (.tmp 24) (.tmp 25), none, [], false, false⟩,
              ⟨(some 27), .load false 1 (.tmp 26), none, [], false, false⟩,
              ⟨(some 28), .move (.tmp 1), none, [], false, false⟩,
              ⟨(some 29), .move (.tmp 5), none, [], false, false⟩,
              ⟨(some 30), .indexAddr none 1 (.tmp 28) (.tmp 29), none, [], false, false⟩,
              ⟨(some 31), .load false 1 (.tmp 30), none, [], false, false⟩,
              ⟨(some 32), .bin .lss (.tmp 27) (.tmp 31), none, [], false, false⟩,
              ⟨(some 23), .move (.tmp 32), none, [], false, false⟩])
           (.cond (.tmp 23) (.seq (.region false [⟨(some 4), .move (.const (.int .i64 (-1))), none, [], false, false⟩])
             (.ret))
            (.seq (.region true [⟨(some 34), .move (.tmp 0), none, [], false, false⟩,
                ⟨(some 35), .move (.tmp 5), none, [], false, false⟩,
                ⟨(some 36), .indexAddr none 1 (.tmp 34) (.tmp 35), none, [], false, false⟩,
                ⟨(some 37), .load false 1 (.tmp 36), none, [], false, false⟩,
                ⟨(some 38), .move (.tmp 1), none, [], false, false⟩,
                ⟨(some 39), .move (.tmp 5), none, [], false, false⟩,
                ⟨(some 40), .indexAddr none 1 (.tmp 38) (.tmp 39), none, [], false, false⟩,
                ⟨(some 41), .load false 1 (.tmp 40), none, [], false, false⟩,
                ⟨(some 42), .bin .gtr (.tmp 37) (.tmp 41), none, [], false, false⟩,
                ⟨(some 33), .move (.tmp 42), none, [], false, false⟩])
             (.cond (.tmp 33) (.seq (.region false [⟨(some 4), .move (.const (.int .i64 1)), none, [], false, false⟩])
               (.ret))
              (.skip)))))))
        (.region false [⟨(some 21), .move (.tmp 5), none, [], false, false⟩,
           ⟨(some 22), .bin .sub (.tmp 21) (.const (.int .i64 1)), none, [], false, false⟩,
           ⟨(some 5), .move (.tmp 22), none, [], false, false⟩]))))))
   (.seq (.region false [⟨(some 4), .move (.const (.int .i64 0)), none, [], false, false⟩])
    (.ret)))),
 [.tmp 4], .pure, 43⟩

/-- agraffe/number.small -/
def ef128 : EFun := ⟨
 .seq (.region false [⟨(some 1), .box (.tmp 0), none, [], false, false⟩,
    ⟨(some 2), .push [(.int .i64 0), (.int .i64 0)], none, [], false, false⟩,
    ⟨(some 3), .move (.const (.int .i64 0)), none, [], false, false⟩])
 (.seq (.seq (.region false [⟨(some 4), .load true 2 (.tmp 1), none, [], false, false⟩,
      ⟨(some 5), .call 167 [(.tmp 4)], none, [], false, false⟩,
      ⟨(some 6), .bin .neq (.tmp 5) (.const (.int .i64 0)), none, [], false, false⟩])
   (.cond (.tmp 6) (.seq (.region false [⟨(some 7), .build [(.int .i64 0), (.int .i64 0)] [], none, [], false, false⟩,
        ⟨none, .store 2 (.tmp 2) (.tmp 7), none, [], false, false⟩,
        ⟨(some 3), .move (.const (.int .i64 8)), none, [], false, false⟩])
     (.ret))
    (.skip)))
  (.seq (.region false [⟨(some 8), .load true 2 (.tmp 1), none, [], false, false⟩,
      ⟨none, .store 2 (.tmp 2) (.tmp 8), none, [], false, false⟩,
      ⟨(some 3), .move (.const (.int .i64 0)), none, [], false, false⟩])
   (.ret))),
 [.cell 2 true 2, .tmp 3], .pure, 9⟩

/-- agraffe/scale.heard -/
def ef129 : EFun := ⟨
 .seq (.region false [⟨(some 4), .box (.tmp 1), none, [], false, false⟩,
    ⟨(some 5), .box (.tmp 2), none, [], false, false⟩,
    ⟨(some 6), .push [(.string ⟨#[]⟩), (.int .i64 0), (.int .i64 0), (.int .i64 0), (.int .i64 0), (.int .i64 0), (.int .i64 0), (.string ⟨#[]⟩), (.string ⟨#[]⟩), (.int .i64 0), (.int .i64 0), (.int .i64 0), (.int .i64 0)], none, [], false, false⟩,
    ⟨(some 7), .move (.const (.int .i64 0)), none, [], false, false⟩])
 (.seq (.seq (.region false [⟨(some 10), .move (.tmp 0), none, [], false, false⟩,
      ⟨(some 11), .load true 5 (.tmp 4), none, [], false, false⟩,
      ⟨(some 12), .call 92 [(.tmp 10), (.tmp 11)], none, [], false, false⟩,
      ⟨(some 8), .move (.tmp 12), none, [], false, false⟩])
   (.seq (.region false [⟨(some 13), .move (.tmp 8), none, [], false, false⟩,
       ⟨(some 14), .bin .neq (.tmp 13) (.const (.int .i64 0)), none, [], false, false⟩])
    (.cond (.tmp 14) (.seq (.region false [⟨(some 15), .build [(.string ⟨#[]⟩), (.int .i64 0), (.int .i64 0), (.int .i64 0), (.int .i64 0), (.int .i64 0), (.int .i64 0), (.string ⟨#[]⟩), (.string ⟨#[]⟩), (.int .i64 0), (.int .i64 0), (.int .i64 0), (.int .i64 0)] [], none, [], false, false⟩,
         ⟨(some 16), .move (.tmp 8), none, [], false, false⟩,
         ⟨none, .store 13 (.tmp 6) (.tmp 15), none, [], false, false⟩,
         ⟨(some 7), .move (.tmp 16), none, [], false, false⟩])
      (.ret))
     (.skip))))
  (.seq (.seq (.region false [⟨(some 17), .load true 2 (.tmp 5), none, [], false, false⟩,
       ⟨(some 18), .call 132 [(.tmp 17)], none, [], false, false⟩,
       ⟨(some 9), .move (.tmp 18), none, [], false, false⟩])
    (.seq (.region false [⟨(some 19), .move (.tmp 9), none, [], false, false⟩,
        ⟨(some 20), .bin .neq (.tmp 19) (.const (.int .i64 0)), none, [], false, false⟩])
     (.cond (.tmp 20) (.seq (.region false [⟨(some 21), .build [(.string ⟨#[]⟩), (.int .i64 0), (.int .i64 0), (.int .i64 0), (.int .i64 0), (.int .i64 0), (.int .i64 0), (.string ⟨#[]⟩), (.string ⟨#[]⟩), (.int .i64 0), (.int .i64 0), (.int .i64 0), (.int .i64 0)] [], none, [], false, false⟩,
          ⟨(some 22), .move (.tmp 9), none, [], false, false⟩,
          ⟨none, .store 13 (.tmp 6) (.tmp 21), none, [], false, false⟩,
          ⟨(some 7), .move (.tmp 22), none, [], false, false⟩])
       (.ret))
      (.skip))))
   (.seq (.region false [⟨(some 23), .move (.tmp 0), none, [], false, false⟩,
       ⟨(some 24), .load true 5 (.tmp 4), none, [], false, false⟩,
       ⟨(some 25), .load true 2 (.tmp 5), none, [], false, false⟩,
       ⟨(some 26), .call 89 [(.tmp 23), (.tmp 24), (.tmp 25)], none, [], false, false⟩,
       ⟨none, .store 13 (.tmp 6) (.tmp 26), none, [], false, false⟩,
       ⟨(some 7), .move (.const (.int .i64 0)), none, [], false, false⟩])
    (.ret)))),
 [.cell 6 true 13, .tmp 7], .pure, 27⟩

/-- agraffe/scale.isName -/
def ef131 : EFun := ⟨
 .seq (.region false [⟨(some 2), .move (.const (.bool false)), none, [], false, false⟩])
 (.seq (.seq (.region false [⟨(some 6), .move (.tmp 0), none, [], false, false⟩,
      ⟨(some 7), .bytesOf (.tmp 6), none, [], false, false⟩,
      ⟨(some 8), .len false (.tmp 7), none, [], false, false⟩,
      ⟨(some 9), .move (.const (.int .i64 0)), none, [], false, false⟩])
   (.block 0 (.loop (some [0, 7, 8, 9]) (
     .seq (.region false [⟨(some 10), .bin .lss (.tmp 9) (.tmp 8), none, [], false, false⟩])
      (.seq (.cond (.tmp 10) (.skip)
        (.exit 0))
       (.seq (.block 1 (.seq (.region false [⟨(some 11), .move (.tmp 9), none, [], false, false⟩,
             ⟨(some 12), .indexAddr none 1 (.tmp 7) (.tmp 9), none, [], false, false⟩,
             ⟨(some 13), .load false 1 (.tmp 12), none, [], false, false⟩,
             ⟨(some 3), .move (.tmp 11), none, [], false, false⟩,
             ⟨(some 4), .move (.tmp 13), none, [], false, false⟩])
          (.seq (.region false [⟨(some 14), .move (.tmp 4), none, [], false, false⟩,
              ⟨(some 15), .bin .geq (.tmp 14) (.const (.int .u8 97)), none, [], false, false⟩,
              ⟨(some 16), .move (.tmp 15), none, [], false, false⟩,
              ⟨(some 17), .move (.tmp 4), (some (16, true)), [], false, false⟩,
              ⟨(some 18), .bin .leq (.tmp 17) (.const (.int .u8 122)), (some (16, true)), [], false, false⟩,
              ⟨(some 19), .pick (.tmp 16) (.tmp 18) (.const (.bool false)), none, [], false, false⟩,
              ⟨(some 20), .move (.tmp 19), none, [], false, false⟩,
              ⟨(some 21), .move (.tmp 4), (some (20, false)), [], false, false⟩,
              ⟨(some 22), .bin .geq (.tmp 21) (.const (.int .u8 65)), (some (20, false)), [], false, false⟩,
              ⟨(some 23), .move (.tmp 22), (some (20, false)), [], false, false⟩,
              ⟨(some 24), .move (.tmp 4), (some (23, true)), [], false, false⟩,
              ⟨(some 25), .bin .leq (.tmp 24) (.const (.int .u8 90)), (some (23, true)), [], false, false⟩,
              ⟨(some 26), .pick (.tmp 23) (.tmp 25) (.const (.bool false)), (some (20, false)), [], false, false⟩,
              ⟨(some 27), .pick (.tmp 20) (.const (.bool true)) (.tmp 26), none, [], false, false⟩,
              ⟨(some 5), .move (.tmp 27), none, [], false, false⟩])
           (.seq (.region false [⟨(some 28), .move (.tmp 5), none, [], false, false⟩,
               ⟨(some 29), .un .not (.tmp 28), none, [], false, false⟩,
               ⟨(some 30), .move (.tmp 29), none, [], false, false⟩,
               ⟨(some 31), .move (.tmp 3), (some (30, true)), [], false, false⟩,
               ⟨(some 32), .bin .eql (.tmp 31) (.const (.int .i64 0)), (some (30, true)), [], false, false⟩,
               ⟨(some 33), .move (.tmp 32), (some (30, true)), [], false, false⟩,
               ⟨(some 34), .move (.tmp 4), (some (33, false)), [], false, false⟩,
               ⟨(some 35), .bin .neq (.tmp 34) (.const (.int .u8 45)), (some (33, false)), [], false, false⟩,
               ⟨(some 36), .move (.tmp 35), (some (33, false)), [], false, false⟩,
               ⟨(some 37), .move (.tmp 4), (some (36, true)), [], false, false⟩,
               ⟨(some 38), .bin .lss (.tmp 37) (.const (.int .u8 48)), (some (36, true)), [], false, false⟩,
               ⟨(some 39), .move (.tmp 38), (some (36, true)), [], false, false⟩,
               ⟨(some 40), .move (.tmp 4), (some (39, false)), [], false, false⟩,
               ⟨(some 41), .bin .gtr (.tmp 40) (.const (.int .u8 57)), (some (39, false)), [], false, false⟩,
               ⟨(some 42), .pick (.tmp 39) (.const (.bool true)) (.tmp 41), (some (36, true)), [], false, false⟩,
               ⟨(some 43), .pick (.tmp 36) (.tmp 42) (.const (.bool false)), (some (33, false)), [], false, false⟩,
               ⟨(some 44), .pick (.tmp 33) (.const (.bool true)) (.tmp 43), (some (30, true)), [], false, false⟩,
               ⟨(some 45), .pick (.tmp 30) (.tmp 44) (.const (.bool false)), none, [], false, false⟩])
            (.cond (.tmp 45) (.seq (.region false [⟨(some 2), .move (.const (.bool false)), none, [], false, false⟩])
              (.ret))
             (.skip))))))
        (.region false [⟨(some 46), .bin .add (.tmp 9) (.const (.int .i64 1)), none, [], false, false⟩,
           ⟨(some 9), .move (.tmp 46), none, [], false, false⟩])))))))
  (.seq (.region false [⟨(some 47), .move (.tmp 0), none, [], false, false⟩,
      ⟨(some 48), .bin .neq (.tmp 47) (.const (.string ⟨#[]⟩)), none, [], false, false⟩,
      ⟨(some 49), .move (.tmp 48), none, [], false, false⟩,
      ⟨(some 50), .move (.tmp 0), (some (49, true)), [], false, false⟩,
      ⟨(some 51), .len true (.tmp 50), (some (49, true)), [], false, false⟩,
      ⟨(some 52), .bin .leq (.tmp 51) (.const (.int .i64 12)), (some (49, true)), [], false, false⟩,
      ⟨(some 53), .pick (.tmp 49) (.tmp 52) (.const (.bool false)), none, [], false, false⟩,
      ⟨(some 2), .move (.tmp 53), none, [], false, false⟩])
   (.ret))),
 [.tmp 2], .pure, 54⟩

/-- agraffe/scale.checkFrequency -/
def ef132 : EFun := ⟨
 .seq (.region false [⟨(some 1), .box (.tmp 0), none, [], false, false⟩,
    ⟨(some 2), .move (.const (.int .i64 0)), none, [], false, false⟩])
 (.seq (.seq (.region false [⟨(some 3), .fieldAddr 0 (.tmp 1), none, [], false, false⟩,
      ⟨(some 4), .load false 1 (.tmp 3), none, [], false, false⟩,
      ⟨(some 5), .bin .lss (.tmp 4) (.const (.int .i64 1)), none, [], false, false⟩,
      ⟨(some 6), .move (.tmp 5), none, [], false, false⟩,
      ⟨(some 7), .fieldAddr 0 (.tmp 1), (some (6, false)), [], false, false⟩,
      ⟨(some 8), .load false 1 (.tmp 7), (some (6, false)), [], false, false⟩,
      ⟨(some 9), .fieldAddr 1 (.tmp 1), (some (6, false)), [], false, false⟩,
      ⟨(some 10), .load false 1 (.tmp 9), (some (6, false)), [], false, false⟩,
      ⟨(some 11), .bin .gtr (.tmp 8) (.tmp 10), (some (6, false)), [], false, false⟩,
      ⟨(some 12), .pick (.tmp 6) (.const (.bool true)) (.tmp 11), none, [], false, false⟩,
      ⟨(some 13), .move (.tmp 12), none, [], false, false⟩,
      ⟨(some 14), .fieldAddr 1 (.tmp 1), (some (13, false)), [], false, false⟩,
      ⟨(some 15), .load false 1 (.tmp 14), (some (13, false)), [], false, false⟩,
      ⟨(some 16), .bin .gtr (.tmp 15) (.const (.int .i64 10000000)), (some (13, false)), [], false, false⟩,
      ⟨(some 17), .pick (.tmp 13) (.const (.bool true)) (.tmp 16), none, [], false, false⟩])
   (.cond (.tmp 17) (.seq (.region false [⟨(some 2), .move (.const (.int .i64 2)), none, [], false, false⟩])
     (.ret))
    (.skip)))
  (.seq (.region false [⟨(some 2), .move (.const (.int .i64 0)), none, [], false, false⟩])
   (.ret))),
 [.tmp 2], .pure, 18⟩

/-- agraffe/scale.wire -/
def ef145 : EFun := ⟨
 .seq (.region false [⟨(some 3), .box (.tmp 1), none, [], false, false⟩,
    ⟨(some 4), .push [(.string ⟨#[]⟩), (.int .i64 0), (.int .i64 0), (.int .i64 0)], none, [], false, false⟩,
    ⟨(some 5), .move (.const (.bool false)), none, [], false, false⟩])
 (.seq (.region false [⟨(some 7), .move (.tmp 0), none, [], false, false⟩,
     ⟨(some 8), .makeFunc (.func 177) [(.tmp 3)], none, [], false, false⟩,
     ⟨(some 9), .call 176 [(.tmp 7), (.tmp 8)], none, [], false, false⟩,
     ⟨(some 6), .move (.tmp 9), none, [], false, false⟩])
  (.seq (.seq (.region false [⟨(some 10), .move (.tmp 6), none, [], false, false⟩,
       ⟨(some 11), .bin .lss (.tmp 10) (.const (.int .i64 0)), none, [], false, false⟩])
    (.cond (.tmp 11) (.seq (.region false [⟨(some 12), .build [(.string ⟨#[]⟩), (.int .i64 0), (.int .i64 0), (.int .i64 0)] [], none, [], false, false⟩,
         ⟨none, .store 4 (.tmp 4) (.tmp 12), none, [], false, false⟩,
         ⟨(some 5), .move (.const (.bool false)), none, [], false, false⟩])
      (.ret))
     (.skip)))
   (.seq (.region false [⟨(some 13), .move (.tmp 0), none, [], false, false⟩,
       ⟨(some 14), .move (.tmp 6), none, [], false, false⟩,
       ⟨(some 15), .indexAddr none 4 (.tmp 13) (.tmp 14), none, [], false, false⟩,
       ⟨(some 16), .load true 4 (.tmp 15), none, [], false, false⟩,
       ⟨none, .store 4 (.tmp 4) (.tmp 16), none, [], false, false⟩,
       ⟨(some 5), .move (.const (.bool true)), none, [], false, false⟩])
    (.ret)))),
 [.cell 4 true 4, .tmp 5], .pure, 17⟩

/-- agraffe/scale.parted -/
def ef146 : EFun := ⟨
 .seq (.region false [⟨(some 6), .push [(.int .i64 0), (.int .i64 0)], none, [], false, false⟩])
 (.seq (.region false [⟨(some 7), .move (.tmp 0), none, [], false, false⟩,
     ⟨(some 8), .move (.tmp 2), none, [], false, false⟩,
     ⟨(some 9), .move (.tmp 1), none, [], false, false⟩,
     ⟨(some 10), .move (.tmp 2), none, [], false, false⟩,
     ⟨(some 11), .call 148 [(.tmp 7), (.tmp 8), (.tmp 9), (.tmp 10)], none, [], false, false⟩,
     ⟨none, .store 2 (.tmp 6) (.tmp 11), none, [], false, false⟩])
  (.ret)),
 [.cell 6 true 2], .pure, 12⟩

/-- agraffe/scale.mass -/
def ef147 : EFun := ⟨
 .seq (.region false [⟨(some 3), .box (.tmp 1), none, [], false, false⟩,
    ⟨(some 4), .move (.const (.int .i64 0)), none, [], false, false⟩])
 (.seq (.region false [⟨(some 11), .move (.tmp 0), none, [], false, false⟩,
     ⟨(some 12), .fieldAddr 3 (.tmp 3), none, [], false, false⟩,
     ⟨(some 13), .load false 1 (.tmp 12), none, [], false, false⟩,
     ⟨(some 14), .call 145 [(.tmp 11), (.tmp 13)], none, [], false, false⟩,
     ⟨(some 10), .move (.tmp 14), none, [], false, false⟩,
     ⟨(some 15), .extract (.tmp 10) 0, none, [], false, false⟩,
     ⟨(some 16), .extract (.tmp 10) 1, none, [], false, false⟩,
     ⟨(some 5), .push [(.string ⟨#[]⟩), (.int .i64 0), (.int .i64 0), (.int .i64 0)], none, [], false, false⟩,
     ⟨none, .store 4 (.tmp 5) (.tmp 15), none, [], false, false⟩,
     ⟨(some 6), .move (.tmp 16), none, [], false, false⟩])
  (.seq (.region false [⟨(some 17), .fieldAddr 1 (.tmp 5), none, [], false, false⟩,
      ⟨(some 18), .load false 1 (.tmp 17), none, [], false, false⟩,
      ⟨(some 19), .fieldAddr 1 (.tmp 3), none, [], false, false⟩,
      ⟨(some 20), .load false 1 (.tmp 19), none, [], false, false⟩,
      ⟨(some 21), .bin .mul (.tmp 18) (.tmp 20), none, [], false, false⟩,
      ⟨(some 22), .fieldAddr 1 (.tmp 3), none, [], false, false⟩,
      ⟨(some 23), .load false 1 (.tmp 22), none, [], false, false⟩,
      ⟨(some 24), .bin .mul (.tmp 21) (.tmp 23), none, [], false, false⟩,
      ⟨(some 7), .move (.tmp 24), none, [], false, false⟩])
   (.seq (.seq (.region false [⟨(some 25), .fieldAddr 2 (.tmp 3), none, [], false, false⟩,
        ⟨(some 26), .load false 1 (.tmp 25), none, [], false, false⟩,
        ⟨(some 27), .bin .neq (.tmp 26) (.const (.int .i64 0)), none, [], false, false⟩])
     (.cond (.tmp 27) (.seq (.region false [⟨(some 29), .move (.tmp 0), none, [], false, false⟩,
          ⟨(some 30), .fieldAddr 4 (.tmp 3), none, [], false, false⟩,
          ⟨(some 31), .load false 1 (.tmp 30), none, [], false, false⟩,
          ⟨(some 32), .call 145 [(.tmp 29), (.tmp 31)], none, [], false, false⟩,
          ⟨(some 28), .move (.tmp 32), none, [], false, false⟩,
          ⟨(some 33), .extract (.tmp 28) 0, none, [], false, false⟩,
          ⟨(some 34), .extract (.tmp 28) 1, none, [], false, false⟩,
          ⟨(some 8), .push [(.string ⟨#[]⟩), (.int .i64 0), (.int .i64 0), (.int .i64 0)], none, [], false, false⟩,
          ⟨none, .store 4 (.tmp 8) (.tmp 33), none, [], false, false⟩,
          ⟨(some 9), .move (.tmp 34), none, [], false, false⟩])
       (.region false [⟨(some 35), .move (.tmp 7), none, [], false, false⟩,
          ⟨(some 36), .fieldAddr 1 (.tmp 8), none, [], false, false⟩,
          ⟨(some 37), .load false 1 (.tmp 36), none, [], false, false⟩,
          ⟨(some 38), .fieldAddr 2 (.tmp 3), none, [], false, false⟩,
          ⟨(some 39), .load false 1 (.tmp 38), none, [], false, false⟩,
          ⟨(some 40), .fieldAddr 2 (.tmp 3), none, [], false, false⟩,
          ⟨(some 41), .load false 1 (.tmp 40), none, [], false, false⟩,
          ⟨(some 42), .bin .mul (.tmp 39) (.tmp 41), none, [], false, false⟩,
          ⟨(some 43), .fieldAddr 1 (.tmp 3), none, [], false, false⟩,
          ⟨(some 44), .load false 1 (.tmp 43), none, [], false, false⟩,
          ⟨(some 45), .fieldAddr 1 (.tmp 3), none, [], false, false⟩,
          ⟨(some 46), .load false 1 (.tmp 45), none, [], false, false⟩,
          ⟨(some 47), .bin .mul (.tmp 44) (.tmp 46), none, [], false, false⟩,
          ⟨(some 48), .bin .sub (.tmp 42) (.tmp 47), none, [], false, false⟩,
          ⟨(some 49), .bin .mul (.tmp 37) (.tmp 48), none, [], false, false⟩,
          ⟨(some 50), .bin .add (.tmp 35) (.tmp 49), none, [], false, false⟩,
          ⟨(some 7), .move (.tmp 50), none, [], false, false⟩]))
      (.skip)))
    (.seq (.region false [⟨(some 51), .move (.tmp 7), none, [], false, false⟩,
        ⟨(some 4), .move (.tmp 51), none, [], false, false⟩])
     (.ret))))),
 [.tmp 4], .pure, 52⟩

/-- agraffe/scale.part -/
def ef148 : EFun := ⟨
 .seq (.region false [⟨(some 8), .push [(.int .i64 0), (.int .i64 0)], none, [], false, false⟩])
 (.seq (.region true [⟨(some 9), .move (.tmp 0), none, [], false, false⟩,
     ⟨(some 10), .move (.tmp 1), none, [], false, false⟩,
     ⟨(some 11), .bin .quo (.tmp 9) (.tmp 10), none, [], false, false⟩,
     ⟨(some 12), .move (.tmp 2), none, [], false, false⟩,
     ⟨(some 13), .move (.tmp 3), none, [], false, false⟩,
     ⟨(some 14), .bin .add (.tmp 12) (.tmp 13), none, [], false, false⟩,
     ⟨(some 15), .bin .sub (.tmp 14) (.const (.int .i64 1)), none, [], false, false⟩,
     ⟨(some 16), .move (.tmp 3), none, [], false, false⟩,
     ⟨(some 17), .bin .quo (.tmp 15) (.tmp 16), none, [], false, false⟩,
     ⟨(some 18), .build [(.int .i64 0), (.int .i64 0)] [(0, 1, (.tmp 11)), (1, 1, (.tmp 17))], none, [], false, false⟩,
     ⟨none, .store 2 (.tmp 8) (.tmp 18), none, [], false, false⟩])
  (.ret)),
 [.cell 8 true 2], .pure, 19⟩

/-- agraffe/plate.CheckGirder -/
def ef153 : EFun := ⟨
 .seq (.region false [⟨(some 1), .box (.tmp 0), none, [], false, false⟩,
    ⟨(some 2), .move (.const (.int .i64 0)), none, [], false, false⟩])
 (.seq (.block 0 (.seq (.region false [⟨(some 4), .fieldAddr 0 (.tmp 1), none, [], false, false⟩,
       ⟨(some 5), .load false 1 (.tmp 4), none, [], false, false⟩,
       ⟨(some 6), .call 159 [(.tmp 5), (.const (.int .i64 20000))], none, [], false, false⟩,
       ⟨(some 7), .un .not (.tmp 6), none, [], false, false⟩,
       ⟨(some 8), .move (.tmp 7), none, [], false, false⟩,
       ⟨(some 9), .fieldAddr 1 (.tmp 1), (some (8, false)), [], false, false⟩,
       ⟨(some 10), .load false 1 (.tmp 9), (some (8, false)), [], false, false⟩,
       ⟨(some 11), .call 159 [(.tmp 10), (.const (.int .i64 20000))], (some (8, false)), [], false, false⟩,
       ⟨(some 12), .un .not (.tmp 11), (some (8, false)), [], false, false⟩,
       ⟨(some 13), .pick (.tmp 8) (.const (.bool true)) (.tmp 12), none, [], false, false⟩,
       ⟨(some 14), .move (.tmp 13), none, [], false, false⟩,
       ⟨(some 15), .fieldAddr 2 (.tmp 1), (some (14, false)), [], false, false⟩,
       ⟨(some 16), .load false 1 (.tmp 15), (some (14, false)), [], false, false⟩,
       ⟨(some 17), .bin .lss (.tmp 16) (.const (.int .i64 0)), (some (14, false)), [], false, false⟩,
       ⟨(some 18), .pick (.tmp 14) (.const (.bool true)) (.tmp 17), none, [], false, false⟩,
       ⟨(some 19), .move (.tmp 18), none, [], false, false⟩,
       ⟨(some 20), .fieldAddr 2 (.tmp 1), (some (19, false)), [], false, false⟩,
       ⟨(some 21), .load false 1 (.tmp 20), (some (19, false)), [], false, false⟩,
       ⟨(some 22), .bin .gtr (.tmp 21) (.const (.int .i64 1000000000000)), (some (19, false)), [], false, false⟩,
       ⟨(some 23), .pick (.tmp 19) (.const (.bool true)) (.tmp 22), none, [], false, false⟩,
       ⟨(some 3), .move (.tmp 23), none, [], false, false⟩])
    (.cond (.tmp 3) (.seq (.region false [⟨(some 2), .move (.const (.int .i64 2)), none, [], false, false⟩])
      (.ret))
     (.seq (.region false [⟨(some 25), .fieldAddr 0 (.tmp 1), none, [], false, false⟩,
         ⟨(some 26), .load false 1 (.tmp 25), none, [], false, false⟩,
         ⟨(some 27), .fieldAddr 1 (.tmp 1), none, [], false, false⟩,
         ⟨(some 28), .load false 1 (.tmp 27), none, [], false, false⟩,
         ⟨(some 29), .bin .geq (.tmp 26) (.tmp 28), none, [], false, false⟩,
         ⟨(some 24), .move (.tmp 29), none, [], false, false⟩])
      (.cond (.tmp 24) (.seq (.region false [⟨(some 2), .move (.const (.int .i64 9)), none, [], false, false⟩])
        (.ret))
       (.skip))))))
  (.seq (.region false [⟨(some 2), .move (.const (.int .i64 0)), none, [], false, false⟩])
   (.ret))),
 [.tmp 2], .pure, 30⟩

/-- agraffe/plate.checkLoads -/
def ef154 : EFun := ⟨
 .seq (.region false [⟨(some 6), .move (.const (.int .i64 0)), none, [], false, false⟩])
 (.seq (.seq (.region false [⟨(some 9), .move (.tmp 0), none, [], false, false⟩,
      ⟨(some 10), .len false (.tmp 9), none, [], false, false⟩,
      ⟨(some 11), .bin .gtr (.tmp 10) (.const (.int .i64 100)), none, [], false, false⟩])
   (.cond (.tmp 11) (.seq (.region false [⟨(some 6), .move (.const (.int .i64 8)), none, [], false, false⟩])
     (.ret))
    (.skip)))
  (.seq (.seq (.region false [⟨(some 12), .move (.tmp 0), none, [], false, false⟩,
       ⟨(some 13), .len false (.tmp 12), none, [], false, false⟩,
       ⟨(some 14), .move (.const (.int .i64 0)), none, [], false, false⟩])
    (.block 0 (.loop (some [1, 2, 12, 13, 14]) (
      .seq (.region false [⟨(some 15), .bin .lss (.tmp 14) (.tmp 13), none, [], false, false⟩])
       (.seq (.cond (.tmp 15) (.skip)
         (.exit 0))
        (.seq (.block 1 (.seq (.region false [⟨(some 16), .indexAddr none 2 (.tmp 12) (.tmp 14), none, [], false, false⟩,
              ⟨(some 17), .load true 2 (.tmp 16), none, [], false, false⟩,
              ⟨(some 8), .push [(.int .i64 0), (.int .i64 0)], none, [], false, false⟩,
              ⟨none, .store 2 (.tmp 8) (.tmp 17), none, [], false, false⟩])
           (.seq (.region false [⟨(some 18), .indexAddr (some 2) 1 (.tmp 8) (.const (.int .i64 0)), none, [], false, false⟩,
               ⟨(some 19), .load false 1 (.tmp 18), none, [], false, false⟩,
               ⟨(some 20), .move (.tmp 1), none, [], false, false⟩,
               ⟨(some 21), .bin .lss (.tmp 19) (.tmp 20), none, [], false, false⟩,
               ⟨(some 22), .move (.tmp 21), none, [], false, false⟩,
               ⟨(some 23), .indexAddr (some 2) 1 (.tmp 8) (.const (.int .i64 0)), (some (22, false)), [], false, false⟩,
               ⟨(some 24), .load false 1 (.tmp 23), (some (22, false)), [], false, false⟩,
               ⟨(some 25), .move (.tmp 2), (some (22, false)), [], false, false⟩,
               ⟨(some 26), .bin .gtr (.tmp 24) (.tmp 25), (some (22, false)), [], false, false⟩,
               ⟨(some 27), .pick (.tmp 22) (.const (.bool true)) (.tmp 26), none, [], false, false⟩,
               ⟨(some 28), .move (.tmp 27), none, [], false, false⟩,
               ⟨(some 29), .indexAddr (some 2) 1 (.tmp 8) (.const (.int .i64 1)), (some (28, false)), [], false, false⟩,
               ⟨(some 30), .load false 1 (.tmp 29), (some (28, false)), [], false, false⟩,
               ⟨(some 31), .call 159 [(.tmp 30), (.const (.int .i64 1000000))], (some (28, false)), [], false, false⟩,
               ⟨(some 32), .un .not (.tmp 31), (some (28, false)), [], false, false⟩,
               ⟨(some 33), .pick (.tmp 28) (.const (.bool true)) (.tmp 32), none, [], false, false⟩])
            (.cond (.tmp 33) (.seq (.region false [⟨(some 6), .move (.const (.int .i64 2)), none, [], false, false⟩])
              (.ret))
             (.skip)))))
         (.region false [⟨(some 34), .bin .add (.tmp 14) (.const (.int .i64 1)), none, [], false, false⟩,
            ⟨(some 14), .move (.tmp 34), none, [], false, false⟩])))))))
   (.seq (.region false [⟨(some 6), .move (.const (.int .i64 0)), none, [], false, false⟩])
    (.ret)))),
 [.tmp 6], .pure, 35⟩

/-- agraffe/plate.gcd -/
def ef155 : EFun := ⟨
 .seq (.region false [⟨(some 4), .move (.const (.int .i64 0)), none, [], false, false⟩])
 (.seq (.block 0 (.loop (some [0, 1]) (
    .seq (.seq (.region false [⟨(some 5), .move (.tmp 1), none, [], false, false⟩,
         ⟨(some 6), .bin .neq (.tmp 5) (.const (.int .i64 0)), none, [], false, false⟩])
      (.cond (.tmp 6) (.skip)
       (.exit 0)))
     (.block 1 (.region true [⟨(some 7), .move (.tmp 1), none, [], false, false⟩,
         ⟨(some 8), .move (.tmp 0), none, [], false, false⟩,
         ⟨(some 9), .move (.tmp 1), none, [], false, false⟩,
         ⟨(some 10), .bin .rem (.tmp 8) (.tmp 9), none, [], false, false⟩,
         ⟨(some 0), .move (.tmp 7), none, [], false, false⟩,
         ⟨(some 1), .move (.tmp 10), none, [], false, false⟩])))))
  (.seq (.region false [⟨(some 11), .move (.tmp 0), none, [], false, false⟩,
      ⟨(some 12), .move (.tmp 0), none, [], false, false⟩,
      ⟨(some 13), .un .neg (.tmp 12), none, [], false, false⟩,
      ⟨(some 14), .max [(.tmp 11), (.tmp 13)], none, [], false, false⟩,
      ⟨(some 4), .move (.tmp 14), none, [], false, false⟩])
   (.ret))),
 [.tmp 4], .pure, 15⟩

/-- (agraffe/plate.vector).cross -/
def ef156 : EFun := ⟨
 .seq (.region false [⟨(some 2), .box (.tmp 0), none, [], false, false⟩,
    ⟨(some 3), .box (.tmp 1), none, [], false, false⟩,
    ⟨(some 4), .push [(.int .i64 0), (.int .i64 0), (.int .i64 0)], none, [], false, false⟩])
 (.seq (.region false [⟨(some 5), .indexAddr (some 3) 1 (.tmp 2) (.const (.int .i64 1)), none, [], false, false⟩,
     ⟨(some 6), .load false 1 (.tmp 5), none, [], false, false⟩,
     ⟨(some 7), .indexAddr (some 3) 1 (.tmp 3) (.const (.int .i64 2)), none, [], false, false⟩,
     ⟨(some 8), .load false 1 (.tmp 7), none, [], false, false⟩,
     ⟨(some 9), .bin .mul (.tmp 6) (.tmp 8), none, [], false, false⟩,
     ⟨(some 10), .indexAddr (some 3) 1 (.tmp 2) (.const (.int .i64 2)), none, [], false, false⟩,
     ⟨(some 11), .load false 1 (.tmp 10), none, [], false, false⟩,
     ⟨(some 12), .indexAddr (some 3) 1 (.tmp 3) (.const (.int .i64 1)), none, [], false, false⟩,
     ⟨(some 13), .load false 1 (.tmp 12), none, [], false, false⟩,
     ⟨(some 14), .bin .mul (.tmp 11) (.tmp 13), none, [], false, false⟩,
     ⟨(some 15), .bin .sub (.tmp 9) (.tmp 14), none, [], false, false⟩,
     ⟨(some 16), .indexAddr (some 3) 1 (.tmp 2) (.const (.int .i64 2)), none, [], false, false⟩,
     ⟨(some 17), .load false 1 (.tmp 16), none, [], false, false⟩,
     ⟨(some 18), .indexAddr (some 3) 1 (.tmp 3) (.const (.int .i64 0)), none, [], false, false⟩,
     ⟨(some 19), .load false 1 (.tmp 18), none, [], false, false⟩,
     ⟨(some 20), .bin .mul (.tmp 17) (.tmp 19), none, [], false, false⟩,
     ⟨(some 21), .indexAddr (some 3) 1 (.tmp 2) (.const (.int .i64 0)), none, [], false, false⟩,
     ⟨(some 22), .load false 1 (.tmp 21), none, [], false, false⟩,
     ⟨(some 23), .indexAddr (some 3) 1 (.tmp 3) (.const (.int .i64 2)), none, [], false, false⟩,
     ⟨(some 24), .load false 1 (.tmp 23), none, [], false, false⟩,
     ⟨(some 25), .bin .mul (.tmp 22) (.tmp 24), none, [], false, false⟩,
     ⟨(some 26), .bin .sub (.tmp 20) (.tmp 25), none, [], false, false⟩,
     ⟨(some 27), .indexAddr (some 3) 1 (.tmp 2) (.const (.int .i64 0)), none, [], false, false⟩,
     ⟨(some 28), .load false 1 (.tmp 27), none, [], false, false⟩,
     ⟨(some 29), .indexAddr (some 3) 1 (.tmp 3) (.const (.int .i64 1)), none, [], false, false⟩,
     ⟨(some 30), .load false 1 (.tmp 29), none, [], false, false⟩,
     ⟨(some 31), .bin .mul (.tmp 28) (.tmp 30), none, [], false, false⟩,
     ⟨(some 32), .indexAddr (some 3) 1 (.tmp 2) (.const (.int .i64 1)), none, [], false, false⟩,
     ⟨(some 33), .load false 1 (.tmp 32), none, [], false, false⟩,
     ⟨(some 34), .indexAddr (some 3) 1 (.tmp 3) (.const (.int .i64 0)), none, [], false, false⟩,
     ⟨(some 35), .load false 1 (.tmp 34), none, [], false, false⟩,
     ⟨(some 36), .bin .mul (.tmp 33) (.tmp 35), none, [], false, false⟩,
     ⟨(some 37), .bin .sub (.tmp 31) (.tmp 36), none, [], false, false⟩,
     ⟨(some 38), .build [(.int .i64 0), (.int .i64 0), (.int .i64 0)] [(0, 1, (.tmp 15)), (1, 1, (.tmp 26)), (2, 1, (.tmp 37))], none, [], false, false⟩,
     ⟨none, .store 3 (.tmp 4) (.tmp 38), none, [], false, false⟩])
  (.ret)),
 [.cell 4 true 3], .pure, 39⟩

/-- slices.ContainsFunc[[]int,int] -/
def ef157 : EFun := ⟨
 .seq (.region false [⟨(some 4), .move (.const (.bool false)), none, [], false, false⟩])
 (.seq (.region false [⟨(some 5), .move (.tmp 0), none, [], false, false⟩,
     ⟨(some 6), .move (.tmp 1), none, [], false, false⟩,
     ⟨(some 7), .call 179 [(.tmp 5), (.tmp 6)], none, [], false, false⟩,
     ⟨(some 8), .bin .geq (.tmp 7) (.const (.int .i64 0)), none, [], false, false⟩,
     ⟨(some 4), .move (.tmp 8), none, [], false, false⟩])
  (.ret)),
 [.tmp 4], .pure, 9⟩

/-- (agraffe/plate.vector).all$1 -/
def ef158 : EFun := ⟨
 .seq (.region false [⟨(some 3), .move (.const (.bool false)), none, [], false, false⟩])
 (.seq (.region false [⟨(some 4), .move (.tmp 0), none, [], false, false⟩,
     ⟨(some 5), .load false 1 (.tmp 1), none, [], false, false⟩,
     ⟨(some 6), .call 159 [(.tmp 4), (.tmp 5)], none, [], false, false⟩,
     ⟨(some 7), .un .not (.tmp 6), none, [], false, false⟩,
     ⟨(some 3), .move (.tmp 7), none, [], false, false⟩])
  (.ret)),
 [.tmp 3], .pure, 8⟩

/-- agraffe/plate.within -/
def ef159 : EFun := ⟨
 .seq (.region false [⟨(some 4), .move (.const (.bool false)), none, [], false, false⟩])
 (.seq (.region false [⟨(some 5), .move (.tmp 0), none, [], false, false⟩,
     ⟨(some 6), .move (.tmp 1), none, [], false, false⟩,
     ⟨(some 7), .un .neg (.tmp 6), none, [], false, false⟩,
     ⟨(some 8), .bin .geq (.tmp 5) (.tmp 7), none, [], false, false⟩,
     ⟨(some 9), .move (.tmp 8), none, [], false, false⟩,
     ⟨(some 10), .move (.tmp 0), (some (9, true)), [], false, false⟩,
     ⟨(some 11), .move (.tmp 1), (some (9, true)), [], false, false⟩,
     ⟨(some 12), .bin .leq (.tmp 10) (.tmp 11), (some (9, true)), [], false, false⟩,
     ⟨(some 13), .pick (.tmp 9) (.tmp 12) (.const (.bool false)), none, [], false, false⟩,
     ⟨(some 4), .move (.tmp 13), none, [], false, false⟩])
  (.ret)),
 [.tmp 4], .pure, 14⟩

/-- agraffe/number.gcd -/
def ef164 : EFun := ⟨
 .seq (.region false [⟨(some 4), .move (.const (.int .i64 0)), none, [], false, false⟩])
 (.seq (.block 0 (.loop (some [0, 1]) (
    .seq (.seq (.region false [⟨(some 5), .move (.tmp 1), none, [], false, false⟩,
         ⟨(some 6), .bin .neq (.tmp 5) (.const (.int .i64 0)), none, [], false, false⟩])
      (.cond (.tmp 6) (.skip)
       (.exit 0)))
     (.block 1 (.region true [⟨(some 7), .move (.tmp 1), none, [], false, false⟩,
         ⟨(some 8), .move (.tmp 0), none, [], false, false⟩,
         ⟨(some 9), .move (.tmp 1), none, [], false, false⟩,
         ⟨(some 10), .bin .rem (.tmp 8) (.tmp 9), none, [], false, false⟩,
         ⟨(some 0), .move (.tmp 7), none, [], false, false⟩,
         ⟨(some 1), .move (.tmp 10), none, [], false, false⟩])))))
  (.seq (.seq (.region false [⟨(some 11), .move (.tmp 0), none, [], false, false⟩,
       ⟨(some 12), .bin .lss (.tmp 11) (.const (.int .i64 0)), none, [], false, false⟩])
    (.cond (.tmp 12) (.seq (.region false [⟨(some 13), .move (.tmp 0), none, [], false, false⟩,
         ⟨(some 14), .un .neg (.tmp 13), none, [], false, false⟩,
         ⟨(some 4), .move (.tmp 14), none, [], false, false⟩])
      (.ret))
     (.skip)))
   (.seq (.region false [⟨(some 15), .move (.tmp 0), none, [], false, false⟩,
       ⟨(some 4), .move (.tmp 15), none, [], false, false⟩])
    (.ret)))),
 [.tmp 4], .pure, 16⟩

/-- math/bits.Mul64 -/
def ef165 : EFun := ⟨
 .seq (.region false [⟨(some 4), .move (.const (.int .u64 0)), none, [], false, false⟩,
    ⟨(some 5), .move (.const (.int .u64 0)), none, [], false, false⟩])
 (.seq (.region false [⟨(some 14), .move (.tmp 0), none, [], false, false⟩,
     ⟨(some 15), .bin .and (.tmp 14) (.const (.int .u64 4294967295)), none, [], false, false⟩,
     ⟨(some 6), .move (.tmp 15), none, [], false, false⟩])
  (.seq (.region false [⟨(some 16), .move (.tmp 0), none, [], false, false⟩,
      ⟨(some 17), .bin .shr (.tmp 16) (.const (.int .u64 32)), none, [], false, false⟩,
      ⟨(some 7), .move (.tmp 17), none, [], false, false⟩])
   (.seq (.region false [⟨(some 18), .move (.tmp 1), none, [], false, false⟩,
       ⟨(some 19), .bin .and (.tmp 18) (.const (.int .u64 4294967295)), none, [], false, false⟩,
       ⟨(some 8), .move (.tmp 19), none, [], false, false⟩])
    (.seq (.region false [⟨(some 20), .move (.tmp 1), none, [], false, false⟩,
        ⟨(some 21), .bin .shr (.tmp 20) (.const (.int .u64 32)), none, [], false, false⟩,
        ⟨(some 9), .move (.tmp 21), none, [], false, false⟩])
     (.seq (.region false [⟨(some 22), .move (.tmp 6), none, [], false, false⟩,
         ⟨(some 23), .move (.tmp 8), none, [], false, false⟩,
         ⟨(some 24), .bin .mul (.tmp 22) (.tmp 23), none, [], false, false⟩,
         ⟨(some 10), .move (.tmp 24), none, [], false, false⟩])
      (.seq (.region false [⟨(some 25), .move (.tmp 7), none, [], false, false⟩,
          ⟨(some 26), .move (.tmp 8), none, [], false, false⟩,
          ⟨(some 27), .bin .mul (.tmp 25) (.tmp 26), none, [], false, false⟩,
          ⟨(some 28), .move (.tmp 10), none, [], false, false⟩,
          ⟨(some 29), .bin .shr (.tmp 28) (.const (.int .u64 32)), none, [], false, false⟩,
          ⟨(some 30), .bin .add (.tmp 27) (.tmp 29), none, [], false, false⟩,
          ⟨(some 11), .move (.tmp 30), none, [], false, false⟩])
       (.seq (.region false [⟨(some 31), .move (.tmp 11), none, [], false, false⟩,
           ⟨(some 32), .bin .and (.tmp 31) (.const (.int .u64 4294967295)), none, [], false, false⟩,
           ⟨(some 12), .move (.tmp 32), none, [], false, false⟩])
        (.seq (.region false [⟨(some 33), .move (.tmp 11), none, [], false, false⟩,
            ⟨(some 34), .bin .shr (.tmp 33) (.const (.int .u64 32)), none, [], false, false⟩,
            ⟨(some 13), .move (.tmp 34), none, [], false, false⟩])
         (.seq (.region false [⟨(some 35), .move (.tmp 12), none, [], false, false⟩,
             ⟨(some 36), .move (.tmp 6), none, [], false, false⟩,
             ⟨(some 37), .move (.tmp 9), none, [], false, false⟩,
             ⟨(some 38), .bin .mul (.tmp 36) (.tmp 37), none, [], false, false⟩,
             ⟨(some 39), .bin .add (.tmp 35) (.tmp 38), none, [], false, false⟩,
             ⟨(some 12), .move (.tmp 39), none, [], false, false⟩])
          (.seq (.region false [⟨(some 40), .move (.tmp 7), none, [], false, false⟩,
              ⟨(some 41), .move (.tmp 9), none, [], false, false⟩,
              ⟨(some 42), .bin .mul (.tmp 40) (.tmp 41), none, [], false, false⟩,
              ⟨(some 43), .move (.tmp 13), none, [], false, false⟩,
              ⟨(some 44), .bin .add (.tmp 42) (.tmp 43), none, [], false, false⟩,
              ⟨(some 45), .move (.tmp 12), none, [], false, false⟩,
              ⟨(some 46), .bin .shr (.tmp 45) (.const (.int .u64 32)), none, [], false, false⟩,
              ⟨(some 47), .bin .add (.tmp 44) (.tmp 46), none, [], false, false⟩,
              ⟨(some 4), .move (.tmp 47), none, [], false, false⟩])
           (.seq (.region false [⟨(some 48), .move (.tmp 0), none, [], false, false⟩,
               ⟨(some 49), .move (.tmp 1), none, [], false, false⟩,
               ⟨(some 50), .bin .mul (.tmp 48) (.tmp 49), none, [], false, false⟩,
               ⟨(some 5), .move (.tmp 50), none, [], false, false⟩])
            (.ret)))))))))))),
 [.tmp 4, .tmp 5], .pure, 51⟩

/-- (agraffe/number.natural).times -/
def ef166 : EFun := ⟨
 .seq (.region false [⟨(some 4), .move (.const (.slice none 0 0)), none, [], false, false⟩])
 (.seq (.region false [⟨(some 13), .move (.tmp 0), none, [], false, false⟩,
     ⟨(some 14), .len false (.tmp 13), none, [], false, false⟩,
     ⟨(some 15), .bin .add (.tmp 14) (.const (.int .i64 1)), none, [], false, false⟩,
     ⟨(some 16), .makeSlice 1 8 [(.int .u64 0)] (.const (.int .i64 0)) (.tmp 15), none, [], false, false⟩,
     ⟨(some 5), .move (.tmp 16), none, [], false, false⟩])
  (.seq (.region false [⟨(some 6), .move (.const (.int .u64 0)), none, [], false, false⟩])
   (.seq (.seq (.region false [⟨(some 17), .move (.tmp 0), none, [], false, false⟩,
        ⟨(some 18), .len false (.tmp 17), none, [], false, false⟩,
        ⟨(some 19), .move (.const (.int .i64 0)), none, [], false, false⟩])
     (.block 0 (.loop (some [1, 5, 6, 17, 18, 19]) (
       .seq (.region false [⟨(some 20), .bin .lss (.tmp 19) (.tmp 18), none, [], false, false⟩])
        (.seq (.cond (.tmp 20) (.skip)
          (.exit 0))
         (.seq (.block 1 (.seq (.region false [⟨(some 21), .indexAddr none 1 (.tmp 17) (.tmp 19), none, [], false, false⟩,
               ⟨(some 22), .load false 1 (.tmp 21), none, [], false, false⟩,
               ⟨(some 8), .move (.tmp 22), none, [], false, false⟩])
            (.seq (.region false [⟨(some 24), .move (.tmp 8), none, [], false, false⟩,
                ⟨(some 25), .move (.tmp 1), none, [], false, false⟩,
                ⟨(some 26), .call 165 [(.tmp 24), (.tmp 25)], none, [], false, false⟩,
                ⟨(some 23), .move (.tmp 26), none, [], false, false⟩,
                ⟨(some 27), .extract (.tmp 23) 0, none, [], false, false⟩,
                ⟨(some 28), .extract (.tmp 23) 1, none, [], false, false⟩,
                ⟨(some 9), .move (.tmp 27), none, [], false, false⟩,
                ⟨(some 10), .move (.tmp 28), none, [], false, false⟩])
             (.seq (.region false [⟨(some 30), .move (.tmp 10), none, [], false, false⟩,
                 ⟨(some 31), .move (.tmp 6), none, [], false, false⟩,
                 ⟨(some 32), .add64 (.tmp 30) (.tmp 31) (.const (.int .u64 0)), none, [], false, false⟩,
                 ⟨(some 29), .move (.tmp 32), none, [], false, false⟩,
                 ⟨(some 33), .extract (.tmp 29) 0, none, [], false, false⟩,
                 ⟨(some 34), .extract (.tmp 29) 1, none, [], false, false⟩,
                 ⟨(some 11), .move (.tmp 33), none, [], false, false⟩,
                 ⟨(some 12), .move (.tmp 34), none, [], false, false⟩])
              (.seq (.region false [⟨(some 35), .move (.tmp 5), none, [], false, false⟩,
                  ⟨(some 36), .move (.tmp 11), none, [], false, false⟩,
                  ⟨(some 37), .buildSlice 1 1 [(.int .u64 0)] [(0, 1, (.tmp 36))], none, [], false, false⟩,
                  ⟨(some 38), .append 1 8 (.tmp 35) (.tmp 37), none, [], false, false⟩,
                  ⟨(some 5), .move (.tmp 38), none, [], false, false⟩])
               (.region false [⟨(some 39), .move (.tmp 9), none, [], false, false⟩,
                  ⟨(some 40), .move (.tmp 12), none, [], false, false⟩,
                  ⟨(some 41), .bin .add (.tmp 39) (.tmp 40), none, [], false, false⟩,
                  ⟨(some 6), .move (.tmp 41), none, [], false, false⟩]))))))
          (.region false [⟨(some 42), .bin .add (.tmp 19) (.const (.int .i64 1)), none, [], false, false⟩,
             ⟨(some 19), .move (.tmp 42), none, [], false, false⟩])))))))
    (.seq (.seq (.region false [⟨(some 43), .move (.tmp 6), none, [], false, false⟩,
         ⟨(some 44), .bin .gtr (.tmp 43) (.const (.int .u64 0)), none, [], false, false⟩])
      (.cond (.tmp 44) (.region false [⟨(some 45), .move (.tmp 5), none, [], false, false⟩,
          ⟨(some 46), .move (.tmp 6), none, [], false, false⟩,
          ⟨(some 47), .buildSlice 1 1 [(.int .u64 0)] [(0, 1, (.tmp 46))], none, [], false, false⟩,
          ⟨(some 48), .append 1 8 (.tmp 45) (.tmp 47), none, [], false, false⟩,
          ⟨(some 5), .move (.tmp 48), none, [], false, false⟩])
       (.skip)))
     (.seq (.region false [⟨(some 49), .move (.tmp 5), none, [], false, false⟩,
         ⟨(some 4), .move (.tmp 49), none, [], false, false⟩])
      (.ret)))))),
 [.tmp 4], .pure, 50⟩

/-- agraffe/number.CheckRange -/
def ef167 : EFun := ⟨
 .seq (.region false [⟨(some 1), .box (.tmp 0), none, [], false, false⟩,
    ⟨(some 2), .move (.const (.int .i64 0)), none, [], false, false⟩])
 (.seq (.block 0 (.seq (.region false [⟨(some 4), .fieldAddr 0 (.tmp 1), none, [], false, false⟩,
       ⟨(some 5), .load false 1 (.tmp 4), none, [], false, false⟩,
       ⟨(some 6), .call 121 [(.tmp 5), (.const (.int .i64 (-1000000000000000))), (.const (.int .i64 1000000000000000))], none, [], false, false⟩,
       ⟨(some 7), .un .not (.tmp 6), none, [], false, false⟩,
       ⟨(some 8), .move (.tmp 7), none, [], false, false⟩,
       ⟨(some 9), .fieldAddr 1 (.tmp 1), (some (8, false)), [], false, false⟩,
       ⟨(some 10), .load false 1 (.tmp 9), (some (8, false)), [], false, false⟩,
       ⟨(some 11), .call 121 [(.tmp 10), (.const (.int .i64 (-1000000000000000))), (.const (.int .i64 1000000000000000))], (some (8, false)), [], false, false⟩,
       ⟨(some 12), .un .not (.tmp 11), (some (8, false)), [], false, false⟩,
       ⟨(some 13), .pick (.tmp 8) (.const (.bool true)) (.tmp 12), none, [], false, false⟩,
       ⟨(some 3), .move (.tmp 13), none, [], false, false⟩])
    (.cond (.tmp 3) (.seq (.region false [⟨(some 2), .move (.const (.int .i64 2)), none, [], false, false⟩])
      (.ret))
     (.seq (.region false [⟨(some 15), .fieldAddr 0 (.tmp 1), none, [], false, false⟩,
         ⟨(some 16), .load false 1 (.tmp 15), none, [], false, false⟩,
         ⟨(some 17), .fieldAddr 1 (.tmp 1), none, [], false, false⟩,
         ⟨(some 18), .load false 1 (.tmp 17), none, [], false, false⟩,
         ⟨(some 19), .bin .gtr (.tmp 16) (.tmp 18), none, [], false, false⟩,
         ⟨(some 14), .move (.tmp 19), none, [], false, false⟩])
      (.cond (.tmp 14) (.seq (.region false [⟨(some 2), .move (.const (.int .i64 9)), none, [], false, false⟩])
        (.ret))
       (.skip))))))
  (.seq (.region false [⟨(some 2), .move (.const (.int .i64 0)), none, [], false, false⟩])
   (.ret))),
 [.tmp 2], .pure, 20⟩

/-- slices.IndexFunc[[]agraffe/api.Wire,agraffe/api.Wire] -/
def ef176 : EFun := ⟨
 .seq (.region false [⟨(some 4), .move (.const (.int .i64 0)), none, [], false, false⟩])
 (.seq (.seq (.region false [⟨(some 6), .move (.tmp 0), none, [], false, false⟩,
      ⟨(some 7), .len false (.tmp 6), none, [], false, false⟩,
      ⟨(some 8), .move (.const (.int .i64 0)), none, [], false, false⟩])
   (.block 0 (.loop (some [0, 1, 7, 8]) (
     .seq (.region false [⟨(some 9), .bin .lss (.tmp 8) (.tmp 7), none, [], false, false⟩])
      (.seq (.cond (.tmp 9) (.skip)
        (.exit 0))
       (.seq (.block 1 (.seq (.region false [⟨(some 10), .move (.tmp 8), none, [], false, false⟩,
             ⟨(some 5), .move (.tmp 10), none, [], false, false⟩])
          (.seq (.region false [⟨(some 11), .move (.tmp 1), none, [], false, false⟩,
              ⟨(some 12), .move (.tmp 0), none, [], false, false⟩,
              ⟨(some 13), .move (.tmp 5), none, [], false, false⟩,
              ⟨(some 14), .indexAddr none 4 (.tmp 12) (.tmp 13), none, [], false, false⟩,
              ⟨(some 15), .load true 4 (.tmp 14), none, [], false, false⟩,
              ⟨(some 16), .callVal (.tmp 11) [(.tmp 15)], none, [], false, false⟩])
           (.cond (.tmp 16) (.seq (.region false [⟨(some 17), .move (.tmp 5), none, [], false, false⟩,
                ⟨(some 4), .move (.tmp 17), none, [], false, false⟩])
             (.ret))
            (.skip)))))
        (.region false [⟨(some 18), .bin .add (.tmp 8) (.const (.int .i64 1)), none, [], false, false⟩,
           ⟨(some 8), .move (.tmp 18), none, [], false, false⟩])))))))
  (.seq (.region false [⟨(some 4), .move (.const (.int .i64 (-1))), none, [], false, false⟩])
   (.ret))),
 [.tmp 4], .pure, 19⟩

/-- agraffe/scale.wire$1 -/
def ef177 : EFun := ⟨
 .seq (.region false [⟨(some 2), .box (.tmp 0), none, [], false, false⟩,
    ⟨(some 3), .move (.const (.bool false)), none, [], false, false⟩])
 (.seq (.region false [⟨(some 4), .fieldAddr 0 (.tmp 2), none, [], false, false⟩,
     ⟨(some 5), .load false 1 (.tmp 4), none, [], false, false⟩,
     ⟨(some 6), .load false 1 (.tmp 1), none, [], false, false⟩,
     ⟨(some 7), .bin .eql (.tmp 5) (.tmp 6), none, [], false, false⟩,
     ⟨(some 3), .move (.tmp 7), none, [], false, false⟩])
  (.ret)),
 [.tmp 3], .pure, 8⟩

/-- slices.IndexFunc[[]int,int] -/
def ef179 : EFun := ⟨
 .seq (.region false [⟨(some 4), .move (.const (.int .i64 0)), none, [], false, false⟩])
 (.seq (.seq (.region false [⟨(some 6), .move (.tmp 0), none, [], false, false⟩,
      ⟨(some 7), .len false (.tmp 6), none, [], false, false⟩,
      ⟨(some 8), .move (.const (.int .i64 0)), none, [], false, false⟩])
   (.block 0 (.loop (some [0, 1, 7, 8]) (
     .seq (.region false [⟨(some 9), .bin .lss (.tmp 8) (.tmp 7), none, [], false, false⟩])
      (.seq (.cond (.tmp 9) (.skip)
        (.exit 0))
       (.seq (.block 1 (.seq (.region false [⟨(some 10), .move (.tmp 8), none, [], false, false⟩,
             ⟨(some 5), .move (.tmp 10), none, [], false, false⟩])
          (.seq (.region false [⟨(some 11), .move (.tmp 1), none, [], false, false⟩,
              ⟨(some 12), .move (.tmp 0), none, [], false, false⟩,
              ⟨(some 13), .move (.tmp 5), none, [], false, false⟩,
              ⟨(some 14), .indexAddr none 1 (.tmp 12) (.tmp 13), none, [], false, false⟩,
              ⟨(some 15), .load false 1 (.tmp 14), none, [], false, false⟩,
              ⟨(some 16), .callVal (.tmp 11) [(.tmp 15)], none, [], false, false⟩])
           (.cond (.tmp 16) (.seq (.region false [⟨(some 17), .move (.tmp 5), none, [], false, false⟩,
                ⟨(some 4), .move (.tmp 17), none, [], false, false⟩])
             (.ret))
            (.skip)))))
        (.region false [⟨(some 18), .bin .add (.tmp 8) (.const (.int .i64 1)), none, [], false, false⟩,
           ⟨(some 8), .move (.tmp 18), none, [], false, false⟩])))))))
  (.seq (.region false [⟨(some 4), .move (.const (.int .i64 (-1))), none, [], false, false⟩])
   (.ret))),
 [.tmp 4], .pure, 19⟩

end Go.Abs.X
