/- The functions, compiled for the abstract evaluator. Written by wip/abs/Print.lean. -/
import Derived.Test.YtodofkolnmoliaaDoorAbsX0
set_option linter.unusedSimpArgs false
set_option linter.unusedVariables false
set_option maxRecDepth 100000
set_option maxHeartbeats 0
namespace Go.Abs.X
open Go Go.Abs
/-- agraffe/agraffebase.Abs -/
def ef55 : EFun := ⟨
 .seq (.region false [⟨(some 2), .move (.const (.int .i64 0)), none, [], false, false⟩])
 (.seq (.seq (.region false [⟨(some 3), .move (.tmp 0), none, [], false, false⟩,
      ⟨(some 4), .bin .lss (.tmp 3) (.const (.int .i64 0)), none, [], false, false⟩])
   (.cond (.tmp 4) (.seq (.region false [⟨(some 5), .move (.tmp 0), none, [], false, false⟩,
        ⟨(some 6), .un .neg (.tmp 5), none, [], false, false⟩,
        ⟨(some 2), .move (.tmp 6), none, [], false, false⟩])
     (.ret))
    (.skip)))
  (.seq (.region false [⟨(some 7), .move (.tmp 0), none, [], false, false⟩,
      ⟨(some 2), .move (.tmp 7), none, [], false, false⟩])
   (.ret))),
 [.tmp 2], .pure, 8⟩

/-- agraffe/agrafferef02.CheckGauges -/
def ef56 : EFun := ⟨
 .seq (.region false [⟨(some 2), .move (.const (.int .i64 0)), none, [], false, false⟩])
 (.seq (.seq (.region false [⟨(some 4), .move (.tmp 0), none, [], false, false⟩,
      ⟨(some 5), .len false (.tmp 4), none, [], false, false⟩,
      ⟨(some 6), .bin .eql (.tmp 5) (.const (.int .i64 0)), none, [], false, false⟩,
      ⟨(some 7), .move (.tmp 6), none, [], false, false⟩,
      ⟨(some 8), .move (.tmp 0), (some (7, false)), [], false, false⟩,
      ⟨(some 9), .len false (.tmp 8), (some (7, false)), [], false, false⟩,
      ⟨(some 10), .bin .gtr (.tmp 9) (.const (.int .i64 20)), (some (7, false)), [], false, false⟩,
      ⟨(some 11), .pick (.tmp 7) (.const (.bool true)) (.tmp 10), none, [], false, false⟩])
   (.cond (.tmp 11) (.seq (.region false [⟨(some 2), .move (.const (.int .i64 8)), none, [], false, false⟩])
     (.ret))
    (.skip)))
  (.seq (.seq (.region false [⟨(some 3), .move (.const (.int .i64 0)), none, [], false, false⟩])
    (.block 0 (.loop (some [0, 3]) (
      .seq (.seq (.region false [⟨(some 12), .move (.tmp 3), none, [], false, false⟩,
           ⟨(some 13), .move (.tmp 0), none, [], false, false⟩,
           ⟨(some 14), .len false (.tmp 13), none, [], false, false⟩,
           ⟨(some 15), .bin .lss (.tmp 12) (.tmp 14), none, [], false, false⟩])
        (.cond (.tmp 15) (.skip)
         (.exit 0)))
       (.seq (.block 1 (.seq (.seq (.region false [⟨(some 18), .move (.tmp 0), none, [], false, false⟩,
              ⟨(some 19), .move (.tmp 3), none, [], false, false⟩,
              ⟨(some 20), .indexAddr none 1 (.tmp 18) (.tmp 19), none, [], false, false⟩,
              ⟨(some 21), .load false 1 (.tmp 20), none, [], false, false⟩,
              ⟨(some 22), .call 18 [(.tmp 21), (.const (.int .i64 100)), (.const (.int .i64 3000))], none, [], false, false⟩,
              ⟨(some 23), .un .not (.tmp 22), none, [], false, false⟩])
           (.cond (.tmp 23) (.seq (.region false [⟨(some 2), .move (.const (.int .i64 2)), none, [], false, false⟩])
             (.ret))
            (.skip)))
          (.seq (.region true [⟨(some 24), .move (.tmp 3), none, [], false, false⟩,
              ⟨(some 25), .bin .gtr (.tmp 24) (.const (.int .i64 0)), none, [], false, false⟩,
              ⟨(some 26), .move (.tmp 25), none, [], false, false⟩,
              ⟨(some 27), .move (.tmp 0), (some (26, true)), [], false, false⟩,
              ⟨(some 28), .move (.tmp 3), (some (26, true)), [], false, false⟩,
              ⟨(some 29), .bin .sub (.tmp 28) (.const (.int .i64 1)), (some (26, true)), [], false, false⟩,
              ⟨(some 30), .indexAddr none 1 (.tmp 27) (.tmp 29), (some (26, true)), [], false, false⟩,
              ⟨(some 31), .load false 1 (.tmp 30), (some (26, true)), [], false, false⟩,
              ⟨(some 32), .move (.tmp 0), (some (26, true)), [], false, false⟩,
              ⟨(some 33), .move (.tmp 3), (some (26, true)), [], false, false⟩,
              ⟨(some 34), .indexAddr none 1 (.tmp 32) (.tmp 33), (some (26, true)), [], false, false⟩,
              ⟨(some 35), .load false 1 (.tmp 34), (some (26, true)), [], false, false⟩,
              ⟨(some 36), .bin .geq (.tmp 31) (.tmp 35), (some (26, true)), [], false, false⟩,
              ⟨(some 37), .pick (.tmp 26) (.tmp 36) (.const (.bool false)), none, [], false, false⟩])
           (.cond (.tmp 37) (.seq (.region false [⟨(some 2), .move (.const (.int .i64 9)), none, [], false, false⟩])
             (.ret))
            (.skip)))))
        (.region false [⟨(some 16), .move (.tmp 3), none, [], false, false⟩,
           ⟨(some 17), .bin .add (.tmp 16) (.const (.int .i64 1)), none, [], false, false⟩,
           ⟨(some 3), .move (.tmp 17), none, [], false, false⟩]))))))
   (.seq (.region false [⟨(some 2), .move (.const (.int .i64 0)), none, [], false, false⟩])
    (.ret)))),
 [.tmp 2], .pure, 38⟩

/-- agraffe/number.Enclose -/
def ef57 : EFun := ⟨
 .seq (.region false [⟨(some 2), .box (.tmp 0), none, [], false, false⟩,
    ⟨(some 4), .push [(.int .i64 0), (.int .i64 0)], none, [], false, false⟩,
    ⟨(some 5), .move (.const (.int .i64 0)), none, [], false, false⟩])
 (.seq (.seq (.region false [⟨(some 13), .load true 4 (.tmp 2), none, [], false, false⟩,
      ⟨(some 14), .call 120 [(.tmp 13)], none, [], false, false⟩,
      ⟨(some 6), .move (.tmp 14), none, [], false, false⟩])
   (.seq (.region false [⟨(some 15), .move (.tmp 6), none, [], false, false⟩,
       ⟨(some 16), .bin .neq (.tmp 15) (.const (.int .i64 0)), none, [], false, false⟩])
    (.cond (.tmp 16) (.seq (.region false [⟨(some 17), .build [(.int .i64 0), (.int .i64 0)] [], none, [], false, false⟩,
         ⟨(some 18), .move (.tmp 6), none, [], false, false⟩,
         ⟨none, .store 2 (.tmp 4) (.tmp 17), none, [], false, false⟩,
         ⟨(some 5), .move (.tmp 18), none, [], false, false⟩])
      (.ret))
     (.skip))))
  (.seq (.seq (.region false [⟨(some 19), .move (.tmp 1), none, [], false, false⟩,
       ⟨(some 20), .call 121 [(.tmp 19), (.const (.int .i64 1)), (.const (.int .i64 1000000000))], none, [], false, false⟩,
       ⟨(some 21), .un .not (.tmp 20), none, [], false, false⟩])
    (.cond (.tmp 21) (.seq (.region false [⟨(some 22), .build [(.int .i64 0), (.int .i64 0)] [], none, [], false, false⟩,
         ⟨none, .store 2 (.tmp 4) (.tmp 22), none, [], false, false⟩,
         ⟨(some 5), .move (.const (.int .i64 2)), none, [], false, false⟩])
      (.ret))
     (.skip)))
   (.seq (.region false [⟨(some 23), .load true 4 (.tmp 2), none, [], false, false⟩,
       ⟨(some 24), .call 122 [(.tmp 23)], none, [], false, false⟩,
       ⟨none, .store 4 (.tmp 2) (.tmp 24), none, [], false, false⟩])
    (.seq (.region false [⟨(some 25), .load true 4 (.tmp 2), none, [], false, false⟩,
        ⟨(some 26), .call 124 [(.tmp 25)], none, [], false, false⟩,
        ⟨(some 27), .call 123 [(.tmp 26)], none, [], false, false⟩,
        ⟨(some 7), .push [(.slice none 0 0), (.slice none 0 0)], none, [], false, false⟩,
        ⟨none, .store 2 (.tmp 7) (.tmp 27), none, [], false, false⟩])
     (.seq (.region false [⟨(some 28), .move (.tmp 1), none, [], false, false⟩,
         ⟨(some 29), .conv .u64 (.tmp 28), none, [], false, false⟩,
         ⟨(some 30), .fieldAddr 3 (.tmp 2), none, [], false, false⟩,
         ⟨(some 31), .load false 1 (.tmp 30), none, [], false, false⟩,
         ⟨(some 32), .fieldAddr 0 (.tmp 7), none, [], false, false⟩,
         ⟨(some 33), .load false 1 (.tmp 32), none, [], false, false⟩,
         ⟨(some 34), .call 125 [(.tmp 29), (.tmp 31), (.tmp 33)], none, [], false, false⟩,
         ⟨(some 35), .fieldAddr 0 (.tmp 7), none, [], false, false⟩,
         ⟨none, .store 1 (.tmp 35) (.tmp 34), none, [], false, false⟩])
      (.seq (.region false [⟨(some 36), .makeFunc (.func 126) [(.tmp 2), (.tmp 7)], none, [], false, false⟩,
          ⟨(some 8), .move (.tmp 36), none, [], false, false⟩])
       (.seq (.region false [⟨(some 9), .move (.const (.int .i64 0)), none, [], false, false⟩,
           ⟨(some 10), .move (.const (.int .i64 1000000000000001)), none, [], false, false⟩])
        (.seq (.block 0 (.loop (some [4, 8, 9, 10]) (
           .seq (.seq (.region false [⟨(some 37), .move (.tmp 9), none, [], false, false⟩,
                ⟨(some 38), .move (.tmp 10), none, [], false, false⟩,
                ⟨(some 39), .bin .lss (.tmp 37) (.tmp 38), none, [], false, false⟩])
             (.cond (.tmp 39) (.skip)
              (.exit 0)))
            (.block 1 (.seq (.region false [⟨(some 40), .move (.tmp 10), none, [], false, false⟩,
                 ⟨(some 41), .move (.tmp 10), none, [], false, false⟩,
                 ⟨(some 42), .move (.tmp 9), none, [], false, false⟩,
                 ⟨(some 43), .bin .sub (.tmp 41) (.tmp 42), none, [], false, false⟩,
                 ⟨(some 44), .bin .quo (.tmp 43) (.const (.int .i64 2)), none, [], false, false⟩,
                 ⟨(some 45), .bin .sub (.tmp 40) (.tmp 44), none, [], false, false⟩,
                 ⟨(some 11), .move (.tmp 45), none, [], false, false⟩])
              (.seq (.region false [⟨(some 46), .move (.tmp 8), none, [], false, false⟩,
                  ⟨(some 47), .move (.tmp 11), none, [], false, false⟩,
                  ⟨(some 48), .callVal (.tmp 46) [(.tmp 47)], none, [], false, false⟩,
                  ⟨(some 49), .bin .leq (.tmp 48) (.const (.int .i64 0)), none, [], false, false⟩])
               (.cond (.tmp 49) (.region false [⟨(some 50), .move (.tmp 11), none, [], false, false⟩,
                   ⟨(some 9), .move (.tmp 50), none, [], false, false⟩])
                (.region false [⟨(some 51), .move (.tmp 11), none, [], false, false⟩,
                   ⟨(some 52), .bin .sub (.tmp 51) (.const (.int .i64 1)), none, [], false, false⟩,
                   ⟨(some 10), .move (.tmp 52), none, [], false, false⟩]))))))))
         (.seq (.region false [⟨(some 53), .move (.tmp 9), none, [], false, false⟩,
             ⟨(some 54), .move (.tmp 9), none, [], false, false⟩,
             ⟨(some 55), .build [(.int .i64 0), (.int .i64 0)] [(0, 1, (.tmp 53)), (1, 1, (.tmp 54))], none, [], false, false⟩,
             ⟨(some 12), .push [(.int .i64 0), (.int .i64 0)], none, [], false, false⟩,
             ⟨none, .store 2 (.tmp 12) (.tmp 55), none, [], false, false⟩])
          (.seq (.seq (.region false [⟨(some 56), .move (.tmp 9), none, [], false, false⟩,
               ⟨(some 57), .bin .eql (.tmp 56) (.const (.int .i64 0)), none, [], false, false⟩,
               ⟨(some 58), .move (.tmp 57), none, [], false, false⟩,
               ⟨(some 59), .move (.tmp 8), (some (58, false)), [], false, false⟩,
               ⟨(some 60), .move (.tmp 9), (some (58, false)), [], false, false⟩,
               ⟨(some 61), .callVal (.tmp 59) [(.tmp 60)], (some (58, false)), [], false, false⟩,
               ⟨(some 62), .bin .neq (.tmp 61) (.const (.int .i64 0)), (some (58, false)), [], false, false⟩,
               ⟨(some 63), .pick (.tmp 58) (.const (.bool true)) (.tmp 62), none, [], false, false⟩])
            (.cond (.tmp 63) (.region false [⟨(some 64), .fieldAddr 1 (.tmp 12), none, [], false, false⟩,
                ⟨(some 65), .load false 1 (.tmp 64), none, [], false, false⟩,
                ⟨(some 66), .bin .add (.tmp 65) (.const (.int .i64 1)), none, [], false, false⟩,
                ⟨(some 67), .fieldAddr 1 (.tmp 12), none, [], false, false⟩,
                ⟨none, .store 1 (.tmp 67) (.tmp 66), none, [], false, false⟩])
             (.skip)))
           (.seq (.region false [⟨(some 68), .load true 2 (.tmp 12), none, [], false, false⟩,
               ⟨(some 69), .call 128 [(.tmp 68)], none, [], false, false⟩,
               ⟨(some 70), .extract (.tmp 69) 0, none, [], false, false⟩,
               ⟨(some 71), .extract (.tmp 69) 1, none, [], false, false⟩,
               ⟨none, .store 2 (.tmp 4) (.tmp 70), none, [], false, false⟩,
               ⟨(some 5), .move (.tmp 71), none, [], false, false⟩])
            (.ret)))))))))))),
 [.cell 4 true 2, .tmp 5], .pure, 72⟩

/-- agraffe/scale.Tension -/
def ef58 : EFun := ⟨
 .seq (.region false [⟨(some 4), .box (.tmp 1), none, [], false, false⟩,
    ⟨(some 5), .box (.tmp 2), none, [], false, false⟩,
    ⟨(some 6), .push [(.int .i64 0), (.int .i64 0)], none, [], false, false⟩,
    ⟨(some 7), .move (.const (.int .i64 0)), none, [], false, false⟩])
 (.seq (.region false [⟨(some 11), .move (.tmp 0), none, [], false, false⟩,
     ⟨(some 12), .load true 5 (.tmp 4), none, [], false, false⟩,
     ⟨(some 13), .load true 2 (.tmp 5), none, [], false, false⟩,
     ⟨(some 14), .call 129 [(.tmp 11), (.tmp 12), (.tmp 13)], none, [], false, false⟩,
     ⟨(some 10), .move (.tmp 14), none, [], false, false⟩,
     ⟨(some 15), .extract (.tmp 10) 0, none, [], false, false⟩,
     ⟨(some 16), .extract (.tmp 10) 1, none, [], false, false⟩,
     ⟨(some 8), .push [(.string ⟨#[]⟩), (.int .i64 0), (.int .i64 0), (.int .i64 0), (.int .i64 0), (.int .i64 0), (.int .i64 0), (.string ⟨#[]⟩), (.string ⟨#[]⟩), (.int .i64 0), (.int .i64 0), (.int .i64 0), (.int .i64 0)], none, [], false, false⟩,
     ⟨none, .store 13 (.tmp 8) (.tmp 15), none, [], false, false⟩,
     ⟨(some 9), .move (.tmp 16), none, [], false, false⟩])
  (.seq (.region false [⟨(some 17), .fieldAddr 11 (.tmp 8), none, [], false, false⟩,
      ⟨(some 18), .load true 2 (.tmp 17), none, [], false, false⟩,
      ⟨(some 19), .move (.tmp 9), none, [], false, false⟩,
      ⟨none, .store 2 (.tmp 6) (.tmp 18), none, [], false, false⟩,
      ⟨(some 7), .move (.tmp 19), none, [], false, false⟩])
   (.ret))),
 [.cell 6 true 2, .tmp 7], .pure, 20⟩

/-- agraffe/agraffelaw02.Steel -/
def ef60 : EFun := ⟨
 .seq (.region false [⟨(some 0), .move (.const (.slice none 0 0)), none, [], false, false⟩])
 (.seq (.region false [⟨(some 1), .build [(.string ⟨#[]⟩), (.int .i64 0), (.int .i64 0), (.int .i64 0)] [(0, 1, (.const (.string ⟨#[115, 116, 101, 101, 108]⟩))), (1, 1, (.const (.int .i64 24661))), (2, 1, (.const (.int .i64 180000))), (3, 1, (.const (.int .i64 97000000)))], none, [], false, false⟩,
     ⟨(some 2), .buildSlice 4 1 [(.string ⟨#[]⟩), (.int .i64 0), (.int .i64 0), (.int .i64 0)] [(0, 4, (.tmp 1))], none, [], false, false⟩,
     ⟨(some 0), .move (.tmp 2), none, [], false, false⟩])
  (.ret)),
 [.tmp 0], .pure, 3⟩

/-- agraffe/agraffelaw02.Plain -/
def ef61 : EFun := ⟨
 .seq (.region false [⟨(some 0), .push [(.int .i64 0), (.int .i64 0), (.int .i64 0), (.string ⟨#[]⟩), (.string ⟨#[]⟩)], none, [], false, false⟩])
 (.seq (.region false [⟨(some 1), .build [(.int .i64 0), (.int .i64 0), (.int .i64 0), (.string ⟨#[]⟩), (.string ⟨#[]⟩)] [(0, 1, (.const (.int .i64 40000))), (1, 1, (.const (.int .i64 1000))), (3, 1, (.const (.string ⟨#[115, 116, 101, 101, 108]⟩)))], none, [], false, false⟩,
     ⟨none, .store 5 (.tmp 0) (.tmp 1), none, [], false, false⟩])
  (.ret)),
 [.cell 0 true 5], .pure, 2⟩

/-- agraffe/number.CheckSystem -/
def ef62 : EFun := ⟨
 .seq (.region false [⟨(some 4), .move (.const (.int .i64 0)), none, [], false, false⟩])
 (.seq (.block 0 (.seq (.region false [⟨(some 8), .move (.tmp 0), none, [], false, false⟩,
       ⟨(some 9), .call 121 [(.tmp 8), (.const (.int .i64 1)), (.const (.int .i64 60))], none, [], false, false⟩,
       ⟨(some 10), .un .not (.tmp 9), none, [], false, false⟩,
       ⟨(some 7), .move (.tmp 10), none, [], false, false⟩])
    (.cond (.tmp 7) (.seq (.region false [⟨(some 4), .move (.const (.int .i64 2)), none, [], false, false⟩])
      (.ret))
     (.seq (.region false [⟨(some 12), .move (.tmp 1), none, [], false, false⟩,
         ⟨(some 13), .len false (.tmp 12), none, [], false, false⟩,
         ⟨(some 14), .bin .gtr (.tmp 13) (.const (.int .i64 200)), none, [], false, false⟩,
         ⟨(some 11), .move (.tmp 14), none, [], false, false⟩])
      (.cond (.tmp 11) (.seq (.region false [⟨(some 4), .move (.const (.int .i64 8)), none, [], false, false⟩])
        (.ret))
       (.skip))))))
  (.seq (.seq (.region false [⟨(some 15), .move (.tmp 1), none, [], false, false⟩,
       ⟨(some 16), .len false (.tmp 15), none, [], false, false⟩,
       ⟨(some 17), .move (.const (.int .i64 0)), none, [], false, false⟩])
    (.block 1 (.loop (some [0, 15, 16, 17]) (
      .seq (.region false [⟨(some 18), .bin .lss (.tmp 17) (.tmp 16), none, [], false, false⟩])
       (.seq (.cond (.tmp 18) (.skip)
         (.exit 1))
        (.seq (.block 2 (.seq (.region false [⟨(some 19), .indexAddr none 3 (.tmp 15) (.tmp 17), none, [], false, false⟩,
              ⟨(some 20), .load true 3 (.tmp 19), none, [], false, false⟩,
              ⟨(some 6), .push [(.int .i64 0), (.int .i64 0), (.int .i64 0)], none, [], false, false⟩,
              ⟨none, .store 3 (.tmp 6) (.tmp 20), none, [], false, false⟩])
           (.block 3 (.seq (.region false [⟨(some 22), .fieldAddr 0 (.tmp 6), none, [], false, false⟩,
                ⟨(some 23), .load false 1 (.tmp 22), none, [], false, false⟩,
                ⟨(some 24), .move (.tmp 0), none, [], false, false⟩,
                ⟨(some 25), .bin .sub (.tmp 24) (.const (.int .i64 1)), none, [], false, false⟩,
                ⟨(some 26), .call 121 [(.tmp 23), (.const (.int .i64 0)), (.tmp 25)], none, [], false, false⟩,
                ⟨(some 27), .un .not (.tmp 26), none, [], false, false⟩,
                ⟨(some 28), .move (.tmp 27), none, [], false, false⟩,
                ⟨(some 29), .fieldAddr 1 (.tmp 6), (some (28, false)), [], false, false⟩,
                ⟨(some 30), .load false 1 (.tmp 29), (some (28, false)), [], false, false⟩,
                ⟨(some 31), .move (.tmp 0), (some (28, false)), [], false, false⟩,
                ⟨(some 32), .bin .sub (.tmp 31) (.const (.int .i64 1)), (some (28, false)), [], false, false⟩,
                ⟨(some 33), .call 121 [(.tmp 30), (.const (.int .i64 0)), (.tmp 32)], (some (28, false)), [], false, false⟩,
                ⟨(some 34), .un .not (.tmp 33), (some (28, false)), [], false, false⟩,
                ⟨(some 35), .pick (.tmp 28) (.const (.bool true)) (.tmp 34), none, [], false, false⟩,
                ⟨(some 21), .move (.tmp 35), none, [], false, false⟩])
             (.cond (.tmp 21) (.seq (.region false [⟨(some 4), .move (.const (.int .i64 6)), none, [], false, false⟩])
               (.ret))
              (.seq (.region false [⟨(some 37), .fieldAddr 2 (.tmp 6), none, [], false, false⟩,
                  ⟨(some 38), .load false 1 (.tmp 37), none, [], false, false⟩,
                  ⟨(some 39), .call 121 [(.tmp 38), (.const (.int .i64 (-1000000000))), (.const (.int .i64 1000000000))], none, [], false, false⟩,
                  ⟨(some 40), .un .not (.tmp 39), none, [], false, false⟩,
                  ⟨(some 36), .move (.tmp 40), none, [], false, false⟩])
               (.cond (.tmp 36) (.seq (.region false [⟨(some 4), .move (.const (.int .i64 2)), none, [], false, false⟩])
                 (.ret))
                (.skip))))))))
         (.region false [⟨(some 41), .bin .add (.tmp 17) (.const (.int .i64 1)), none, [], false, false⟩,
            ⟨(some 17), .move (.tmp 41), none, [], false, false⟩])))))))
   (.seq (.region false [⟨(some 4), .move (.const (.int .i64 0)), none, [], false, false⟩])
    (.ret)))),
 [.tmp 4], .pure, 42⟩

/-- agraffe/number.relax -/
def ef63 : EFun := ⟨
 .seq (.region false [⟨(some 6), .move (.const (.int .i64 0)), none, [], false, false⟩])
 (.seq (.region false [⟨(some 7), .move (.const (.int .i64 (-1))), none, [], false, false⟩])
  (.seq (.seq (.region false [⟨(some 11), .move (.tmp 0), none, [], false, false⟩,
       ⟨(some 12), .len false (.tmp 11), none, [], false, false⟩,
       ⟨(some 13), .move (.const (.int .i64 0)), none, [], false, false⟩])
    (.block 0 (.loop (some [1, 2, 7, 11, 12, 13]) (
      .seq (.region false [⟨(some 14), .bin .lss (.tmp 13) (.tmp 12), none, [], false, false⟩])
       (.seq (.cond (.tmp 14) (.skip)
         (.exit 0))
        (.seq (.block 1 (.seq (.region false [⟨(some 15), .move (.tmp 13), none, [], false, false⟩,
              ⟨(some 16), .indexAddr none 3 (.tmp 11) (.tmp 13), none, [], false, false⟩,
              ⟨(some 17), .load true 3 (.tmp 16), none, [], false, false⟩,
              ⟨(some 9), .push [(.int .i64 0), (.int .i64 0), (.int .i64 0)], none, [], false, false⟩,
              ⟨(some 8), .move (.tmp 15), none, [], false, false⟩,
              ⟨none, .store 3 (.tmp 9) (.tmp 17), none, [], false, false⟩])
           (.seq (.region true [⟨(some 18), .move (.tmp 1), none, [], false, false⟩,
               ⟨(some 19), .fieldAddr 0 (.tmp 9), none, [], false, false⟩,
               ⟨(some 20), .load false 1 (.tmp 19), none, [], false, false⟩,
               ⟨(some 21), .indexAddr none 1 (.tmp 18) (.tmp 20), none, [], false, false⟩,
               ⟨(some 22), .load false 1 (.tmp 21), none, [], false, false⟩,
               ⟨(some 23), .fieldAddr 2 (.tmp 9), none, [], false, false⟩,
               ⟨(some 24), .load false 1 (.tmp 23), none, [], false, false⟩,
               ⟨(some 25), .bin .add (.tmp 22) (.tmp 24), none, [], false, false⟩,
               ⟨(some 10), .move (.tmp 25), none, [], false, false⟩])
            (.seq (.region false [⟨(some 26), .move (.tmp 10), none, [], false, false⟩,
                ⟨(some 27), .move (.tmp 1), none, [], false, false⟩,
                ⟨(some 28), .fieldAddr 1 (.tmp 9), none, [], false, false⟩,
                ⟨(some 29), .load false 1 (.tmp 28), none, [], false, false⟩,
                ⟨(some 30), .indexAddr none 1 (.tmp 27) (.tmp 29), none, [], false, false⟩,
                ⟨(some 31), .load false 1 (.tmp 30), none, [], false, false⟩,
                ⟨(some 32), .bin .lss (.tmp 26) (.tmp 31), none, [], false, false⟩])
             (.cond (.tmp 32) (.seq (.region true [⟨(some 33), .move (.tmp 1), none, [], false, false⟩,
                  ⟨(some 34), .fieldAddr 1 (.tmp 9), none, [], false, false⟩,
                  ⟨(some 35), .load false 1 (.tmp 34), none, [], false, false⟩,
                  ⟨(some 36), .move (.tmp 2), none, [], false, false⟩,
                  ⟨(some 37), .fieldAddr 1 (.tmp 9), none, [], false, false⟩,
                  ⟨(some 38), .load false 1 (.tmp 37), none, [], true, false⟩,
                  ⟨(some 39), .move (.tmp 10), none, [], false, false⟩,
                  ⟨(some 40), .move (.tmp 8), none, [], false, false⟩,
                  ⟨(some 41), .indexAddr none 1 (.tmp 33) (.tmp 35), none, [], false, false⟩,
                  ⟨none, .store 1 (.tmp 41) (.tmp 39), none, [5], false, false⟩,
                  ⟨(some 42), .indexAddr none 1 (.tmp 36) (.tmp 38), none, [], false, false⟩,
                  ⟨none, .store 1 (.tmp 42) (.tmp 40), none, [], false, false⟩])
               (.region false [⟨(some 43), .fieldAddr 1 (.tmp 9), none, [], false, false⟩,
                  ⟨(some 44), .load false 1 (.tmp 43), none, [], false, false⟩,
                  ⟨(some 7), .move (.tmp 44), none, [], false, false⟩]))
              (.skip))))))
         (.region false [⟨(some 45), .bin .add (.tmp 13) (.const (.int .i64 1)), none, [], false, false⟩,
            ⟨(some 13), .move (.tmp 45), none, [], false, false⟩])))))))
   (.seq (.region false [⟨(some 46), .move (.tmp 7), none, [], false, false⟩,
       ⟨(some 6), .move (.tmp 46), none, [], false, false⟩])
    (.ret)))),
 [.tmp 6], .trunc, 47⟩

/-- slices.Reverse[[]int,int] -/
def ef64 : EFun := ⟨
 .seq (.region false [⟨(some 4), .move (.tmp 0), none, [], false, false⟩,
    ⟨(some 5), .len false (.tmp 4), none, [], false, false⟩,
    ⟨(some 6), .bin .sub (.tmp 5) (.const (.int .i64 1)), none, [], false, false⟩,
    ⟨(some 2), .move (.const (.int .i64 0)), none, [], false, false⟩,
    ⟨(some 3), .move (.tmp 6), none, [], false, false⟩])
 (.block 0 (.loop (some [0, 2, 3]) (
   .seq (.seq (.region false [⟨(some 7), .move (.tmp 2), none, [], false, false⟩,
        ⟨(some 8), .move (.tmp 3), none, [], false, false⟩,
        ⟨(some 9), .bin .lss (.tmp 7) (.tmp 8), none, [], false, false⟩])
     (.cond (.tmp 9) (.skip)
      (.exit 0)))
    (.seq (.block 1 (.region true [⟨(some 14), .move (.tmp 0), none, [], false, false⟩,
         ⟨(some 15), .move (.tmp 2), none, [], false, false⟩,
         ⟨(some 16), .move (.tmp 0), none, [], false, false⟩,
         ⟨(some 17), .move (.tmp 3), none, [], false, false⟩,
         ⟨(some 18), .move (.tmp 0), none, [], false, false⟩,
         ⟨(some 19), .move (.tmp 3), none, [], false, false⟩,
         ⟨(some 20), .indexAddr none 1 (.tmp 18) (.tmp 19), none, [], false, false⟩,
         ⟨(some 21), .load false 1 (.tmp 20), none, [], false, false⟩,
         ⟨(some 22), .move (.tmp 0), none, [], false, false⟩,
         ⟨(some 23), .move (.tmp 2), none, [], false, false⟩,
         ⟨(some 24), .indexAddr none 1 (.tmp 22) (.tmp 23), none, [], false, false⟩,
         ⟨(some 25), .load false 1 (.tmp 24), none, [], false, false⟩,
         ⟨(some 26), .indexAddr none 1 (.tmp 14) (.tmp 15), none, [], false, false⟩,
         ⟨none, .store 1 (.tmp 26) (.tmp 21), none, [], false, false⟩,
         ⟨(some 27), .indexAddr none 1 (.tmp 16) (.tmp 17), none, [], false, false⟩,
         ⟨none, .store 1 (.tmp 27) (.tmp 25), none, [], false, false⟩]))
     (.region false [⟨(some 10), .move (.tmp 2), none, [], false, false⟩,
        ⟨(some 11), .bin .add (.tmp 10) (.const (.int .i64 1)), none, [], false, false⟩,
        ⟨(some 12), .move (.tmp 3), none, [], false, false⟩,
        ⟨(some 13), .bin .sub (.tmp 12) (.const (.int .i64 1)), none, [], false, false⟩,
        ⟨(some 2), .move (.tmp 11), none, [], false, false⟩,
        ⟨(some 3), .move (.tmp 13), none, [], false, false⟩]))))),
 [], .trunc, 28⟩

/-- agraffe/scale.Inharmonicity -/
def ef65 : EFun := ⟨
 .seq (.region false [⟨(some 4), .box (.tmp 1), none, [], false, false⟩,
    ⟨(some 5), .box (.tmp 2), none, [], false, false⟩,
    ⟨(some 6), .push [(.int .i64 0), (.int .i64 0)], none, [], false, false⟩,
    ⟨(some 7), .move (.const (.int .i64 0)), none, [], false, false⟩])
 (.seq (.region false [⟨(some 11), .move (.tmp 0), none, [], false, false⟩,
     ⟨(some 12), .load true 5 (.tmp 4), none, [], false, false⟩,
     ⟨(some 13), .load true 2 (.tmp 5), none, [], false, false⟩,
     ⟨(some 14), .call 129 [(.tmp 11), (.tmp 12), (.tmp 13)], none, [], false, false⟩,
     ⟨(some 10), .move (.tmp 14), none, [], false, false⟩,
     ⟨(some 15), .extract (.tmp 10) 0, none, [], false, false⟩,
     ⟨(some 16), .extract (.tmp 10) 1, none, [], false, false⟩,
     ⟨(some 8), .push [(.string ⟨#[]⟩), (.int .i64 0), (.int .i64 0), (.int .i64 0), (.int .i64 0), (.int .i64 0), (.int .i64 0), (.string ⟨#[]⟩), (.string ⟨#[]⟩), (.int .i64 0), (.int .i64 0), (.int .i64 0), (.int .i64 0)], none, [], false, false⟩,
     ⟨none, .store 13 (.tmp 8) (.tmp 15), none, [], false, false⟩,
     ⟨(some 9), .move (.tmp 16), none, [], false, false⟩])
  (.seq (.seq (.region false [⟨(some 17), .move (.tmp 9), none, [], false, false⟩,
       ⟨(some 18), .bin .neq (.tmp 17) (.const (.int .i64 0)), none, [], false, false⟩])
    (.cond (.tmp 18) (.seq (.region false [⟨(some 19), .build [(.int .i64 0), (.int .i64 0)] [], none, [], false, false⟩,
         ⟨(some 20), .move (.tmp 9), none, [], false, false⟩,
         ⟨none, .store 2 (.tmp 6) (.tmp 19), none, [], false, false⟩,
         ⟨(some 7), .move (.tmp 20), none, [], false, false⟩])
      (.ret))
     (.skip)))
   (.seq (.region false [⟨(some 21), .load true 13 (.tmp 8), none, [], false, false⟩,
       ⟨(some 22), .call 130 [(.tmp 21)], none, [], false, false⟩,
       ⟨(some 23), .extract (.tmp 22) 0, none, [], false, false⟩,
       ⟨(some 24), .extract (.tmp 22) 1, none, [], false, false⟩,
       ⟨none, .store 2 (.tmp 6) (.tmp 23), none, [], false, false⟩,
       ⟨(some 7), .move (.tmp 24), none, [], false, false⟩])
    (.ret)))),
 [.cell 6 true 2, .tmp 7], .pure, 25⟩

/-- agraffe/agraffebase.Ints -/
def ef66 : EFun := ⟨
 .seq (.region false [⟨(some 4), .move (.const (.bool false)), none, [], false, false⟩])
 (.seq (.seq (.region false [⟨(some 6), .move (.tmp 0), none, [], false, false⟩,
      ⟨(some 7), .len false (.tmp 6), none, [], false, false⟩,
      ⟨(some 8), .move (.tmp 1), none, [], false, false⟩,
      ⟨(some 9), .len false (.tmp 8), none, [], false, false⟩,
      ⟨(some 10), .bin .neq (.tmp 7) (.tmp 9), none, [], false, false⟩])
   (.cond (.tmp 10) (.seq (.region false [⟨(some 4), .move (.const (.bool false)), none, [], false, false⟩])
     (.ret))
    (.skip)))
  (.seq (.seq (.region false [⟨(some 5), .move (.const (.int .i64 0)), none, [], false, false⟩])
    (.block 0 (.loop (some [0, 1, 5]) (
      .seq (.seq (.region false [⟨(some 11), .move (.tmp 5), none, [], false, false⟩,
           ⟨(some 12), .move (.tmp 0), none, [], false, false⟩,
           ⟨(some 13), .len false (.tmp 12), none, [], false, false⟩,
           ⟨(some 14), .bin .lss (.tmp 11) (.tmp 13), none, [], false, false⟩])
        (.cond (.tmp 14) (.skip)
         (.exit 0)))
       (.seq (.block 1 (.seq (.region true [⟨(some 17), .move (.tmp 0), none, [], false, false⟩,
             ⟨(some 18), .move (.tmp 5), none, [], false, false⟩,
             ⟨(some 19), .indexAddr none 1 (.tmp 17) (.tmp 18), none, [], false, false⟩,
             ⟨(some 20), .load false 1 (.tmp 19), none, [], false, false⟩,
             ⟨(some 21), .move (.tmp 1), none, [], false, false⟩,
             ⟨(some 22), .move (.tmp 5), none, [], false, false⟩,
             ⟨(some 23), .indexAddr none 1 (.tmp 21) (.tmp 22), none, [], false, false⟩,
             ⟨(some 24), .load false 1 (.tmp 23), none, [], false, false⟩,
             ⟨(some 25), .bin .neq (.tmp 20) (.tmp 24), none, [], false, false⟩])
          (.cond (.tmp 25) (.seq (.region false [⟨(some 4), .move (.const (.bool false)), none, [], false, false⟩])
            (.ret))
           (.skip))))
        (.region false [⟨(some 15), .move (.tmp 5), none, [], false, false⟩,
           ⟨(some 16), .bin .add (.tmp 15) (.const (.int .i64 1)), none, [], false, false⟩,
           ⟨(some 5), .move (.tmp 16), none, [], false, false⟩]))))))
   (.seq (.region false [⟨(some 4), .move (.const (.bool true)), none, [], false, false⟩])
    (.ret)))),
 [.tmp 4], .pure, 26⟩

/-- agraffe/agraffelaw02.short -/
def ef67 : EFun := ⟨
 .seq (.region false [⟨(some 2), .move (.const (.bool false)), none, [], false, false⟩])
 (.seq (.seq (.region false [⟨(some 4), .move (.tmp 0), none, [], false, false⟩,
      ⟨(some 5), .len false (.tmp 4), none, [], false, false⟩,
      ⟨(some 6), .bin .gtr (.tmp 5) (.const (.int .i64 6)), none, [], false, false⟩,
      ⟨(some 7), .move (.tmp 6), none, [], false, false⟩,
      ⟨(some 8), .move (.tmp 0), (some (7, true)), [], false, false⟩,
      ⟨(some 9), .len false (.tmp 8), (some (7, true)), [], false, false⟩,
      ⟨(some 10), .bin .leq (.tmp 9) (.const (.int .i64 20)), (some (7, true)), [], false, false⟩,
      ⟨(some 11), .pick (.tmp 7) (.tmp 10) (.const (.bool false)), none, [], false, false⟩,
      ⟨(some 12), .move (.tmp 11), none, [], false, false⟩,
      ⟨(some 13), .move (.tmp 0), (some (12, false)), [], false, false⟩,
      ⟨(some 14), .len false (.tmp 13), (some (12, false)), [], false, false⟩,
      ⟨(some 15), .bin .gtr (.tmp 14) (.const (.int .i64 23)), (some (12, false)), [], false, false⟩,
      ⟨(some 16), .pick (.tmp 12) (.const (.bool true)) (.tmp 15), none, [], false, false⟩])
   (.cond (.tmp 16) (.seq (.region false [⟨(some 2), .move (.const (.bool false)), none, [], false, false⟩])
     (.ret))
    (.skip)))
  (.seq (.seq (.region false [⟨(some 3), .move (.const (.int .i64 0)), none, [], false, false⟩])
    (.block 0 (.loop (some [0, 3]) (
      .seq (.seq (.region false [⟨(some 17), .move (.tmp 3), none, [], false, false⟩,
           ⟨(some 18), .move (.tmp 0), none, [], false, false⟩,
           ⟨(some 19), .len false (.tmp 18), none, [], false, false⟩,
           ⟨(some 20), .bin .lss (.tmp 17) (.tmp 19), none, [], false, false⟩])
        (.cond (.tmp 20) (.skip)
         (.exit 0)))
       (.seq (.block 1 (.seq (.region false [⟨(some 23), .move (.tmp 0), none, [], false, false⟩,
             ⟨(some 24), .move (.tmp 3), none, [], false, false⟩,
             ⟨(some 25), .indexAddr none 4 (.tmp 23) (.tmp 24), none, [], false, false⟩,
             ⟨(some 26), .fieldAddr 0 (.tmp 25), none, [], false, false⟩,
             ⟨(some 27), .load false 1 (.tmp 26), none, [], false, false⟩,
             ⟨(some 28), .len true (.tmp 27), none, [], false, false⟩,
             ⟨(some 29), .bin .gtr (.tmp 28) (.const (.int .i64 20)), none, [], false, false⟩])
          (.cond (.tmp 29) (.seq (.region false [⟨(some 2), .move (.const (.bool false)), none, [], false, false⟩])
            (.ret))
           (.skip))))
        (.region false [⟨(some 21), .move (.tmp 3), none, [], false, false⟩,
           ⟨(some 22), .bin .add (.tmp 21) (.const (.int .i64 1)), none, [], false, false⟩,
           ⟨(some 3), .move (.tmp 22), none, [], false, false⟩]))))))
   (.seq (.region false [⟨(some 2), .move (.const (.bool true)), none, [], false, false⟩])
    (.ret)))),
 [.tmp 2], .pure, 30⟩

/-- agraffe/agraffelaw02.named -/
def ef68 : EFun := ⟨
 .seq (.region false [⟨(some 1), .box (.tmp 0), none, [], false, false⟩,
    ⟨(some 2), .move (.const (.bool false)), none, [], false, false⟩])
 (.seq (.region false [⟨(some 3), .fieldAddr 3 (.tmp 1), none, [], false, false⟩,
     ⟨(some 4), .load false 1 (.tmp 3), none, [], false, false⟩,
     ⟨(some 5), .len true (.tmp 4), none, [], false, false⟩,
     ⟨(some 6), .bin .leq (.tmp 5) (.const (.int .i64 20)), none, [], false, false⟩,
     ⟨(some 7), .move (.tmp 6), none, [], false, false⟩,
     ⟨(some 8), .fieldAddr 4 (.tmp 1), (some (7, true)), [], false, false⟩,
     ⟨(some 9), .load false 1 (.tmp 8), (some (7, true)), [], false, false⟩,
     ⟨(some 10), .len true (.tmp 9), (some (7, true)), [], false, false⟩,
     ⟨(some 11), .bin .leq (.tmp 10) (.const (.int .i64 20)), (some (7, true)), [], false, false⟩,
     ⟨(some 12), .pick (.tmp 7) (.tmp 11) (.const (.bool false)), none, [], false, false⟩,
     ⟨(some 2), .move (.tmp 12), none, [], false, false⟩])
  (.ret)),
 [.tmp 2], .pure, 13⟩

/-- agraffe/scale.within -/
def ef69 : EFun := ⟨
 .seq (.region false [⟨(some 6), .move (.const (.bool false)), none, [], false, false⟩])
 (.seq (.region false [⟨(some 7), .move (.tmp 1), none, [], false, false⟩,
     ⟨(some 8), .move (.tmp 0), none, [], false, false⟩,
     ⟨(some 9), .bin .leq (.tmp 7) (.tmp 8), none, [], false, false⟩,
     ⟨(some 10), .move (.tmp 9), none, [], false, false⟩,
     ⟨(some 11), .move (.tmp 0), (some (10, true)), [], false, false⟩,
     ⟨(some 12), .move (.tmp 2), (some (10, true)), [], false, false⟩,
     ⟨(some 13), .bin .leq (.tmp 11) (.tmp 12), (some (10, true)), [], false, false⟩,
     ⟨(some 14), .pick (.tmp 10) (.tmp 13) (.const (.bool false)), none, [], false, false⟩,
     ⟨(some 6), .move (.tmp 14), none, [], false, false⟩])
  (.ret)),
 [.tmp 6], .pure, 15⟩

/-- agraffe/scale.CheckWires -/
def ef70 : EFun := ⟨
 .seq (.region false [⟨(some 2), .move (.const (.int .i64 0)), none, [], false, false⟩])
 (.seq (.seq (.region false [⟨(some 6), .move (.tmp 0), none, [], false, false⟩,
      ⟨(some 7), .len false (.tmp 6), none, [], false, false⟩,
      ⟨(some 8), .bin .gtr (.tmp 7) (.const (.int .i64 20)), none, [], false, false⟩])
   (.cond (.tmp 8) (.seq (.region false [⟨(some 2), .move (.const (.int .i64 8)), none, [], false, false⟩])
     (.ret))
    (.skip)))
  (.seq (.region false [⟨(some 9), .makeMap, none, [], false, false⟩,
      ⟨(some 3), .move (.tmp 9), none, [], false, false⟩])
   (.seq (.seq (.region false [⟨(some 10), .move (.tmp 0), none, [], false, false⟩,
        ⟨(some 11), .len false (.tmp 10), none, [], false, false⟩,
        ⟨(some 12), .move (.const (.int .i64 0)), none, [], false, false⟩])
     (.block 0 (.loop (some [3, 10, 11, 12]) (
       .seq (.region false [⟨(some 13), .bin .lss (.tmp 12) (.tmp 11), none, [], false, false⟩])
        (.seq (.cond (.tmp 13) (.skip)
          (.exit 0))
         (.seq (.block 1 (.seq (.region false [⟨(some 14), .indexAddr none 4 (.tmp 10) (.tmp 12), none, [], false, false⟩,
               ⟨(some 15), .load true 4 (.tmp 14), none, [], false, false⟩,
               ⟨(some 5), .push [(.string ⟨#[]⟩), (.int .i64 0), (.int .i64 0), (.int .i64 0)], none, [], false, false⟩,
               ⟨none, .store 4 (.tmp 5) (.tmp 15), none, [], false, false⟩])
            (.seq (.block 2 (.seq (.region false [⟨(some 17), .fieldAddr 0 (.tmp 5), none, [], false, false⟩,
                  ⟨(some 18), .load false 1 (.tmp 17), none, [], false, false⟩,
                  ⟨(some 19), .call 131 [(.tmp 18)], none, [], false, false⟩,
                  ⟨(some 20), .un .not (.tmp 19), none, [], false, false⟩,
                  ⟨(some 16), .move (.tmp 20), none, [], false, false⟩])
               (.cond (.tmp 16) (.seq (.region false [⟨(some 2), .move (.const (.int .i64 4)), none, [], false, false⟩])
                 (.ret))
                (.seq (.region false [⟨(some 22), .move (.tmp 3), none, [], false, false⟩,
                    ⟨(some 23), .fieldAddr 0 (.tmp 5), none, [], false, false⟩,
                    ⟨(some 24), .load false 1 (.tmp 23), none, [], false, false⟩,
                    ⟨(some 25), .mapGet .str (.bool false) false (.tmp 22) (.tmp 24), none, [], false, false⟩,
                    ⟨(some 21), .move (.tmp 25), none, [], false, false⟩])
                 (.cond (.tmp 21) (.seq (.region false [⟨(some 2), .move (.const (.int .i64 5)), none, [], false, false⟩])
                   (.ret))
                  (.seq (.region false [⟨(some 27), .fieldAddr 1 (.tmp 5), none, [], false, false⟩,
                      ⟨(some 28), .load false 1 (.tmp 27), none, [], false, false⟩,
                      ⟨(some 29), .call 69 [(.tmp 28), (.const (.int .i64 1)), (.const (.int .i64 200000))], none, [], false, false⟩,
                      ⟨(some 30), .un .not (.tmp 29), none, [], false, false⟩,
                      ⟨(some 31), .move (.tmp 30), none, [], false, false⟩,
                      ⟨(some 32), .fieldAddr 2 (.tmp 5), (some (31, false)), [], false, false⟩,
                      ⟨(some 33), .load false 1 (.tmp 32), (some (31, false)), [], false, false⟩,
                      ⟨(some 34), .call 69 [(.tmp 33), (.const (.int .i64 1)), (.const (.int .i64 1000000))], (some (31, false)), [], false, false⟩,
                      ⟨(some 35), .un .not (.tmp 34), (some (31, false)), [], false, false⟩,
                      ⟨(some 36), .pick (.tmp 31) (.const (.bool true)) (.tmp 35), none, [], false, false⟩,
                      ⟨(some 37), .move (.tmp 36), none, [], false, false⟩,
                      ⟨(some 38), .fieldAddr 3 (.tmp 5), (some (37, false)), [], false, false⟩,
                      ⟨(some 39), .load false 1 (.tmp 38), (some (37, false)), [], false, false⟩,
                      ⟨(some 40), .call 69 [(.tmp 39), (.const (.int .i64 0)), (.const (.int .i64 100000000))], (some (37, false)), [], false, false⟩,
                      ⟨(some 41), .un .not (.tmp 40), (some (37, false)), [], false, false⟩,
                      ⟨(some 42), .pick (.tmp 37) (.const (.bool true)) (.tmp 41), none, [], false, false⟩,
                      ⟨(some 26), .move (.tmp 42), none, [], false, false⟩])
                   (.cond (.tmp 26) (.seq (.region false [⟨(some 2), .move (.const (.int .i64 2)), none, [], false, false⟩])
                     (.ret))
                    (.skip))))))))
             (.region false [⟨(some 43), .move (.tmp 3), none, [], false, false⟩,
                ⟨(some 44), .fieldAddr 0 (.tmp 5), none, [], false, false⟩,
                ⟨(some 45), .load false 1 (.tmp 44), none, [], false, false⟩,
                ⟨none, .mapSet .str (.tmp 43) (.tmp 45) (.const (.bool true)), none, [], false, false⟩]))))
          (.region false [⟨(some 46), .bin .add (.tmp 12) (.const (.int .i64 1)), none, [], false, false⟩,
             ⟨(some 12), .move (.tmp 46), none, [], false, false⟩])))))))
    (.seq (.region false [⟨(some 2), .move (.const (.int .i64 0)), none, [], false, false⟩])
     (.ret))))),
 [.tmp 2], .pure, 47⟩

/-- agraffe/scale.checkUnison -/
def ef71 : EFun := ⟨
 .seq (.region false [⟨(some 2), .box (.tmp 0), none, [], false, false⟩,
    ⟨(some 4), .move (.const (.int .i64 0)), none, [], false, false⟩])
 (.seq (.region false [⟨(some 13), .fieldAddr 2 (.tmp 2), none, [], false, false⟩,
     ⟨(some 14), .load false 1 (.tmp 13), none, [], false, false⟩,
     ⟨(some 15), .move (.tmp 1), none, [], false, false⟩,
     ⟨(some 16), .indexAddr none 10 (.tmp 14) (.tmp 15), none, [], false, false⟩,
     ⟨(some 17), .load true 10 (.tmp 16), none, [], false, false⟩,
     ⟨(some 5), .push [(.int .i64 0), (.int .i64 0), (.int .i64 0), (.int .i64 0), (.int .i64 0), (.int .i64 0), (.int .i64 0), (.int .i64 0), (.string ⟨#[]⟩), (.string ⟨#[]⟩)], none, [], false, false⟩,
     ⟨none, .store 10 (.tmp 5) (.tmp 17), none, [], false, false⟩])
  (.seq (.seq (.region false [⟨(some 18), .fieldAddr 0 (.tmp 5), none, [], false, false⟩,
       ⟨(some 19), .load true 4 (.tmp 18), none, [], false, false⟩,
       ⟨(some 20), .call 120 [(.tmp 19)], none, [], false, false⟩,
       ⟨(some 6), .move (.tmp 20), none, [], false, false⟩])
    (.seq (.region false [⟨(some 21), .move (.tmp 6), none, [], false, false⟩,
        ⟨(some 22), .bin .neq (.tmp 21) (.const (.int .i64 0)), none, [], false, false⟩])
     (.cond (.tmp 22) (.seq (.region false [⟨(some 23), .move (.tmp 6), none, [], false, false⟩,
          ⟨(some 4), .move (.tmp 23), none, [], false, false⟩])
       (.ret))
      (.skip))))
   (.seq (.seq (.region false [⟨(some 24), .fieldAddr 4 (.tmp 5), none, [], false, false⟩,
        ⟨(some 25), .load false 1 (.tmp 24), none, [], false, false⟩,
        ⟨(some 26), .call 69 [(.tmp 25), (.const (.int .i64 1)), (.const (.int .i64 4))], none, [], false, false⟩,
        ⟨(some 27), .un .not (.tmp 26), none, [], false, false⟩])
     (.cond (.tmp 27) (.seq (.region false [⟨(some 4), .move (.const (.int .i64 2)), none, [], false, false⟩])
       (.ret))
      (.skip)))
    (.seq (.seq (.region false [⟨(some 28), .fieldAddr 1 (.tmp 2), none, [], false, false⟩,
         ⟨(some 29), .load false 1 (.tmp 28), none, [], false, false⟩,
         ⟨(some 30), .fieldAddr 5 (.tmp 5), none, [], false, false⟩,
         ⟨(some 31), .load true 5 (.tmp 30), none, [], false, false⟩,
         ⟨(some 32), .call 92 [(.tmp 29), (.tmp 31)], none, [], false, false⟩,
         ⟨(some 7), .move (.tmp 32), none, [], false, false⟩])
      (.seq (.region false [⟨(some 33), .move (.tmp 7), none, [], false, false⟩,
          ⟨(some 34), .bin .neq (.tmp 33) (.const (.int .i64 0)), none, [], false, false⟩])
       (.cond (.tmp 34) (.seq (.region false [⟨(some 35), .move (.tmp 7), none, [], false, false⟩,
            ⟨(some 4), .move (.tmp 35), none, [], false, false⟩])
         (.ret))
        (.skip))))
     (.seq (.region false [⟨(some 37), .fieldAddr 0 (.tmp 5), none, [], false, false⟩,
         ⟨(some 38), .load true 4 (.tmp 37), none, [], false, false⟩,
         ⟨(some 39), .fieldAddr 0 (.tmp 2), none, [], false, false⟩,
         ⟨(some 40), .load false 1 (.tmp 39), none, [], false, false⟩,
         ⟨(some 41), .call 57 [(.tmp 38), (.tmp 40)], none, [], false, false⟩,
         ⟨(some 36), .move (.tmp 41), none, [], false, false⟩,
         ⟨(some 42), .extract (.tmp 36) 0, none, [], false, false⟩,
         ⟨(some 43), .extract (.tmp 36) 1, none, [], false, false⟩,
         ⟨(some 8), .push [(.int .i64 0), (.int .i64 0)], none, [], false, false⟩,
         ⟨none, .store 2 (.tmp 8) (.tmp 42), none, [], false, false⟩,
         ⟨(some 9), .move (.tmp 43), none, [], false, false⟩])
      (.seq (.seq (.region false [⟨(some 44), .move (.tmp 9), none, [], false, false⟩,
           ⟨(some 45), .bin .neq (.tmp 44) (.const (.int .i64 0)), none, [], false, false⟩])
        (.cond (.tmp 45) (.seq (.region false [⟨(some 46), .move (.tmp 9), none, [], false, false⟩,
             ⟨(some 4), .move (.tmp 46), none, [], false, false⟩])
          (.ret))
         (.skip)))
       (.seq (.seq (.region false [⟨(some 47), .load true 2 (.tmp 8), none, [], false, false⟩,
            ⟨(some 48), .call 132 [(.tmp 47)], none, [], false, false⟩,
            ⟨(some 10), .move (.tmp 48), none, [], false, false⟩])
         (.seq (.region false [⟨(some 49), .move (.tmp 10), none, [], false, false⟩,
             ⟨(some 50), .bin .neq (.tmp 49) (.const (.int .i64 0)), none, [], false, false⟩,
             ⟨(some 51), .move (.tmp 50), none, [], false, false⟩,
             ⟨(some 52), .move (.tmp 1), (some (51, false)), [], false, false⟩,
             ⟨(some 53), .bin .eql (.tmp 52) (.const (.int .i64 0)), (some (51, false)), [], false, false⟩,
             ⟨(some 54), .pick (.tmp 51) (.const (.bool true)) (.tmp 53), none, [], false, false⟩])
          (.cond (.tmp 54) (.seq (.region false [⟨(some 55), .move (.tmp 10), none, [], false, false⟩,
               ⟨(some 4), .move (.tmp 55), none, [], false, false⟩])
            (.ret))
           (.skip))))
        (.seq (.seq (.region true [⟨(some 57), .fieldAddr 0 (.tmp 5), none, [], false, false⟩,
             ⟨(some 58), .load true 4 (.tmp 57), none, [], false, false⟩,
             ⟨(some 59), .fieldAddr 2 (.tmp 2), none, [], false, false⟩,
             ⟨(some 60), .load false 1 (.tmp 59), none, [], false, false⟩,
             ⟨(some 61), .move (.tmp 1), none, [], false, false⟩,
             ⟨(some 62), .bin .sub (.tmp 61) (.const (.int .i64 1)), none, [], false, false⟩,
             ⟨(some 63), .indexAddr none 10 (.tmp 60) (.tmp 62), none, [], false, false⟩,
             ⟨(some 64), .fieldAddr 0 (.tmp 63), none, [], false, false⟩,
             ⟨(some 65), .load true 4 (.tmp 64), none, [], false, false⟩,
             ⟨(some 66), .call 133 [(.tmp 58), (.tmp 65)], none, [], false, false⟩,
             ⟨(some 56), .move (.tmp 66), none, [], false, false⟩,
             ⟨(some 67), .extract (.tmp 56) 0, none, [], false, false⟩,
             ⟨(some 68), .extract (.tmp 56) 1, none, [], false, false⟩,
             ⟨(some 11), .move (.tmp 67), none, [], false, false⟩,
             ⟨(some 12), .move (.tmp 68), none, [], false, false⟩])
          (.block 0 (.seq (.region false [⟨(some 70), .move (.tmp 12), none, [], false, false⟩,
               ⟨(some 71), .bin .neq (.tmp 70) (.const (.int .i64 0)), none, [], false, false⟩,
               ⟨(some 69), .move (.tmp 71), none, [], false, false⟩])
            (.cond (.tmp 69) (.seq (.region false [⟨(some 72), .move (.tmp 12), none, [], false, false⟩,
                 ⟨(some 4), .move (.tmp 72), none, [], false, false⟩])
              (.ret))
             (.seq (.region false [⟨(some 74), .move (.tmp 11), none, [], false, false⟩,
                 ⟨(some 75), .bin .leq (.tmp 74) (.const (.int .i64 0)), none, [], false, false⟩,
                 ⟨(some 73), .move (.tmp 75), none, [], false, false⟩])
              (.cond (.tmp 73) (.seq (.region false [⟨(some 4), .move (.const (.int .i64 9)), none, [], false, false⟩])
                (.ret))
               (.skip)))))))
         (.seq (.region false [⟨(some 4), .move (.const (.int .i64 0)), none, [], false, false⟩])
          (.ret)))))))))),
 [.tmp 4], .pure, 76⟩

/-- agraffe/scale.at -/
def ef72 : EFun := ⟨
 .seq (.region false [⟨(some 2), .box (.tmp 0), none, [], false, false⟩,
    ⟨(some 4), .push [(.string ⟨#[]⟩), (.int .i64 0), (.int .i64 0), (.int .i64 0), (.int .i64 0), (.int .i64 0), (.int .i64 0), (.string ⟨#[]⟩), (.string ⟨#[]⟩), (.int .i64 0), (.int .i64 0), (.int .i64 0), (.int .i64 0)], none, [], false, false⟩])
 (.seq (.region true [⟨(some 5), .fieldAddr 1 (.tmp 2), none, [], false, false⟩,
     ⟨(some 6), .load false 1 (.tmp 5), none, [], false, false⟩,
     ⟨(some 7), .fieldAddr 2 (.tmp 2), none, [], false, false⟩,
     ⟨(some 8), .load false 1 (.tmp 7), none, [], false, false⟩,
     ⟨(some 9), .move (.tmp 1), none, [], false, false⟩,
     ⟨(some 10), .indexAddr none 10 (.tmp 8) (.tmp 9), none, [], false, false⟩,
     ⟨(some 11), .fieldAddr 5 (.tmp 10), none, [], false, false⟩,
     ⟨(some 12), .load true 5 (.tmp 11), none, [], false, false⟩,
     ⟨(some 13), .load true 3 (.tmp 2), none, [], false, false⟩,
     ⟨(some 14), .move (.tmp 1), none, [], false, false⟩,
     ⟨(some 15), .call 74 [(.tmp 13), (.tmp 14)], none, [], false, true⟩,
     ⟨(some 16), .call 89 [(.tmp 6), (.tmp 12), (.tmp 15)], none, [], false, false⟩,
     ⟨none, .store 13 (.tmp 4) (.tmp 16), none, [], false, false⟩])
  (.ret)),
 [.cell 4 true 13], .pure, 17⟩

/-- agraffe/scale.checkAt -/
def ef73 : EFun := ⟨
 .seq (.region false [⟨(some 2), .box (.tmp 0), none, [], false, false⟩,
    ⟨(some 4), .move (.const (.int .i64 0)), none, [], false, false⟩])
 (.seq (.seq (.region false [⟨(some 8), .load true 3 (.tmp 2), none, [], false, false⟩,
      ⟨(some 9), .call 21 [(.tmp 8)], none, [], false, false⟩,
      ⟨(some 7), .move (.tmp 9), none, [], false, false⟩,
      ⟨(some 10), .extract (.tmp 7) 0, none, [], false, false⟩,
      ⟨(some 11), .extract (.tmp 7) 1, none, [], false, false⟩,
      ⟨(some 5), .move (.tmp 10), none, [], false, false⟩,
      ⟨(some 6), .move (.tmp 11), none, [], false, false⟩])
   (.seq (.region false [⟨(some 12), .move (.tmp 6), none, [], false, false⟩,
       ⟨(some 13), .bin .neq (.tmp 12) (.const (.int .i64 0)), none, [], false, false⟩])
    (.cond (.tmp 13) (.seq (.region false [⟨(some 14), .move (.tmp 6), none, [], false, false⟩,
         ⟨(some 4), .move (.tmp 14), none, [], false, false⟩])
      (.ret))
     (.skip))))
  (.seq (.seq (.region false [⟨(some 15), .move (.tmp 1), none, [], false, false⟩,
       ⟨(some 16), .fieldAddr 2 (.tmp 2), none, [], false, false⟩,
       ⟨(some 17), .load false 1 (.tmp 16), none, [], false, false⟩,
       ⟨(some 18), .len false (.tmp 17), none, [], false, false⟩,
       ⟨(some 19), .bin .sub (.tmp 18) (.const (.int .i64 1)), none, [], false, false⟩,
       ⟨(some 20), .call 69 [(.tmp 15), (.const (.int .i64 0)), (.tmp 19)], none, [], false, false⟩,
       ⟨(some 21), .un .not (.tmp 20), none, [], false, false⟩])
    (.cond (.tmp 21) (.seq (.region false [⟨(some 4), .move (.const (.int .i64 6)), none, [], false, false⟩])
      (.ret))
     (.skip)))
   (.seq (.region false [⟨(some 4), .move (.const (.int .i64 0)), none, [], false, false⟩])
    (.ret)))),
 [.tmp 4], .pure, 22⟩

/-- agraffe/scale.frequency -/
def ef74 : EFun := ⟨
 .seq (.region false [⟨(some 2), .box (.tmp 0), none, [], false, false⟩,
    ⟨(some 4), .push [(.int .i64 0), (.int .i64 0)], none, [], false, false⟩])
 (.seq (.region true [⟨(some 8), .fieldAddr 2 (.tmp 2), none, [], false, false⟩,
     ⟨(some 9), .load false 1 (.tmp 8), none, [], false, false⟩,
     ⟨(some 10), .move (.tmp 1), none, [], false, false⟩,
     ⟨(some 11), .indexAddr none 10 (.tmp 9) (.tmp 10), none, [], false, false⟩,
     ⟨(some 12), .fieldAddr 0 (.tmp 11), none, [], false, false⟩,
     ⟨(some 13), .load true 4 (.tmp 12), none, [], false, false⟩,
     ⟨(some 14), .fieldAddr 0 (.tmp 2), none, [], false, false⟩,
     ⟨(some 15), .load false 1 (.tmp 14), none, [], false, false⟩,
     ⟨(some 16), .call 57 [(.tmp 13), (.tmp 15)], none, [], false, true⟩,
     ⟨(some 7), .move (.tmp 16), none, [], false, false⟩,
     ⟨(some 17), .extract (.tmp 7) 0, none, [], false, false⟩,
     ⟨(some 18), .extract (.tmp 7) 1, none, [], false, false⟩,
     ⟨(some 5), .push [(.int .i64 0), (.int .i64 0)], none, [], false, false⟩,
     ⟨none, .store 2 (.tmp 5) (.tmp 17), none, [], false, false⟩,
     ⟨(some 6), .move (.tmp 18), none, [], false, false⟩])
  (.seq (.region false [⟨(some 19), .load true 2 (.tmp 5), none, [], false, false⟩,
      ⟨none, .store 2 (.tmp 4) (.tmp 19), none, [], false, false⟩])
   (.ret))),
 [.cell 4 true 2], .pure, 20⟩

/-- agraffe/agrafferef02.CheckWires -/
def ef75 : EFun := ⟨
 .seq (.region false [⟨(some 2), .move (.const (.int .i64 0)), none, [], false, false⟩])
 (.seq (.seq (.region false [⟨(some 4), .move (.tmp 0), none, [], false, false⟩,
      ⟨(some 5), .len false (.tmp 4), none, [], false, false⟩,
      ⟨(some 6), .bin .gtr (.tmp 5) (.const (.int .i64 20)), none, [], false, false⟩])
   (.cond (.tmp 6) (.seq (.region false [⟨(some 2), .move (.const (.int .i64 8)), none, [], false, false⟩])
     (.ret))
    (.skip)))
  (.seq (.seq (.region false [⟨(some 3), .move (.const (.int .i64 0)), none, [], false, false⟩])
    (.block 0 (.loop (some [0, 3]) (
      .seq (.seq (.region false [⟨(some 7), .move (.tmp 3), none, [], false, false⟩,
           ⟨(some 8), .move (.tmp 0), none, [], false, false⟩,
           ⟨(some 9), .len false (.tmp 8), none, [], false, false⟩,
           ⟨(some 10), .bin .lss (.tmp 7) (.tmp 9), none, [], false, false⟩])
        (.cond (.tmp 10) (.skip)
         (.exit 0)))
       (.seq (.block 1 (.seq (.seq (.region false [⟨(some 13), .move (.tmp 0), none, [], false, false⟩,
              ⟨(some 14), .move (.tmp 3), none, [], false, false⟩,
              ⟨(some 15), .indexAddr none 4 (.tmp 13) (.tmp 14), none, [], false, false⟩,
              ⟨(some 16), .fieldAddr 0 (.tmp 15), none, [], false, false⟩,
              ⟨(some 17), .load false 1 (.tmp 16), none, [], false, false⟩,
              ⟨(some 18), .call 134 [(.tmp 17)], none, [], false, false⟩,
              ⟨(some 19), .un .not (.tmp 18), none, [], false, false⟩])
           (.cond (.tmp 19) (.seq (.region false [⟨(some 2), .move (.const (.int .i64 4)), none, [], false, false⟩])
             (.ret))
            (.skip)))
          (.seq (.seq (.region true [⟨(some 20), .move (.tmp 0), none, [], false, false⟩,
               ⟨(some 21), .move (.tmp 3), none, [], false, false⟩,
               ⟨(some 22), .slice 4 (.tmp 20) none (some (.tmp 21)), none, [], false, false⟩,
               ⟨(some 23), .move (.tmp 0), none, [], false, false⟩,
               ⟨(some 24), .move (.tmp 3), none, [], false, false⟩,
               ⟨(some 25), .indexAddr none 4 (.tmp 23) (.tmp 24), none, [], false, false⟩,
               ⟨(some 26), .fieldAddr 0 (.tmp 25), none, [], false, false⟩,
               ⟨(some 27), .load false 1 (.tmp 26), none, [], false, false⟩,
               ⟨(some 28), .call 135 [(.tmp 22), (.tmp 27)], none, [], false, false⟩,
               ⟨(some 29), .bin .geq (.tmp 28) (.const (.int .i64 0)), none, [], false, false⟩])
            (.cond (.tmp 29) (.seq (.region false [⟨(some 2), .move (.const (.int .i64 5)), none, [], false, false⟩])
              (.ret))
             (.skip)))
           (.seq (.region false [⟨(some 30), .move (.tmp 0), none, [], false, false⟩,
               ⟨(some 31), .move (.tmp 3), none, [], false, false⟩,
               ⟨(some 32), .indexAddr none 4 (.tmp 30) (.tmp 31), none, [], false, false⟩,
               ⟨(some 33), .fieldAddr 1 (.tmp 32), none, [], false, false⟩,
               ⟨(some 34), .load false 1 (.tmp 33), none, [], false, false⟩,
               ⟨(some 35), .call 18 [(.tmp 34), (.const (.int .i64 1)), (.const (.int .i64 200000))], none, [], false, false⟩,
               ⟨(some 36), .un .not (.tmp 35), none, [], false, false⟩,
               ⟨(some 37), .move (.tmp 36), none, [], false, false⟩,
               ⟨(some 38), .move (.tmp 0), (some (37, false)), [], false, false⟩,
               ⟨(some 39), .move (.tmp 3), (some (37, false)), [], false, false⟩,
               ⟨(some 40), .indexAddr none 4 (.tmp 38) (.tmp 39), (some (37, false)), [], false, false⟩,
               ⟨(some 41), .fieldAddr 2 (.tmp 40), (some (37, false)), [], false, false⟩,
               ⟨(some 42), .load false 1 (.tmp 41), (some (37, false)), [], false, false⟩,
               ⟨(some 43), .call 18 [(.tmp 42), (.const (.int .i64 1)), (.const (.int .i64 1000000))], (some (37, false)), [], false, false⟩,
               ⟨(some 44), .un .not (.tmp 43), (some (37, false)), [], false, false⟩,
               ⟨(some 45), .pick (.tmp 37) (.const (.bool true)) (.tmp 44), none, [], false, false⟩,
               ⟨(some 46), .move (.tmp 45), none, [], false, false⟩,
               ⟨(some 47), .move (.tmp 0), (some (46, false)), [], false, false⟩,
               ⟨(some 48), .move (.tmp 3), (some (46, false)), [], false, false⟩,
               ⟨(some 49), .indexAddr none 4 (.tmp 47) (.tmp 48), (some (46, false)), [], false, false⟩,
               ⟨(some 50), .fieldAddr 3 (.tmp 49), (some (46, false)), [], false, false⟩,
               ⟨(some 51), .load false 1 (.tmp 50), (some (46, false)), [], false, false⟩,
               ⟨(some 52), .call 18 [(.tmp 51), (.const (.int .i64 0)), (.const (.int .i64 100000000))], (some (46, false)), [], false, false⟩,
               ⟨(some 53), .un .not (.tmp 52), (some (46, false)), [], false, false⟩,
               ⟨(some 54), .pick (.tmp 46) (.const (.bool true)) (.tmp 53), none, [], false, false⟩])
            (.cond (.tmp 54) (.seq (.region false [⟨(some 2), .move (.const (.int .i64 2)), none, [], false, false⟩])
              (.ret))
             (.skip))))))
        (.region false [⟨(some 11), .move (.tmp 3), none, [], false, false⟩,
           ⟨(some 12), .bin .add (.tmp 11) (.const (.int .i64 1)), none, [], false, false⟩,
           ⟨(some 3), .move (.tmp 12), none, [], false, false⟩]))))))
   (.seq (.region false [⟨(some 2), .move (.const (.int .i64 0)), none, [], false, false⟩])
    (.ret)))),
 [.tmp 2], .pure, 55⟩

/-- agraffe/agrafferef02.unison -/
def ef76 : EFun := ⟨
 .seq (.region false [⟨(some 2), .box (.tmp 0), none, [], false, false⟩,
    ⟨(some 4), .move (.const (.int .i64 0)), none, [], false, false⟩])
 (.seq (.region false [⟨(some 9), .fieldAddr 2 (.tmp 2), none, [], false, false⟩,
     ⟨(some 10), .load false 1 (.tmp 9), none, [], false, false⟩,
     ⟨(some 11), .move (.tmp 1), none, [], false, false⟩,
     ⟨(some 12), .indexAddr none 10 (.tmp 10) (.tmp 11), none, [], false, false⟩,
     ⟨(some 13), .load true 10 (.tmp 12), none, [], false, false⟩,
     ⟨(some 5), .push [(.int .i64 0), (.int .i64 0), (.int .i64 0), (.int .i64 0), (.int .i64 0), (.int .i64 0), (.int .i64 0), (.int .i64 0), (.string ⟨#[]⟩), (.string ⟨#[]⟩)], none, [], false, false⟩,
     ⟨none, .store 10 (.tmp 5) (.tmp 13), none, [], false, false⟩])
  (.seq (.seq (.region false [⟨(some 14), .fieldAddr 0 (.tmp 5), none, [], false, false⟩,
       ⟨(some 15), .load true 4 (.tmp 14), none, [], false, false⟩,
       ⟨(some 16), .call 136 [(.tmp 15)], none, [], false, false⟩,
       ⟨(some 17), .un .not (.tmp 16), none, [], false, false⟩])
    (.cond (.tmp 17) (.seq (.region false [⟨(some 4), .move (.const (.int .i64 2)), none, [], false, false⟩])
      (.ret))
     (.skip)))
   (.seq (.seq (.region false [⟨(some 18), .fieldAddr 4 (.tmp 5), none, [], false, false⟩,
        ⟨(some 19), .load false 1 (.tmp 18), none, [], false, false⟩,
        ⟨(some 20), .call 18 [(.tmp 19), (.const (.int .i64 1)), (.const (.int .i64 4))], none, [], false, false⟩,
        ⟨(some 21), .un .not (.tmp 20), none, [], false, false⟩])
     (.cond (.tmp 21) (.seq (.region false [⟨(some 4), .move (.const (.int .i64 2)), none, [], false, false⟩])
       (.ret))
      (.skip)))
    (.seq (.seq (.region false [⟨(some 22), .fieldAddr 1 (.tmp 2), none, [], false, false⟩,
         ⟨(some 23), .load false 1 (.tmp 22), none, [], false, false⟩,
         ⟨(some 24), .fieldAddr 5 (.tmp 5), none, [], false, false⟩,
         ⟨(some 25), .load true 5 (.tmp 24), none, [], false, false⟩,
         ⟨(some 26), .call 94 [(.tmp 23), (.tmp 25)], none, [], false, false⟩,
         ⟨(some 6), .move (.tmp 26), none, [], false, false⟩])
      (.seq (.region false [⟨(some 27), .move (.tmp 6), none, [], false, false⟩,
          ⟨(some 28), .bin .neq (.tmp 27) (.const (.int .i64 0)), none, [], false, false⟩])
       (.cond (.tmp 28) (.seq (.region false [⟨(some 29), .move (.tmp 6), none, [], false, false⟩,
            ⟨(some 4), .move (.tmp 29), none, [], false, false⟩])
         (.ret))
        (.skip))))
     (.seq (.region false [⟨(some 31), .fieldAddr 0 (.tmp 5), none, [], false, false⟩,
         ⟨(some 32), .load true 4 (.tmp 31), none, [], false, false⟩,
         ⟨(some 33), .fieldAddr 0 (.tmp 2), none, [], false, false⟩,
         ⟨(some 34), .load false 1 (.tmp 33), none, [], false, false⟩,
         ⟨(some 35), .call 77 [(.tmp 32), (.tmp 34)], none, [], false, false⟩,
         ⟨(some 30), .move (.tmp 35), none, [], false, false⟩,
         ⟨(some 36), .extract (.tmp 30) 0, none, [], false, false⟩,
         ⟨(some 37), .extract (.tmp 30) 1, none, [], false, false⟩,
         ⟨(some 7), .push [(.int .i64 0), (.int .i64 0)], none, [], false, false⟩,
         ⟨none, .store 2 (.tmp 7) (.tmp 36), none, [], false, false⟩,
         ⟨(some 8), .move (.tmp 37), none, [], false, false⟩])
      (.seq (.seq (.region false [⟨(some 38), .move (.tmp 8), none, [], false, false⟩,
           ⟨(some 39), .bin .neq (.tmp 38) (.const (.int .i64 0)), none, [], false, false⟩])
        (.cond (.tmp 39) (.seq (.region false [⟨(some 40), .move (.tmp 8), none, [], false, false⟩,
             ⟨(some 4), .move (.tmp 40), none, [], false, false⟩])
          (.ret))
         (.skip)))
       (.seq (.seq (.region false [⟨(some 41), .load true 2 (.tmp 7), none, [], false, false⟩,
            ⟨(some 42), .call 137 [(.tmp 41)], none, [], false, false⟩,
            ⟨(some 43), .un .not (.tmp 42), none, [], false, false⟩])
         (.cond (.tmp 43) (.seq (.region false [⟨(some 4), .move (.const (.int .i64 2)), none, [], false, false⟩])
           (.ret))
          (.skip)))
        (.seq (.seq (.region true [⟨(some 44), .move (.tmp 1), none, [], false, false⟩,
             ⟨(some 45), .bin .gtr (.tmp 44) (.const (.int .i64 0)), none, [], false, false⟩,
             ⟨(some 46), .move (.tmp 45), none, [], false, false⟩,
             ⟨(some 47), .fieldAddr 0 (.tmp 5), (some (46, true)), [], false, false⟩,
             ⟨(some 48), .load true 4 (.tmp 47), (some (46, true)), [], false, false⟩,
             ⟨(some 49), .fieldAddr 2 (.tmp 2), (some (46, true)), [], false, false⟩,
             ⟨(some 50), .load false 1 (.tmp 49), (some (46, true)), [], false, false⟩,
             ⟨(some 51), .move (.tmp 1), (some (46, true)), [], false, false⟩,
             ⟨(some 52), .bin .sub (.tmp 51) (.const (.int .i64 1)), (some (46, true)), [], false, false⟩,
             ⟨(some 53), .indexAddr none 10 (.tmp 50) (.tmp 52), (some (46, true)), [], false, false⟩,
             ⟨(some 54), .fieldAddr 0 (.tmp 53), (some (46, true)), [], false, false⟩,
             ⟨(some 55), .load true 4 (.tmp 54), (some (46, true)), [], false, false⟩,
             ⟨(some 56), .call 138 [(.tmp 48), (.tmp 55)], (some (46, true)), [], false, false⟩,
             ⟨(some 57), .bin .leq (.tmp 56) (.const (.int .i64 0)), (some (46, true)), [], false, false⟩,
             ⟨(some 58), .pick (.tmp 46) (.tmp 57) (.const (.bool false)), none, [], false, false⟩])
          (.cond (.tmp 58) (.seq (.region false [⟨(some 4), .move (.const (.int .i64 9)), none, [], false, false⟩])
            (.ret))
           (.skip)))
         (.seq (.region false [⟨(some 4), .move (.const (.int .i64 0)), none, [], false, false⟩])
          (.ret)))))))))),
 [.tmp 4], .pure, 59⟩

/-- agraffe/agrafferef01.Enclose -/
def ef77 : EFun := ⟨
 .seq (.region false [⟨(some 2), .box (.tmp 0), none, [], false, false⟩,
    ⟨(some 4), .push [(.int .i64 0), (.int .i64 0)], none, [], false, false⟩,
    ⟨(some 5), .move (.const (.int .i64 0)), none, [], false, false⟩])
 (.seq (.region false [⟨(some 13), .fieldAddr 0 (.tmp 2), none, [], false, false⟩,
     ⟨(some 14), .load false 1 (.tmp 13), none, [], false, false⟩,
     ⟨(some 15), .fieldAddr 1 (.tmp 2), none, [], false, false⟩,
     ⟨(some 16), .load false 1 (.tmp 15), none, [], false, false⟩,
     ⟨(some 17), .fieldAddr 2 (.tmp 2), none, [], false, false⟩,
     ⟨(some 18), .load false 1 (.tmp 17), none, [], false, false⟩,
     ⟨(some 19), .call 139 [(.tmp 14), (.tmp 16), (.tmp 18)], none, [], false, false⟩,
     ⟨(some 12), .move (.tmp 19), none, [], false, false⟩,
     ⟨(some 20), .extract (.tmp 12) 0, none, [], false, false⟩,
     ⟨(some 21), .extract (.tmp 12) 1, none, [], false, false⟩,
     ⟨(some 6), .move (.tmp 20), none, [], false, false⟩,
     ⟨(some 7), .move (.tmp 21), none, [], false, false⟩])
  (.seq (.region true [⟨(some 22), .move (.tmp 6), none, [], false, false⟩,
      ⟨(some 23), .move (.tmp 1), none, [], false, false⟩,
      ⟨(some 24), .call 142 [(.tmp 23)], none, [], false, true⟩,
      ⟨(some 25), .fieldAddr 3 (.tmp 2), none, [], false, false⟩,
      ⟨(some 26), .load false 1 (.tmp 25), none, [], false, false⟩,
      ⟨(some 27), .call 141 [(.tmp 24), (.tmp 26)], none, [], false, false⟩,
      ⟨(some 28), .call 140 [(.tmp 22), (.tmp 27)], none, [], false, false⟩,
      ⟨(some 6), .move (.tmp 28), none, [], false, false⟩])
   (.seq (.region false [⟨(some 8), .move (.const (.int .i64 0)), none, [], false, false⟩,
       ⟨(some 9), .move (.const (.int .i64 1000000000000001)), none, [], false, false⟩])
    (.seq (.block 0 (.loop (some [2, 4, 6, 7, 8, 9]) (
       .seq (.seq (.region false [⟨(some 29), .move (.tmp 8), none, [], false, false⟩,
            ⟨(some 30), .move (.tmp 9), none, [], false, false⟩,
            ⟨(some 31), .bin .lss (.tmp 29) (.tmp 30), none, [], false, false⟩])
         (.cond (.tmp 31) (.skip)
          (.exit 0)))
        (.block 1 (.seq (.region false [⟨(some 32), .move (.tmp 9), none, [], false, false⟩,
             ⟨(some 33), .move (.tmp 9), none, [], false, false⟩,
             ⟨(some 34), .move (.tmp 8), none, [], false, false⟩,
             ⟨(some 35), .bin .sub (.tmp 33) (.tmp 34), none, [], false, false⟩,
             ⟨(some 36), .bin .quo (.tmp 35) (.const (.int .i64 2)), none, [], false, false⟩,
             ⟨(some 37), .bin .sub (.tmp 32) (.tmp 36), none, [], false, false⟩,
             ⟨(some 10), .move (.tmp 37), none, [], false, false⟩])
          (.seq (.region true [⟨(some 38), .move (.tmp 10), none, [], false, false⟩,
              ⟨(some 39), .call 142 [(.tmp 38)], none, [], false, true⟩,
              ⟨(some 40), .fieldAddr 3 (.tmp 2), none, [], false, false⟩,
              ⟨(some 41), .load false 1 (.tmp 40), none, [], false, false⟩,
              ⟨(some 42), .call 141 [(.tmp 39), (.tmp 41)], none, [], false, false⟩,
              ⟨(some 43), .move (.tmp 7), none, [], false, false⟩,
              ⟨(some 44), .call 140 [(.tmp 42), (.tmp 43)], none, [], false, false⟩,
              ⟨(some 45), .move (.tmp 6), none, [], false, false⟩,
              ⟨(some 46), .call 143 [(.tmp 44), (.tmp 45)], none, [], false, false⟩,
              ⟨(some 47), .bin .leq (.tmp 46) (.const (.int .i64 0)), none, [], false, false⟩])
           (.cond (.tmp 47) (.region false [⟨(some 48), .move (.tmp 10), none, [], false, false⟩,
               ⟨(some 8), .move (.tmp 48), none, [], false, false⟩])
            (.region false [⟨(some 49), .move (.tmp 10), none, [], false, false⟩,
               ⟨(some 50), .bin .sub (.tmp 49) (.const (.int .i64 1)), none, [], false, false⟩,
               ⟨(some 9), .move (.tmp 50), none, [], false, false⟩]))))))))
     (.seq (.region false [⟨(some 51), .move (.tmp 8), none, [], false, false⟩,
         ⟨(some 11), .move (.tmp 51), none, [], false, false⟩])
      (.seq (.seq (.region true [⟨(some 52), .move (.tmp 8), none, [], false, false⟩,
           ⟨(some 53), .call 142 [(.tmp 52)], none, [], false, true⟩,
           ⟨(some 54), .fieldAddr 3 (.tmp 2), none, [], false, false⟩,
           ⟨(some 55), .load false 1 (.tmp 54), none, [], false, false⟩,
           ⟨(some 56), .call 141 [(.tmp 53), (.tmp 55)], none, [], false, false⟩,
           ⟨(some 57), .move (.tmp 7), none, [], false, false⟩,
           ⟨(some 58), .call 140 [(.tmp 56), (.tmp 57)], none, [], false, false⟩,
           ⟨(some 59), .move (.tmp 6), none, [], false, false⟩,
           ⟨(some 60), .call 143 [(.tmp 58), (.tmp 59)], none, [], false, false⟩,
           ⟨(some 61), .bin .neq (.tmp 60) (.const (.int .i64 0)), none, [], false, false⟩])
        (.cond (.tmp 61) (.region false [⟨(some 62), .move (.tmp 8), none, [], false, false⟩,
            ⟨(some 63), .bin .add (.tmp 62) (.const (.int .i64 1)), none, [], false, false⟩,
            ⟨(some 11), .move (.tmp 63), none, [], false, false⟩])
         (.skip)))
       (.seq (.seq (.region false [⟨(some 64), .move (.tmp 11), none, [], false, false⟩,
            ⟨(some 65), .bin .gtr (.tmp 64) (.const (.int .i64 1000000000000000)), none, [], false, false⟩])
         (.cond (.tmp 65) (.seq (.region false [⟨(some 66), .build [(.int .i64 0), (.int .i64 0)] [], none, [], false, false⟩,
              ⟨none, .store 2 (.tmp 4) (.tmp 66), none, [], false, false⟩,
              ⟨(some 5), .move (.const (.int .i64 8)), none, [], false, false⟩])
           (.ret))
          (.skip)))
        (.seq (.region false [⟨(some 67), .move (.tmp 8), none, [], false, false⟩,
            ⟨(some 68), .move (.tmp 11), none, [], false, false⟩,
            ⟨(some 69), .build [(.int .i64 0), (.int .i64 0)] [(0, 1, (.tmp 67)), (1, 1, (.tmp 68))], none, [], false, false⟩,
            ⟨none, .store 2 (.tmp 4) (.tmp 69), none, [], false, false⟩,
            ⟨(some 5), .move (.const (.int .i64 0)), none, [], false, false⟩])
         (.ret))))))))),
 [.cell 4 true 2, .tmp 5], .pure, 70⟩

/-- agraffe/agrafferef02.tension -/
def ef78 : EFun := ⟨
 .seq (.region false [⟨(some 3), .box (.tmp 0), none, [], false, false⟩,
    ⟨(some 5), .box (.tmp 2), none, [], false, false⟩,
    ⟨(some 6), .push [(.int .i64 0), (.int .i64 0)], none, [], false, false⟩])
 (.seq (.region true [⟨(some 7), .fieldAddr 0 (.tmp 3), none, [], false, false⟩,
     ⟨(some 8), .fieldAddr 1 (.tmp 7), none, [], false, false⟩,
     ⟨(some 9), .load false 1 (.tmp 8), none, [], false, false⟩,
     ⟨(some 10), .load true 5 (.tmp 5), none, [], false, false⟩,
     ⟨(some 11), .fieldAddr 3 (.tmp 3), none, [], false, false⟩,
     ⟨(some 12), .load false 1 (.tmp 11), none, [], false, false⟩,
     ⟨(some 13), .move (.tmp 1), none, [], false, false⟩,
     ⟨(some 14), .indexAddr none 2 (.tmp 12) (.tmp 13), none, [], false, false⟩,
     ⟨(some 15), .load true 2 (.tmp 14), none, [], false, false⟩,
     ⟨(some 16), .call 144 [(.tmp 9), (.tmp 10), (.tmp 15)], none, [], false, false⟩,
     ⟨none, .store 2 (.tmp 6) (.tmp 16), none, [], false, false⟩])
  (.ret)),
 [.cell 6 true 2], .pure, 17⟩

/-- agraffe/scale.checkGauges -/
def ef79 : EFun := ⟨
 .seq (.region false [⟨(some 2), .move (.const (.int .i64 0)), none, [], false, false⟩])
 (.seq (.seq (.region false [⟨(some 5), .move (.tmp 0), none, [], false, false⟩,
      ⟨(some 6), .len false (.tmp 5), none, [], false, false⟩,
      ⟨(some 7), .bin .eql (.tmp 6) (.const (.int .i64 0)), none, [], false, false⟩,
      ⟨(some 8), .move (.tmp 7), none, [], false, false⟩,
      ⟨(some 9), .move (.tmp 0), (some (8, false)), [], false, false⟩,
      ⟨(some 10), .len false (.tmp 9), (some (8, false)), [], false, false⟩,
      ⟨(some 11), .bin .gtr (.tmp 10) (.const (.int .i64 20)), (some (8, false)), [], false, false⟩,
      ⟨(some 12), .pick (.tmp 8) (.const (.bool true)) (.tmp 11), none, [], false, false⟩])
   (.cond (.tmp 12) (.seq (.region false [⟨(some 2), .move (.const (.int .i64 8)), none, [], false, false⟩])
     (.ret))
    (.skip)))
  (.seq (.seq (.region false [⟨(some 13), .move (.tmp 0), none, [], false, false⟩,
       ⟨(some 14), .len false (.tmp 13), none, [], false, false⟩,
       ⟨(some 15), .move (.const (.int .i64 0)), none, [], false, false⟩])
    (.block 0 (.loop (some [0, 13, 14, 15]) (
      .seq (.region false [⟨(some 16), .bin .lss (.tmp 15) (.tmp 14), none, [], false, false⟩])
       (.seq (.cond (.tmp 16) (.skip)
         (.exit 0))
        (.seq (.block 1 (.seq (.region false [⟨(some 17), .move (.tmp 15), none, [], false, false⟩,
              ⟨(some 18), .indexAddr none 1 (.tmp 13) (.tmp 15), none, [], false, false⟩,
              ⟨(some 19), .load false 1 (.tmp 18), none, [], false, false⟩,
              ⟨(some 3), .move (.tmp 17), none, [], false, false⟩,
              ⟨(some 4), .move (.tmp 19), none, [], false, false⟩])
           (.block 2 (.seq (.region false [⟨(some 21), .move (.tmp 4), none, [], false, false⟩,
                ⟨(some 22), .call 69 [(.tmp 21), (.const (.int .i64 100)), (.const (.int .i64 3000))], none, [], false, false⟩,
                ⟨(some 23), .un .not (.tmp 22), none, [], false, false⟩,
                ⟨(some 20), .move (.tmp 23), none, [], false, false⟩])
             (.cond (.tmp 20) (.seq (.region false [⟨(some 2), .move (.const (.int .i64 2)), none, [], false, false⟩])
               (.ret))
              (.seq (.region false [⟨(some 25), .move (.tmp 3), none, [], false, false⟩,
                  ⟨(some 26), .bin .gtr (.tmp 25) (.const (.int .i64 0)), none, [], false, false⟩,
                  ⟨(some 27), .move (.tmp 26), none, [], false, false⟩,
                  ⟨(some 28), .move (.tmp 4), (some (27, true)), [], false, false⟩,
                  ⟨(some 29), .move (.tmp 0), (some (27, true)), [], false, false⟩,
                  ⟨(some 30), .move (.tmp 3), (some (27, true)), [], false, false⟩,
                  ⟨(some 31), .bin .sub (.tmp 30) (.const (.int .i64 1)), (some (27, true)), [], false, false⟩,
                  ⟨(some 32), .indexAddr none 1 (.tmp 29) (.tmp 31), (some (27, true)), [], false, false⟩,
                  ⟨(some 33), .load false 1 (.tmp 32), (some (27, true)), [], false, false⟩,
                  ⟨(some 34), .bin .leq (.tmp 28) (.tmp 33), (some (27, true)), [], false, false⟩,
                  ⟨(some 35), .pick (.tmp 27) (.tmp 34) (.const (.bool false)), none, [], false, false⟩,
                  ⟨(some 24), .move (.tmp 35), none, [], false, false⟩])
               (.cond (.tmp 24) (.seq (.region false [⟨(some 2), .move (.const (.int .i64 9)), none, [], false, false⟩])
                 (.ret))
                (.skip))))))))
         (.region false [⟨(some 36), .bin .add (.tmp 15) (.const (.int .i64 1)), none, [], false, false⟩,
            ⟨(some 15), .move (.tmp 36), none, [], false, false⟩])))))))
   (.seq (.region false [⟨(some 2), .move (.const (.int .i64 0)), none, [], false, false⟩])
    (.ret)))),
 [.tmp 2], .pure, 37⟩

/-- slices.Clone[[]agraffe/api.Wire,agraffe/api.Wire] -/
def ef80 : EFun := ⟨
 .seq (.region false [⟨(some 2), .move (.const (.slice none 0 0)), none, [], false, false⟩])
 (.seq (.seq (.region false [⟨(some 3), .move (.tmp 0), none, [], false, false⟩,
      ⟨(some 4), .eqNilS false (.tmp 3), none, [], false, false⟩])
   (.cond (.tmp 4) (.seq (.region false [⟨(some 2), .move (.const (.slice none 0 0)), none, [], false, false⟩])
     (.ret))
    (.skip)))
  (.seq (.region false [⟨(some 5), .buildSlice 4 0 [] [], none, [], false, false⟩,
      ⟨(some 6), .move (.tmp 0), none, [], false, false⟩,
      ⟨(some 7), .append 4 40 (.tmp 5) (.tmp 6), none, [], false, false⟩,
      ⟨(some 2), .move (.tmp 7), none, [], false, false⟩])
   (.ret))),
 [.tmp 2], .pure, 8⟩

/-- slices.Clone[[]agraffe/api.Unison,agraffe/api.Unison] -/
def ef81 : EFun := ⟨
 .seq (.region false [⟨(some 2), .move (.const (.slice none 0 0)), none, [], false, false⟩])
 (.seq (.seq (.region false [⟨(some 3), .move (.tmp 0), none, [], false, false⟩,
      ⟨(some 4), .eqNilS false (.tmp 3), none, [], false, false⟩])
   (.cond (.tmp 4) (.seq (.region false [⟨(some 2), .move (.const (.slice none 0 0)), none, [], false, false⟩])
     (.ret))
    (.skip)))
  (.seq (.region false [⟨(some 5), .buildSlice 10 0 [] [], none, [], false, false⟩,
      ⟨(some 6), .move (.tmp 0), none, [], false, false⟩,
      ⟨(some 7), .append 10 96 (.tmp 5) (.tmp 6), none, [], false, false⟩,
      ⟨(some 2), .move (.tmp 7), none, [], false, false⟩])
   (.ret))),
 [.tmp 2], .pure, 8⟩

/-- agraffe/scale.sounding -/
def ef89 : EFun := ⟨
 .seq (.region false [⟨(some 4), .box (.tmp 1), none, [], false, false⟩,
    ⟨(some 5), .box (.tmp 2), none, [], false, false⟩,
    ⟨(some 6), .push [(.string ⟨#[]⟩), (.int .i64 0), (.int .i64 0), (.int .i64 0), (.int .i64 0), (.int .i64 0), (.int .i64 0), (.string ⟨#[]⟩), (.string ⟨#[]⟩), (.int .i64 0), (.int .i64 0), (.int .i64 0), (.int .i64 0)], none, [], false, false⟩])
 (.seq (.region false [⟨(some 14), .move (.tmp 0), none, [], false, false⟩,
     ⟨(some 15), .fieldAddr 3 (.tmp 4), none, [], false, false⟩,
     ⟨(some 16), .load false 1 (.tmp 15), none, [], false, false⟩,
     ⟨(some 17), .call 145 [(.tmp 14), (.tmp 16)], none, [], false, false⟩,
     ⟨(some 13), .move (.tmp 17), none, [], false, false⟩,
     ⟨(some 18), .extract (.tmp 13) 0, none, [], false, false⟩,
     ⟨(some 19), .extract (.tmp 13) 1, none, [], false, false⟩,
     ⟨(some 7), .push [(.string ⟨#[]⟩), (.int .i64 0), (.int .i64 0), (.int .i64 0)], none, [], false, false⟩,
     ⟨none, .store 4 (.tmp 7) (.tmp 18), none, [], false, false⟩,
     ⟨(some 8), .move (.tmp 19), none, [], false, false⟩])
  (.seq (.region false [⟨(some 20), .fieldAddr 0 (.tmp 5), none, [], false, false⟩,
      ⟨(some 21), .load false 1 (.tmp 20), none, [], false, false⟩,
      ⟨(some 22), .fieldAddr 0 (.tmp 4), none, [], false, false⟩,
      ⟨(some 23), .load false 1 (.tmp 22), none, [], false, false⟩,
      ⟨(some 24), .bin .mul (.tmp 21) (.tmp 23), none, [], false, false⟩,
      ⟨(some 25), .fieldAddr 1 (.tmp 5), none, [], false, false⟩,
      ⟨(some 26), .load false 1 (.tmp 25), none, [], false, false⟩,
      ⟨(some 27), .fieldAddr 0 (.tmp 4), none, [], false, false⟩,
      ⟨(some 28), .load false 1 (.tmp 27), none, [], false, false⟩,
      ⟨(some 29), .bin .mul (.tmp 26) (.tmp 28), none, [], false, false⟩,
      ⟨(some 30), .call 146 [(.tmp 24), (.tmp 29), (.const (.int .i64 1000000))], none, [], false, false⟩,
      ⟨(some 9), .push [(.int .i64 0), (.int .i64 0)], none, [], false, false⟩,
      ⟨none, .store 2 (.tmp 9) (.tmp 30), none, [], false, false⟩])
   (.seq (.region false [⟨(some 31), .fieldAddr 0 (.tmp 9), none, [], false, false⟩,
       ⟨(some 32), .load false 1 (.tmp 31), none, [], false, false⟩,
       ⟨(some 33), .fieldAddr 0 (.tmp 9), none, [], false, false⟩,
       ⟨(some 34), .load false 1 (.tmp 33), none, [], false, false⟩,
       ⟨(some 35), .bin .mul (.tmp 32) (.tmp 34), none, [], false, false⟩,
       ⟨(some 36), .fieldAddr 1 (.tmp 9), none, [], false, false⟩,
       ⟨(some 37), .load false 1 (.tmp 36), none, [], false, false⟩,
       ⟨(some 38), .fieldAddr 1 (.tmp 9), none, [], false, false⟩,
       ⟨(some 39), .load false 1 (.tmp 38), none, [], false, false⟩,
       ⟨(some 40), .bin .mul (.tmp 37) (.tmp 39), none, [], false, false⟩,
       ⟨(some 41), .call 146 [(.tmp 35), (.tmp 40), (.const (.int .i64 10000))], none, [], false, false⟩,
       ⟨(some 10), .push [(.int .i64 0), (.int .i64 0)], none, [], false, false⟩,
       ⟨none, .store 2 (.tmp 10) (.tmp 41), none, [], false, false⟩])
    (.seq (.region false [⟨(some 42), .move (.tmp 0), none, [], false, false⟩,
        ⟨(some 43), .load true 5 (.tmp 4), none, [], false, false⟩,
        ⟨(some 44), .call 147 [(.tmp 42), (.tmp 43)], none, [], false, false⟩,
        ⟨(some 11), .move (.tmp 44), none, [], false, false⟩])
     (.seq (.region false [⟨(some 45), .move (.tmp 11), none, [], false, false⟩,
         ⟨(some 46), .move (.tmp 11), none, [], false, false⟩,
         ⟨(some 47), .call 146 [(.tmp 45), (.tmp 46), (.const (.int .i64 10000))], none, [], false, false⟩,
         ⟨(some 12), .push [(.int .i64 0), (.int .i64 0)], none, [], false, false⟩,
         ⟨none, .store 2 (.tmp 12) (.tmp 47), none, [], false, false⟩])
      (.seq (.region true [⟨(some 48), .load true 4 (.tmp 7), none, [], false, false⟩,
          ⟨(some 49), .load true 5 (.tmp 4), none, [], false, false⟩,
          ⟨(some 50), .load true 2 (.tmp 9), none, [], false, false⟩,
          ⟨(some 51), .fieldAddr 0 (.tmp 12), none, [], false, false⟩,
          ⟨(some 52), .load false 1 (.tmp 51), none, [], false, false⟩,
          ⟨(some 53), .fieldAddr 0 (.tmp 10), none, [], false, false⟩,
          ⟨(some 54), .load false 1 (.tmp 53), none, [], false, false⟩,
          ⟨(some 55), .bin .mul (.tmp 52) (.tmp 54), none, [], false, false⟩,
          ⟨(some 56), .fieldAddr 1 (.tmp 12), none, [], false, false⟩,
          ⟨(some 57), .load false 1 (.tmp 56), none, [], false, false⟩,
          ⟨(some 58), .fieldAddr 1 (.tmp 10), none, [], false, false⟩,
          ⟨(some 59), .load false 1 (.tmp 58), none, [], false, false⟩,
          ⟨(some 60), .bin .mul (.tmp 57) (.tmp 59), none, [], false, false⟩,
          ⟨(some 61), .call 146 [(.tmp 55), (.tmp 60), (.const (.int .i64 1000000))], none, [], false, true⟩,
          ⟨(some 62), .build [(.string ⟨#[]⟩), (.int .i64 0), (.int .i64 0), (.int .i64 0), (.int .i64 0), (.int .i64 0), (.int .i64 0), (.string ⟨#[]⟩), (.string ⟨#[]⟩), (.int .i64 0), (.int .i64 0), (.int .i64 0), (.int .i64 0)] [(0, 4, (.tmp 48)), (4, 5, (.tmp 49)), (9, 2, (.tmp 50)), (11, 2, (.tmp 61))], none, [], false, false⟩,
          ⟨none, .store 13 (.tmp 6) (.tmp 62), none, [], false, false⟩])
       (.ret))))))),
 [.cell 6 true 13], .pure, 63⟩

/-- agraffe/scale.CheckStrand -/
def ef92 : EFun := ⟨
 .seq (.region false [⟨(some 3), .box (.tmp 1), none, [], false, false⟩,
    ⟨(some 4), .move (.const (.int .i64 0)), none, [], false, false⟩])
 (.seq (.seq (.region false [⟨(some 10), .move (.tmp 0), none, [], false, false⟩,
      ⟨(some 11), .call 70 [(.tmp 10)], none, [], false, false⟩,
      ⟨(some 5), .move (.tmp 11), none, [], false, false⟩])
   (.seq (.region false [⟨(some 12), .move (.tmp 5), none, [], false, false⟩,
       ⟨(some 13), .bin .neq (.tmp 12) (.const (.int .i64 0)), none, [], false, false⟩])
    (.cond (.tmp 13) (.seq (.region false [⟨(some 14), .move (.tmp 5), none, [], false, false⟩,
         ⟨(some 4), .move (.tmp 14), none, [], false, false⟩])
      (.ret))
     (.skip))))
  (.seq (.region false [⟨(some 16), .move (.tmp 0), none, [], false, false⟩,
      ⟨(some 17), .fieldAddr 3 (.tmp 3), none, [], false, false⟩,
      ⟨(some 18), .load false 1 (.tmp 17), none, [], false, false⟩,
      ⟨(some 19), .call 145 [(.tmp 16), (.tmp 18)], none, [], false, false⟩,
      ⟨(some 15), .move (.tmp 19), none, [], false, false⟩,
      ⟨(some 20), .extract (.tmp 15) 0, none, [], false, false⟩,
      ⟨(some 21), .extract (.tmp 15) 1, none, [], false, false⟩,
      ⟨(some 6), .push [(.string ⟨#[]⟩), (.int .i64 0), (.int .i64 0), (.int .i64 0)], none, [], false, false⟩,
      ⟨none, .store 4 (.tmp 6) (.tmp 20), none, [], false, false⟩,
      ⟨(some 7), .move (.tmp 21), none, [], false, false⟩])
   (.seq (.region false [⟨(some 23), .move (.tmp 0), none, [], false, false⟩,
       ⟨(some 24), .fieldAddr 4 (.tmp 3), none, [], false, false⟩,
       ⟨(some 25), .load false 1 (.tmp 24), none, [], false, false⟩,
       ⟨(some 26), .call 145 [(.tmp 23), (.tmp 25)], none, [], false, false⟩,
       ⟨(some 22), .move (.tmp 26), none, [], false, false⟩,
       ⟨(some 27), .extract (.tmp 22) 0, none, [], false, false⟩,
       ⟨(some 28), .extract (.tmp 22) 1, none, [], false, false⟩,
       ⟨(some 8), .push [(.string ⟨#[]⟩), (.int .i64 0), (.int .i64 0), (.int .i64 0)], none, [], false, false⟩,
       ⟨none, .store 4 (.tmp 8) (.tmp 27), none, [], false, false⟩,
       ⟨(some 9), .move (.tmp 28), none, [], false, false⟩])
    (.seq (.block 0 (.seq (.region false [⟨(some 30), .fieldAddr 0 (.tmp 3), none, [], false, false⟩,
          ⟨(some 31), .load false 1 (.tmp 30), none, [], false, false⟩,
          ⟨(some 32), .call 69 [(.tmp 31), (.const (.int .i64 1000)), (.const (.int .i64 300000))], none, [], false, false⟩,
          ⟨(some 33), .un .not (.tmp 32), none, [], false, false⟩,
          ⟨(some 34), .move (.tmp 33), none, [], false, false⟩,
          ⟨(some 35), .fieldAddr 1 (.tmp 3), (some (34, false)), [], false, false⟩,
          ⟨(some 36), .load false 1 (.tmp 35), (some (34, false)), [], false, false⟩,
          ⟨(some 37), .call 69 [(.tmp 36), (.const (.int .i64 100)), (.const (.int .i64 3000))], (some (34, false)), [], false, false⟩,
          ⟨(some 38), .un .not (.tmp 37), (some (34, false)), [], false, false⟩,
          ⟨(some 39), .pick (.tmp 34) (.const (.bool true)) (.tmp 38), none, [], false, false⟩,
          ⟨(some 40), .move (.tmp 39), none, [], false, false⟩,
          ⟨(some 41), .fieldAddr 2 (.tmp 3), (some (40, false)), [], false, false⟩,
          ⟨(some 42), .load false 1 (.tmp 41), (some (40, false)), [], false, false⟩,
          ⟨(some 43), .call 69 [(.tmp 42), (.const (.int .i64 0)), (.const (.int .i64 10000))], (some (40, false)), [], false, false⟩,
          ⟨(some 44), .un .not (.tmp 43), (some (40, false)), [], false, false⟩,
          ⟨(some 45), .pick (.tmp 40) (.const (.bool true)) (.tmp 44), none, [], false, false⟩,
          ⟨(some 29), .move (.tmp 45), none, [], false, false⟩])
       (.cond (.tmp 29) (.seq (.region false [⟨(some 4), .move (.const (.int .i64 2)), none, [], false, false⟩])
         (.ret))
        (.seq (.region false [⟨(some 47), .fieldAddr 2 (.tmp 3), none, [], false, false⟩,
            ⟨(some 48), .load false 1 (.tmp 47), none, [], false, false⟩,
            ⟨(some 49), .bin .neq (.tmp 48) (.const (.int .i64 0)), none, [], false, false⟩,
            ⟨(some 50), .move (.tmp 49), none, [], false, false⟩,
            ⟨(some 51), .fieldAddr 2 (.tmp 3), (some (50, true)), [], false, false⟩,
            ⟨(some 52), .load false 1 (.tmp 51), (some (50, true)), [], false, false⟩,
            ⟨(some 53), .fieldAddr 1 (.tmp 3), (some (50, true)), [], false, false⟩,
            ⟨(some 54), .load false 1 (.tmp 53), (some (50, true)), [], false, false⟩,
            ⟨(some 55), .bin .leq (.tmp 52) (.tmp 54), (some (50, true)), [], false, false⟩,
            ⟨(some 56), .pick (.tmp 50) (.tmp 55) (.const (.bool false)), none, [], false, false⟩,
            ⟨(some 57), .move (.tmp 56), none, [], false, false⟩,
            ⟨(some 58), .fieldAddr 2 (.tmp 3), (some (57, false)), [], false, false⟩,
            ⟨(some 59), .load false 1 (.tmp 58), (some (57, false)), [], false, false⟩,
            ⟨(some 60), .bin .eql (.tmp 59) (.const (.int .i64 0)), (some (57, false)), [], false, false⟩,
            ⟨(some 61), .fieldAddr 4 (.tmp 3), (some (57, false)), [], false, false⟩,
            ⟨(some 62), .load false 1 (.tmp 61), (some (57, false)), [], false, false⟩,
            ⟨(some 63), .bin .eql (.tmp 62) (.const (.string ⟨#[]⟩)), (some (57, false)), [], false, false⟩,
            ⟨(some 64), .eqBool true (.tmp 60) (.tmp 63), (some (57, false)), [], false, false⟩,
            ⟨(some 65), .pick (.tmp 57) (.const (.bool true)) (.tmp 64), none, [], false, false⟩,
            ⟨(some 46), .move (.tmp 65), none, [], false, false⟩])
         (.cond (.tmp 46) (.seq (.region false [⟨(some 4), .move (.const (.int .i64 3)), none, [], false, false⟩])
           (.ret))
          (.seq (.region false [⟨(some 67), .move (.tmp 7), none, [], false, false⟩,
              ⟨(some 68), .un .not (.tmp 67), none, [], false, false⟩,
              ⟨(some 69), .move (.tmp 68), none, [], false, false⟩,
              ⟨(some 70), .fieldAddr 2 (.tmp 3), (some (69, false)), [], false, false⟩,
              ⟨(some 71), .load false 1 (.tmp 70), (some (69, false)), [], false, false⟩,
              ⟨(some 72), .bin .neq (.tmp 71) (.const (.int .i64 0)), (some (69, false)), [], false, false⟩,
              ⟨(some 73), .move (.tmp 72), (some (69, false)), [], false, false⟩,
              ⟨(some 74), .move (.tmp 9), (some (73, true)), [], false, false⟩,
              ⟨(some 75), .un .not (.tmp 74), (some (73, true)), [], false, false⟩,
              ⟨(some 76), .pick (.tmp 73) (.tmp 75) (.const (.bool false)), (some (69, false)), [], false, false⟩,
              ⟨(some 77), .pick (.tmp 69) (.const (.bool true)) (.tmp 76), none, [], false, false⟩,
              ⟨(some 66), .move (.tmp 77), none, [], false, false⟩])
           (.cond (.tmp 66) (.seq (.region false [⟨(some 4), .move (.const (.int .i64 6)), none, [], false, false⟩])
             (.ret))
            (.seq (.region false [⟨(some 79), .fieldAddr 2 (.tmp 6), none, [], false, false⟩,
                ⟨(some 80), .load false 1 (.tmp 79), none, [], false, false⟩,
                ⟨(some 81), .fieldAddr 1 (.tmp 3), none, [], false, false⟩,
                ⟨(some 82), .load false 1 (.tmp 81), none, [], false, false⟩,
                ⟨(some 83), .bin .mul (.tmp 80) (.tmp 82), none, [], false, false⟩,
                ⟨(some 84), .fieldAddr 1 (.tmp 3), none, [], false, false⟩,
                ⟨(some 85), .load false 1 (.tmp 84), none, [], false, false⟩,
                ⟨(some 86), .bin .mul (.tmp 83) (.tmp 85), none, [], false, false⟩,
                ⟨(some 87), .bin .lss (.tmp 86) (.const (.int .i64 1000000)), none, [], false, false⟩,
                ⟨(some 78), .move (.tmp 87), none, [], false, false⟩])
             (.cond (.tmp 78) (.seq (.region false [⟨(some 4), .move (.const (.int .i64 11)), none, [], false, false⟩])
               (.ret))
              (.skip))))))))))
     (.seq (.region false [⟨(some 4), .move (.const (.int .i64 0)), none, [], false, false⟩])
      (.ret)))))),
 [.tmp 4], .pure, 88⟩

/-- agraffe/agrafferef02.strand -/
def ef94 : EFun := ⟨
 .seq (.region false [⟨(some 3), .box (.tmp 1), none, [], false, false⟩,
    ⟨(some 4), .move (.const (.int .i64 0)), none, [], false, false⟩])
 (.seq (.seq (.region false [⟨(some 6), .fieldAddr 0 (.tmp 3), none, [], false, false⟩,
      ⟨(some 7), .load false 1 (.tmp 6), none, [], false, false⟩,
      ⟨(some 8), .call 18 [(.tmp 7), (.const (.int .i64 1000)), (.const (.int .i64 300000))], none, [], false, false⟩,
      ⟨(some 9), .un .not (.tmp 8), none, [], false, false⟩,
      ⟨(some 10), .move (.tmp 9), none, [], false, false⟩,
      ⟨(some 11), .fieldAddr 1 (.tmp 3), (some (10, false)), [], false, false⟩,
      ⟨(some 12), .load false 1 (.tmp 11), (some (10, false)), [], false, false⟩,
      ⟨(some 13), .call 18 [(.tmp 12), (.const (.int .i64 100)), (.const (.int .i64 3000))], (some (10, false)), [], false, false⟩,
      ⟨(some 14), .un .not (.tmp 13), (some (10, false)), [], false, false⟩,
      ⟨(some 15), .pick (.tmp 10) (.const (.bool true)) (.tmp 14), none, [], false, false⟩,
      ⟨(some 16), .move (.tmp 15), none, [], false, false⟩,
      ⟨(some 17), .fieldAddr 2 (.tmp 3), (some (16, false)), [], false, false⟩,
      ⟨(some 18), .load false 1 (.tmp 17), (some (16, false)), [], false, false⟩,
      ⟨(some 19), .call 18 [(.tmp 18), (.const (.int .i64 0)), (.const (.int .i64 10000))], (some (16, false)), [], false, false⟩,
      ⟨(some 20), .un .not (.tmp 19), (some (16, false)), [], false, false⟩,
      ⟨(some 21), .pick (.tmp 16) (.const (.bool true)) (.tmp 20), none, [], false, false⟩])
   (.cond (.tmp 21) (.seq (.region false [⟨(some 4), .move (.const (.int .i64 2)), none, [], false, false⟩])
     (.ret))
    (.skip)))
  (.seq (.seq (.region false [⟨(some 22), .fieldAddr 2 (.tmp 3), none, [], false, false⟩,
       ⟨(some 23), .load false 1 (.tmp 22), none, [], false, false⟩,
       ⟨(some 24), .bin .neq (.tmp 23) (.const (.int .i64 0)), none, [], false, false⟩,
       ⟨(some 25), .move (.tmp 24), none, [], false, false⟩,
       ⟨(some 26), .fieldAddr 2 (.tmp 3), (some (25, true)), [], false, false⟩,
       ⟨(some 27), .load false 1 (.tmp 26), (some (25, true)), [], false, false⟩,
       ⟨(some 28), .fieldAddr 1 (.tmp 3), (some (25, true)), [], false, false⟩,
       ⟨(some 29), .load false 1 (.tmp 28), (some (25, true)), [], false, false⟩,
       ⟨(some 30), .bin .leq (.tmp 27) (.tmp 29), (some (25, true)), [], false, false⟩,
       ⟨(some 31), .pick (.tmp 25) (.tmp 30) (.const (.bool false)), none, [], false, false⟩,
       ⟨(some 32), .move (.tmp 31), none, [], false, false⟩,
       ⟨(some 33), .fieldAddr 2 (.tmp 3), (some (32, false)), [], false, false⟩,
       ⟨(some 34), .load false 1 (.tmp 33), (some (32, false)), [], false, false⟩,
       ⟨(some 35), .bin .neq (.tmp 34) (.const (.int .i64 0)), (some (32, false)), [], false, false⟩,
       ⟨(some 36), .fieldAddr 4 (.tmp 3), (some (32, false)), [], false, false⟩,
       ⟨(some 37), .load false 1 (.tmp 36), (some (32, false)), [], false, false⟩,
       ⟨(some 38), .bin .neq (.tmp 37) (.const (.string ⟨#[]⟩)), (some (32, false)), [], false, false⟩,
       ⟨(some 39), .eqBool true (.tmp 35) (.tmp 38), (some (32, false)), [], false, false⟩,
       ⟨(some 40), .pick (.tmp 32) (.const (.bool true)) (.tmp 39), none, [], false, false⟩])
    (.cond (.tmp 40) (.seq (.region false [⟨(some 4), .move (.const (.int .i64 3)), none, [], false, false⟩])
      (.ret))
     (.skip)))
   (.seq (.region false [⟨(some 41), .move (.tmp 0), none, [], false, false⟩,
       ⟨(some 42), .fieldAddr 3 (.tmp 3), none, [], false, false⟩,
       ⟨(some 43), .load false 1 (.tmp 42), none, [], false, false⟩,
       ⟨(some 44), .call 135 [(.tmp 41), (.tmp 43)], none, [], false, false⟩,
       ⟨(some 5), .move (.tmp 44), none, [], false, false⟩])
    (.seq (.seq (.region false [⟨(some 45), .move (.tmp 5), none, [], false, false⟩,
         ⟨(some 46), .bin .lss (.tmp 45) (.const (.int .i64 0)), none, [], false, false⟩,
         ⟨(some 47), .move (.tmp 46), none, [], false, false⟩,
         ⟨(some 48), .fieldAddr 2 (.tmp 3), (some (47, false)), [], false, false⟩,
         ⟨(some 49), .load false 1 (.tmp 48), (some (47, false)), [], false, false⟩,
         ⟨(some 50), .bin .neq (.tmp 49) (.const (.int .i64 0)), (some (47, false)), [], false, false⟩,
         ⟨(some 51), .move (.tmp 50), (some (47, false)), [], false, false⟩,
         ⟨(some 52), .move (.tmp 0), (some (51, true)), [], false, false⟩,
         ⟨(some 53), .fieldAddr 4 (.tmp 3), (some (51, true)), [], false, false⟩,
         ⟨(some 54), .load false 1 (.tmp 53), (some (51, true)), [], false, false⟩,
         ⟨(some 55), .call 135 [(.tmp 52), (.tmp 54)], (some (51, true)), [], false, false⟩,
         ⟨(some 56), .bin .lss (.tmp 55) (.const (.int .i64 0)), (some (51, true)), [], false, false⟩,
         ⟨(some 57), .pick (.tmp 51) (.tmp 56) (.const (.bool false)), (some (47, false)), [], false, false⟩,
         ⟨(some 58), .pick (.tmp 47) (.const (.bool true)) (.tmp 57), none, [], false, false⟩])
      (.cond (.tmp 58) (.seq (.region false [⟨(some 4), .move (.const (.int .i64 6)), none, [], false, false⟩])
        (.ret))
       (.skip)))
     (.seq (.seq (.region true [⟨(some 59), .move (.tmp 0), none, [], false, false⟩,
          ⟨(some 60), .move (.tmp 5), none, [], false, false⟩,
          ⟨(some 61), .indexAddr none 4 (.tmp 59) (.tmp 60), none, [], false, false⟩,
          ⟨(some 62), .fieldAddr 2 (.tmp 61), none, [], false, false⟩,
          ⟨(some 63), .load false 1 (.tmp 62), none, [], false, false⟩,
          ⟨(some 64), .fieldAddr 1 (.tmp 3), none, [], false, false⟩,
          ⟨(some 65), .load false 1 (.tmp 64), none, [], false, false⟩,
          ⟨(some 66), .bin .mul (.tmp 63) (.tmp 65), none, [], false, false⟩,
          ⟨(some 67), .fieldAddr 1 (.tmp 3), none, [], false, false⟩,
          ⟨(some 68), .load false 1 (.tmp 67), none, [], false, false⟩,
          ⟨(some 69), .bin .mul (.tmp 66) (.tmp 68), none, [], false, false⟩,
          ⟨(some 70), .bin .lss (.tmp 69) (.const (.int .i64 1000000)), none, [], false, false⟩])
       (.cond (.tmp 70) (.seq (.region false [⟨(some 4), .move (.const (.int .i64 11)), none, [], false, false⟩])
         (.ret))
        (.skip)))
      (.seq (.region false [⟨(some 4), .move (.const (.int .i64 0)), none, [], false, false⟩])
       (.ret))))))),
 [.tmp 4], .pure, 71⟩

end Go.Abs.X
