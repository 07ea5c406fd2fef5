/- The functions, compiled for the abstract evaluator. Written by wip/abs/Print.lean. -/
import Derived.Test.YtjalhpdmdiimoaaDoorAbsN0
set_option linter.unusedSimpArgs false
set_option linter.unusedVariables false
set_option maxRecDepth 100000
set_option maxHeartbeats 0
namespace Go.Abs.N
open Go Go.Abs
/-- agraffe/agraffelaw01.NumberEncloses -/
def ef3 : EFun := ⟨
 .seq (.region false [⟨(some 2), .box (.tmp 0), none, [], false, false⟩,
    ⟨(some 4), .move (.const (.bool false)), none, [], false, false⟩])
 (.seq (.seq (.region false [⟨(some 9), .call 18 [], none, [], false, false⟩,
      ⟨(some 10), .un .not (.tmp 9), none, [], false, false⟩])
   (.cond (.tmp 10) (.seq (.region false [⟨(some 4), .move (.const (.bool false)), none, [], false, false⟩])
     (.ret))
    (.skip)))
  (.seq (.seq (.region false [⟨(some 11), .load true 4 (.tmp 2), none, [], false, false⟩,
       ⟨(some 12), .call 19 [(.tmp 11)], none, [], false, false⟩,
       ⟨(some 13), .un .not (.tmp 12), none, [], false, false⟩])
    (.cond (.tmp 13) (.seq (.region false [⟨(some 4), .move (.const (.bool true)), none, [], false, false⟩])
      (.ret))
     (.skip)))
   (.seq (.region false [⟨(some 15), .load true 4 (.tmp 2), none, [], false, false⟩,
       ⟨(some 16), .move (.tmp 1), none, [], false, false⟩,
       ⟨(some 17), .call 20 [(.tmp 15), (.tmp 16)], none, [], false, false⟩,
       ⟨(some 14), .move (.tmp 17), none, [], false, false⟩,
       ⟨(some 18), .extract (.tmp 14) 0, none, [], false, false⟩,
       ⟨(some 19), .extract (.tmp 14) 1, none, [], false, false⟩,
       ⟨(some 5), .push [(.int .i64 0), (.int .i64 0)], none, [], false, false⟩,
       ⟨none, .store 2 (.tmp 5) (.tmp 18), none, [], false, false⟩,
       ⟨(some 6), .move (.tmp 19), none, [], false, false⟩])
    (.seq (.region false [⟨(some 20), .load true 4 (.tmp 2), none, [], false, false⟩,
        ⟨(some 21), .buildSlice 4 1 [(.int .i64 0), (.int .i64 0), (.int .i64 0), (.int .i64 0)] [(0, 4, (.tmp 20))], none, [], false, false⟩,
        ⟨(some 22), .call 21 [(.tmp 21)], none, [], false, false⟩,
        ⟨(some 7), .move (.tmp 22), none, [], false, false⟩])
     (.seq (.seq (.region false [⟨(some 23), .move (.tmp 7), none, [], false, false⟩,
          ⟨(some 24), .bin .eql (.tmp 23) (.const (.int .i64 0)), none, [], false, false⟩,
          ⟨(some 25), .move (.tmp 24), none, [], false, false⟩,
          ⟨(some 26), .move (.tmp 1), (some (25, true)), [], false, false⟩,
          ⟨(some 27), .call 22 [(.tmp 26), (.const (.int .i64 1)), (.const (.int .i64 1000000000))], (some (25, true)), [], false, false⟩,
          ⟨(some 28), .un .not (.tmp 27), (some (25, true)), [], false, false⟩,
          ⟨(some 29), .pick (.tmp 25) (.tmp 28) (.const (.bool false)), none, [], false, false⟩])
       (.cond (.tmp 29) (.region false [⟨(some 7), .move (.const (.int .i64 2)), none, [], false, false⟩])
        (.skip)))
      (.seq (.seq (.region false [⟨(some 30), .move (.tmp 7), none, [], false, false⟩,
           ⟨(some 31), .bin .neq (.tmp 30) (.const (.int .i64 0)), none, [], false, false⟩])
        (.cond (.tmp 31) (.seq (.region false [⟨(some 32), .move (.tmp 6), none, [], false, false⟩,
             ⟨(some 33), .move (.tmp 7), none, [], false, false⟩,
             ⟨(some 34), .bin .eql (.tmp 32) (.tmp 33), none, [], false, false⟩,
             ⟨(some 35), .move (.tmp 34), none, [], false, false⟩,
             ⟨(some 36), .load true 2 (.tmp 5), (some (35, true)), [], false, false⟩,
             ⟨(some 37), .build [(.int .i64 0), (.int .i64 0)] [], (some (35, true)), [], false, false⟩,
             ⟨(some 38), .eqAgg false [(.int .i64), (.int .i64)] (.tmp 36) (.tmp 37), (some (35, true)), [], false, false⟩,
             ⟨(some 39), .pick (.tmp 35) (.tmp 38) (.const (.bool false)), none, [], false, false⟩,
             ⟨(some 4), .move (.tmp 39), none, [], false, false⟩])
          (.ret))
         (.skip)))
       (.seq (.region false [⟨(some 41), .load true 4 (.tmp 2), none, [], false, false⟩,
           ⟨(some 42), .move (.tmp 1), none, [], false, false⟩,
           ⟨(some 43), .call 23 [(.tmp 41), (.tmp 42)], none, [], false, false⟩,
           ⟨(some 40), .move (.tmp 43), none, [], false, false⟩,
           ⟨(some 44), .extract (.tmp 40) 0, none, [], false, false⟩,
           ⟨(some 45), .extract (.tmp 40) 1, none, [], false, false⟩,
           ⟨(some 8), .push [(.int .i64 0), (.int .i64 0)], none, [], false, false⟩,
           ⟨none, .store 2 (.tmp 8) (.tmp 44), none, [], false, false⟩,
           ⟨(some 7), .move (.tmp 45), none, [], false, false⟩])
        (.seq (.region false [⟨(some 46), .move (.tmp 6), none, [], false, false⟩,
            ⟨(some 47), .move (.tmp 7), none, [], false, false⟩,
            ⟨(some 48), .bin .eql (.tmp 46) (.tmp 47), none, [], false, false⟩,
            ⟨(some 49), .move (.tmp 48), none, [], false, false⟩,
            ⟨(some 50), .load true 2 (.tmp 5), (some (49, true)), [], false, false⟩,
            ⟨(some 51), .load true 2 (.tmp 8), (some (49, true)), [], false, false⟩,
            ⟨(some 52), .eqAgg false [(.int .i64), (.int .i64)] (.tmp 50) (.tmp 51), (some (49, true)), [], false, false⟩,
            ⟨(some 53), .pick (.tmp 49) (.tmp 52) (.const (.bool false)), none, [], false, false⟩,
            ⟨(some 54), .move (.tmp 53), none, [], false, false⟩,
            ⟨(some 55), .fieldAddr 1 (.tmp 5), (some (54, true)), [], false, false⟩,
            ⟨(some 56), .load false 1 (.tmp 55), (some (54, true)), [], false, false⟩,
            ⟨(some 57), .fieldAddr 0 (.tmp 5), (some (54, true)), [], false, false⟩,
            ⟨(some 58), .load false 1 (.tmp 57), (some (54, true)), [], false, false⟩,
            ⟨(some 59), .bin .sub (.tmp 56) (.tmp 58), (some (54, true)), [], false, false⟩,
            ⟨(some 60), .call 22 [(.tmp 59), (.const (.int .i64 0)), (.const (.int .i64 1))], (some (54, true)), [], false, false⟩,
            ⟨(some 61), .pick (.tmp 54) (.tmp 60) (.const (.bool false)), none, [], false, false⟩,
            ⟨(some 4), .move (.tmp 61), none, [], false, false⟩])
         (.ret))))))))),
 [.tmp 4], .pure, 62⟩

/-- agraffe/agraffelaw01.NumberBest -/
def ef4 : EFun := ⟨
 .seq (.region false [⟨(some 6), .move (.const (.bool false)), none, [], false, false⟩])
 (.seq (.seq (.region false [⟨(some 11), .call 18 [], none, [], false, false⟩,
      ⟨(some 12), .un .not (.tmp 11), none, [], false, false⟩])
   (.cond (.tmp 12) (.seq (.region false [⟨(some 6), .move (.const (.bool false)), none, [], false, false⟩])
     (.ret))
    (.skip)))
  (.seq (.seq (.region false [⟨(some 13), .move (.tmp 0), none, [], false, false⟩,
       ⟨(some 14), .len false (.tmp 13), none, [], false, false⟩,
       ⟨(some 15), .bin .gtr (.tmp 14) (.const (.int .i64 12)), none, [], false, false⟩,
       ⟨(some 16), .move (.tmp 15), none, [], false, false⟩,
       ⟨(some 17), .move (.tmp 0), (some (16, false)), [], false, false⟩,
       ⟨(some 18), .call 24 [(.tmp 17)], (some (16, false)), [], false, false⟩,
       ⟨(some 19), .bin .neq (.tmp 18) (.const (.int .i64 0)), (some (16, false)), [], false, false⟩,
       ⟨(some 20), .pick (.tmp 16) (.const (.bool true)) (.tmp 19), none, [], false, false⟩,
       ⟨(some 21), .move (.tmp 20), none, [], false, false⟩,
       ⟨(some 22), .move (.tmp 1), (some (21, false)), [], false, false⟩,
       ⟨(some 23), .call 22 [(.tmp 22), (.const (.int .i64 (-20000))), (.const (.int .i64 20000))], (some (21, false)), [], false, false⟩,
       ⟨(some 24), .un .not (.tmp 23), (some (21, false)), [], false, false⟩,
       ⟨(some 25), .pick (.tmp 21) (.const (.bool true)) (.tmp 24), none, [], false, false⟩,
       ⟨(some 26), .move (.tmp 25), none, [], false, false⟩,
       ⟨(some 27), .move (.tmp 2), (some (26, false)), [], false, false⟩,
       ⟨(some 28), .call 22 [(.tmp 27), (.const (.int .i64 (-20000))), (.const (.int .i64 20000))], (some (26, false)), [], false, false⟩,
       ⟨(some 29), .un .not (.tmp 28), (some (26, false)), [], false, false⟩,
       ⟨(some 30), .pick (.tmp 26) (.const (.bool true)) (.tmp 29), none, [], false, false⟩])
    (.cond (.tmp 30) (.seq (.region false [⟨(some 6), .move (.const (.bool true)), none, [], false, false⟩])
      (.ret))
     (.skip)))
   (.seq (.region false [⟨(some 32), .move (.tmp 0), none, [], false, false⟩,
       ⟨(some 33), .call 25 [(.tmp 32)], none, [], false, false⟩,
       ⟨(some 31), .move (.tmp 33), none, [], false, false⟩,
       ⟨(some 34), .extract (.tmp 31) 0, none, [], false, false⟩,
       ⟨(some 35), .extract (.tmp 31) 1, none, [], false, false⟩,
       ⟨(some 7), .push (List.replicate 9 (.int .i64 0)), none, [], false, false⟩,
       ⟨none, .store 9 (.tmp 7) (.tmp 34), none, [], false, false⟩,
       ⟨(some 8), .move (.tmp 35), none, [], false, false⟩])
    (.seq (.seq (.region false [⟨(some 36), .move (.tmp 8), none, [], false, false⟩,
         ⟨(some 37), .bin .neq (.tmp 36) (.const (.int .i64 0)), none, [], false, false⟩,
         ⟨(some 38), .move (.tmp 37), none, [], false, false⟩,
         ⟨(some 39), .fieldAddr 4 (.tmp 7), (some (38, false)), [], false, false⟩,
         ⟨(some 40), .fieldAddr 1 (.tmp 39), (some (38, false)), [], false, false⟩,
         ⟨(some 41), .load false 1 (.tmp 40), (some (38, false)), [], false, false⟩,
         ⟨(some 42), .call 22 [(.tmp 41), (.const (.int .i64 1)), (.const (.int .i64 40000))], (some (38, false)), [], false, false⟩,
         ⟨(some 43), .un .not (.tmp 42), (some (38, false)), [], false, false⟩,
         ⟨(some 44), .pick (.tmp 38) (.const (.bool true)) (.tmp 43), none, [], false, false⟩,
         ⟨(some 45), .move (.tmp 44), none, [], false, false⟩,
         ⟨(some 46), .fieldAddr 4 (.tmp 7), (some (45, false)), [], false, false⟩,
         ⟨(some 47), .fieldAddr 0 (.tmp 46), (some (45, false)), [], false, false⟩,
         ⟨(some 48), .load false 1 (.tmp 47), (some (45, false)), [], false, false⟩,
         ⟨(some 49), .call 22 [(.tmp 48), (.const (.int .i64 0)), (.const (.int .i64 1000000000))], (some (45, false)), [], false, false⟩,
         ⟨(some 50), .un .not (.tmp 49), (some (45, false)), [], false, false⟩,
         ⟨(some 51), .pick (.tmp 45) (.const (.bool true)) (.tmp 50), none, [], false, false⟩])
      (.cond (.tmp 51) (.seq (.region false [⟨(some 6), .move (.const (.bool false)), none, [], false, false⟩])
        (.ret))
       (.skip)))
     (.seq (.region false [⟨(some 9), .move (.const (.int .i64 0)), none, [], false, false⟩])
      (.seq (.seq (.region false [⟨(some 10), .move (.const (.int .i64 0)), none, [], false, false⟩])
        (.block 0 (.loop (some [0, 1, 2, 7, 9, 10]) (
          .seq (.seq (.region false [⟨(some 52), .move (.tmp 10), none, [], false, false⟩,
               ⟨(some 53), .move (.tmp 0), none, [], false, false⟩,
               ⟨(some 54), .len false (.tmp 53), none, [], false, false⟩,
               ⟨(some 55), .bin .lss (.tmp 52) (.tmp 54), none, [], false, false⟩])
            (.cond (.tmp 55) (.skip)
             (.exit 0)))
           (.seq (.block 1 (.region true [⟨(some 58), .move (.tmp 9), none, [], false, false⟩,
                ⟨(some 59), .move (.tmp 0), none, [], false, false⟩,
                ⟨(some 60), .move (.tmp 10), none, [], false, false⟩,
                ⟨(some 61), .indexAddr none 2 (.tmp 59) (.tmp 60), none, [], false, false⟩,
                ⟨(some 62), .fieldAddr 1 (.tmp 61), none, [], false, false⟩,
                ⟨(some 63), .load false 1 (.tmp 62), none, [], false, false⟩,
                ⟨(some 64), .move (.tmp 1), none, [], false, false⟩,
                ⟨(some 65), .bin .sub (.tmp 63) (.tmp 64), none, [], false, false⟩,
                ⟨(some 66), .move (.tmp 2), none, [], false, false⟩,
                ⟨(some 67), .move (.tmp 0), none, [], false, false⟩,
                ⟨(some 68), .move (.tmp 10), none, [], false, false⟩,
                ⟨(some 69), .indexAddr none 2 (.tmp 67) (.tmp 68), none, [], false, false⟩,
                ⟨(some 70), .fieldAddr 0 (.tmp 69), none, [], false, false⟩,
                ⟨(some 71), .load false 1 (.tmp 70), none, [], false, false⟩,
                ⟨(some 72), .bin .mul (.tmp 66) (.tmp 71), none, [], false, false⟩,
                ⟨(some 73), .bin .sub (.tmp 65) (.tmp 72), none, [], false, false⟩,
                ⟨(some 74), .call 26 [(.tmp 73)], none, [], false, false⟩,
                ⟨(some 75), .max [(.tmp 58), (.tmp 74)], none, [], false, false⟩,
                ⟨(some 9), .move (.tmp 75), none, [], false, false⟩]))
            (.region false [⟨(some 56), .move (.tmp 10), none, [], false, false⟩,
               ⟨(some 57), .bin .add (.tmp 56) (.const (.int .i64 1)), none, [], false, false⟩,
               ⟨(some 10), .move (.tmp 57), none, [], false, false⟩]))))))
       (.seq (.region false [⟨(some 76), .move (.tmp 9), none, [], false, false⟩,
           ⟨(some 77), .fieldAddr 4 (.tmp 7), none, [], false, false⟩,
           ⟨(some 78), .fieldAddr 1 (.tmp 77), none, [], false, false⟩,
           ⟨(some 79), .load false 1 (.tmp 78), none, [], false, false⟩,
           ⟨(some 80), .bin .mul (.tmp 76) (.tmp 79), none, [], false, false⟩,
           ⟨(some 81), .fieldAddr 4 (.tmp 7), none, [], false, false⟩,
           ⟨(some 82), .fieldAddr 0 (.tmp 81), none, [], false, false⟩,
           ⟨(some 83), .load false 1 (.tmp 82), none, [], false, false⟩,
           ⟨(some 84), .bin .geq (.tmp 80) (.tmp 83), none, [], false, false⟩,
           ⟨(some 6), .move (.tmp 84), none, [], false, false⟩])
        (.ret)))))))),
 [.tmp 6], .pure, 85⟩

/-- agraffe/agraffelaw01.NumberRanges -/
def ef5 : EFun := ⟨
 .seq (.region false [⟨(some 2), .box (.tmp 0), none, [], false, false⟩,
    ⟨(some 3), .box (.tmp 1), none, [], false, false⟩,
    ⟨(some 4), .move (.const (.bool false)), none, [], false, false⟩])
 (.seq (.seq (.region false [⟨(some 14), .call 18 [], none, [], false, false⟩,
      ⟨(some 15), .un .not (.tmp 14), none, [], false, false⟩])
   (.cond (.tmp 15) (.seq (.region false [⟨(some 4), .move (.const (.bool false)), none, [], false, false⟩])
     (.ret))
    (.skip)))
  (.seq (.region false [⟨(some 17), .load true 2 (.tmp 2), none, [], false, false⟩,
      ⟨(some 18), .load true 2 (.tmp 3), none, [], false, false⟩,
      ⟨(some 19), .call 27 [(.tmp 17), (.tmp 18)], none, [], false, false⟩,
      ⟨(some 16), .move (.tmp 19), none, [], false, false⟩,
      ⟨(some 20), .extract (.tmp 16) 0, none, [], false, false⟩,
      ⟨(some 21), .extract (.tmp 16) 1, none, [], false, false⟩,
      ⟨(some 5), .push [(.int .i64 0), (.int .i64 0)], none, [], false, false⟩,
      ⟨none, .store 2 (.tmp 5) (.tmp 20), none, [], false, false⟩,
      ⟨(some 6), .move (.tmp 21), none, [], false, false⟩])
   (.seq (.region false [⟨(some 23), .load true 2 (.tmp 2), none, [], false, false⟩,
       ⟨(some 24), .load true 2 (.tmp 3), none, [], false, false⟩,
       ⟨(some 25), .call 28 [(.tmp 23), (.tmp 24)], none, [], false, false⟩,
       ⟨(some 22), .move (.tmp 25), none, [], false, false⟩,
       ⟨(some 26), .extract (.tmp 22) 0, none, [], false, false⟩,
       ⟨(some 27), .extract (.tmp 22) 1, none, [], false, false⟩,
       ⟨(some 7), .push [(.int .i64 0), (.int .i64 0)], none, [], false, false⟩,
       ⟨none, .store 2 (.tmp 7) (.tmp 26), none, [], false, false⟩,
       ⟨(some 8), .move (.tmp 27), none, [], false, false⟩])
    (.seq (.seq (.region true [⟨(some 28), .load true 2 (.tmp 2), none, [], false, false⟩,
         ⟨(some 29), .call 29 [(.tmp 28)], none, [], false, true⟩,
         ⟨(some 30), .load true 2 (.tmp 2), none, [], false, false⟩,
         ⟨(some 31), .call 30 [(.tmp 30)], none, [], false, false⟩,
         ⟨(some 32), .bin .neq (.tmp 29) (.tmp 31), none, [], false, false⟩])
      (.cond (.tmp 32) (.seq (.region false [⟨(some 4), .move (.const (.bool false)), none, [], false, false⟩])
        (.ret))
       (.skip)))
     (.seq (.seq (.region false [⟨(some 33), .load true 2 (.tmp 2), none, [], false, false⟩,
          ⟨(some 34), .load true 2 (.tmp 3), none, [], false, false⟩,
          ⟨(some 35), .call 31 [(.tmp 33), (.tmp 34)], none, [], false, false⟩,
          ⟨(some 9), .move (.tmp 35), none, [], false, false⟩])
       (.seq (.region false [⟨(some 36), .move (.tmp 9), none, [], false, false⟩,
           ⟨(some 37), .bin .neq (.tmp 36) (.const (.int .i64 0)), none, [], false, false⟩])
        (.cond (.tmp 37) (.seq (.region false [⟨(some 38), .move (.tmp 6), none, [], false, false⟩,
             ⟨(some 39), .move (.tmp 9), none, [], false, false⟩,
             ⟨(some 40), .bin .eql (.tmp 38) (.tmp 39), none, [], false, false⟩,
             ⟨(some 41), .move (.tmp 40), none, [], false, false⟩,
             ⟨(some 42), .move (.tmp 8), (some (41, true)), [], false, false⟩,
             ⟨(some 43), .move (.tmp 9), (some (41, true)), [], false, false⟩,
             ⟨(some 44), .bin .eql (.tmp 42) (.tmp 43), (some (41, true)), [], false, false⟩,
             ⟨(some 45), .pick (.tmp 41) (.tmp 44) (.const (.bool false)), none, [], false, false⟩,
             ⟨(some 46), .move (.tmp 45), none, [], false, false⟩,
             ⟨(some 47), .load true 2 (.tmp 5), (some (46, true)), [], false, false⟩,
             ⟨(some 48), .build [(.int .i64 0), (.int .i64 0)] [], (some (46, true)), [], false, false⟩,
             ⟨(some 49), .eqAgg false [(.int .i64), (.int .i64)] (.tmp 47) (.tmp 48), (some (46, true)), [], false, false⟩,
             ⟨(some 50), .pick (.tmp 46) (.tmp 49) (.const (.bool false)), none, [], false, false⟩,
             ⟨(some 51), .move (.tmp 50), none, [], false, false⟩,
             ⟨(some 52), .load true 2 (.tmp 7), (some (51, true)), [], false, false⟩,
             ⟨(some 53), .build [(.int .i64 0), (.int .i64 0)] [], (some (51, true)), [], false, false⟩,
             ⟨(some 54), .eqAgg false [(.int .i64), (.int .i64)] (.tmp 52) (.tmp 53), (some (51, true)), [], false, false⟩,
             ⟨(some 55), .pick (.tmp 51) (.tmp 54) (.const (.bool false)), none, [], false, false⟩,
             ⟨(some 4), .move (.tmp 55), none, [], false, false⟩])
          (.ret))
         (.skip))))
      (.seq (.region false [⟨(some 57), .load true 2 (.tmp 2), none, [], false, false⟩,
          ⟨(some 58), .load true 2 (.tmp 3), none, [], false, false⟩,
          ⟨(some 59), .call 32 [(.tmp 57), (.tmp 58)], none, [], false, false⟩,
          ⟨(some 56), .move (.tmp 59), none, [], false, false⟩,
          ⟨(some 60), .extract (.tmp 56) 0, none, [], false, false⟩,
          ⟨(some 61), .extract (.tmp 56) 1, none, [], false, false⟩,
          ⟨(some 10), .push [(.int .i64 0), (.int .i64 0)], none, [], false, false⟩,
          ⟨none, .store 2 (.tmp 10) (.tmp 60), none, [], false, false⟩,
          ⟨(some 11), .move (.tmp 61), none, [], false, false⟩])
       (.seq (.region false [⟨(some 63), .load true 2 (.tmp 2), none, [], false, false⟩,
           ⟨(some 64), .load true 2 (.tmp 3), none, [], false, false⟩,
           ⟨(some 65), .call 33 [(.tmp 63), (.tmp 64)], none, [], false, false⟩,
           ⟨(some 62), .move (.tmp 65), none, [], false, false⟩,
           ⟨(some 66), .extract (.tmp 62) 0, none, [], false, false⟩,
           ⟨(some 67), .extract (.tmp 62) 1, none, [], false, false⟩,
           ⟨(some 12), .push [(.int .i64 0), (.int .i64 0)], none, [], false, false⟩,
           ⟨none, .store 2 (.tmp 12) (.tmp 66), none, [], false, false⟩,
           ⟨(some 13), .move (.tmp 67), none, [], false, false⟩])
        (.seq (.region false [⟨(some 68), .load true 2 (.tmp 5), none, [], false, false⟩,
            ⟨(some 69), .load true 2 (.tmp 10), none, [], false, false⟩,
            ⟨(some 70), .eqAgg false [(.int .i64), (.int .i64)] (.tmp 68) (.tmp 69), none, [], false, false⟩,
            ⟨(some 71), .move (.tmp 70), none, [], false, false⟩,
            ⟨(some 72), .move (.tmp 6), (some (71, true)), [], false, false⟩,
            ⟨(some 73), .move (.tmp 11), (some (71, true)), [], false, false⟩,
            ⟨(some 74), .bin .eql (.tmp 72) (.tmp 73), (some (71, true)), [], false, false⟩,
            ⟨(some 75), .pick (.tmp 71) (.tmp 74) (.const (.bool false)), none, [], false, false⟩,
            ⟨(some 76), .move (.tmp 75), none, [], false, false⟩,
            ⟨(some 77), .load true 2 (.tmp 7), (some (76, true)), [], false, false⟩,
            ⟨(some 78), .load true 2 (.tmp 12), (some (76, true)), [], false, false⟩,
            ⟨(some 79), .eqAgg false [(.int .i64), (.int .i64)] (.tmp 77) (.tmp 78), (some (76, true)), [], false, false⟩,
            ⟨(some 80), .pick (.tmp 76) (.tmp 79) (.const (.bool false)), none, [], false, false⟩,
            ⟨(some 81), .move (.tmp 80), none, [], false, false⟩,
            ⟨(some 82), .move (.tmp 8), (some (81, true)), [], false, false⟩,
            ⟨(some 83), .move (.tmp 13), (some (81, true)), [], false, false⟩,
            ⟨(some 84), .bin .eql (.tmp 82) (.tmp 83), (some (81, true)), [], false, false⟩,
            ⟨(some 85), .pick (.tmp 81) (.tmp 84) (.const (.bool false)), none, [], false, false⟩,
            ⟨(some 4), .move (.tmp 85), none, [], false, false⟩])
         (.ret))))))))),
 [.tmp 4], .pure, 86⟩

/-- agraffe/agraffelaw01.NumberSystems -/
def ef6 : EFun := ⟨
 .seq (.region false [⟨(some 4), .move (.const (.bool false)), none, [], false, false⟩])
 (.seq (.seq (.region false [⟨(some 15), .call 18 [], none, [], false, false⟩,
      ⟨(some 16), .un .not (.tmp 15), none, [], false, false⟩])
   (.cond (.tmp 16) (.seq (.region false [⟨(some 4), .move (.const (.bool false)), none, [], false, false⟩])
     (.ret))
    (.skip)))
  (.seq (.seq (.region false [⟨(some 17), .move (.tmp 1), none, [], false, false⟩,
       ⟨(some 18), .len false (.tmp 17), none, [], false, false⟩,
       ⟨(some 19), .bin .gtr (.tmp 18) (.const (.int .i64 30)), none, [], false, false⟩,
       ⟨(some 20), .move (.tmp 19), none, [], false, false⟩,
       ⟨(some 21), .move (.tmp 1), (some (20, true)), [], false, false⟩,
       ⟨(some 22), .len false (.tmp 21), (some (20, true)), [], false, false⟩,
       ⟨(some 23), .bin .leq (.tmp 22) (.const (.int .i64 200)), (some (20, true)), [], false, false⟩,
       ⟨(some 24), .pick (.tmp 20) (.tmp 23) (.const (.bool false)), none, [], false, false⟩,
       ⟨(some 25), .move (.tmp 24), none, [], false, false⟩,
       ⟨(some 26), .move (.tmp 1), (some (25, false)), [], false, false⟩,
       ⟨(some 27), .len false (.tmp 26), (some (25, false)), [], false, false⟩,
       ⟨(some 28), .bin .gtr (.tmp 27) (.const (.int .i64 210)), (some (25, false)), [], false, false⟩,
       ⟨(some 29), .pick (.tmp 25) (.const (.bool true)) (.tmp 28), none, [], false, false⟩])
    (.cond (.tmp 29) (.seq (.region false [⟨(some 4), .move (.const (.bool true)), none, [], false, false⟩])
      (.ret))
     (.skip)))
   (.seq (.region false [⟨(some 30), .move (.tmp 0), none, [], false, false⟩,
       ⟨(some 31), .move (.tmp 1), none, [], false, false⟩,
       ⟨(some 32), .call 34 [(.tmp 30), (.tmp 31)], none, [], false, false⟩,
       ⟨(some 5), .move (.tmp 32), none, [], false, false⟩])
    (.seq (.region false [⟨(some 34), .move (.tmp 0), none, [], false, false⟩,
        ⟨(some 35), .move (.tmp 1), none, [], false, false⟩,
        ⟨(some 36), .call 35 [(.tmp 34), (.tmp 35)], none, [], false, false⟩,
        ⟨(some 33), .move (.tmp 36), none, [], false, false⟩,
        ⟨(some 37), .extract (.tmp 33) 0, none, [], false, false⟩,
        ⟨(some 38), .extract (.tmp 33) 1, none, [], false, false⟩,
        ⟨(some 39), .extract (.tmp 33) 2, none, [], false, false⟩,
        ⟨(some 6), .move (.tmp 37), none, [], false, false⟩,
        ⟨(some 7), .move (.tmp 38), none, [], false, false⟩,
        ⟨(some 8), .move (.tmp 39), none, [], false, false⟩])
     (.seq (.seq (.region false [⟨(some 40), .move (.tmp 0), none, [], false, false⟩,
          ⟨(some 41), .move (.tmp 1), none, [], false, false⟩,
          ⟨(some 42), .call 36 [(.tmp 40), (.tmp 41)], none, [], false, false⟩,
          ⟨(some 43), .move (.tmp 5), none, [], false, false⟩,
          ⟨(some 44), .bin .neq (.tmp 42) (.tmp 43), none, [], false, false⟩])
       (.cond (.tmp 44) (.seq (.region false [⟨(some 4), .move (.const (.bool false)), none, [], false, false⟩])
         (.ret))
        (.skip)))
      (.seq (.seq (.region false [⟨(some 45), .move (.tmp 5), none, [], false, false⟩,
           ⟨(some 46), .bin .neq (.tmp 45) (.const (.int .i64 0)), none, [], false, false⟩])
        (.cond (.tmp 46) (.seq (.region false [⟨(some 47), .move (.tmp 8), none, [], false, false⟩,
             ⟨(some 48), .move (.tmp 5), none, [], false, false⟩,
             ⟨(some 49), .bin .eql (.tmp 47) (.tmp 48), none, [], false, false⟩,
             ⟨(some 50), .move (.tmp 49), none, [], false, false⟩,
             ⟨(some 51), .move (.tmp 6), (some (50, true)), [], false, false⟩,
             ⟨(some 52), .len false (.tmp 51), (some (50, true)), [], false, false⟩,
             ⟨(some 53), .bin .eql (.tmp 52) (.const (.int .i64 0)), (some (50, true)), [], false, false⟩,
             ⟨(some 54), .pick (.tmp 50) (.tmp 53) (.const (.bool false)), none, [], false, false⟩,
             ⟨(some 55), .move (.tmp 54), none, [], false, false⟩,
             ⟨(some 56), .move (.tmp 7), (some (55, true)), [], false, false⟩,
             ⟨(some 57), .len false (.tmp 56), (some (55, true)), [], false, false⟩,
             ⟨(some 58), .bin .eql (.tmp 57) (.const (.int .i64 0)), (some (55, true)), [], false, false⟩,
             ⟨(some 59), .pick (.tmp 55) (.tmp 58) (.const (.bool false)), none, [], false, false⟩,
             ⟨(some 4), .move (.tmp 59), none, [], false, false⟩])
          (.ret))
         (.skip)))
       (.seq (.region false [⟨(some 61), .move (.tmp 0), none, [], false, false⟩,
           ⟨(some 62), .move (.tmp 1), none, [], false, false⟩,
           ⟨(some 63), .call 37 [(.tmp 61), (.tmp 62)], none, [], false, false⟩,
           ⟨(some 60), .move (.tmp 63), none, [], false, false⟩,
           ⟨(some 64), .extract (.tmp 60) 0, none, [], false, false⟩,
           ⟨(some 65), .extract (.tmp 60) 1, none, [], false, false⟩,
           ⟨(some 9), .move (.tmp 64), none, [], false, false⟩,
           ⟨(some 10), .move (.tmp 65), none, [], false, false⟩])
        (.seq (.seq (.region false [⟨(some 66), .move (.tmp 10), none, [], false, false⟩])
          (.cond (.tmp 66) (.seq (.region false [⟨(some 67), .move (.tmp 8), none, [], false, false⟩,
               ⟨(some 68), .bin .eql (.tmp 67) (.const (.int .i64 0)), none, [], false, false⟩,
               ⟨(some 69), .move (.tmp 68), none, [], false, false⟩,
               ⟨(some 70), .move (.tmp 6), (some (69, true)), [], false, false⟩,
               ⟨(some 71), .move (.tmp 9), (some (69, true)), [], false, false⟩,
               ⟨(some 72), .call 38 [(.tmp 70), (.tmp 71)], (some (69, true)), [], false, false⟩,
               ⟨(some 73), .pick (.tmp 69) (.tmp 72) (.const (.bool false)), none, [], false, false⟩,
               ⟨(some 74), .move (.tmp 73), none, [], false, false⟩,
               ⟨(some 75), .move (.tmp 7), (some (74, true)), [], false, false⟩,
               ⟨(some 76), .len false (.tmp 75), (some (74, true)), [], false, false⟩,
               ⟨(some 77), .bin .eql (.tmp 76) (.const (.int .i64 0)), (some (74, true)), [], false, false⟩,
               ⟨(some 78), .pick (.tmp 74) (.tmp 77) (.const (.bool false)), none, [], false, false⟩,
               ⟨(some 4), .move (.tmp 78), none, [], false, false⟩])
            (.ret))
           (.skip)))
         (.seq (.seq (.region false [⟨(some 79), .move (.tmp 8), none, [], false, false⟩,
              ⟨(some 80), .bin .neq (.tmp 79) (.const (.int .i64 21)), none, [], false, false⟩,
              ⟨(some 81), .move (.tmp 80), none, [], false, false⟩,
              ⟨(some 82), .move (.tmp 6), (some (81, false)), [], false, false⟩,
              ⟨(some 83), .len false (.tmp 82), (some (81, false)), [], false, false⟩,
              ⟨(some 84), .bin .neq (.tmp 83) (.const (.int .i64 0)), (some (81, false)), [], false, false⟩,
              ⟨(some 85), .pick (.tmp 81) (.const (.bool true)) (.tmp 84), none, [], false, false⟩,
              ⟨(some 86), .move (.tmp 85), none, [], false, false⟩,
              ⟨(some 87), .move (.tmp 7), (some (86, false)), [], false, false⟩,
              ⟨(some 88), .len false (.tmp 87), (some (86, false)), [], false, false⟩,
              ⟨(some 89), .move (.tmp 0), (some (86, false)), [], false, false⟩,
              ⟨(some 90), .bin .gtr (.tmp 88) (.tmp 89), (some (86, false)), [], false, false⟩,
              ⟨(some 91), .pick (.tmp 86) (.const (.bool true)) (.tmp 90), none, [], false, false⟩])
           (.cond (.tmp 91) (.seq (.region false [⟨(some 4), .move (.const (.bool false)), none, [], false, false⟩])
             (.ret))
            (.skip)))
          (.seq (.region false [⟨(some 93), .move (.tmp 1), none, [], false, false⟩,
              ⟨(some 94), .move (.tmp 7), none, [], false, false⟩,
              ⟨(some 95), .call 39 [(.tmp 93), (.tmp 94)], none, [], false, false⟩,
              ⟨(some 92), .move (.tmp 95), none, [], false, false⟩,
              ⟨(some 96), .extract (.tmp 92) 0, none, [], false, false⟩,
              ⟨(some 97), .extract (.tmp 92) 1, none, [], false, false⟩,
              ⟨(some 11), .move (.tmp 96), none, [], false, false⟩,
              ⟨(some 12), .move (.tmp 97), none, [], false, false⟩])
           (.seq (.region false [⟨(some 99), .move (.tmp 0), none, [], false, false⟩,
               ⟨(some 100), .move (.tmp 1), none, [], false, false⟩,
               ⟨(some 101), .move (.tmp 7), none, [], false, false⟩,
               ⟨(some 102), .call 41 [(.tmp 101)], none, [], false, false⟩,
               ⟨(some 103), .call 40 [(.tmp 99), (.tmp 100), (.tmp 102)], none, [], false, false⟩,
               ⟨(some 98), .move (.tmp 103), none, [], false, false⟩,
               ⟨(some 104), .extract (.tmp 98) 0, none, [], false, false⟩,
               ⟨(some 105), .extract (.tmp 98) 1, none, [], false, false⟩,
               ⟨(some 13), .move (.tmp 104), none, [], false, false⟩,
               ⟨(some 14), .move (.tmp 105), none, [], false, false⟩])
            (.seq (.region false [⟨(some 106), .move (.tmp 12), none, [], false, false⟩,
                ⟨(some 107), .bin .eql (.tmp 106) (.const (.int .i64 0)), none, [], false, false⟩,
                ⟨(some 108), .move (.tmp 107), none, [], false, false⟩,
                ⟨(some 109), .move (.tmp 14), (some (108, true)), [], false, false⟩,
                ⟨(some 110), .bin .eql (.tmp 109) (.const (.int .i64 0)), (some (108, true)), [], false, false⟩,
                ⟨(some 111), .pick (.tmp 108) (.tmp 110) (.const (.bool false)), none, [], false, false⟩,
                ⟨(some 4), .move (.tmp 111), none, [], false, false⟩])
             (.ret))))))))))))),
 [.tmp 4], .pure, 112⟩

/-- agraffe/agraffelaw01.NumberPowers -/
def ef7 : EFun := ⟨
 .seq (.region false [⟨(some 2), .box (.tmp 0), none, [], false, false⟩,
    ⟨(some 3), .box (.tmp 1), none, [], false, false⟩,
    ⟨(some 4), .move (.const (.bool false)), none, [], false, false⟩])
 (.seq (.seq (.region false [⟨(some 9), .call 18 [], none, [], false, false⟩,
      ⟨(some 10), .un .not (.tmp 9), none, [], false, false⟩])
   (.cond (.tmp 10) (.seq (.region false [⟨(some 4), .move (.const (.bool false)), none, [], false, false⟩])
     (.ret))
    (.skip)))
  (.seq (.region false [⟨(some 12), .load true 4 (.tmp 2), none, [], false, false⟩,
      ⟨(some 13), .load true 2 (.tmp 3), none, [], false, false⟩,
      ⟨(some 14), .call 42 [(.tmp 12), (.tmp 13)], none, [], false, false⟩,
      ⟨(some 11), .move (.tmp 14), none, [], false, false⟩,
      ⟨(some 15), .extract (.tmp 11) 0, none, [], false, false⟩,
      ⟨(some 16), .extract (.tmp 11) 1, none, [], false, false⟩,
      ⟨(some 5), .push [(.int .i64 0), (.int .i64 0), (.int .i64 0), (.int .i64 0)], none, [], false, false⟩,
      ⟨none, .store 4 (.tmp 5) (.tmp 15), none, [], false, false⟩,
      ⟨(some 6), .move (.tmp 16), none, [], false, false⟩])
   (.seq (.region false [⟨(some 17), .load true 4 (.tmp 2), none, [], false, false⟩,
       ⟨(some 18), .buildSlice 4 1 [(.int .i64 0), (.int .i64 0), (.int .i64 0), (.int .i64 0)] [(0, 4, (.tmp 17))], none, [], false, false⟩,
       ⟨(some 19), .call 21 [(.tmp 18)], none, [], false, false⟩,
       ⟨(some 7), .move (.tmp 19), none, [], false, false⟩])
    (.seq (.seq (.region false [⟨(some 20), .move (.tmp 7), none, [], false, false⟩,
         ⟨(some 21), .bin .eql (.tmp 20) (.const (.int .i64 0)), none, [], false, false⟩])
      (.cond (.tmp 21) (.region false [⟨(some 22), .load true 2 (.tmp 3), none, [], false, false⟩,
          ⟨(some 23), .call 43 [(.tmp 22)], none, [], false, false⟩,
          ⟨(some 7), .move (.tmp 23), none, [], false, false⟩])
       (.skip)))
     (.seq (.seq (.region false [⟨(some 24), .move (.tmp 7), none, [], false, false⟩,
          ⟨(some 25), .bin .neq (.tmp 24) (.const (.int .i64 0)), none, [], false, false⟩])
       (.cond (.tmp 25) (.seq (.region false [⟨(some 26), .move (.tmp 6), none, [], false, false⟩,
            ⟨(some 27), .move (.tmp 7), none, [], false, false⟩,
            ⟨(some 28), .bin .eql (.tmp 26) (.tmp 27), none, [], false, false⟩,
            ⟨(some 29), .move (.tmp 28), none, [], false, false⟩,
            ⟨(some 30), .load true 4 (.tmp 5), (some (29, true)), [], false, false⟩,
            ⟨(some 31), .build [(.int .i64 0), (.int .i64 0), (.int .i64 0), (.int .i64 0)] [], (some (29, true)), [], false, false⟩,
            ⟨(some 32), .eqAgg false [(.int .i64), (.int .i64), (.int .i64), (.int .i64)] (.tmp 30) (.tmp 31), (some (29, true)), [], false, false⟩,
            ⟨(some 33), .pick (.tmp 29) (.tmp 32) (.const (.bool false)), none, [], false, false⟩,
            ⟨(some 4), .move (.tmp 33), none, [], false, false⟩])
         (.ret))
        (.skip)))
      (.seq (.region false [⟨(some 35), .load true 4 (.tmp 2), none, [], false, false⟩,
          ⟨(some 36), .load true 2 (.tmp 3), none, [], false, false⟩,
          ⟨(some 37), .call 44 [(.tmp 35), (.tmp 36)], none, [], false, false⟩,
          ⟨(some 34), .move (.tmp 37), none, [], false, false⟩,
          ⟨(some 38), .extract (.tmp 34) 0, none, [], false, false⟩,
          ⟨(some 39), .extract (.tmp 34) 1, none, [], false, false⟩,
          ⟨(some 8), .push [(.int .i64 0), (.int .i64 0), (.int .i64 0), (.int .i64 0)], none, [], false, false⟩,
          ⟨none, .store 4 (.tmp 8) (.tmp 38), none, [], false, false⟩,
          ⟨(some 7), .move (.tmp 39), none, [], false, false⟩])
       (.seq (.region false [⟨(some 40), .move (.tmp 6), none, [], false, false⟩,
           ⟨(some 41), .move (.tmp 7), none, [], false, false⟩,
           ⟨(some 42), .bin .eql (.tmp 40) (.tmp 41), none, [], false, false⟩,
           ⟨(some 43), .move (.tmp 42), none, [], false, false⟩,
           ⟨(some 44), .load true 4 (.tmp 5), (some (43, true)), [], false, false⟩,
           ⟨(some 45), .load true 4 (.tmp 8), (some (43, true)), [], false, false⟩,
           ⟨(some 46), .eqAgg false [(.int .i64), (.int .i64), (.int .i64), (.int .i64)] (.tmp 44) (.tmp 45), (some (43, true)), [], false, false⟩,
           ⟨(some 47), .pick (.tmp 43) (.tmp 46) (.const (.bool false)), none, [], false, false⟩,
           ⟨(some 4), .move (.tmp 47), none, [], false, false⟩])
        (.ret)))))))),
 [.tmp 4], .pure, 48⟩

/-- agraffe/agraffelaw01.NumberRounded -/
def ef8 : EFun := ⟨
 .seq (.region false [⟨(some 2), .box (.tmp 0), none, [], false, false⟩,
    ⟨(some 4), .move (.const (.bool false)), none, [], false, false⟩])
 (.seq (.seq (.region false [⟨(some 8), .call 18 [], none, [], false, false⟩,
      ⟨(some 9), .un .not (.tmp 8), none, [], false, false⟩])
   (.cond (.tmp 9) (.seq (.region false [⟨(some 4), .move (.const (.bool false)), none, [], false, false⟩])
     (.ret))
    (.skip)))
  (.seq (.region false [⟨(some 11), .load true 2 (.tmp 2), none, [], false, false⟩,
      ⟨(some 12), .move (.tmp 1), none, [], false, false⟩,
      ⟨(some 13), .call 45 [(.tmp 11), (.tmp 12)], none, [], false, false⟩,
      ⟨(some 10), .move (.tmp 13), none, [], false, false⟩,
      ⟨(some 14), .extract (.tmp 10) 0, none, [], false, false⟩,
      ⟨(some 15), .extract (.tmp 10) 1, none, [], false, false⟩,
      ⟨(some 5), .push [(.int .i64 0), (.int .i64 0)], none, [], false, false⟩,
      ⟨none, .store 2 (.tmp 5) (.tmp 14), none, [], false, false⟩,
      ⟨(some 6), .move (.tmp 15), none, [], false, false⟩])
   (.seq (.region false [⟨(some 16), .load true 2 (.tmp 2), none, [], false, false⟩,
       ⟨(some 17), .call 43 [(.tmp 16)], none, [], false, false⟩,
       ⟨(some 7), .move (.tmp 17), none, [], false, false⟩])
    (.seq (.seq (.region false [⟨(some 18), .move (.tmp 7), none, [], false, false⟩,
         ⟨(some 19), .bin .eql (.tmp 18) (.const (.int .i64 0)), none, [], false, false⟩,
         ⟨(some 20), .move (.tmp 19), none, [], false, false⟩,
         ⟨(some 21), .move (.tmp 1), (some (20, true)), [], false, false⟩,
         ⟨(some 22), .call 22 [(.tmp 21), (.const (.int .i64 1)), (.const (.int .i64 1000000000))], (some (20, true)), [], false, false⟩,
         ⟨(some 23), .un .not (.tmp 22), (some (20, true)), [], false, false⟩,
         ⟨(some 24), .pick (.tmp 20) (.tmp 23) (.const (.bool false)), none, [], false, false⟩])
      (.cond (.tmp 24) (.region false [⟨(some 7), .move (.const (.int .i64 2)), none, [], false, false⟩])
       (.skip)))
     (.seq (.seq (.region false [⟨(some 25), .move (.tmp 7), none, [], false, false⟩,
          ⟨(some 26), .bin .neq (.tmp 25) (.const (.int .i64 0)), none, [], false, false⟩])
       (.cond (.tmp 26) (.seq (.region false [⟨(some 27), .move (.tmp 6), none, [], false, false⟩,
            ⟨(some 28), .move (.tmp 7), none, [], false, false⟩,
            ⟨(some 29), .bin .eql (.tmp 27) (.tmp 28), none, [], false, false⟩,
            ⟨(some 30), .move (.tmp 29), none, [], false, false⟩,
            ⟨(some 31), .load true 2 (.tmp 5), (some (30, true)), [], false, false⟩,
            ⟨(some 32), .build [(.int .i64 0), (.int .i64 0)] [], (some (30, true)), [], false, false⟩,
            ⟨(some 33), .eqAgg false [(.int .i64), (.int .i64)] (.tmp 31) (.tmp 32), (some (30, true)), [], false, false⟩,
            ⟨(some 34), .pick (.tmp 30) (.tmp 33) (.const (.bool false)), none, [], false, false⟩,
            ⟨(some 4), .move (.tmp 34), none, [], false, false⟩])
         (.ret))
        (.skip)))
      (.seq (.region true [⟨(some 35), .move (.tmp 6), none, [], false, false⟩,
          ⟨(some 36), .bin .eql (.tmp 35) (.const (.int .i64 0)), none, [], false, false⟩,
          ⟨(some 37), .move (.tmp 36), none, [], false, false⟩,
          ⟨(some 38), .load true 2 (.tmp 5), (some (37, true)), [], false, false⟩,
          ⟨(some 39), .load true 2 (.tmp 2), (some (37, true)), [], false, false⟩,
          ⟨(some 40), .move (.tmp 1), (some (37, true)), [], false, false⟩,
          ⟨(some 41), .call 46 [(.tmp 39), (.tmp 40)], (some (37, true)), [], false, true⟩,
          ⟨(some 42), .eqAgg false [(.int .i64), (.int .i64)] (.tmp 38) (.tmp 41), (some (37, true)), [], false, false⟩,
          ⟨(some 43), .pick (.tmp 37) (.tmp 42) (.const (.bool false)), none, [], false, false⟩,
          ⟨(some 44), .move (.tmp 43), none, [], false, false⟩,
          ⟨(some 45), .fieldAddr 1 (.tmp 5), (some (44, true)), [], false, false⟩,
          ⟨(some 46), .load false 1 (.tmp 45), (some (44, true)), [], false, false⟩,
          ⟨(some 47), .fieldAddr 0 (.tmp 5), (some (44, true)), [], false, false⟩,
          ⟨(some 48), .load false 1 (.tmp 47), (some (44, true)), [], false, false⟩,
          ⟨(some 49), .bin .sub (.tmp 46) (.tmp 48), (some (44, true)), [], false, false⟩,
          ⟨(some 50), .call 22 [(.tmp 49), (.const (.int .i64 0)), (.const (.int .i64 1))], (some (44, true)), [], false, false⟩,
          ⟨(some 51), .pick (.tmp 44) (.tmp 50) (.const (.bool false)), none, [], false, false⟩,
          ⟨(some 4), .move (.tmp 51), none, [], false, false⟩])
       (.ret))))))),
 [.tmp 4], .pure, 52⟩

/-- agraffe/agraffelaw01.NumberRoots -/
def ef9 : EFun := ⟨
 .seq (.region false [⟨(some 4), .move (.const (.bool false)), none, [], false, false⟩])
 (.seq (.seq (.region false [⟨(some 7), .call 18 [], none, [], false, false⟩,
      ⟨(some 8), .un .not (.tmp 7), none, [], false, false⟩])
   (.cond (.tmp 8) (.seq (.region false [⟨(some 4), .move (.const (.bool false)), none, [], false, false⟩])
     (.ret))
    (.skip)))
  (.seq (.region false [⟨(some 10), .move (.tmp 0), none, [], false, false⟩,
      ⟨(some 11), .move (.tmp 1), none, [], false, false⟩,
      ⟨(some 12), .call 47 [(.tmp 10), (.tmp 11)], none, [], false, false⟩,
      ⟨(some 9), .move (.tmp 12), none, [], false, false⟩,
      ⟨(some 13), .extract (.tmp 9) 0, none, [], false, false⟩,
      ⟨(some 14), .extract (.tmp 9) 1, none, [], false, false⟩,
      ⟨(some 5), .move (.tmp 13), none, [], false, false⟩,
      ⟨(some 6), .move (.tmp 14), none, [], false, false⟩])
   (.seq (.seq (.region false [⟨(some 15), .move (.tmp 0), none, [], false, false⟩,
        ⟨(some 16), .call 22 [(.tmp 15), (.const (.int .i64 0)), (.const (.int .i64 1000000000000000000))], none, [], false, false⟩,
        ⟨(some 17), .un .not (.tmp 16), none, [], false, false⟩,
        ⟨(some 18), .move (.tmp 17), none, [], false, false⟩,
        ⟨(some 19), .move (.tmp 1), (some (18, false)), [], false, false⟩,
        ⟨(some 20), .call 22 [(.tmp 19), (.const (.int .i64 1)), (.const (.int .i64 12))], (some (18, false)), [], false, false⟩,
        ⟨(some 21), .un .not (.tmp 20), (some (18, false)), [], false, false⟩,
        ⟨(some 22), .pick (.tmp 18) (.const (.bool true)) (.tmp 21), none, [], false, false⟩])
     (.cond (.tmp 22) (.seq (.region false [⟨(some 23), .move (.tmp 6), none, [], false, false⟩,
          ⟨(some 24), .bin .eql (.tmp 23) (.const (.int .i64 2)), none, [], false, false⟩,
          ⟨(some 25), .move (.tmp 24), none, [], false, false⟩,
          ⟨(some 26), .move (.tmp 5), (some (25, true)), [], false, false⟩,
          ⟨(some 27), .bin .eql (.tmp 26) (.const (.int .i64 0)), (some (25, true)), [], false, false⟩,
          ⟨(some 28), .pick (.tmp 25) (.tmp 27) (.const (.bool false)), none, [], false, false⟩,
          ⟨(some 4), .move (.tmp 28), none, [], false, false⟩])
       (.ret))
      (.skip)))
    (.seq (.region false [⟨(some 29), .move (.tmp 6), none, [], false, false⟩,
        ⟨(some 30), .bin .eql (.tmp 29) (.const (.int .i64 0)), none, [], false, false⟩,
        ⟨(some 31), .move (.tmp 30), none, [], false, false⟩,
        ⟨(some 32), .move (.tmp 5), (some (31, true)), [], false, false⟩,
        ⟨(some 33), .move (.tmp 0), (some (31, true)), [], false, false⟩,
        ⟨(some 34), .move (.tmp 1), (some (31, true)), [], false, false⟩,
        ⟨(some 35), .call 48 [(.tmp 33), (.tmp 34)], (some (31, true)), [], false, false⟩,
        ⟨(some 36), .bin .eql (.tmp 32) (.tmp 35), (some (31, true)), [], false, false⟩,
        ⟨(some 37), .pick (.tmp 31) (.tmp 36) (.const (.bool false)), none, [], false, false⟩,
        ⟨(some 4), .move (.tmp 37), none, [], false, false⟩])
     (.ret))))),
 [.tmp 4], .pure, 38⟩

/-- agraffe/agraffelaw01.NumberPitches -/
def ef10 : EFun := ⟨
 .seq (.region false [⟨(some 2), .box (.tmp 0), none, [], false, false⟩,
    ⟨(some 3), .box (.tmp 1), none, [], false, false⟩,
    ⟨(some 4), .move (.const (.bool false)), none, [], false, false⟩])
 (.seq (.seq (.region false [⟨(some 15), .call 18 [], none, [], false, false⟩,
      ⟨(some 16), .un .not (.tmp 15), none, [], false, false⟩])
   (.cond (.tmp 16) (.seq (.region false [⟨(some 4), .move (.const (.bool false)), none, [], false, false⟩])
     (.ret))
    (.skip)))
  (.seq (.region false [⟨(some 18), .load true 4 (.tmp 2), none, [], false, false⟩,
      ⟨(some 19), .call 49 [(.tmp 18)], none, [], false, false⟩,
      ⟨(some 17), .move (.tmp 19), none, [], false, false⟩,
      ⟨(some 20), .extract (.tmp 17) 0, none, [], false, false⟩,
      ⟨(some 21), .extract (.tmp 17) 1, none, [], false, false⟩,
      ⟨(some 5), .push [(.int .i64 0), (.int .i64 0), (.int .i64 0), (.int .i64 0)], none, [], false, false⟩,
      ⟨none, .store 4 (.tmp 5) (.tmp 20), none, [], false, false⟩,
      ⟨(some 6), .move (.tmp 21), none, [], false, false⟩])
   (.seq (.region false [⟨(some 23), .load true 4 (.tmp 2), none, [], false, false⟩,
       ⟨(some 24), .load true 4 (.tmp 3), none, [], false, false⟩,
       ⟨(some 25), .call 50 [(.tmp 23), (.tmp 24)], none, [], false, false⟩,
       ⟨(some 22), .move (.tmp 25), none, [], false, false⟩,
       ⟨(some 26), .extract (.tmp 22) 0, none, [], false, false⟩,
       ⟨(some 27), .extract (.tmp 22) 1, none, [], false, false⟩,
       ⟨(some 7), .push [(.int .i64 0), (.int .i64 0), (.int .i64 0), (.int .i64 0)], none, [], false, false⟩,
       ⟨none, .store 4 (.tmp 7) (.tmp 26), none, [], false, false⟩,
       ⟨(some 8), .move (.tmp 27), none, [], false, false⟩])
    (.seq (.region false [⟨(some 28), .load true 4 (.tmp 2), none, [], false, false⟩,
        ⟨(some 29), .buildSlice 4 1 [(.int .i64 0), (.int .i64 0), (.int .i64 0), (.int .i64 0)] [(0, 4, (.tmp 28))], none, [], false, false⟩,
        ⟨(some 30), .call 21 [(.tmp 29)], none, [], false, false⟩,
        ⟨(some 9), .move (.tmp 30), none, [], false, false⟩])
     (.seq (.seq (.region false [⟨(some 31), .load true 4 (.tmp 2), none, [], false, false⟩,
          ⟨(some 32), .call 51 [(.tmp 31)], none, [], false, false⟩,
          ⟨(some 33), .move (.tmp 9), none, [], false, false⟩,
          ⟨(some 34), .bin .neq (.tmp 32) (.tmp 33), none, [], false, false⟩,
          ⟨(some 35), .move (.tmp 34), none, [], false, false⟩,
          ⟨(some 36), .move (.tmp 6), (some (35, false)), [], false, false⟩,
          ⟨(some 37), .move (.tmp 9), (some (35, false)), [], false, false⟩,
          ⟨(some 38), .bin .neq (.tmp 36) (.tmp 37), (some (35, false)), [], false, false⟩,
          ⟨(some 39), .pick (.tmp 35) (.const (.bool true)) (.tmp 38), none, [], false, false⟩,
          ⟨(some 40), .move (.tmp 39), none, [], false, false⟩,
          ⟨(some 41), .move (.tmp 9), (some (40, false)), [], false, false⟩,
          ⟨(some 42), .bin .neq (.tmp 41) (.const (.int .i64 0)), (some (40, false)), [], false, false⟩,
          ⟨(some 43), .move (.tmp 42), (some (40, false)), [], false, false⟩,
          ⟨(some 44), .load true 4 (.tmp 5), (some (43, true)), [], false, false⟩,
          ⟨(some 45), .build [(.int .i64 0), (.int .i64 0), (.int .i64 0), (.int .i64 0)] [], (some (43, true)), [], false, false⟩,
          ⟨(some 46), .eqAgg true [(.int .i64), (.int .i64), (.int .i64), (.int .i64)] (.tmp 44) (.tmp 45), (some (43, true)), [], false, false⟩,
          ⟨(some 47), .pick (.tmp 43) (.tmp 46) (.const (.bool false)), (some (40, false)), [], false, false⟩,
          ⟨(some 48), .pick (.tmp 40) (.const (.bool true)) (.tmp 47), none, [], false, false⟩])
       (.cond (.tmp 48) (.seq (.region false [⟨(some 4), .move (.const (.bool false)), none, [], false, false⟩])
         (.ret))
        (.skip)))
      (.seq (.seq (.region true [⟨(some 49), .move (.tmp 9), none, [], false, false⟩,
           ⟨(some 50), .bin .eql (.tmp 49) (.const (.int .i64 0)), none, [], false, false⟩,
           ⟨(some 51), .move (.tmp 50), none, [], false, false⟩,
           ⟨(some 52), .load true 4 (.tmp 5), (some (51, true)), [], false, false⟩,
           ⟨(some 53), .load true 4 (.tmp 2), (some (51, true)), [], false, false⟩,
           ⟨(some 54), .call 52 [(.tmp 53)], (some (51, true)), [], false, true⟩,
           ⟨(some 55), .eqAgg true [(.int .i64), (.int .i64), (.int .i64), (.int .i64)] (.tmp 52) (.tmp 54), (some (51, true)), [], false, false⟩,
           ⟨(some 56), .pick (.tmp 51) (.tmp 55) (.const (.bool false)), none, [], false, false⟩])
        (.cond (.tmp 56) (.seq (.region false [⟨(some 4), .move (.const (.bool false)), none, [], false, false⟩])
          (.ret))
         (.skip)))
       (.seq (.seq (.region false [⟨(some 57), .load true 4 (.tmp 2), none, [], false, false⟩,
            ⟨(some 58), .load true 4 (.tmp 3), none, [], false, false⟩,
            ⟨(some 59), .buildSlice 4 2 (List.replicate 8 (.int .i64 0)) [(0, 4, (.tmp 57)), (4, 4, (.tmp 58))], none, [], false, false⟩,
            ⟨(some 60), .call 21 [(.tmp 59)], none, [], false, false⟩,
            ⟨(some 10), .move (.tmp 60), none, [], false, false⟩])
         (.seq (.region false [⟨(some 61), .move (.tmp 10), none, [], false, false⟩,
             ⟨(some 62), .bin .neq (.tmp 61) (.const (.int .i64 0)), none, [], false, false⟩])
          (.cond (.tmp 62) (.seq (.region false [⟨(some 63), .move (.tmp 8), none, [], false, false⟩,
               ⟨(some 64), .move (.tmp 10), none, [], false, false⟩,
               ⟨(some 65), .bin .eql (.tmp 63) (.tmp 64), none, [], false, false⟩,
               ⟨(some 66), .move (.tmp 65), none, [], false, false⟩,
               ⟨(some 67), .load true 4 (.tmp 7), (some (66, true)), [], false, false⟩,
               ⟨(some 68), .build [(.int .i64 0), (.int .i64 0), (.int .i64 0), (.int .i64 0)] [], (some (66, true)), [], false, false⟩,
               ⟨(some 69), .eqAgg false [(.int .i64), (.int .i64), (.int .i64), (.int .i64)] (.tmp 67) (.tmp 68), (some (66, true)), [], false, false⟩,
               ⟨(some 70), .pick (.tmp 66) (.tmp 69) (.const (.bool false)), none, [], false, false⟩,
               ⟨(some 4), .move (.tmp 70), none, [], false, false⟩])
            (.ret))
           (.skip))))
        (.seq (.region false [⟨(some 72), .load true 4 (.tmp 2), none, [], false, false⟩,
            ⟨(some 73), .load true 4 (.tmp 3), none, [], false, false⟩,
            ⟨(some 74), .call 53 [(.tmp 72), (.tmp 73)], none, [], false, false⟩,
            ⟨(some 71), .move (.tmp 74), none, [], false, false⟩,
            ⟨(some 75), .extract (.tmp 71) 0, none, [], false, false⟩,
            ⟨(some 76), .extract (.tmp 71) 1, none, [], false, false⟩,
            ⟨(some 11), .push [(.int .i64 0), (.int .i64 0), (.int .i64 0), (.int .i64 0)], none, [], false, false⟩,
            ⟨none, .store 4 (.tmp 11) (.tmp 75), none, [], false, false⟩,
            ⟨(some 12), .move (.tmp 76), none, [], false, false⟩])
         (.seq (.seq (.region false [⟨(some 77), .move (.tmp 8), none, [], false, false⟩,
              ⟨(some 78), .move (.tmp 12), none, [], false, false⟩,
              ⟨(some 79), .bin .neq (.tmp 77) (.tmp 78), none, [], false, false⟩,
              ⟨(some 80), .move (.tmp 79), none, [], false, false⟩,
              ⟨(some 81), .load true 4 (.tmp 7), (some (80, false)), [], false, false⟩,
              ⟨(some 82), .load true 4 (.tmp 11), (some (80, false)), [], false, false⟩,
              ⟨(some 83), .eqAgg true [(.int .i64), (.int .i64), (.int .i64), (.int .i64)] (.tmp 81) (.tmp 82), (some (80, false)), [], false, false⟩,
              ⟨(some 84), .pick (.tmp 80) (.const (.bool true)) (.tmp 83), none, [], false, false⟩])
           (.cond (.tmp 84) (.seq (.region false [⟨(some 4), .move (.const (.bool false)), none, [], false, false⟩])
             (.ret))
            (.skip)))
          (.seq (.region false [⟨(some 86), .load true 4 (.tmp 3), none, [], false, false⟩,
              ⟨(some 87), .load true 4 (.tmp 2), none, [], false, false⟩,
              ⟨(some 88), .call 50 [(.tmp 86), (.tmp 87)], none, [], false, false⟩,
              ⟨(some 85), .move (.tmp 88), none, [], false, false⟩,
              ⟨(some 89), .extract (.tmp 85) 0, none, [], false, false⟩,
              ⟨(some 90), .extract (.tmp 85) 1, none, [], false, false⟩,
              ⟨(some 13), .push [(.int .i64 0), (.int .i64 0), (.int .i64 0), (.int .i64 0)], none, [], false, false⟩,
              ⟨none, .store 4 (.tmp 13) (.tmp 89), none, [], false, false⟩,
              ⟨(some 14), .move (.tmp 90), none, [], false, false⟩])
           (.seq (.region false [⟨(some 91), .move (.tmp 14), none, [], false, false⟩,
               ⟨(some 92), .move (.tmp 8), none, [], false, false⟩,
               ⟨(some 93), .bin .eql (.tmp 91) (.tmp 92), none, [], false, false⟩,
               ⟨(some 94), .move (.tmp 93), none, [], false, false⟩,
               ⟨(some 95), .load true 4 (.tmp 13), (some (94, true)), [], false, false⟩,
               ⟨(some 96), .load true 4 (.tmp 7), (some (94, true)), [], false, false⟩,
               ⟨(some 97), .eqAgg false [(.int .i64), (.int .i64), (.int .i64), (.int .i64)] (.tmp 95) (.tmp 96), (some (94, true)), [], false, false⟩,
               ⟨(some 98), .pick (.tmp 94) (.tmp 97) (.const (.bool false)), none, [], false, false⟩,
               ⟨(some 4), .move (.tmp 98), none, [], false, false⟩])
            (.ret)))))))))))),
 [.tmp 4], .pure, 99⟩

/-- agraffe/agraffelaw01.NumberOrders -/
def ef11 : EFun := ⟨
 .seq (.region false [⟨(some 3), .box (.tmp 0), none, [], false, false⟩,
    ⟨(some 4), .box (.tmp 1), none, [], false, false⟩,
    ⟨(some 5), .box (.tmp 2), none, [], false, false⟩,
    ⟨(some 6), .move (.const (.bool false)), none, [], false, false⟩])
 (.seq (.seq (.region false [⟨(some 18), .call 18 [], none, [], false, false⟩,
      ⟨(some 19), .un .not (.tmp 18), none, [], false, false⟩])
   (.cond (.tmp 19) (.seq (.region false [⟨(some 6), .move (.const (.bool false)), none, [], false, false⟩])
     (.ret))
    (.skip)))
  (.seq (.seq (.region false [⟨(some 20), .load true 4 (.tmp 3), none, [], false, false⟩,
       ⟨(some 21), .call 19 [(.tmp 20)], none, [], false, false⟩,
       ⟨(some 22), .un .not (.tmp 21), none, [], false, false⟩,
       ⟨(some 23), .move (.tmp 22), none, [], false, false⟩,
       ⟨(some 24), .load true 4 (.tmp 4), (some (23, false)), [], false, false⟩,
       ⟨(some 25), .call 19 [(.tmp 24)], (some (23, false)), [], false, false⟩,
       ⟨(some 26), .un .not (.tmp 25), (some (23, false)), [], false, false⟩,
       ⟨(some 27), .pick (.tmp 23) (.const (.bool true)) (.tmp 26), none, [], false, false⟩,
       ⟨(some 28), .move (.tmp 27), none, [], false, false⟩,
       ⟨(some 29), .load true 4 (.tmp 5), (some (28, false)), [], false, false⟩,
       ⟨(some 30), .call 19 [(.tmp 29)], (some (28, false)), [], false, false⟩,
       ⟨(some 31), .un .not (.tmp 30), (some (28, false)), [], false, false⟩,
       ⟨(some 32), .pick (.tmp 28) (.const (.bool true)) (.tmp 31), none, [], false, false⟩])
    (.cond (.tmp 32) (.seq (.region false [⟨(some 6), .move (.const (.bool true)), none, [], false, false⟩])
      (.ret))
     (.skip)))
   (.seq (.region false [⟨(some 34), .load true 4 (.tmp 3), none, [], false, false⟩,
       ⟨(some 35), .load true 4 (.tmp 4), none, [], false, false⟩,
       ⟨(some 36), .call 54 [(.tmp 34), (.tmp 35)], none, [], false, false⟩,
       ⟨(some 33), .move (.tmp 36), none, [], false, false⟩,
       ⟨(some 37), .extract (.tmp 33) 0, none, [], false, false⟩,
       ⟨(some 38), .extract (.tmp 33) 1, none, [], false, false⟩,
       ⟨(some 7), .move (.tmp 37), none, [], false, false⟩,
       ⟨(some 8), .move (.tmp 38), none, [], false, false⟩])
    (.seq (.seq (.region false [⟨(some 39), .load true 4 (.tmp 3), none, [], false, false⟩,
         ⟨(some 40), .load true 4 (.tmp 4), none, [], false, false⟩,
         ⟨(some 41), .buildSlice 4 2 (List.replicate 8 (.int .i64 0)) [(0, 4, (.tmp 39)), (4, 4, (.tmp 40))], none, [], false, false⟩,
         ⟨(some 42), .call 21 [(.tmp 41)], none, [], false, false⟩,
         ⟨(some 9), .move (.tmp 42), none, [], false, false⟩])
      (.seq (.region false [⟨(some 43), .move (.tmp 9), none, [], false, false⟩,
          ⟨(some 44), .bin .neq (.tmp 43) (.const (.int .i64 0)), none, [], false, false⟩])
       (.cond (.tmp 44) (.seq (.region false [⟨(some 45), .move (.tmp 8), none, [], false, false⟩,
            ⟨(some 46), .move (.tmp 9), none, [], false, false⟩,
            ⟨(some 47), .bin .eql (.tmp 45) (.tmp 46), none, [], false, false⟩,
            ⟨(some 48), .move (.tmp 47), none, [], false, false⟩,
            ⟨(some 49), .move (.tmp 7), (some (48, true)), [], false, false⟩,
            ⟨(some 50), .bin .eql (.tmp 49) (.const (.int .i64 0)), (some (48, true)), [], false, false⟩,
            ⟨(some 51), .pick (.tmp 48) (.tmp 50) (.const (.bool false)), none, [], false, false⟩,
            ⟨(some 6), .move (.tmp 51), none, [], false, false⟩])
         (.ret))
        (.skip))))
     (.seq (.region false [⟨(some 53), .load true 4 (.tmp 4), none, [], false, false⟩,
         ⟨(some 54), .load true 4 (.tmp 3), none, [], false, false⟩,
         ⟨(some 55), .call 54 [(.tmp 53), (.tmp 54)], none, [], false, false⟩,
         ⟨(some 52), .move (.tmp 55), none, [], false, false⟩,
         ⟨(some 56), .extract (.tmp 52) 0, none, [], false, false⟩,
         ⟨(some 57), .extract (.tmp 52) 1, none, [], false, false⟩,
         ⟨(some 10), .move (.tmp 56), none, [], false, false⟩,
         ⟨(some 11), .move (.tmp 57), none, [], false, false⟩])
      (.seq (.seq (.region false [⟨(some 58), .move (.tmp 8), none, [], false, false⟩,
           ⟨(some 59), .bin .neq (.tmp 58) (.const (.int .i64 0)), none, [], false, false⟩,
           ⟨(some 60), .move (.tmp 59), none, [], false, false⟩,
           ⟨(some 61), .move (.tmp 11), (some (60, false)), [], false, false⟩,
           ⟨(some 62), .bin .neq (.tmp 61) (.const (.int .i64 0)), (some (60, false)), [], false, false⟩,
           ⟨(some 63), .pick (.tmp 60) (.const (.bool true)) (.tmp 62), none, [], false, false⟩,
           ⟨(some 64), .move (.tmp 63), none, [], false, false⟩,
           ⟨(some 65), .move (.tmp 7), (some (64, false)), [], false, false⟩,
           ⟨(some 66), .load true 4 (.tmp 3), (some (64, false)), [], false, false⟩,
           ⟨(some 67), .load true 4 (.tmp 4), (some (64, false)), [], false, false⟩,
           ⟨(some 68), .call 55 [(.tmp 66), (.tmp 67)], (some (64, false)), [], false, false⟩,
           ⟨(some 69), .bin .neq (.tmp 65) (.tmp 68), (some (64, false)), [], false, false⟩,
           ⟨(some 70), .pick (.tmp 64) (.const (.bool true)) (.tmp 69), none, [], false, false⟩,
           ⟨(some 71), .move (.tmp 70), none, [], false, false⟩,
           ⟨(some 72), .move (.tmp 10), (some (71, false)), [], false, false⟩,
           ⟨(some 73), .move (.tmp 7), (some (71, false)), [], false, false⟩,
           ⟨(some 74), .un .neg (.tmp 73), (some (71, false)), [], false, false⟩,
           ⟨(some 75), .bin .neq (.tmp 72) (.tmp 74), (some (71, false)), [], false, false⟩,
           ⟨(some 76), .pick (.tmp 71) (.const (.bool true)) (.tmp 75), none, [], false, false⟩])
        (.cond (.tmp 76) (.seq (.region false [⟨(some 6), .move (.const (.bool false)), none, [], false, false⟩])
          (.ret))
         (.skip)))
       (.seq (.region false [⟨(some 78), .load true 4 (.tmp 3), none, [], false, false⟩,
           ⟨(some 79), .load true 4 (.tmp 5), none, [], false, false⟩,
           ⟨(some 80), .call 50 [(.tmp 78), (.tmp 79)], none, [], false, false⟩,
           ⟨(some 77), .move (.tmp 80), none, [], false, false⟩,
           ⟨(some 81), .extract (.tmp 77) 0, none, [], false, false⟩,
           ⟨(some 82), .extract (.tmp 77) 1, none, [], false, false⟩,
           ⟨(some 12), .push [(.int .i64 0), (.int .i64 0), (.int .i64 0), (.int .i64 0)], none, [], false, false⟩,
           ⟨none, .store 4 (.tmp 12) (.tmp 81), none, [], false, false⟩,
           ⟨(some 13), .move (.tmp 82), none, [], false, false⟩])
        (.seq (.region false [⟨(some 84), .load true 4 (.tmp 4), none, [], false, false⟩,
            ⟨(some 85), .load true 4 (.tmp 5), none, [], false, false⟩,
            ⟨(some 86), .call 50 [(.tmp 84), (.tmp 85)], none, [], false, false⟩,
            ⟨(some 83), .move (.tmp 86), none, [], false, false⟩,
            ⟨(some 87), .extract (.tmp 83) 0, none, [], false, false⟩,
            ⟨(some 88), .extract (.tmp 83) 1, none, [], false, false⟩,
            ⟨(some 14), .push [(.int .i64 0), (.int .i64 0), (.int .i64 0), (.int .i64 0)], none, [], false, false⟩,
            ⟨none, .store 4 (.tmp 14) (.tmp 87), none, [], false, false⟩,
            ⟨(some 15), .move (.tmp 88), none, [], false, false⟩])
         (.seq (.seq (.region false [⟨(some 89), .move (.tmp 13), none, [], false, false⟩,
              ⟨(some 90), .bin .neq (.tmp 89) (.const (.int .i64 0)), none, [], false, false⟩,
              ⟨(some 91), .move (.tmp 90), none, [], false, false⟩,
              ⟨(some 92), .move (.tmp 15), (some (91, false)), [], false, false⟩,
              ⟨(some 93), .bin .neq (.tmp 92) (.const (.int .i64 0)), (some (91, false)), [], false, false⟩,
              ⟨(some 94), .pick (.tmp 91) (.const (.bool true)) (.tmp 93), none, [], false, false⟩])
           (.cond (.tmp 94) (.seq (.region false [⟨(some 6), .move (.const (.bool true)), none, [], false, false⟩])
             (.ret))
            (.skip)))
          (.seq (.region false [⟨(some 96), .load true 4 (.tmp 12), none, [], false, false⟩,
              ⟨(some 97), .load true 4 (.tmp 14), none, [], false, false⟩,
              ⟨(some 98), .call 54 [(.tmp 96), (.tmp 97)], none, [], false, false⟩,
              ⟨(some 95), .move (.tmp 98), none, [], false, false⟩,
              ⟨(some 99), .extract (.tmp 95) 0, none, [], false, false⟩,
              ⟨(some 100), .extract (.tmp 95) 1, none, [], false, false⟩,
              ⟨(some 16), .move (.tmp 99), none, [], false, false⟩,
              ⟨(some 17), .move (.tmp 100), none, [], false, false⟩])
           (.seq (.region false [⟨(some 101), .move (.tmp 17), none, [], false, false⟩,
               ⟨(some 102), .bin .eql (.tmp 101) (.const (.int .i64 0)), none, [], false, false⟩,
               ⟨(some 103), .move (.tmp 102), none, [], false, false⟩,
               ⟨(some 104), .move (.tmp 16), (some (103, true)), [], false, false⟩,
               ⟨(some 105), .move (.tmp 7), (some (103, true)), [], false, false⟩,
               ⟨(some 106), .bin .eql (.tmp 104) (.tmp 105), (some (103, true)), [], false, false⟩,
               ⟨(some 107), .pick (.tmp 103) (.tmp 106) (.const (.bool false)), none, [], false, false⟩,
               ⟨(some 6), .move (.tmp 107), none, [], false, false⟩])
            (.ret)))))))))))),
 [.tmp 6], .pure, 108⟩

/-- agraffe/agraffelaw01.NumberLines -/
def ef12 : EFun := ⟨
 .seq (.region false [⟨(some 2), .move (.const (.bool false)), none, [], false, false⟩])
 (.seq (.seq (.region false [⟨(some 7), .call 18 [], none, [], false, false⟩,
      ⟨(some 8), .un .not (.tmp 7), none, [], false, false⟩])
   (.cond (.tmp 8) (.seq (.region false [⟨(some 2), .move (.const (.bool false)), none, [], false, false⟩])
     (.ret))
    (.skip)))
  (.seq (.seq (.region false [⟨(some 9), .move (.tmp 0), none, [], false, false⟩,
       ⟨(some 10), .len false (.tmp 9), none, [], false, false⟩,
       ⟨(some 11), .bin .gtr (.tmp 10) (.const (.int .i64 12)), none, [], false, false⟩,
       ⟨(some 12), .move (.tmp 11), none, [], false, false⟩,
       ⟨(some 13), .move (.tmp 0), (some (12, true)), [], false, false⟩,
       ⟨(some 14), .len false (.tmp 13), (some (12, true)), [], false, false⟩,
       ⟨(some 15), .bin .leq (.tmp 14) (.const (.int .i64 60)), (some (12, true)), [], false, false⟩,
       ⟨(some 16), .pick (.tmp 12) (.tmp 15) (.const (.bool false)), none, [], false, false⟩,
       ⟨(some 17), .move (.tmp 16), none, [], false, false⟩,
       ⟨(some 18), .move (.tmp 0), (some (17, false)), [], false, false⟩,
       ⟨(some 19), .len false (.tmp 18), (some (17, false)), [], false, false⟩,
       ⟨(some 20), .bin .gtr (.tmp 19) (.const (.int .i64 70)), (some (17, false)), [], false, false⟩,
       ⟨(some 21), .pick (.tmp 17) (.const (.bool true)) (.tmp 20), none, [], false, false⟩])
    (.cond (.tmp 21) (.seq (.region false [⟨(some 2), .move (.const (.bool true)), none, [], false, false⟩])
      (.ret))
     (.skip)))
   (.seq (.region false [⟨(some 23), .move (.tmp 0), none, [], false, false⟩,
       ⟨(some 24), .call 25 [(.tmp 23)], none, [], false, false⟩,
       ⟨(some 22), .move (.tmp 24), none, [], false, false⟩,
       ⟨(some 25), .extract (.tmp 22) 0, none, [], false, false⟩,
       ⟨(some 26), .extract (.tmp 22) 1, none, [], false, false⟩,
       ⟨(some 3), .push (List.replicate 9 (.int .i64 0)), none, [], false, false⟩,
       ⟨none, .store 9 (.tmp 3) (.tmp 25), none, [], false, false⟩,
       ⟨(some 4), .move (.tmp 26), none, [], false, false⟩])
    (.seq (.seq (.region false [⟨(some 27), .move (.tmp 0), none, [], false, false⟩,
         ⟨(some 28), .call 24 [(.tmp 27)], none, [], false, false⟩,
         ⟨(some 5), .move (.tmp 28), none, [], false, false⟩])
      (.seq (.region false [⟨(some 29), .move (.tmp 5), none, [], false, false⟩,
          ⟨(some 30), .bin .neq (.tmp 29) (.const (.int .i64 0)), none, [], false, false⟩])
       (.cond (.tmp 30) (.seq (.region false [⟨(some 31), .move (.tmp 4), none, [], false, false⟩,
            ⟨(some 32), .move (.tmp 5), none, [], false, false⟩,
            ⟨(some 33), .bin .eql (.tmp 31) (.tmp 32), none, [], false, false⟩,
            ⟨(some 34), .move (.tmp 33), none, [], false, false⟩,
            ⟨(some 35), .load true 9 (.tmp 3), (some (34, true)), [], false, false⟩,
            ⟨(some 36), .build (List.replicate 9 (.int .i64 0)) [], (some (34, true)), [], false, false⟩,
            ⟨(some 37), .eqAgg false [(.int .i64), (.int .i64), (.int .i64), (.int .i64), (.int .i64), (.int .i64), (.int .i64), (.int .i64), (.int .i64)] (.tmp 35) (.tmp 36), (some (34, true)), [], false, false⟩,
            ⟨(some 38), .pick (.tmp 34) (.tmp 37) (.const (.bool false)), none, [], false, false⟩,
            ⟨(some 2), .move (.tmp 38), none, [], false, false⟩])
         (.ret))
        (.skip))))
     (.seq (.region false [⟨(some 39), .move (.tmp 0), none, [], false, false⟩,
         ⟨(some 40), .call 56 [(.tmp 39)], none, [], false, false⟩,
         ⟨(some 6), .push (List.replicate 9 (.int .i64 0)), none, [], false, false⟩,
         ⟨none, .store 9 (.tmp 6) (.tmp 40), none, [], false, false⟩])
      (.seq (.seq (.region false [⟨(some 41), .move (.tmp 4), none, [], false, false⟩,
           ⟨(some 42), .bin .neq (.tmp 41) (.const (.int .i64 0)), none, [], false, false⟩,
           ⟨(some 43), .move (.tmp 42), none, [], false, false⟩,
           ⟨(some 44), .fieldAddr 0 (.tmp 3), (some (43, false)), [], false, false⟩,
           ⟨(some 45), .load true 2 (.tmp 44), (some (43, false)), [], false, false⟩,
           ⟨(some 46), .fieldAddr 0 (.tmp 6), (some (43, false)), [], false, false⟩,
           ⟨(some 47), .load true 2 (.tmp 46), (some (43, false)), [], false, false⟩,
           ⟨(some 48), .eqAgg true [(.int .i64), (.int .i64)] (.tmp 45) (.tmp 47), (some (43, false)), [], false, false⟩,
           ⟨(some 49), .pick (.tmp 43) (.const (.bool true)) (.tmp 48), none, [], false, false⟩,
           ⟨(some 50), .move (.tmp 49), none, [], false, false⟩,
           ⟨(some 51), .fieldAddr 2 (.tmp 3), (some (50, false)), [], false, false⟩,
           ⟨(some 52), .load true 2 (.tmp 51), (some (50, false)), [], false, false⟩,
           ⟨(some 53), .fieldAddr 2 (.tmp 6), (some (50, false)), [], false, false⟩,
           ⟨(some 54), .load true 2 (.tmp 53), (some (50, false)), [], false, false⟩,
           ⟨(some 55), .eqAgg true [(.int .i64), (.int .i64)] (.tmp 52) (.tmp 54), (some (50, false)), [], false, false⟩,
           ⟨(some 56), .pick (.tmp 50) (.const (.bool true)) (.tmp 55), none, [], false, false⟩,
           ⟨(some 57), .move (.tmp 56), none, [], false, false⟩,
           ⟨(some 58), .fieldAddr 4 (.tmp 3), (some (57, false)), [], false, false⟩,
           ⟨(some 59), .load true 2 (.tmp 58), (some (57, false)), [], false, false⟩,
           ⟨(some 60), .fieldAddr 4 (.tmp 6), (some (57, false)), [], false, false⟩,
           ⟨(some 61), .load true 2 (.tmp 60), (some (57, false)), [], false, false⟩,
           ⟨(some 62), .eqAgg true [(.int .i64), (.int .i64)] (.tmp 59) (.tmp 61), (some (57, false)), [], false, false⟩,
           ⟨(some 63), .pick (.tmp 57) (.const (.bool true)) (.tmp 62), none, [], false, false⟩])
        (.cond (.tmp 63) (.seq (.region false [⟨(some 2), .move (.const (.bool false)), none, [], false, false⟩])
          (.ret))
         (.skip)))
       (.seq (.region false [⟨(some 64), .move (.tmp 0), none, [], false, false⟩,
           ⟨(some 65), .load true 9 (.tmp 3), none, [], false, false⟩,
           ⟨(some 66), .call 57 [(.tmp 64), (.tmp 65)], none, [], false, false⟩,
           ⟨(some 67), .bin .eql (.tmp 66) (.const (.int .i64 0)), none, [], false, false⟩,
           ⟨(some 68), .move (.tmp 67), none, [], false, false⟩,
           ⟨(some 69), .move (.tmp 0), (some (68, true)), [], false, false⟩,
           ⟨(some 70), .load true 9 (.tmp 3), (some (68, true)), [], false, false⟩,
           ⟨(some 71), .call 58 [(.tmp 69), (.tmp 70)], (some (68, true)), [], false, false⟩,
           ⟨(some 72), .bin .eql (.tmp 71) (.const (.int .i64 0)), (some (68, true)), [], false, false⟩,
           ⟨(some 73), .pick (.tmp 68) (.tmp 72) (.const (.bool false)), none, [], false, false⟩,
           ⟨(some 2), .move (.tmp 73), none, [], false, false⟩])
        (.ret)))))))),
 [.tmp 2], .pure, 74⟩

/-- agraffe/agraffelaw01.NumberLineChecks -/
def ef13 : EFun := ⟨
 .seq (.region false [⟨(some 3), .box (.tmp 1), none, [], false, false⟩,
    ⟨(some 4), .move (.const (.bool false)), none, [], false, false⟩])
 (.seq (.seq (.region false [⟨(some 9), .call 18 [], none, [], false, false⟩,
      ⟨(some 10), .un .not (.tmp 9), none, [], false, false⟩])
   (.cond (.tmp 10) (.seq (.region false [⟨(some 4), .move (.const (.bool false)), none, [], false, false⟩])
     (.ret))
    (.skip)))
  (.seq (.seq (.region false [⟨(some 11), .move (.tmp 0), none, [], false, false⟩,
       ⟨(some 12), .len false (.tmp 11), none, [], false, false⟩,
       ⟨(some 13), .bin .gtr (.tmp 12) (.const (.int .i64 12)), none, [], false, false⟩,
       ⟨(some 14), .move (.tmp 13), none, [], false, false⟩,
       ⟨(some 15), .move (.tmp 0), (some (14, true)), [], false, false⟩,
       ⟨(some 16), .len false (.tmp 15), (some (14, true)), [], false, false⟩,
       ⟨(some 17), .bin .leq (.tmp 16) (.const (.int .i64 60)), (some (14, true)), [], false, false⟩,
       ⟨(some 18), .pick (.tmp 14) (.tmp 17) (.const (.bool false)), none, [], false, false⟩,
       ⟨(some 19), .move (.tmp 18), none, [], false, false⟩,
       ⟨(some 20), .move (.tmp 0), (some (19, false)), [], false, false⟩,
       ⟨(some 21), .len false (.tmp 20), (some (19, false)), [], false, false⟩,
       ⟨(some 22), .bin .gtr (.tmp 21) (.const (.int .i64 70)), (some (19, false)), [], false, false⟩,
       ⟨(some 23), .pick (.tmp 19) (.const (.bool true)) (.tmp 22), none, [], false, false⟩])
    (.cond (.tmp 23) (.seq (.region false [⟨(some 4), .move (.const (.bool true)), none, [], false, false⟩])
      (.ret))
     (.skip)))
   (.seq (.region false [⟨(some 24), .move (.tmp 0), none, [], false, false⟩,
       ⟨(some 25), .load true 9 (.tmp 3), none, [], false, false⟩,
       ⟨(some 26), .call 58 [(.tmp 24), (.tmp 25)], none, [], false, false⟩,
       ⟨(some 5), .move (.tmp 26), none, [], false, false⟩])
    (.seq (.region false [⟨(some 27), .move (.tmp 0), none, [], false, false⟩,
        ⟨(some 28), .call 24 [(.tmp 27)], none, [], false, false⟩,
        ⟨(some 6), .move (.tmp 28), none, [], false, false⟩])
     (.seq (.seq (.region false [⟨(some 29), .fieldAddr 0 (.tmp 3), none, [], false, false⟩,
          ⟨(some 30), .load true 2 (.tmp 29), none, [], false, false⟩,
          ⟨(some 31), .fieldAddr 2 (.tmp 3), none, [], false, false⟩,
          ⟨(some 32), .load true 2 (.tmp 31), none, [], false, false⟩,
          ⟨(some 33), .fieldAddr 4 (.tmp 3), none, [], false, false⟩,
          ⟨(some 34), .load true 2 (.tmp 33), none, [], false, false⟩,
          ⟨(some 35), .build [(.int .i64 0), (.int .i64 0), (.int .i64 0), (.int .i64 0), (.int .i64 0), (.int .i64 0)] [(0, 2, (.tmp 30)), (2, 2, (.tmp 32)), (4, 2, (.tmp 34))], none, [], false, false⟩,
          ⟨(some 36), .move (.const (.int .i64 0)), none, [], false, false⟩])
       (.block 0 (.loop (some [0, 3, 5, 6, 35, 36]) (
         .seq (.region false [⟨(some 37), .bin .lss (.tmp 36) (.const (.int .i64 3)), none, [], false, false⟩])
          (.seq (.cond (.tmp 37) (.skip)
            (.exit 0))
           (.seq (.block 1 (.seq (.region false [⟨(some 38), .index 3 2 true (.tmp 35) (.tmp 36), none, [], false, false⟩,
                 ⟨(some 8), .push [(.int .i64 0), (.int .i64 0)], none, [], false, false⟩,
                 ⟨none, .store 2 (.tmp 8) (.tmp 38), none, [], false, false⟩])
              (.seq (.region false [⟨(some 39), .move (.tmp 6), none, [], false, false⟩,
                  ⟨(some 40), .bin .eql (.tmp 39) (.const (.int .i64 0)), none, [], false, false⟩])
               (.cond (.tmp 40) (.region false [⟨(some 41), .load true 2 (.tmp 8), none, [], false, false⟩,
                   ⟨(some 42), .call 43 [(.tmp 41)], none, [], false, false⟩,
                   ⟨(some 6), .move (.tmp 42), none, [], false, false⟩])
                (.skip)))))
            (.region false [⟨(some 43), .bin .add (.tmp 36) (.const (.int .i64 1)), none, [], false, false⟩,
               ⟨(some 36), .move (.tmp 43), none, [], false, false⟩])))))))
      (.seq (.seq (.region false [⟨(some 44), .move (.tmp 6), none, [], false, false⟩,
           ⟨(some 45), .bin .eql (.tmp 44) (.const (.int .i64 0)), none, [], false, false⟩])
        (.cond (.tmp 45) (.region false [⟨(some 46), .move (.tmp 0), none, [], false, false⟩,
            ⟨(some 47), .load true 9 (.tmp 3), none, [], false, false⟩,
            ⟨(some 48), .call 57 [(.tmp 46), (.tmp 47)], none, [], false, false⟩,
            ⟨(some 6), .move (.tmp 48), none, [], false, false⟩])
         (.skip)))
       (.seq (.region false [⟨(some 49), .move (.tmp 5), none, [], false, false⟩,
           ⟨(some 50), .move (.tmp 6), none, [], false, false⟩,
           ⟨(some 51), .bin .eql (.tmp 49) (.tmp 50), none, [], false, false⟩,
           ⟨(some 4), .move (.tmp 51), none, [], false, false⟩])
        (.ret)))))))),
 [.tmp 4], .pure, 52⟩

/-- agraffe/agraffetop.TopLinesTilt -/
def ef14 : EFun := ⟨
 .seq (.region false [⟨(some 6), .move (.const (.bool false)), none, [], false, false⟩])
 (.seq (.seq (.region false [⟨(some 24), .call 59 [], none, [], false, false⟩,
      ⟨(some 25), .un .not (.tmp 24), none, [], false, false⟩])
   (.cond (.tmp 25) (.seq (.region false [⟨(some 6), .move (.const (.bool false)), none, [], false, false⟩])
     (.ret))
    (.skip)))
  (.seq (.seq (.region false [⟨(some 26), .move (.tmp 0), none, [], false, false⟩,
       ⟨(some 27), .len false (.tmp 26), none, [], false, false⟩,
       ⟨(some 28), .bin .gtr (.tmp 27) (.const (.int .i64 12)), none, [], false, false⟩,
       ⟨(some 29), .move (.tmp 28), none, [], false, false⟩,
       ⟨(some 30), .move (.tmp 0), (some (29, false)), [], false, false⟩,
       ⟨(some 31), .call 24 [(.tmp 30)], (some (29, false)), [], false, false⟩,
       ⟨(some 32), .bin .neq (.tmp 31) (.const (.int .i64 0)), (some (29, false)), [], false, false⟩,
       ⟨(some 33), .pick (.tmp 29) (.const (.bool true)) (.tmp 32), none, [], false, false⟩,
       ⟨(some 34), .move (.tmp 33), none, [], false, false⟩,
       ⟨(some 35), .move (.tmp 1), (some (34, false)), [], false, false⟩,
       ⟨(some 36), .call 22 [(.tmp 35), (.const (.int .i64 (-1000))), (.const (.int .i64 1000))], (some (34, false)), [], false, false⟩,
       ⟨(some 37), .un .not (.tmp 36), (some (34, false)), [], false, false⟩,
       ⟨(some 38), .pick (.tmp 34) (.const (.bool true)) (.tmp 37), none, [], false, false⟩,
       ⟨(some 39), .move (.tmp 38), none, [], false, false⟩,
       ⟨(some 40), .move (.tmp 2), (some (39, false)), [], false, false⟩,
       ⟨(some 41), .call 22 [(.tmp 40), (.const (.int .i64 (-3))), (.const (.int .i64 3))], (some (39, false)), [], false, false⟩,
       ⟨(some 42), .un .not (.tmp 41), (some (39, false)), [], false, false⟩,
       ⟨(some 43), .pick (.tmp 39) (.const (.bool true)) (.tmp 42), none, [], false, false⟩])
    (.cond (.tmp 43) (.seq (.region false [⟨(some 6), .move (.const (.bool true)), none, [], false, false⟩])
      (.ret))
     (.skip)))
   (.seq (.region false [⟨(some 7), .move (.const (.slice none 0 0)), none, [], false, false⟩,
       ⟨(some 8), .move (.const (.slice none 0 0)), none, [], false, false⟩])
    (.seq (.seq (.region false [⟨(some 9), .move (.const (.int .i64 0)), none, [], false, false⟩])
      (.block 0 (.loop (some [0, 1, 2, 7, 8, 9]) (
        .seq (.seq (.region false [⟨(some 44), .move (.tmp 9), none, [], false, false⟩,
             ⟨(some 45), .move (.tmp 0), none, [], false, false⟩,
             ⟨(some 46), .len false (.tmp 45), none, [], false, false⟩,
             ⟨(some 47), .bin .lss (.tmp 44) (.tmp 46), none, [], false, false⟩])
          (.cond (.tmp 47) (.skip)
           (.exit 0)))
         (.seq (.block 1 (.seq (.seq (.region false [⟨(some 50), .move (.tmp 0), none, [], false, false⟩,
                ⟨(some 51), .move (.tmp 9), none, [], false, false⟩,
                ⟨(some 52), .indexAddr none 2 (.tmp 50) (.tmp 51), none, [], false, false⟩,
                ⟨(some 53), .fieldAddr 0 (.tmp 52), none, [], false, false⟩,
                ⟨(some 54), .load false 1 (.tmp 53), none, [], false, false⟩,
                ⟨(some 55), .call 22 [(.tmp 54), (.const (.int .i64 (-1000))), (.const (.int .i64 1000))], none, [], false, false⟩,
                ⟨(some 56), .un .not (.tmp 55), none, [], false, false⟩,
                ⟨(some 57), .move (.tmp 56), none, [], false, false⟩,
                ⟨(some 58), .move (.tmp 0), (some (57, false)), [], false, false⟩,
                ⟨(some 59), .move (.tmp 9), (some (57, false)), [], false, false⟩,
                ⟨(some 60), .indexAddr none 2 (.tmp 58) (.tmp 59), (some (57, false)), [], false, false⟩,
                ⟨(some 61), .fieldAddr 1 (.tmp 60), (some (57, false)), [], false, false⟩,
                ⟨(some 62), .load false 1 (.tmp 61), (some (57, false)), [], false, false⟩,
                ⟨(some 63), .call 22 [(.tmp 62), (.const (.int .i64 (-1000))), (.const (.int .i64 1000))], (some (57, false)), [], false, false⟩,
                ⟨(some 64), .un .not (.tmp 63), (some (57, false)), [], false, false⟩,
                ⟨(some 65), .pick (.tmp 57) (.const (.bool true)) (.tmp 64), none, [], false, false⟩])
             (.cond (.tmp 65) (.seq (.region false [⟨(some 6), .move (.const (.bool true)), none, [], false, false⟩])
               (.ret))
              (.skip)))
            (.seq (.region true [⟨(some 66), .move (.tmp 7), none, [], false, false⟩,
                ⟨(some 67), .move (.tmp 0), none, [], false, false⟩,
                ⟨(some 68), .move (.tmp 9), none, [], false, false⟩,
                ⟨(some 69), .indexAddr none 2 (.tmp 67) (.tmp 68), none, [], false, false⟩,
                ⟨(some 70), .fieldAddr 0 (.tmp 69), none, [], false, false⟩,
                ⟨(some 71), .load false 1 (.tmp 70), none, [], false, false⟩,
                ⟨(some 72), .move (.tmp 0), none, [], false, false⟩,
                ⟨(some 73), .move (.tmp 9), none, [], false, false⟩,
                ⟨(some 74), .indexAddr none 2 (.tmp 72) (.tmp 73), none, [], false, false⟩,
                ⟨(some 75), .fieldAddr 1 (.tmp 74), none, [], false, false⟩,
                ⟨(some 76), .load false 1 (.tmp 75), none, [], false, false⟩,
                ⟨(some 77), .move (.tmp 1), none, [], false, false⟩,
                ⟨(some 78), .bin .add (.tmp 76) (.tmp 77), none, [], false, false⟩,
                ⟨(some 79), .move (.tmp 2), none, [], false, false⟩,
                ⟨(some 80), .move (.tmp 0), none, [], false, false⟩,
                ⟨(some 81), .move (.tmp 9), none, [], false, false⟩,
                ⟨(some 82), .indexAddr none 2 (.tmp 80) (.tmp 81), none, [], false, false⟩,
                ⟨(some 83), .fieldAddr 0 (.tmp 82), none, [], false, false⟩,
                ⟨(some 84), .load false 1 (.tmp 83), none, [], false, false⟩,
                ⟨(some 85), .bin .mul (.tmp 79) (.tmp 84), none, [], false, false⟩,
                ⟨(some 86), .bin .add (.tmp 78) (.tmp 85), none, [], false, false⟩,
                ⟨(some 87), .build [(.int .i64 0), (.int .i64 0)] [(0, 1, (.tmp 71)), (1, 1, (.tmp 86))], none, [], false, false⟩,
                ⟨(some 88), .buildSlice 2 1 [(.int .i64 0), (.int .i64 0)] [(0, 2, (.tmp 87))], none, [], false, false⟩,
                ⟨(some 89), .append 2 16 (.tmp 66) (.tmp 88), none, [], false, false⟩,
                ⟨(some 7), .move (.tmp 89), none, [], false, false⟩])
             (.region true [⟨(some 90), .move (.tmp 8), none, [], false, false⟩,
                ⟨(some 91), .move (.tmp 0), none, [], false, false⟩,
                ⟨(some 92), .move (.tmp 9), none, [], false, false⟩,
                ⟨(some 93), .indexAddr none 2 (.tmp 91) (.tmp 92), none, [], false, false⟩,
                ⟨(some 94), .fieldAddr 0 (.tmp 93), none, [], false, false⟩,
                ⟨(some 95), .load false 1 (.tmp 94), none, [], false, false⟩,
                ⟨(some 96), .move (.tmp 0), none, [], false, false⟩,
                ⟨(some 97), .move (.tmp 9), none, [], false, false⟩,
                ⟨(some 98), .indexAddr none 2 (.tmp 96) (.tmp 97), none, [], false, false⟩,
                ⟨(some 99), .fieldAddr 1 (.tmp 98), none, [], false, false⟩,
                ⟨(some 100), .load false 1 (.tmp 99), none, [], false, false⟩,
                ⟨(some 101), .un .neg (.tmp 100), none, [], false, false⟩,
                ⟨(some 102), .build [(.int .i64 0), (.int .i64 0)] [(0, 1, (.tmp 95)), (1, 1, (.tmp 101))], none, [], false, false⟩,
                ⟨(some 103), .buildSlice 2 1 [(.int .i64 0), (.int .i64 0)] [(0, 2, (.tmp 102))], none, [], false, false⟩,
                ⟨(some 104), .append 2 16 (.tmp 90) (.tmp 103), none, [], false, false⟩,
                ⟨(some 8), .move (.tmp 104), none, [], false, false⟩]))))
          (.region false [⟨(some 48), .move (.tmp 9), none, [], false, false⟩,
             ⟨(some 49), .bin .add (.tmp 48) (.const (.int .i64 1)), none, [], false, false⟩,
             ⟨(some 9), .move (.tmp 49), none, [], false, false⟩]))))))
     (.seq (.region false [⟨(some 106), .move (.tmp 0), none, [], false, false⟩,
         ⟨(some 107), .call 25 [(.tmp 106)], none, [], false, false⟩,
         ⟨(some 105), .move (.tmp 107), none, [], false, false⟩,
         ⟨(some 108), .extract (.tmp 105) 0, none, [], false, false⟩,
         ⟨(some 109), .extract (.tmp 105) 1, none, [], false, false⟩,
         ⟨(some 10), .push (List.replicate 9 (.int .i64 0)), none, [], false, false⟩,
         ⟨none, .store 9 (.tmp 10) (.tmp 108), none, [], false, false⟩,
         ⟨(some 11), .move (.tmp 109), none, [], false, false⟩])
      (.seq (.region false [⟨(some 111), .move (.tmp 7), none, [], false, false⟩,
          ⟨(some 112), .call 25 [(.tmp 111)], none, [], false, false⟩,
          ⟨(some 110), .move (.tmp 112), none, [], false, false⟩,
          ⟨(some 113), .extract (.tmp 110) 0, none, [], false, false⟩,
          ⟨(some 114), .extract (.tmp 110) 1, none, [], false, false⟩,
          ⟨(some 12), .push (List.replicate 9 (.int .i64 0)), none, [], false, false⟩,
          ⟨none, .store 9 (.tmp 12) (.tmp 113), none, [], false, false⟩,
          ⟨(some 13), .move (.tmp 114), none, [], false, false⟩])
       (.seq (.region false [⟨(some 116), .move (.tmp 8), none, [], false, false⟩,
           ⟨(some 117), .call 25 [(.tmp 116)], none, [], false, false⟩,
           ⟨(some 115), .move (.tmp 117), none, [], false, false⟩,
           ⟨(some 118), .extract (.tmp 115) 0, none, [], false, false⟩,
           ⟨(some 119), .extract (.tmp 115) 1, none, [], false, false⟩,
           ⟨(some 14), .push (List.replicate 9 (.int .i64 0)), none, [], false, false⟩,
           ⟨none, .store 9 (.tmp 14) (.tmp 118), none, [], false, false⟩,
           ⟨(some 15), .move (.tmp 119), none, [], false, false⟩])
        (.seq (.seq (.region false [⟨(some 120), .move (.tmp 11), none, [], false, false⟩,
             ⟨(some 121), .bin .neq (.tmp 120) (.const (.int .i64 0)), none, [], false, false⟩,
             ⟨(some 122), .move (.tmp 121), none, [], false, false⟩,
             ⟨(some 123), .move (.tmp 13), (some (122, false)), [], false, false⟩,
             ⟨(some 124), .bin .neq (.tmp 123) (.const (.int .i64 0)), (some (122, false)), [], false, false⟩,
             ⟨(some 125), .pick (.tmp 122) (.const (.bool true)) (.tmp 124), none, [], false, false⟩,
             ⟨(some 126), .move (.tmp 125), none, [], false, false⟩,
             ⟨(some 127), .move (.tmp 15), (some (126, false)), [], false, false⟩,
             ⟨(some 128), .bin .neq (.tmp 127) (.const (.int .i64 0)), (some (126, false)), [], false, false⟩,
             ⟨(some 129), .pick (.tmp 126) (.const (.bool true)) (.tmp 128), none, [], false, false⟩,
             ⟨(some 130), .move (.tmp 129), none, [], false, false⟩,
             ⟨(some 131), .fieldAddr 4 (.tmp 12), (some (130, false)), [], false, false⟩,
             ⟨(some 132), .load true 2 (.tmp 131), (some (130, false)), [], false, false⟩,
             ⟨(some 133), .fieldAddr 4 (.tmp 10), (some (130, false)), [], false, false⟩,
             ⟨(some 134), .load true 2 (.tmp 133), (some (130, false)), [], false, false⟩,
             ⟨(some 135), .eqAgg true [(.int .i64), (.int .i64)] (.tmp 132) (.tmp 134), (some (130, false)), [], false, false⟩,
             ⟨(some 136), .pick (.tmp 130) (.const (.bool true)) (.tmp 135), none, [], false, false⟩,
             ⟨(some 137), .move (.tmp 136), none, [], false, false⟩,
             ⟨(some 138), .fieldAddr 4 (.tmp 14), (some (137, false)), [], false, false⟩,
             ⟨(some 139), .load true 2 (.tmp 138), (some (137, false)), [], false, false⟩,
             ⟨(some 140), .fieldAddr 4 (.tmp 10), (some (137, false)), [], false, false⟩,
             ⟨(some 141), .load true 2 (.tmp 140), (some (137, false)), [], false, false⟩,
             ⟨(some 142), .eqAgg true [(.int .i64), (.int .i64)] (.tmp 139) (.tmp 141), (some (137, false)), [], false, false⟩,
             ⟨(some 143), .pick (.tmp 137) (.const (.bool true)) (.tmp 142), none, [], false, false⟩])
          (.cond (.tmp 143) (.seq (.region false [⟨(some 6), .move (.const (.bool false)), none, [], false, false⟩])
            (.ret))
           (.skip)))
         (.seq (.region false [⟨(some 145), .fieldAddr 0 (.tmp 10), none, [], false, false⟩,
             ⟨(some 146), .load true 2 (.tmp 145), none, [], false, false⟩,
             ⟨(some 147), .move (.tmp 1), none, [], false, false⟩,
             ⟨(some 148), .build [(.int .i64 0), (.int .i64 0)] [(0, 1, (.tmp 147)), (1, 1, (.const (.int .i64 1)))], none, [], false, false⟩,
             ⟨(some 149), .call 60 [(.tmp 146), (.tmp 148)], none, [], false, false⟩,
             ⟨(some 144), .move (.tmp 149), none, [], false, false⟩,
             ⟨(some 150), .extract (.tmp 144) 0, none, [], false, false⟩,
             ⟨(some 151), .extract (.tmp 144) 1, none, [], false, false⟩,
             ⟨(some 16), .push [(.int .i64 0), (.int .i64 0)], none, [], false, false⟩,
             ⟨none, .store 2 (.tmp 16) (.tmp 150), none, [], false, false⟩,
             ⟨(some 17), .move (.tmp 151), none, [], false, false⟩])
          (.seq (.region false [⟨(some 153), .fieldAddr 2 (.tmp 10), none, [], false, false⟩,
              ⟨(some 154), .load true 2 (.tmp 153), none, [], false, false⟩,
              ⟨(some 155), .move (.tmp 2), none, [], false, false⟩,
              ⟨(some 156), .build [(.int .i64 0), (.int .i64 0)] [(0, 1, (.tmp 155)), (1, 1, (.const (.int .i64 1)))], none, [], false, false⟩,
              ⟨(some 157), .call 60 [(.tmp 154), (.tmp 156)], none, [], false, false⟩,
              ⟨(some 152), .move (.tmp 157), none, [], false, false⟩,
              ⟨(some 158), .extract (.tmp 152) 0, none, [], false, false⟩,
              ⟨(some 159), .extract (.tmp 152) 1, none, [], false, false⟩,
              ⟨(some 18), .push [(.int .i64 0), (.int .i64 0)], none, [], false, false⟩,
              ⟨none, .store 2 (.tmp 18) (.tmp 158), none, [], false, false⟩,
              ⟨(some 19), .move (.tmp 159), none, [], false, false⟩])
           (.seq (.region false [⟨(some 161), .fieldAddr 0 (.tmp 10), none, [], false, false⟩,
               ⟨(some 162), .load true 2 (.tmp 161), none, [], false, false⟩,
               ⟨(some 163), .build [(.int .i64 0), (.int .i64 0)] [(0, 1, (.const (.int .i64 (-1)))), (1, 1, (.const (.int .i64 1)))], none, [], false, false⟩,
               ⟨(some 164), .call 61 [(.tmp 162), (.tmp 163)], none, [], false, false⟩,
               ⟨(some 160), .move (.tmp 164), none, [], false, false⟩,
               ⟨(some 165), .extract (.tmp 160) 0, none, [], false, false⟩,
               ⟨(some 166), .extract (.tmp 160) 1, none, [], false, false⟩,
               ⟨(some 20), .push [(.int .i64 0), (.int .i64 0)], none, [], false, false⟩,
               ⟨none, .store 2 (.tmp 20) (.tmp 165), none, [], false, false⟩,
               ⟨(some 21), .move (.tmp 166), none, [], false, false⟩])
            (.seq (.region false [⟨(some 168), .fieldAddr 2 (.tmp 10), none, [], false, false⟩,
                ⟨(some 169), .load true 2 (.tmp 168), none, [], false, false⟩,
                ⟨(some 170), .build [(.int .i64 0), (.int .i64 0)] [(0, 1, (.const (.int .i64 (-1)))), (1, 1, (.const (.int .i64 1)))], none, [], false, false⟩,
                ⟨(some 171), .call 61 [(.tmp 169), (.tmp 170)], none, [], false, false⟩,
                ⟨(some 167), .move (.tmp 171), none, [], false, false⟩,
                ⟨(some 172), .extract (.tmp 167) 0, none, [], false, false⟩,
                ⟨(some 173), .extract (.tmp 167) 1, none, [], false, false⟩,
                ⟨(some 22), .push [(.int .i64 0), (.int .i64 0)], none, [], false, false⟩,
                ⟨none, .store 2 (.tmp 22) (.tmp 172), none, [], false, false⟩,
                ⟨(some 23), .move (.tmp 173), none, [], false, false⟩])
             (.seq (.region false [⟨(some 174), .move (.tmp 17), none, [], false, false⟩,
                 ⟨(some 175), .bin .eql (.tmp 174) (.const (.int .i64 0)), none, [], false, false⟩,
                 ⟨(some 176), .move (.tmp 175), none, [], false, false⟩,
                 ⟨(some 177), .move (.tmp 19), (some (176, true)), [], false, false⟩,
                 ⟨(some 178), .bin .eql (.tmp 177) (.const (.int .i64 0)), (some (176, true)), [], false, false⟩,
                 ⟨(some 179), .pick (.tmp 176) (.tmp 178) (.const (.bool false)), none, [], false, false⟩,
                 ⟨(some 180), .move (.tmp 179), none, [], false, false⟩,
                 ⟨(some 181), .move (.tmp 21), (some (180, true)), [], false, false⟩,
                 ⟨(some 182), .bin .eql (.tmp 181) (.const (.int .i64 0)), (some (180, true)), [], false, false⟩,
                 ⟨(some 183), .pick (.tmp 180) (.tmp 182) (.const (.bool false)), none, [], false, false⟩,
                 ⟨(some 184), .move (.tmp 183), none, [], false, false⟩,
                 ⟨(some 185), .move (.tmp 23), (some (184, true)), [], false, false⟩,
                 ⟨(some 186), .bin .eql (.tmp 185) (.const (.int .i64 0)), (some (184, true)), [], false, false⟩,
                 ⟨(some 187), .pick (.tmp 184) (.tmp 186) (.const (.bool false)), none, [], false, false⟩,
                 ⟨(some 188), .move (.tmp 187), none, [], false, false⟩,
                 ⟨(some 189), .fieldAddr 0 (.tmp 12), (some (188, true)), [], false, false⟩,
                 ⟨(some 190), .load true 2 (.tmp 189), (some (188, true)), [], false, false⟩,
                 ⟨(some 191), .load true 2 (.tmp 16), (some (188, true)), [], false, false⟩,
                 ⟨(some 192), .eqAgg false [(.int .i64), (.int .i64)] (.tmp 190) (.tmp 191), (some (188, true)), [], false, false⟩,
                 ⟨(some 193), .pick (.tmp 188) (.tmp 192) (.const (.bool false)), none, [], false, false⟩,
                 ⟨(some 194), .move (.tmp 193), none, [], false, false⟩,
                 ⟨(some 195), .fieldAddr 2 (.tmp 12), (some (194, true)), [], false, false⟩,
                 ⟨(some 196), .load true 2 (.tmp 195), (some (194, true)), [], false, false⟩,
                 ⟨(some 197), .load true 2 (.tmp 18), (some (194, true)), [], false, false⟩,
                 ⟨(some 198), .eqAgg false [(.int .i64), (.int .i64)] (.tmp 196) (.tmp 197), (some (194, true)), [], false, false⟩,
                 ⟨(some 199), .pick (.tmp 194) (.tmp 198) (.const (.bool false)), none, [], false, false⟩,
                 ⟨(some 200), .move (.tmp 199), none, [], false, false⟩,
                 ⟨(some 201), .fieldAddr 0 (.tmp 14), (some (200, true)), [], false, false⟩,
                 ⟨(some 202), .load true 2 (.tmp 201), (some (200, true)), [], false, false⟩,
                 ⟨(some 203), .load true 2 (.tmp 20), (some (200, true)), [], false, false⟩,
                 ⟨(some 204), .eqAgg false [(.int .i64), (.int .i64)] (.tmp 202) (.tmp 203), (some (200, true)), [], false, false⟩,
                 ⟨(some 205), .pick (.tmp 200) (.tmp 204) (.const (.bool false)), none, [], false, false⟩,
                 ⟨(some 206), .move (.tmp 205), none, [], false, false⟩,
                 ⟨(some 207), .fieldAddr 2 (.tmp 14), (some (206, true)), [], false, false⟩,
                 ⟨(some 208), .load true 2 (.tmp 207), (some (206, true)), [], false, false⟩,
                 ⟨(some 209), .load true 2 (.tmp 22), (some (206, true)), [], false, false⟩,
                 ⟨(some 210), .eqAgg false [(.int .i64), (.int .i64)] (.tmp 208) (.tmp 209), (some (206, true)), [], false, false⟩,
                 ⟨(some 211), .pick (.tmp 206) (.tmp 210) (.const (.bool false)), none, [], false, false⟩,
                 ⟨(some 6), .move (.tmp 211), none, [], false, false⟩])
              (.ret)))))))))))))),
 [.tmp 6], .pure, 212⟩

/-- agraffe/agraffelaw01.NumberFracs -/
def ef15 : EFun := ⟨
 .seq (.region false [⟨(some 2), .box (.tmp 0), none, [], false, false⟩,
    ⟨(some 3), .box (.tmp 1), none, [], false, false⟩,
    ⟨(some 4), .move (.const (.bool false)), none, [], false, false⟩])
 (.seq (.seq (.region false [⟨(some 27), .call 18 [], none, [], false, false⟩,
      ⟨(some 28), .un .not (.tmp 27), none, [], false, false⟩])
   (.cond (.tmp 28) (.seq (.region false [⟨(some 4), .move (.const (.bool false)), none, [], false, false⟩])
     (.ret))
    (.skip)))
  (.seq (.region false [⟨(some 30), .load true 2 (.tmp 2), none, [], false, false⟩,
      ⟨(some 31), .load true 2 (.tmp 3), none, [], false, false⟩,
      ⟨(some 32), .call 60 [(.tmp 30), (.tmp 31)], none, [], false, false⟩,
      ⟨(some 29), .move (.tmp 32), none, [], false, false⟩,
      ⟨(some 33), .extract (.tmp 29) 0, none, [], false, false⟩,
      ⟨(some 34), .extract (.tmp 29) 1, none, [], false, false⟩,
      ⟨(some 5), .push [(.int .i64 0), (.int .i64 0)], none, [], false, false⟩,
      ⟨none, .store 2 (.tmp 5) (.tmp 33), none, [], false, false⟩,
      ⟨(some 6), .move (.tmp 34), none, [], false, false⟩])
   (.seq (.region false [⟨(some 36), .load true 2 (.tmp 2), none, [], false, false⟩,
       ⟨(some 37), .load true 2 (.tmp 3), none, [], false, false⟩,
       ⟨(some 38), .call 61 [(.tmp 36), (.tmp 37)], none, [], false, false⟩,
       ⟨(some 35), .move (.tmp 38), none, [], false, false⟩,
       ⟨(some 39), .extract (.tmp 35) 0, none, [], false, false⟩,
       ⟨(some 40), .extract (.tmp 35) 1, none, [], false, false⟩,
       ⟨(some 7), .push [(.int .i64 0), (.int .i64 0)], none, [], false, false⟩,
       ⟨none, .store 2 (.tmp 7) (.tmp 39), none, [], false, false⟩,
       ⟨(some 8), .move (.tmp 40), none, [], false, false⟩])
    (.seq (.region false [⟨(some 42), .load true 2 (.tmp 2), none, [], false, false⟩,
        ⟨(some 43), .load true 2 (.tmp 3), none, [], false, false⟩,
        ⟨(some 44), .call 62 [(.tmp 42), (.tmp 43)], none, [], false, false⟩,
        ⟨(some 41), .move (.tmp 44), none, [], false, false⟩,
        ⟨(some 45), .extract (.tmp 41) 0, none, [], false, false⟩,
        ⟨(some 46), .extract (.tmp 41) 1, none, [], false, false⟩,
        ⟨(some 9), .push [(.int .i64 0), (.int .i64 0)], none, [], false, false⟩,
        ⟨none, .store 2 (.tmp 9) (.tmp 45), none, [], false, false⟩,
        ⟨(some 10), .move (.tmp 46), none, [], false, false⟩])
     (.seq (.region false [⟨(some 48), .load true 2 (.tmp 2), none, [], false, false⟩,
         ⟨(some 49), .load true 2 (.tmp 3), none, [], false, false⟩,
         ⟨(some 50), .call 63 [(.tmp 48), (.tmp 49)], none, [], false, false⟩,
         ⟨(some 47), .move (.tmp 50), none, [], false, false⟩,
         ⟨(some 51), .extract (.tmp 47) 0, none, [], false, false⟩,
         ⟨(some 52), .extract (.tmp 47) 1, none, [], false, false⟩,
         ⟨(some 11), .move (.tmp 51), none, [], false, false⟩,
         ⟨(some 12), .move (.tmp 52), none, [], false, false⟩])
      (.seq (.seq (.region true [⟨(some 53), .load true 2 (.tmp 2), none, [], false, false⟩,
           ⟨(some 54), .call 64 [(.tmp 53)], none, [], false, true⟩,
           ⟨(some 55), .load true 2 (.tmp 2), none, [], false, false⟩,
           ⟨(some 56), .call 43 [(.tmp 55)], none, [], false, false⟩,
           ⟨(some 57), .bin .neq (.tmp 54) (.tmp 56), none, [], false, false⟩])
        (.cond (.tmp 57) (.seq (.region false [⟨(some 4), .move (.const (.bool false)), none, [], false, false⟩])
          (.ret))
         (.skip)))
       (.seq (.seq (.region false [⟨(some 58), .load true 2 (.tmp 2), none, [], false, false⟩,
            ⟨(some 59), .load true 2 (.tmp 3), none, [], false, false⟩,
            ⟨(some 60), .call 65 [(.tmp 58), (.tmp 59)], none, [], false, false⟩,
            ⟨(some 13), .move (.tmp 60), none, [], false, false⟩])
         (.seq (.region false [⟨(some 61), .move (.tmp 13), none, [], false, false⟩,
             ⟨(some 62), .bin .neq (.tmp 61) (.const (.int .i64 0)), none, [], false, false⟩])
          (.cond (.tmp 62) (.seq (.region false [⟨(some 63), .build [(.int .i64 0), (.int .i64 0)] [], none, [], false, false⟩,
               ⟨(some 14), .push [(.int .i64 0), (.int .i64 0)], none, [], false, false⟩,
               ⟨none, .store 2 (.tmp 14) (.tmp 63), none, [], false, false⟩])
            (.seq (.region false [⟨(some 64), .move (.tmp 6), none, [], false, false⟩,
                ⟨(some 65), .move (.tmp 13), none, [], false, false⟩,
                ⟨(some 66), .bin .eql (.tmp 64) (.tmp 65), none, [], false, false⟩,
                ⟨(some 67), .move (.tmp 66), none, [], false, false⟩,
                ⟨(some 68), .move (.tmp 8), (some (67, true)), [], false, false⟩,
                ⟨(some 69), .move (.tmp 13), (some (67, true)), [], false, false⟩,
                ⟨(some 70), .bin .eql (.tmp 68) (.tmp 69), (some (67, true)), [], false, false⟩,
                ⟨(some 71), .pick (.tmp 67) (.tmp 70) (.const (.bool false)), none, [], false, false⟩,
                ⟨(some 72), .move (.tmp 71), none, [], false, false⟩,
                ⟨(some 73), .move (.tmp 10), (some (72, true)), [], false, false⟩,
                ⟨(some 74), .move (.tmp 13), (some (72, true)), [], false, false⟩,
                ⟨(some 75), .bin .eql (.tmp 73) (.tmp 74), (some (72, true)), [], false, false⟩,
                ⟨(some 76), .pick (.tmp 72) (.tmp 75) (.const (.bool false)), none, [], false, false⟩,
                ⟨(some 77), .move (.tmp 76), none, [], false, false⟩,
                ⟨(some 78), .move (.tmp 12), (some (77, true)), [], false, false⟩,
                ⟨(some 79), .move (.tmp 13), (some (77, true)), [], false, false⟩,
                ⟨(some 80), .bin .eql (.tmp 78) (.tmp 79), (some (77, true)), [], false, false⟩,
                ⟨(some 81), .pick (.tmp 77) (.tmp 80) (.const (.bool false)), none, [], false, false⟩,
                ⟨(some 82), .move (.tmp 81), none, [], false, false⟩,
                ⟨(some 83), .load true 2 (.tmp 5), (some (82, true)), [], false, false⟩,
                ⟨(some 84), .load true 2 (.tmp 14), (some (82, true)), [], false, false⟩,
                ⟨(some 85), .eqAgg false [(.int .i64), (.int .i64)] (.tmp 83) (.tmp 84), (some (82, true)), [], false, false⟩,
                ⟨(some 86), .pick (.tmp 82) (.tmp 85) (.const (.bool false)), none, [], false, false⟩,
                ⟨(some 87), .move (.tmp 86), none, [], false, false⟩,
                ⟨(some 88), .load true 2 (.tmp 7), (some (87, true)), [], false, false⟩,
                ⟨(some 89), .load true 2 (.tmp 14), (some (87, true)), [], false, false⟩,
                ⟨(some 90), .eqAgg false [(.int .i64), (.int .i64)] (.tmp 88) (.tmp 89), (some (87, true)), [], false, false⟩,
                ⟨(some 91), .pick (.tmp 87) (.tmp 90) (.const (.bool false)), none, [], false, false⟩,
                ⟨(some 92), .move (.tmp 91), none, [], false, false⟩,
                ⟨(some 93), .load true 2 (.tmp 9), (some (92, true)), [], false, false⟩,
                ⟨(some 94), .load true 2 (.tmp 14), (some (92, true)), [], false, false⟩,
                ⟨(some 95), .eqAgg false [(.int .i64), (.int .i64)] (.tmp 93) (.tmp 94), (some (92, true)), [], false, false⟩,
                ⟨(some 96), .pick (.tmp 92) (.tmp 95) (.const (.bool false)), none, [], false, false⟩,
                ⟨(some 97), .move (.tmp 96), none, [], false, false⟩,
                ⟨(some 98), .move (.tmp 11), (some (97, true)), [], false, false⟩,
                ⟨(some 99), .bin .eql (.tmp 98) (.const (.int .i64 0)), (some (97, true)), [], false, false⟩,
                ⟨(some 100), .pick (.tmp 97) (.tmp 99) (.const (.bool false)), none, [], false, false⟩,
                ⟨(some 4), .move (.tmp 100), none, [], false, false⟩])
             (.ret)))
           (.skip))))
        (.seq (.region false [⟨(some 102), .load true 2 (.tmp 2), none, [], false, false⟩,
            ⟨(some 103), .load true 2 (.tmp 3), none, [], false, false⟩,
            ⟨(some 104), .call 66 [(.tmp 102), (.tmp 103)], none, [], false, false⟩,
            ⟨(some 101), .move (.tmp 104), none, [], false, false⟩,
            ⟨(some 105), .extract (.tmp 101) 0, none, [], false, false⟩,
            ⟨(some 106), .extract (.tmp 101) 1, none, [], false, false⟩,
            ⟨(some 15), .push [(.int .i64 0), (.int .i64 0)], none, [], false, false⟩,
            ⟨none, .store 2 (.tmp 15) (.tmp 105), none, [], false, false⟩,
            ⟨(some 16), .move (.tmp 106), none, [], false, false⟩])
         (.seq (.region false [⟨(some 108), .load true 2 (.tmp 2), none, [], false, false⟩,
             ⟨(some 109), .load true 2 (.tmp 3), none, [], false, false⟩,
             ⟨(some 110), .call 67 [(.tmp 108), (.tmp 109)], none, [], false, false⟩,
             ⟨(some 107), .move (.tmp 110), none, [], false, false⟩,
             ⟨(some 111), .extract (.tmp 107) 0, none, [], false, false⟩,
             ⟨(some 112), .extract (.tmp 107) 1, none, [], false, false⟩,
             ⟨(some 17), .push [(.int .i64 0), (.int .i64 0)], none, [], false, false⟩,
             ⟨none, .store 2 (.tmp 17) (.tmp 111), none, [], false, false⟩,
             ⟨(some 18), .move (.tmp 112), none, [], false, false⟩])
          (.seq (.region false [⟨(some 114), .load true 2 (.tmp 2), none, [], false, false⟩,
              ⟨(some 115), .load true 2 (.tmp 3), none, [], false, false⟩,
              ⟨(some 116), .call 68 [(.tmp 114), (.tmp 115)], none, [], false, false⟩,
              ⟨(some 113), .move (.tmp 116), none, [], false, false⟩,
              ⟨(some 117), .extract (.tmp 113) 0, none, [], false, false⟩,
              ⟨(some 118), .extract (.tmp 113) 1, none, [], false, false⟩,
              ⟨(some 19), .push [(.int .i64 0), (.int .i64 0)], none, [], false, false⟩,
              ⟨none, .store 2 (.tmp 19) (.tmp 117), none, [], false, false⟩,
              ⟨(some 20), .move (.tmp 118), none, [], false, false⟩])
           (.seq (.seq (.region false [⟨(some 119), .load true 2 (.tmp 5), none, [], false, false⟩,
                ⟨(some 120), .load true 2 (.tmp 15), none, [], false, false⟩,
                ⟨(some 121), .eqAgg true [(.int .i64), (.int .i64)] (.tmp 119) (.tmp 120), none, [], false, false⟩,
                ⟨(some 122), .move (.tmp 121), none, [], false, false⟩,
                ⟨(some 123), .move (.tmp 6), (some (122, false)), [], false, false⟩,
                ⟨(some 124), .move (.tmp 16), (some (122, false)), [], false, false⟩,
                ⟨(some 125), .bin .neq (.tmp 123) (.tmp 124), (some (122, false)), [], false, false⟩,
                ⟨(some 126), .pick (.tmp 122) (.const (.bool true)) (.tmp 125), none, [], false, false⟩,
                ⟨(some 127), .move (.tmp 126), none, [], false, false⟩,
                ⟨(some 128), .load true 2 (.tmp 7), (some (127, false)), [], false, false⟩,
                ⟨(some 129), .load true 2 (.tmp 17), (some (127, false)), [], false, false⟩,
                ⟨(some 130), .eqAgg true [(.int .i64), (.int .i64)] (.tmp 128) (.tmp 129), (some (127, false)), [], false, false⟩,
                ⟨(some 131), .pick (.tmp 127) (.const (.bool true)) (.tmp 130), none, [], false, false⟩,
                ⟨(some 132), .move (.tmp 131), none, [], false, false⟩,
                ⟨(some 133), .move (.tmp 8), (some (132, false)), [], false, false⟩,
                ⟨(some 134), .move (.tmp 18), (some (132, false)), [], false, false⟩,
                ⟨(some 135), .bin .neq (.tmp 133) (.tmp 134), (some (132, false)), [], false, false⟩,
                ⟨(some 136), .pick (.tmp 132) (.const (.bool true)) (.tmp 135), none, [], false, false⟩,
                ⟨(some 137), .move (.tmp 136), none, [], false, false⟩,
                ⟨(some 138), .load true 2 (.tmp 9), (some (137, false)), [], false, false⟩,
                ⟨(some 139), .load true 2 (.tmp 19), (some (137, false)), [], false, false⟩,
                ⟨(some 140), .eqAgg true [(.int .i64), (.int .i64)] (.tmp 138) (.tmp 139), (some (137, false)), [], false, false⟩,
                ⟨(some 141), .pick (.tmp 137) (.const (.bool true)) (.tmp 140), none, [], false, false⟩,
                ⟨(some 142), .move (.tmp 141), none, [], false, false⟩,
                ⟨(some 143), .move (.tmp 10), (some (142, false)), [], false, false⟩,
                ⟨(some 144), .move (.tmp 20), (some (142, false)), [], false, false⟩,
                ⟨(some 145), .bin .neq (.tmp 143) (.tmp 144), (some (142, false)), [], false, false⟩,
                ⟨(some 146), .pick (.tmp 142) (.const (.bool true)) (.tmp 145), none, [], false, false⟩,
                ⟨(some 147), .move (.tmp 146), none, [], false, false⟩,
                ⟨(some 148), .move (.tmp 12), (some (147, false)), [], false, false⟩,
                ⟨(some 149), .bin .neq (.tmp 148) (.const (.int .i64 0)), (some (147, false)), [], false, false⟩,
                ⟨(some 150), .pick (.tmp 147) (.const (.bool true)) (.tmp 149), none, [], false, false⟩,
                ⟨(some 151), .move (.tmp 150), none, [], false, false⟩,
                ⟨(some 152), .move (.tmp 11), (some (151, false)), [], false, false⟩,
                ⟨(some 153), .load true 2 (.tmp 2), (some (151, false)), [], false, false⟩,
                ⟨(some 154), .load true 2 (.tmp 3), (some (151, false)), [], false, false⟩,
                ⟨(some 155), .call 69 [(.tmp 153), (.tmp 154)], (some (151, false)), [], false, false⟩,
                ⟨(some 156), .bin .neq (.tmp 152) (.tmp 155), (some (151, false)), [], false, false⟩,
                ⟨(some 157), .pick (.tmp 151) (.const (.bool true)) (.tmp 156), none, [], false, false⟩])
             (.cond (.tmp 157) (.seq (.region false [⟨(some 4), .move (.const (.bool false)), none, [], false, false⟩])
               (.ret))
              (.skip)))
            (.seq (.region false [⟨(some 159), .load true 2 (.tmp 3), none, [], false, false⟩,
                ⟨(some 160), .load true 2 (.tmp 2), none, [], false, false⟩,
                ⟨(some 161), .call 60 [(.tmp 159), (.tmp 160)], none, [], false, false⟩,
                ⟨(some 158), .move (.tmp 161), none, [], false, false⟩,
                ⟨(some 162), .extract (.tmp 158) 0, none, [], false, false⟩,
                ⟨(some 163), .extract (.tmp 158) 1, none, [], false, false⟩,
                ⟨(some 21), .push [(.int .i64 0), (.int .i64 0)], none, [], false, false⟩,
                ⟨none, .store 2 (.tmp 21) (.tmp 162), none, [], false, false⟩,
                ⟨(some 22), .move (.tmp 163), none, [], false, false⟩])
             (.seq (.region false [⟨(some 165), .load true 2 (.tmp 3), none, [], false, false⟩,
                 ⟨(some 166), .load true 2 (.tmp 2), none, [], false, false⟩,
                 ⟨(some 167), .call 61 [(.tmp 165), (.tmp 166)], none, [], false, false⟩,
                 ⟨(some 164), .move (.tmp 167), none, [], false, false⟩,
                 ⟨(some 168), .extract (.tmp 164) 0, none, [], false, false⟩,
                 ⟨(some 169), .extract (.tmp 164) 1, none, [], false, false⟩,
                 ⟨(some 23), .push [(.int .i64 0), (.int .i64 0)], none, [], false, false⟩,
                 ⟨none, .store 2 (.tmp 23) (.tmp 168), none, [], false, false⟩,
                 ⟨(some 24), .move (.tmp 169), none, [], false, false⟩])
              (.seq (.region false [⟨(some 171), .load true 2 (.tmp 3), none, [], false, false⟩,
                  ⟨(some 172), .load true 2 (.tmp 2), none, [], false, false⟩,
                  ⟨(some 173), .call 63 [(.tmp 171), (.tmp 172)], none, [], false, false⟩,
                  ⟨(some 170), .move (.tmp 173), none, [], false, false⟩,
                  ⟨(some 174), .extract (.tmp 170) 0, none, [], false, false⟩,
                  ⟨(some 175), .extract (.tmp 170) 1, none, [], false, false⟩,
                  ⟨(some 25), .move (.tmp 174), none, [], false, false⟩,
                  ⟨(some 26), .move (.tmp 175), none, [], false, false⟩])
               (.seq (.region false [⟨(some 176), .load true 2 (.tmp 5), none, [], false, false⟩,
                   ⟨(some 177), .load true 2 (.tmp 21), none, [], false, false⟩,
                   ⟨(some 178), .eqAgg false [(.int .i64), (.int .i64)] (.tmp 176) (.tmp 177), none, [], false, false⟩,
                   ⟨(some 179), .move (.tmp 178), none, [], false, false⟩,
                   ⟨(some 180), .move (.tmp 6), (some (179, true)), [], false, false⟩,
                   ⟨(some 181), .move (.tmp 22), (some (179, true)), [], false, false⟩,
                   ⟨(some 182), .bin .eql (.tmp 180) (.tmp 181), (some (179, true)), [], false, false⟩,
                   ⟨(some 183), .pick (.tmp 179) (.tmp 182) (.const (.bool false)), none, [], false, false⟩,
                   ⟨(some 184), .move (.tmp 183), none, [], false, false⟩,
                   ⟨(some 185), .load true 2 (.tmp 7), (some (184, true)), [], false, false⟩,
                   ⟨(some 186), .load true 2 (.tmp 23), (some (184, true)), [], false, false⟩,
                   ⟨(some 187), .eqAgg false [(.int .i64), (.int .i64)] (.tmp 185) (.tmp 186), (some (184, true)), [], false, false⟩,
                   ⟨(some 188), .pick (.tmp 184) (.tmp 187) (.const (.bool false)), none, [], false, false⟩,
                   ⟨(some 189), .move (.tmp 188), none, [], false, false⟩,
                   ⟨(some 190), .move (.tmp 8), (some (189, true)), [], false, false⟩,
                   ⟨(some 191), .move (.tmp 24), (some (189, true)), [], false, false⟩,
                   ⟨(some 192), .bin .eql (.tmp 190) (.tmp 191), (some (189, true)), [], false, false⟩,
                   ⟨(some 193), .pick (.tmp 189) (.tmp 192) (.const (.bool false)), none, [], false, false⟩,
                   ⟨(some 194), .move (.tmp 193), none, [], false, false⟩,
                   ⟨(some 195), .move (.tmp 26), (some (194, true)), [], false, false⟩,
                   ⟨(some 196), .bin .eql (.tmp 195) (.const (.int .i64 0)), (some (194, true)), [], false, false⟩,
                   ⟨(some 197), .pick (.tmp 194) (.tmp 196) (.const (.bool false)), none, [], false, false⟩,
                   ⟨(some 198), .move (.tmp 197), none, [], false, false⟩,
                   ⟨(some 199), .move (.tmp 25), (some (198, true)), [], false, false⟩,
                   ⟨(some 200), .move (.tmp 11), (some (198, true)), [], false, false⟩,
                   ⟨(some 201), .un .neg (.tmp 200), (some (198, true)), [], false, false⟩,
                   ⟨(some 202), .bin .eql (.tmp 199) (.tmp 201), (some (198, true)), [], false, false⟩,
                   ⟨(some 203), .pick (.tmp 198) (.tmp 202) (.const (.bool false)), none, [], false, false⟩,
                   ⟨(some 4), .move (.tmp 203), none, [], false, false⟩])
                (.ret)))))))))))))))),
 [.tmp 4], .pure, 204⟩

/-- agraffe/agraffelaw01.NumberOctaves -/
def ef16 : EFun := ⟨
 .seq (.region false [⟨(some 1), .box (.tmp 0), none, [], false, false⟩,
    ⟨(some 2), .move (.const (.bool false)), none, [], false, false⟩])
 (.seq (.seq (.region false [⟨(some 18), .call 18 [], none, [], false, false⟩,
      ⟨(some 19), .un .not (.tmp 18), none, [], false, false⟩])
   (.cond (.tmp 19) (.seq (.region false [⟨(some 2), .move (.const (.bool false)), none, [], false, false⟩])
     (.ret))
    (.skip)))
  (.seq (.seq (.region false [⟨(some 20), .load true 4 (.tmp 1), none, [], false, false⟩,
       ⟨(some 21), .call 19 [(.tmp 20)], none, [], false, false⟩,
       ⟨(some 22), .un .not (.tmp 21), none, [], false, false⟩])
    (.cond (.tmp 22) (.seq (.region false [⟨(some 2), .move (.const (.bool true)), none, [], false, false⟩])
      (.ret))
     (.skip)))
   (.seq (.region false [⟨(some 24), .load true 4 (.tmp 1), none, [], false, false⟩,
       ⟨(some 25), .call 70 [(.tmp 24)], none, [], false, false⟩,
       ⟨(some 23), .move (.tmp 25), none, [], false, false⟩,
       ⟨(some 26), .extract (.tmp 23) 0, none, [], false, false⟩,
       ⟨(some 27), .extract (.tmp 23) 1, none, [], false, false⟩,
       ⟨(some 28), .extract (.tmp 23) 2, none, [], false, false⟩,
       ⟨(some 3), .push [(.int .i64 0), (.int .i64 0), (.int .i64 0), (.int .i64 0)], none, [], false, false⟩,
       ⟨none, .store 4 (.tmp 3) (.tmp 26), none, [], false, false⟩,
       ⟨(some 4), .move (.tmp 27), none, [], false, false⟩,
       ⟨(some 5), .move (.tmp 28), none, [], false, false⟩])
    (.seq (.seq (.region false [⟨(some 29), .load true 4 (.tmp 1), none, [], false, false⟩,
         ⟨(some 30), .buildSlice 4 1 [(.int .i64 0), (.int .i64 0), (.int .i64 0), (.int .i64 0)] [(0, 4, (.tmp 29))], none, [], false, false⟩,
         ⟨(some 31), .call 21 [(.tmp 30)], none, [], false, false⟩,
         ⟨(some 6), .move (.tmp 31), none, [], false, false⟩])
      (.seq (.region false [⟨(some 32), .move (.tmp 6), none, [], false, false⟩,
          ⟨(some 33), .bin .neq (.tmp 32) (.const (.int .i64 0)), none, [], false, false⟩])
       (.cond (.tmp 33) (.seq (.region false [⟨(some 34), .move (.tmp 5), none, [], false, false⟩,
            ⟨(some 35), .move (.tmp 6), none, [], false, false⟩,
            ⟨(some 36), .bin .eql (.tmp 34) (.tmp 35), none, [], false, false⟩,
            ⟨(some 37), .move (.tmp 36), none, [], false, false⟩,
            ⟨(some 38), .load true 4 (.tmp 3), (some (37, true)), [], false, false⟩,
            ⟨(some 39), .build [(.int .i64 0), (.int .i64 0), (.int .i64 0), (.int .i64 0)] [], (some (37, true)), [], false, false⟩,
            ⟨(some 40), .eqAgg false [(.int .i64), (.int .i64), (.int .i64), (.int .i64)] (.tmp 38) (.tmp 39), (some (37, true)), [], false, false⟩,
            ⟨(some 41), .pick (.tmp 37) (.tmp 40) (.const (.bool false)), none, [], false, false⟩,
            ⟨(some 42), .move (.tmp 41), none, [], false, false⟩,
            ⟨(some 43), .move (.tmp 4), (some (42, true)), [], false, false⟩,
            ⟨(some 44), .bin .eql (.tmp 43) (.const (.int .i64 0)), (some (42, true)), [], false, false⟩,
            ⟨(some 45), .pick (.tmp 42) (.tmp 44) (.const (.bool false)), none, [], false, false⟩,
            ⟨(some 2), .move (.tmp 45), none, [], false, false⟩])
         (.ret))
        (.skip))))
     (.seq (.region false [⟨(some 47), .load true 4 (.tmp 1), none, [], false, false⟩,
         ⟨(some 48), .call 71 [(.tmp 47)], none, [], false, false⟩,
         ⟨(some 46), .move (.tmp 48), none, [], false, false⟩,
         ⟨(some 49), .extract (.tmp 46) 0, none, [], false, false⟩,
         ⟨(some 50), .extract (.tmp 46) 1, none, [], false, false⟩,
         ⟨(some 51), .extract (.tmp 46) 2, none, [], false, false⟩,
         ⟨(some 7), .push [(.int .i64 0), (.int .i64 0), (.int .i64 0), (.int .i64 0)], none, [], false, false⟩,
         ⟨none, .store 4 (.tmp 7) (.tmp 49), none, [], false, false⟩,
         ⟨(some 8), .move (.tmp 50), none, [], false, false⟩,
         ⟨(some 9), .move (.tmp 51), none, [], false, false⟩])
      (.seq (.seq (.region false [⟨(some 52), .move (.tmp 5), none, [], false, false⟩,
           ⟨(some 53), .move (.tmp 9), none, [], false, false⟩,
           ⟨(some 54), .bin .neq (.tmp 52) (.tmp 53), none, [], false, false⟩,
           ⟨(some 55), .move (.tmp 54), none, [], false, false⟩,
           ⟨(some 56), .load true 4 (.tmp 3), (some (55, false)), [], false, false⟩,
           ⟨(some 57), .load true 4 (.tmp 7), (some (55, false)), [], false, false⟩,
           ⟨(some 58), .eqAgg true [(.int .i64), (.int .i64), (.int .i64), (.int .i64)] (.tmp 56) (.tmp 57), (some (55, false)), [], false, false⟩,
           ⟨(some 59), .pick (.tmp 55) (.const (.bool true)) (.tmp 58), none, [], false, false⟩,
           ⟨(some 60), .move (.tmp 59), none, [], false, false⟩,
           ⟨(some 61), .move (.tmp 4), (some (60, false)), [], false, false⟩,
           ⟨(some 62), .move (.tmp 8), (some (60, false)), [], false, false⟩,
           ⟨(some 63), .bin .neq (.tmp 61) (.tmp 62), (some (60, false)), [], false, false⟩,
           ⟨(some 64), .pick (.tmp 60) (.const (.bool true)) (.tmp 63), none, [], false, false⟩])
        (.cond (.tmp 64) (.seq (.region false [⟨(some 2), .move (.const (.bool false)), none, [], false, false⟩])
          (.ret))
         (.skip)))
       (.seq (.seq (.region false [⟨(some 65), .move (.tmp 9), none, [], false, false⟩,
            ⟨(some 66), .bin .neq (.tmp 65) (.const (.int .i64 0)), none, [], false, false⟩])
         (.cond (.tmp 66) (.seq (.region false [⟨(some 2), .move (.const (.bool true)), none, [], false, false⟩])
           (.ret))
          (.skip)))
        (.seq (.region false [⟨(some 68), .load true 4 (.tmp 3), none, [], false, false⟩,
            ⟨(some 69), .build [(.int .i64 0), (.int .i64 0), (.int .i64 0), (.int .i64 0)] [(3, 1, (.const (.int .i64 1)))], none, [], false, false⟩,
            ⟨(some 70), .call 54 [(.tmp 68), (.tmp 69)], none, [], false, false⟩,
            ⟨(some 67), .move (.tmp 70), none, [], false, false⟩,
            ⟨(some 71), .extract (.tmp 67) 0, none, [], false, false⟩,
            ⟨(some 72), .extract (.tmp 67) 1, none, [], false, false⟩,
            ⟨(some 10), .move (.tmp 71), none, [], false, false⟩,
            ⟨(some 11), .move (.tmp 72), none, [], false, false⟩])
         (.seq (.region false [⟨(some 74), .load true 4 (.tmp 3), none, [], false, false⟩,
             ⟨(some 75), .build [(.int .i64 0), (.int .i64 0), (.int .i64 0), (.int .i64 0)] [(0, 1, (.const (.int .i64 1))), (3, 1, (.const (.int .i64 1)))], none, [], false, false⟩,
             ⟨(some 76), .call 54 [(.tmp 74), (.tmp 75)], none, [], false, false⟩,
             ⟨(some 73), .move (.tmp 76), none, [], false, false⟩,
             ⟨(some 77), .extract (.tmp 73) 0, none, [], false, false⟩,
             ⟨(some 78), .extract (.tmp 73) 1, none, [], false, false⟩,
             ⟨(some 12), .move (.tmp 77), none, [], false, false⟩,
             ⟨(some 13), .move (.tmp 78), none, [], false, false⟩])
          (.seq (.seq (.region false [⟨(some 79), .move (.tmp 11), none, [], false, false⟩,
               ⟨(some 80), .bin .neq (.tmp 79) (.const (.int .i64 0)), none, [], false, false⟩,
               ⟨(some 81), .move (.tmp 80), none, [], false, false⟩,
               ⟨(some 82), .move (.tmp 13), (some (81, false)), [], false, false⟩,
               ⟨(some 83), .bin .neq (.tmp 82) (.const (.int .i64 0)), (some (81, false)), [], false, false⟩,
               ⟨(some 84), .pick (.tmp 81) (.const (.bool true)) (.tmp 83), none, [], false, false⟩,
               ⟨(some 85), .move (.tmp 84), none, [], false, false⟩,
               ⟨(some 86), .move (.tmp 10), (some (85, false)), [], false, false⟩,
               ⟨(some 87), .bin .lss (.tmp 86) (.const (.int .i64 0)), (some (85, false)), [], false, false⟩,
               ⟨(some 88), .pick (.tmp 85) (.const (.bool true)) (.tmp 87), none, [], false, false⟩,
               ⟨(some 89), .move (.tmp 88), none, [], false, false⟩,
               ⟨(some 90), .move (.tmp 12), (some (89, false)), [], false, false⟩,
               ⟨(some 91), .bin .geq (.tmp 90) (.const (.int .i64 0)), (some (89, false)), [], false, false⟩,
               ⟨(some 92), .pick (.tmp 89) (.const (.bool true)) (.tmp 91), none, [], false, false⟩])
            (.cond (.tmp 92) (.seq (.region false [⟨(some 2), .move (.const (.bool false)), none, [], false, false⟩])
              (.ret))
             (.skip)))
           (.seq (.region false [⟨(some 94), .load true 4 (.tmp 3), none, [], false, false⟩,
               ⟨(some 95), .move (.tmp 4), none, [], false, false⟩,
               ⟨(some 96), .build [(.int .i64 0), (.int .i64 0), (.int .i64 0), (.int .i64 0)] [(0, 1, (.tmp 95)), (3, 1, (.const (.int .i64 1)))], none, [], false, false⟩,
               ⟨(some 97), .call 50 [(.tmp 94), (.tmp 96)], none, [], false, false⟩,
               ⟨(some 93), .move (.tmp 97), none, [], false, false⟩,
               ⟨(some 98), .extract (.tmp 93) 0, none, [], false, false⟩,
               ⟨(some 99), .extract (.tmp 93) 1, none, [], false, false⟩,
               ⟨(some 14), .push [(.int .i64 0), (.int .i64 0), (.int .i64 0), (.int .i64 0)], none, [], false, false⟩,
               ⟨none, .store 4 (.tmp 14) (.tmp 98), none, [], false, false⟩,
               ⟨(some 15), .move (.tmp 99), none, [], false, false⟩])
            (.seq (.region false [⟨(some 101), .load true 4 (.tmp 1), none, [], false, false⟩,
                ⟨(some 102), .call 49 [(.tmp 101)], none, [], false, false⟩,
                ⟨(some 100), .move (.tmp 102), none, [], false, false⟩,
                ⟨(some 103), .extract (.tmp 100) 0, none, [], false, false⟩,
                ⟨(some 104), .extract (.tmp 100) 1, none, [], false, false⟩,
                ⟨(some 16), .push [(.int .i64 0), (.int .i64 0), (.int .i64 0), (.int .i64 0)], none, [], false, false⟩,
                ⟨none, .store 4 (.tmp 16) (.tmp 103), none, [], false, false⟩,
                ⟨(some 17), .move (.tmp 104), none, [], false, false⟩])
             (.seq (.region false [⟨(some 105), .move (.tmp 4), none, [], false, false⟩,
                 ⟨(some 106), .call 22 [(.tmp 105), (.const (.int .i64 (-400))), (.const (.int .i64 400))], none, [], false, false⟩,
                 ⟨(some 107), .un .not (.tmp 106), none, [], false, false⟩,
                 ⟨(some 108), .move (.tmp 107), none, [], false, false⟩,
                 ⟨(some 109), .move (.tmp 15), (some (108, false)), [], false, false⟩,
                 ⟨(some 110), .bin .eql (.tmp 109) (.const (.int .i64 0)), (some (108, false)), [], false, false⟩,
                 ⟨(some 111), .move (.tmp 110), (some (108, false)), [], false, false⟩,
                 ⟨(some 112), .move (.tmp 17), (some (111, true)), [], false, false⟩,
                 ⟨(some 113), .bin .eql (.tmp 112) (.const (.int .i64 0)), (some (111, true)), [], false, false⟩,
                 ⟨(some 114), .pick (.tmp 111) (.tmp 113) (.const (.bool false)), (some (108, false)), [], false, false⟩,
                 ⟨(some 115), .move (.tmp 114), (some (108, false)), [], false, false⟩,
                 ⟨(some 116), .load true 4 (.tmp 14), (some (115, true)), [], false, false⟩,
                 ⟨(some 117), .load true 4 (.tmp 16), (some (115, true)), [], false, false⟩,
                 ⟨(some 118), .eqAgg false [(.int .i64), (.int .i64), (.int .i64), (.int .i64)] (.tmp 116) (.tmp 117), (some (115, true)), [], false, false⟩,
                 ⟨(some 119), .pick (.tmp 115) (.tmp 118) (.const (.bool false)), (some (108, false)), [], false, false⟩,
                 ⟨(some 120), .pick (.tmp 108) (.const (.bool true)) (.tmp 119), none, [], false, false⟩,
                 ⟨(some 2), .move (.tmp 120), none, [], false, false⟩])
              (.ret)))))))))))))),
 [.tmp 2], .pure, 121⟩

/-- agraffe/agraffelaw01.awake -/
def ef18 : EFun := ⟨
 .seq (.region false [⟨(some 0), .move (.const (.bool false)), none, [], false, false⟩])
 (.seq (.region false [⟨(some 9), .call 76 [], none, [], false, false⟩,
     ⟨(some 10), .call 20 [(.tmp 9), (.const (.int .i64 1000))], none, [], false, false⟩,
     ⟨(some 8), .move (.tmp 10), none, [], false, false⟩,
     ⟨(some 11), .extract (.tmp 8) 0, none, [], false, false⟩,
     ⟨(some 12), .extract (.tmp 8) 1, none, [], false, false⟩,
     ⟨(some 1), .push [(.int .i64 0), (.int .i64 0)], none, [], false, false⟩,
     ⟨none, .store 2 (.tmp 1) (.tmp 11), none, [], false, false⟩,
     ⟨(some 2), .move (.tmp 12), none, [], false, false⟩])
  (.seq (.region false [⟨(some 14), .build [(.int .i64 0), (.int .i64 0), (.int .i64 0)] [(0, 1, (.const (.int .i64 0))), (1, 1, (.const (.int .i64 1))), (2, 1, (.const (.int .i64 2)))], none, [], false, false⟩,
      ⟨(some 15), .build [(.int .i64 0), (.int .i64 0), (.int .i64 0)] [(0, 1, (.const (.int .i64 1))), (1, 1, (.const (.int .i64 2))), (2, 1, (.const (.int .i64 (-3))))], none, [], false, false⟩,
      ⟨(some 16), .build [(.int .i64 0), (.int .i64 0), (.int .i64 0)] [(0, 1, (.const (.int .i64 2))), (1, 1, (.const (.int .i64 0))), (2, 1, (.const (.int .i64 4)))], none, [], false, false⟩,
      ⟨(some 17), .buildSlice 3 3 (List.replicate 9 (.int .i64 0)) [(0, 3, (.tmp 14)), (3, 3, (.tmp 15)), (6, 3, (.tmp 16))], none, [], false, false⟩,
      ⟨(some 18), .call 35 [(.const (.int .i64 3)), (.tmp 17)], none, [], false, false⟩,
      ⟨(some 13), .move (.tmp 18), none, [], false, false⟩,
      ⟨(some 19), .extract (.tmp 13) 0, none, [], false, false⟩,
      ⟨(some 20), .extract (.tmp 13) 1, none, [], false, false⟩,
      ⟨(some 21), .extract (.tmp 13) 2, none, [], false, false⟩,
      ⟨(some 3), .move (.tmp 19), none, [], false, false⟩,
      ⟨(some 4), .move (.tmp 20), none, [], false, false⟩,
      ⟨(some 5), .move (.tmp 21), none, [], false, false⟩])
   (.seq (.region false [⟨(some 23), .build [(.int .i64 0), (.int .i64 0)] [], none, [], false, false⟩,
       ⟨(some 24), .build [(.int .i64 0), (.int .i64 0)] [(0, 1, (.const (.int .i64 1))), (1, 1, (.const (.int .i64 1)))], none, [], false, false⟩,
       ⟨(some 25), .build [(.int .i64 0), (.int .i64 0)] [(0, 1, (.const (.int .i64 2)))], none, [], false, false⟩,
       ⟨(some 26), .buildSlice 2 3 [(.int .i64 0), (.int .i64 0), (.int .i64 0), (.int .i64 0), (.int .i64 0), (.int .i64 0)] [(0, 2, (.tmp 23)), (2, 2, (.tmp 24)), (4, 2, (.tmp 25))], none, [], false, false⟩,
       ⟨(some 27), .call 25 [(.tmp 26)], none, [], false, false⟩,
       ⟨(some 22), .move (.tmp 27), none, [], false, false⟩,
       ⟨(some 28), .extract (.tmp 22) 0, none, [], false, false⟩,
       ⟨(some 29), .extract (.tmp 22) 1, none, [], false, false⟩,
       ⟨(some 6), .push (List.replicate 9 (.int .i64 0)), none, [], false, false⟩,
       ⟨none, .store 9 (.tmp 6) (.tmp 28), none, [], false, false⟩,
       ⟨(some 7), .move (.tmp 29), none, [], false, false⟩])
    (.seq (.region false [⟨(some 30), .move (.tmp 2), none, [], false, false⟩,
        ⟨(some 31), .bin .eql (.tmp 30) (.const (.int .i64 0)), none, [], false, false⟩,
        ⟨(some 32), .move (.tmp 31), none, [], false, false⟩,
        ⟨(some 33), .load true 2 (.tmp 1), (some (32, true)), [], false, false⟩,
        ⟨(some 34), .build [(.int .i64 0), (.int .i64 0)] [(0, 1, (.const (.int .i64 1013))), (1, 1, (.const (.int .i64 1014)))], (some (32, true)), [], false, false⟩,
        ⟨(some 35), .eqAgg false [(.int .i64), (.int .i64)] (.tmp 33) (.tmp 34), (some (32, true)), [], false, false⟩,
        ⟨(some 36), .pick (.tmp 32) (.tmp 35) (.const (.bool false)), none, [], false, false⟩,
        ⟨(some 37), .move (.tmp 36), none, [], false, false⟩,
        ⟨(some 38), .move (.tmp 5), (some (37, true)), [], false, false⟩,
        ⟨(some 39), .bin .eql (.tmp 38) (.const (.int .i64 0)), (some (37, true)), [], false, false⟩,
        ⟨(some 40), .pick (.tmp 37) (.tmp 39) (.const (.bool false)), none, [], false, false⟩,
        ⟨(some 41), .move (.tmp 40), none, [], false, false⟩,
        ⟨(some 42), .move (.tmp 3), (some (41, true)), [], false, false⟩,
        ⟨(some 43), .buildSlice 1 3 [(.int .i64 0), (.int .i64 0), (.int .i64 0)] [(0, 1, (.const (.int .i64 0))), (1, 1, (.const (.int .i64 0))), (2, 1, (.const (.int .i64 (-3))))], (some (41, true)), [], false, false⟩,
        ⟨(some 44), .call 38 [(.tmp 42), (.tmp 43)], (some (41, true)), [], false, false⟩,
        ⟨(some 45), .pick (.tmp 41) (.tmp 44) (.const (.bool false)), none, [], false, false⟩,
        ⟨(some 46), .move (.tmp 45), none, [], false, false⟩,
        ⟨(some 47), .move (.tmp 7), (some (46, true)), [], false, false⟩,
        ⟨(some 48), .bin .eql (.tmp 47) (.const (.int .i64 0)), (some (46, true)), [], false, false⟩,
        ⟨(some 49), .pick (.tmp 46) (.tmp 48) (.const (.bool false)), none, [], false, false⟩,
        ⟨(some 50), .move (.tmp 49), none, [], false, false⟩,
        ⟨(some 51), .fieldAddr 4 (.tmp 6), (some (50, true)), [], false, false⟩,
        ⟨(some 52), .load true 2 (.tmp 51), (some (50, true)), [], false, false⟩,
        ⟨(some 53), .build [(.int .i64 0), (.int .i64 0)] [(0, 1, (.const (.int .i64 1))), (1, 1, (.const (.int .i64 2)))], (some (50, true)), [], false, false⟩,
        ⟨(some 54), .eqAgg false [(.int .i64), (.int .i64)] (.tmp 52) (.tmp 53), (some (50, true)), [], false, false⟩,
        ⟨(some 55), .pick (.tmp 50) (.tmp 54) (.const (.bool false)), none, [], false, false⟩,
        ⟨(some 0), .move (.tmp 55), none, [], false, false⟩])
     (.ret))))),
 [.tmp 0], .pure, 56⟩

/-- agraffe/agraffelaw01.near -/
def ef19 : EFun := ⟨
 .seq (.region false [⟨(some 1), .box (.tmp 0), none, [], false, false⟩,
    ⟨(some 2), .move (.const (.bool false)), none, [], false, false⟩])
 (.seq (.seq (.region false [⟨(some 5), .fieldAddr 0 (.tmp 1), none, [], false, false⟩,
      ⟨(some 6), .load false 1 (.tmp 5), none, [], false, false⟩,
      ⟨(some 7), .fieldAddr 1 (.tmp 1), none, [], false, false⟩,
      ⟨(some 8), .load false 1 (.tmp 7), none, [], false, false⟩,
      ⟨(some 9), .fieldAddr 2 (.tmp 1), none, [], false, false⟩,
      ⟨(some 10), .load false 1 (.tmp 9), none, [], false, false⟩,
      ⟨(some 11), .build [(.int .i64 0), (.int .i64 0), (.int .i64 0)] [(0, 1, (.tmp 6)), (1, 1, (.tmp 8)), (2, 1, (.tmp 10))], none, [], false, false⟩,
      ⟨(some 12), .move (.const (.int .i64 0)), none, [], false, false⟩])
   (.block 0 (.loop (some [11, 12]) (
     .seq (.region false [⟨(some 13), .bin .lss (.tmp 12) (.const (.int .i64 3)), none, [], false, false⟩])
      (.seq (.cond (.tmp 13) (.skip)
        (.exit 0))
       (.seq (.block 1 (.seq (.region false [⟨(some 14), .index 3 1 false (.tmp 11) (.tmp 12), none, [], false, false⟩,
             ⟨(some 4), .move (.tmp 14), none, [], false, false⟩])
          (.seq (.region false [⟨(some 15), .move (.tmp 4), none, [], false, false⟩,
              ⟨(some 16), .call 22 [(.tmp 15), (.const (.int .i64 (-400))), (.const (.int .i64 (-61)))], none, [], false, false⟩,
              ⟨(some 17), .move (.tmp 16), none, [], false, false⟩,
              ⟨(some 18), .move (.tmp 4), (some (17, false)), [], false, false⟩,
              ⟨(some 19), .call 22 [(.tmp 18), (.const (.int .i64 61)), (.const (.int .i64 400))], (some (17, false)), [], false, false⟩,
              ⟨(some 20), .pick (.tmp 17) (.const (.bool true)) (.tmp 19), none, [], false, false⟩])
           (.cond (.tmp 20) (.seq (.region false [⟨(some 2), .move (.const (.bool false)), none, [], false, false⟩])
             (.ret))
            (.skip)))))
        (.region false [⟨(some 21), .bin .add (.tmp 12) (.const (.int .i64 1)), none, [], false, false⟩,
           ⟨(some 12), .move (.tmp 21), none, [], false, false⟩])))))))
  (.seq (.region false [⟨(some 2), .move (.const (.bool true)), none, [], false, false⟩])
   (.ret))),
 [.tmp 2], .pure, 22⟩

/-- agraffe/number.Enclose -/
def ef20 : EFun := ⟨
 .seq (.region false [⟨(some 2), .box (.tmp 0), none, [], false, false⟩,
    ⟨(some 4), .push [(.int .i64 0), (.int .i64 0)], none, [], false, false⟩,
    ⟨(some 5), .move (.const (.int .i64 0)), none, [], false, false⟩])
 (.seq (.seq (.region false [⟨(some 13), .load true 4 (.tmp 2), none, [], false, false⟩,
      ⟨(some 14), .call 51 [(.tmp 13)], none, [], false, false⟩,
      ⟨(some 6), .move (.tmp 14), none, [], false, false⟩])
   (.seq (.region false [⟨(some 15), .move (.tmp 6), none, [], false, false⟩,
       ⟨(some 16), .bin .neq (.tmp 15) (.const (.int .i64 0)), none, [], false, false⟩])
    (.cond (.tmp 16) (.seq (.region false [⟨(some 17), .build [(.int .i64 0), (.int .i64 0)] [], none, [], false, false⟩,
         ⟨(some 18), .move (.tmp 6), none, [], false, false⟩,
         ⟨none, .store 2 (.tmp 4) (.tmp 17), none, [], false, false⟩,
         ⟨(some 5), .move (.tmp 18), none, [], false, false⟩])
      (.ret))
     (.skip))))
  (.seq (.seq (.region false [⟨(some 19), .move (.tmp 1), none, [], false, false⟩,
       ⟨(some 20), .call 77 [(.tmp 19), (.const (.int .i64 1)), (.const (.int .i64 1000000000))], none, [], false, false⟩,
       ⟨(some 21), .un .not (.tmp 20), none, [], false, false⟩])
    (.cond (.tmp 21) (.seq (.region false [⟨(some 22), .build [(.int .i64 0), (.int .i64 0)] [], none, [], false, false⟩,
         ⟨none, .store 2 (.tmp 4) (.tmp 22), none, [], false, false⟩,
         ⟨(some 5), .move (.const (.int .i64 2)), none, [], false, false⟩])
      (.ret))
     (.skip)))
   (.seq (.region false [⟨(some 23), .load true 4 (.tmp 2), none, [], false, false⟩,
       ⟨(some 24), .call 78 [(.tmp 23)], none, [], false, false⟩,
       ⟨none, .store 4 (.tmp 2) (.tmp 24), none, [], false, false⟩])
    (.seq (.region false [⟨(some 25), .load true 4 (.tmp 2), none, [], false, false⟩,
        ⟨(some 26), .call 80 [(.tmp 25)], none, [], false, false⟩,
        ⟨(some 27), .call 79 [(.tmp 26)], none, [], false, false⟩,
        ⟨(some 7), .push [(.slice none 0 0), (.slice none 0 0)], none, [], false, false⟩,
        ⟨none, .store 2 (.tmp 7) (.tmp 27), none, [], false, false⟩])
     (.seq (.region false [⟨(some 28), .move (.tmp 1), none, [], false, false⟩,
         ⟨(some 29), .conv .u64 (.tmp 28), none, [], false, false⟩,
         ⟨(some 30), .fieldAddr 3 (.tmp 2), none, [], false, false⟩,
         ⟨(some 31), .load false 1 (.tmp 30), none, [], false, false⟩,
         ⟨(some 32), .fieldAddr 0 (.tmp 7), none, [], false, false⟩,
         ⟨(some 33), .load false 1 (.tmp 32), none, [], false, false⟩,
         ⟨(some 34), .call 81 [(.tmp 29), (.tmp 31), (.tmp 33)], none, [], false, false⟩,
         ⟨(some 35), .fieldAddr 0 (.tmp 7), none, [], false, false⟩,
         ⟨none, .store 1 (.tmp 35) (.tmp 34), none, [], false, false⟩])
      (.seq (.region false [⟨(some 36), .makeFunc (.func 82) [(.tmp 2), (.tmp 7)], none, [], false, false⟩,
          ⟨(some 8), .move (.tmp 36), none, [], false, false⟩])
       (.seq (.region false [⟨(some 9), .move (.const (.int .i64 0)), none, [], false, false⟩,
           ⟨(some 10), .move (.const (.int .i64 1000000000000001)), none, [], false, false⟩])
        (.seq (.block 0 (.loop (some [4, 8, 9, 10]) (
           .seq (.seq (.region false [⟨(some 37), .move (.tmp 9), none, [], false, false⟩,
                ⟨(some 38), .move (.tmp 10), none, [], false, false⟩,
                ⟨(some 39), .bin .lss (.tmp 37) (.tmp 38), none, [], false, false⟩])
             (.cond (.tmp 39) (.skip)
              (.exit 0)))
            (.block 1 (.seq (.region false [⟨(some 40), .move (.tmp 10), none, [], false, false⟩,
                 ⟨(some 41), .move (.tmp 10), none, [], false, false⟩,
                 ⟨(some 42), .move (.tmp 9), none, [], false, false⟩,
                 ⟨(some 43), .bin .sub (.tmp 41) (.tmp 42), none, [], false, false⟩,
                 ⟨(some 44), .bin .quo (.tmp 43) (.const (.int .i64 2)), none, [], false, false⟩,
                 ⟨(some 45), .bin .sub (.tmp 40) (.tmp 44), none, [], false, false⟩,
                 ⟨(some 11), .move (.tmp 45), none, [], false, false⟩])
              (.seq (.region false [⟨(some 46), .move (.tmp 8), none, [], false, false⟩,
                  ⟨(some 47), .move (.tmp 11), none, [], false, false⟩,
                  ⟨(some 48), .callVal (.tmp 46) [(.tmp 47)], none, [], false, false⟩,
                  ⟨(some 49), .bin .leq (.tmp 48) (.const (.int .i64 0)), none, [], false, false⟩])
               (.cond (.tmp 49) (.region false [⟨(some 50), .move (.tmp 11), none, [], false, false⟩,
                   ⟨(some 9), .move (.tmp 50), none, [], false, false⟩])
                (.region false [⟨(some 51), .move (.tmp 11), none, [], false, false⟩,
                   ⟨(some 52), .bin .sub (.tmp 51) (.const (.int .i64 1)), none, [], false, false⟩,
                   ⟨(some 10), .move (.tmp 52), none, [], false, false⟩]))))))))
         (.seq (.region false [⟨(some 53), .move (.tmp 9), none, [], false, false⟩,
             ⟨(some 54), .move (.tmp 9), none, [], false, false⟩,
             ⟨(some 55), .build [(.int .i64 0), (.int .i64 0)] [(0, 1, (.tmp 53)), (1, 1, (.tmp 54))], none, [], false, false⟩,
             ⟨(some 12), .push [(.int .i64 0), (.int .i64 0)], none, [], false, false⟩,
             ⟨none, .store 2 (.tmp 12) (.tmp 55), none, [], false, false⟩])
          (.seq (.seq (.region false [⟨(some 56), .move (.tmp 9), none, [], false, false⟩,
               ⟨(some 57), .bin .eql (.tmp 56) (.const (.int .i64 0)), none, [], false, false⟩,
               ⟨(some 58), .move (.tmp 57), none, [], false, false⟩,
               ⟨(some 59), .move (.tmp 8), (some (58, false)), [], false, false⟩,
               ⟨(some 60), .move (.tmp 9), (some (58, false)), [], false, false⟩,
               ⟨(some 61), .callVal (.tmp 59) [(.tmp 60)], (some (58, false)), [], false, false⟩,
               ⟨(some 62), .bin .neq (.tmp 61) (.const (.int .i64 0)), (some (58, false)), [], false, false⟩,
               ⟨(some 63), .pick (.tmp 58) (.const (.bool true)) (.tmp 62), none, [], false, false⟩])
            (.cond (.tmp 63) (.region false [⟨(some 64), .fieldAddr 1 (.tmp 12), none, [], false, false⟩,
                ⟨(some 65), .load false 1 (.tmp 64), none, [], false, false⟩,
                ⟨(some 66), .bin .add (.tmp 65) (.const (.int .i64 1)), none, [], false, false⟩,
                ⟨(some 67), .fieldAddr 1 (.tmp 12), none, [], false, false⟩,
                ⟨none, .store 1 (.tmp 67) (.tmp 66), none, [], false, false⟩])
             (.skip)))
           (.seq (.region false [⟨(some 68), .load true 2 (.tmp 12), none, [], false, false⟩,
               ⟨(some 69), .call 84 [(.tmp 68)], none, [], false, false⟩,
               ⟨(some 70), .extract (.tmp 69) 0, none, [], false, false⟩,
               ⟨(some 71), .extract (.tmp 69) 1, none, [], false, false⟩,
               ⟨none, .store 2 (.tmp 4) (.tmp 70), none, [], false, false⟩,
               ⟨(some 5), .move (.tmp 71), none, [], false, false⟩])
            (.ret)))))))))))),
 [.cell 4 true 2, .tmp 5], .pure, 72⟩

/-- agraffe/agraffelaw01.pitches -/
def ef21 : EFun := ⟨
 .seq (.region false [⟨(some 2), .move (.const (.int .i64 0)), none, [], false, false⟩])
 (.seq (.seq (.region false [⟨(some 3), .move (.const (.int .i64 0)), none, [], false, false⟩])
   (.block 0 (.loop (some [0, 3]) (
     .seq (.seq (.region false [⟨(some 4), .move (.tmp 3), none, [], false, false⟩,
          ⟨(some 5), .move (.tmp 0), none, [], false, false⟩,
          ⟨(some 6), .len false (.tmp 5), none, [], false, false⟩,
          ⟨(some 7), .bin .lss (.tmp 4) (.tmp 6), none, [], false, false⟩])
       (.cond (.tmp 7) (.skip)
        (.exit 0)))
      (.seq (.block 1 (.seq (.region false [⟨(some 10), .move (.tmp 0), none, [], false, false⟩,
            ⟨(some 11), .move (.tmp 3), none, [], false, false⟩,
            ⟨(some 12), .indexAddr none 4 (.tmp 10) (.tmp 11), none, [], false, false⟩,
            ⟨(some 13), .load true 4 (.tmp 12), none, [], false, false⟩,
            ⟨(some 14), .call 85 [(.tmp 13)], none, [], false, false⟩,
            ⟨(some 15), .un .not (.tmp 14), none, [], false, false⟩])
         (.cond (.tmp 15) (.seq (.region false [⟨(some 2), .move (.const (.int .i64 2)), none, [], false, false⟩])
           (.ret))
          (.skip))))
       (.region false [⟨(some 8), .move (.tmp 3), none, [], false, false⟩,
          ⟨(some 9), .bin .add (.tmp 8) (.const (.int .i64 1)), none, [], false, false⟩,
          ⟨(some 3), .move (.tmp 9), none, [], false, false⟩]))))))
  (.seq (.region false [⟨(some 2), .move (.const (.int .i64 0)), none, [], false, false⟩])
   (.ret))),
 [.tmp 2], .pure, 16⟩

/-- agraffe/agraffebase.Within -/
def ef22 : EFun := ⟨
 .seq (.region false [⟨(some 6), .move (.const (.bool false)), none, [], false, false⟩])
 (.seq (.region false [⟨(some 7), .move (.tmp 0), none, [], false, false⟩,
     ⟨(some 8), .move (.tmp 1), none, [], false, false⟩,
     ⟨(some 9), .bin .geq (.tmp 7) (.tmp 8), none, [], false, false⟩,
     ⟨(some 10), .move (.tmp 9), none, [], false, false⟩,
     ⟨(some 11), .move (.tmp 0), (some (10, true)), [], false, false⟩,
     ⟨(some 12), .move (.tmp 2), (some (10, true)), [], false, false⟩,
     ⟨(some 13), .bin .leq (.tmp 11) (.tmp 12), (some (10, true)), [], false, false⟩,
     ⟨(some 14), .pick (.tmp 10) (.tmp 13) (.const (.bool false)), none, [], false, false⟩,
     ⟨(some 6), .move (.tmp 14), none, [], false, false⟩])
  (.ret)),
 [.tmp 6], .pure, 15⟩

/-- agraffe/agrafferef01.Enclose -/
def ef23 : EFun := ⟨
 .seq (.region false [⟨(some 2), .box (.tmp 0), none, [], false, false⟩,
    ⟨(some 4), .push [(.int .i64 0), (.int .i64 0)], none, [], false, false⟩,
    ⟨(some 5), .move (.const (.int .i64 0)), none, [], false, false⟩])
 (.seq (.region false [⟨(some 13), .fieldAddr 0 (.tmp 2), none, [], false, false⟩,
     ⟨(some 14), .load false 1 (.tmp 13), none, [], false, false⟩,
     ⟨(some 15), .fieldAddr 1 (.tmp 2), none, [], false, false⟩,
     ⟨(some 16), .load false 1 (.tmp 15), none, [], false, false⟩,
     ⟨(some 17), .fieldAddr 2 (.tmp 2), none, [], false, false⟩,
     ⟨(some 18), .load false 1 (.tmp 17), none, [], false, false⟩,
     ⟨(some 19), .call 86 [(.tmp 14), (.tmp 16), (.tmp 18)], none, [], false, false⟩,
     ⟨(some 12), .move (.tmp 19), none, [], false, false⟩,
     ⟨(some 20), .extract (.tmp 12) 0, none, [], false, false⟩,
     ⟨(some 21), .extract (.tmp 12) 1, none, [], false, false⟩,
     ⟨(some 6), .move (.tmp 20), none, [], false, false⟩,
     ⟨(some 7), .move (.tmp 21), none, [], false, false⟩])
  (.seq (.region true [⟨(some 22), .move (.tmp 6), none, [], false, false⟩,
      ⟨(some 23), .move (.tmp 1), none, [], false, false⟩,
      ⟨(some 24), .call 89 [(.tmp 23)], none, [], false, true⟩,
      ⟨(some 25), .fieldAddr 3 (.tmp 2), none, [], false, false⟩,
      ⟨(some 26), .load false 1 (.tmp 25), none, [], false, false⟩,
      ⟨(some 27), .call 88 [(.tmp 24), (.tmp 26)], none, [], false, false⟩,
      ⟨(some 28), .call 87 [(.tmp 22), (.tmp 27)], none, [], false, false⟩,
      ⟨(some 6), .move (.tmp 28), none, [], false, false⟩])
   (.seq (.region false [⟨(some 8), .move (.const (.int .i64 0)), none, [], false, false⟩,
       ⟨(some 9), .move (.const (.int .i64 1000000000000001)), none, [], false, false⟩])
    (.seq (.block 0 (.loop (some [2, 4, 6, 7, 8, 9]) (
       .seq (.seq (.region false [⟨(some 29), .move (.tmp 8), none, [], false, false⟩,
            ⟨(some 30), .move (.tmp 9), none, [], false, false⟩,
            ⟨(some 31), .bin .lss (.tmp 29) (.tmp 30), none, [], false, false⟩])
         (.cond (.tmp 31) (.skip)
          (.exit 0)))
        (.block 1 (.seq (.region false [⟨(some 32), .move (.tmp 9), none, [], false, false⟩,
             ⟨(some 33), .move (.tmp 9), none, [], false, false⟩,
             ⟨(some 34), .move (.tmp 8), none, [], false, false⟩,
             ⟨(some 35), .bin .sub (.tmp 33) (.tmp 34), none, [], false, false⟩,
             ⟨(some 36), .bin .quo (.tmp 35) (.const (.int .i64 2)), none, [], false, false⟩,
             ⟨(some 37), .bin .sub (.tmp 32) (.tmp 36), none, [], false, false⟩,
             ⟨(some 10), .move (.tmp 37), none, [], false, false⟩])
          (.seq (.region true [⟨(some 38), .move (.tmp 10), none, [], false, false⟩,
              ⟨(some 39), .call 89 [(.tmp 38)], none, [], false, true⟩,
              ⟨(some 40), .fieldAddr 3 (.tmp 2), none, [], false, false⟩,
              ⟨(some 41), .load false 1 (.tmp 40), none, [], false, false⟩,
              ⟨(some 42), .call 88 [(.tmp 39), (.tmp 41)], none, [], false, false⟩,
              ⟨(some 43), .move (.tmp 7), none, [], false, false⟩,
              ⟨(some 44), .call 87 [(.tmp 42), (.tmp 43)], none, [], false, false⟩,
              ⟨(some 45), .move (.tmp 6), none, [], false, false⟩,
              ⟨(some 46), .call 90 [(.tmp 44), (.tmp 45)], none, [], false, false⟩,
              ⟨(some 47), .bin .leq (.tmp 46) (.const (.int .i64 0)), none, [], false, false⟩])
           (.cond (.tmp 47) (.region false [⟨(some 48), .move (.tmp 10), none, [], false, false⟩,
               ⟨(some 8), .move (.tmp 48), none, [], false, false⟩])
            (.region false [⟨(some 49), .move (.tmp 10), none, [], false, false⟩,
               ⟨(some 50), .bin .sub (.tmp 49) (.const (.int .i64 1)), none, [], false, false⟩,
               ⟨(some 9), .move (.tmp 50), none, [], false, false⟩]))))))))
     (.seq (.region false [⟨(some 51), .move (.tmp 8), none, [], false, false⟩,
         ⟨(some 11), .move (.tmp 51), none, [], false, false⟩])
      (.seq (.seq (.region true [⟨(some 52), .move (.tmp 8), none, [], false, false⟩,
           ⟨(some 53), .call 89 [(.tmp 52)], none, [], false, true⟩,
           ⟨(some 54), .fieldAddr 3 (.tmp 2), none, [], false, false⟩,
           ⟨(some 55), .load false 1 (.tmp 54), none, [], false, false⟩,
           ⟨(some 56), .call 88 [(.tmp 53), (.tmp 55)], none, [], false, false⟩,
           ⟨(some 57), .move (.tmp 7), none, [], false, false⟩,
           ⟨(some 58), .call 87 [(.tmp 56), (.tmp 57)], none, [], false, false⟩,
           ⟨(some 59), .move (.tmp 6), none, [], false, false⟩,
           ⟨(some 60), .call 90 [(.tmp 58), (.tmp 59)], none, [], false, false⟩,
           ⟨(some 61), .bin .neq (.tmp 60) (.const (.int .i64 0)), none, [], false, false⟩])
        (.cond (.tmp 61) (.region false [⟨(some 62), .move (.tmp 8), none, [], false, false⟩,
            ⟨(some 63), .bin .add (.tmp 62) (.const (.int .i64 1)), none, [], false, false⟩,
            ⟨(some 11), .move (.tmp 63), none, [], false, false⟩])
         (.skip)))
       (.seq (.seq (.region false [⟨(some 64), .move (.tmp 11), none, [], false, false⟩,
            ⟨(some 65), .bin .gtr (.tmp 64) (.const (.int .i64 1000000000000000)), none, [], false, false⟩])
         (.cond (.tmp 65) (.seq (.region false [⟨(some 66), .build [(.int .i64 0), (.int .i64 0)] [], none, [], false, false⟩,
              ⟨none, .store 2 (.tmp 4) (.tmp 66), none, [], false, false⟩,
              ⟨(some 5), .move (.const (.int .i64 8)), none, [], false, false⟩])
           (.ret))
          (.skip)))
        (.seq (.region false [⟨(some 67), .move (.tmp 8), none, [], false, false⟩,
            ⟨(some 68), .move (.tmp 11), none, [], false, false⟩,
            ⟨(some 69), .build [(.int .i64 0), (.int .i64 0)] [(0, 1, (.tmp 67)), (1, 1, (.tmp 68))], none, [], false, false⟩,
            ⟨none, .store 2 (.tmp 4) (.tmp 69), none, [], false, false⟩,
            ⟨(some 5), .move (.const (.int .i64 0)), none, [], false, false⟩])
         (.ret))))))))),
 [.cell 4 true 2, .tmp 5], .pure, 70⟩

/-- agraffe/agrafferef01.DotsErr -/
def ef24 : EFun := ⟨
 .seq (.region false [⟨(some 2), .move (.const (.int .i64 0)), none, [], false, false⟩])
 (.seq (.seq (.region false [⟨(some 4), .move (.tmp 0), none, [], false, false⟩,
      ⟨(some 5), .len false (.tmp 4), none, [], false, false⟩,
      ⟨(some 6), .call 22 [(.tmp 5), (.const (.int .i64 3)), (.const (.int .i64 60))], none, [], false, false⟩,
      ⟨(some 7), .un .not (.tmp 6), none, [], false, false⟩])
   (.cond (.tmp 7) (.seq (.region false [⟨(some 2), .move (.const (.int .i64 10)), none, [], false, false⟩])
     (.ret))
    (.skip)))
  (.seq (.seq (.region false [⟨(some 3), .move (.const (.int .i64 0)), none, [], false, false⟩])
    (.block 0 (.loop (some [0, 3]) (
      .seq (.seq (.region false [⟨(some 8), .move (.tmp 3), none, [], false, false⟩,
           ⟨(some 9), .move (.tmp 0), none, [], false, false⟩,
           ⟨(some 10), .len false (.tmp 9), none, [], false, false⟩,
           ⟨(some 11), .bin .lss (.tmp 8) (.tmp 10), none, [], false, false⟩])
        (.cond (.tmp 11) (.skip)
         (.exit 0)))
       (.seq (.block 1 (.seq (.seq (.region false [⟨(some 14), .move (.tmp 0), none, [], false, false⟩,
              ⟨(some 15), .move (.tmp 3), none, [], false, false⟩,
              ⟨(some 16), .indexAddr none 2 (.tmp 14) (.tmp 15), none, [], false, false⟩,
              ⟨(some 17), .fieldAddr 0 (.tmp 16), none, [], false, false⟩,
              ⟨(some 18), .load false 1 (.tmp 17), none, [], false, false⟩,
              ⟨(some 19), .call 22 [(.tmp 18), (.const (.int .i64 (-10000))), (.const (.int .i64 10000))], none, [], false, false⟩,
              ⟨(some 20), .un .not (.tmp 19), none, [], false, false⟩,
              ⟨(some 21), .move (.tmp 20), none, [], false, false⟩,
              ⟨(some 22), .move (.tmp 0), (some (21, false)), [], false, false⟩,
              ⟨(some 23), .move (.tmp 3), (some (21, false)), [], false, false⟩,
              ⟨(some 24), .indexAddr none 2 (.tmp 22) (.tmp 23), (some (21, false)), [], false, false⟩,
              ⟨(some 25), .fieldAddr 1 (.tmp 24), (some (21, false)), [], false, false⟩,
              ⟨(some 26), .load false 1 (.tmp 25), (some (21, false)), [], false, false⟩,
              ⟨(some 27), .call 22 [(.tmp 26), (.const (.int .i64 (-10000))), (.const (.int .i64 10000))], (some (21, false)), [], false, false⟩,
              ⟨(some 28), .un .not (.tmp 27), (some (21, false)), [], false, false⟩,
              ⟨(some 29), .pick (.tmp 21) (.const (.bool true)) (.tmp 28), none, [], false, false⟩])
           (.cond (.tmp 29) (.seq (.region false [⟨(some 2), .move (.const (.int .i64 2)), none, [], false, false⟩])
             (.ret))
            (.skip)))
          (.seq (.region true [⟨(some 30), .move (.tmp 3), none, [], false, false⟩,
              ⟨(some 31), .bin .gtr (.tmp 30) (.const (.int .i64 0)), none, [], false, false⟩,
              ⟨(some 32), .move (.tmp 31), none, [], false, false⟩,
              ⟨(some 33), .move (.tmp 0), (some (32, true)), [], false, false⟩,
              ⟨(some 34), .move (.tmp 3), (some (32, true)), [], false, false⟩,
              ⟨(some 35), .indexAddr none 2 (.tmp 33) (.tmp 34), (some (32, true)), [], false, false⟩,
              ⟨(some 36), .fieldAddr 0 (.tmp 35), (some (32, true)), [], false, false⟩,
              ⟨(some 37), .load false 1 (.tmp 36), (some (32, true)), [], false, false⟩,
              ⟨(some 38), .move (.tmp 0), (some (32, true)), [], false, false⟩,
              ⟨(some 39), .move (.tmp 3), (some (32, true)), [], false, false⟩,
              ⟨(some 40), .bin .sub (.tmp 39) (.const (.int .i64 1)), (some (32, true)), [], false, false⟩,
              ⟨(some 41), .indexAddr none 2 (.tmp 38) (.tmp 40), (some (32, true)), [], false, false⟩,
              ⟨(some 42), .fieldAddr 0 (.tmp 41), (some (32, true)), [], false, false⟩,
              ⟨(some 43), .load false 1 (.tmp 42), (some (32, true)), [], false, false⟩,
              ⟨(some 44), .bin .leq (.tmp 37) (.tmp 43), (some (32, true)), [], false, false⟩,
              ⟨(some 45), .pick (.tmp 32) (.tmp 44) (.const (.bool false)), none, [], false, false⟩])
           (.cond (.tmp 45) (.seq (.region false [⟨(some 2), .move (.const (.int .i64 9)), none, [], false, false⟩])
             (.ret))
            (.skip)))))
        (.region false [⟨(some 12), .move (.tmp 3), none, [], false, false⟩,
           ⟨(some 13), .bin .add (.tmp 12) (.const (.int .i64 1)), none, [], false, false⟩,
           ⟨(some 3), .move (.tmp 13), none, [], false, false⟩]))))))
   (.seq (.region false [⟨(some 2), .move (.const (.int .i64 0)), none, [], false, false⟩])
    (.ret)))),
 [.tmp 2], .pure, 46⟩

/-- agraffe/number.Line -/
def ef25 : EFun := ⟨
 .seq (.region false [⟨(some 2), .push (List.replicate 9 (.int .i64 0)), none, [], false, false⟩,
    ⟨(some 3), .move (.const (.int .i64 0)), none, [], false, false⟩])
 (.seq (.seq (.region false [⟨(some 12), .move (.tmp 0), none, [], false, false⟩,
      ⟨(some 13), .call 91 [(.tmp 12)], none, [], false, false⟩,
      ⟨(some 4), .move (.tmp 13), none, [], false, false⟩])
   (.seq (.region false [⟨(some 14), .move (.tmp 4), none, [], false, false⟩,
       ⟨(some 15), .bin .neq (.tmp 14) (.const (.int .i64 0)), none, [], false, false⟩])
    (.cond (.tmp 15) (.seq (.region false [⟨(some 16), .build (List.replicate 9 (.int .i64 0)) [], none, [], false, false⟩,
         ⟨(some 17), .move (.tmp 4), none, [], false, false⟩,
         ⟨none, .store 9 (.tmp 2) (.tmp 16), none, [], false, false⟩,
         ⟨(some 3), .move (.tmp 17), none, [], false, false⟩])
      (.ret))
     (.skip))))
  (.seq (.region false [⟨(some 18), .move (.tmp 0), none, [], false, false⟩,
      ⟨(some 19), .call 92 [(.tmp 18), (.const (.int .i64 0)), (.const (.int .i64 1)), (.const (.int .i64 2))], none, [], false, false⟩,
      ⟨(some 5), .push [(.int .i64 0), (.int .i64 0), (.int .i64 0), (.int .i64 0), (.int .i64 0)], none, [], false, false⟩,
      ⟨none, .store 5 (.tmp 5) (.tmp 19), none, [], false, false⟩])
   (.seq (.seq (.region false [⟨(some 20), .move (.tmp 0), none, [], false, false⟩,
        ⟨(some 21), .len false (.tmp 20), none, [], false, false⟩,
        ⟨(some 22), .move (.const (.int .i64 0)), none, [], false, false⟩])
     (.block 0 (.loop (some [0, 2, 5, 21, 22]) (
       .seq (.region false [⟨(some 23), .bin .lss (.tmp 22) (.tmp 21), none, [], false, false⟩])
        (.seq (.cond (.tmp 23) (.skip)
          (.exit 0))
         (.seq (.block 1 (.seq (.region false [⟨(some 24), .move (.tmp 22), none, [], false, false⟩,
               ⟨(some 6), .move (.tmp 24), none, [], false, false⟩])
            (.seq (.region false [⟨(some 25), .move (.tmp 6), none, [], false, false⟩,
                ⟨(some 26), .bin .add (.tmp 25) (.const (.int .i64 1)), none, [], false, false⟩,
                ⟨(some 7), .move (.tmp 26), none, [], false, false⟩])
             (.block 2 (.loop (some [0, 2, 5, 6, 7, 21, 22]) (
               .seq (.seq (.region false [⟨(some 27), .move (.tmp 7), none, [], false, false⟩,
                    ⟨(some 28), .move (.tmp 0), none, [], false, false⟩,
                    ⟨(some 29), .len false (.tmp 28), none, [], false, false⟩,
                    ⟨(some 30), .bin .lss (.tmp 27) (.tmp 29), none, [], false, false⟩])
                 (.cond (.tmp 30) (.skip)
                  (.exit 2)))
                (.seq (.block 3 (.seq (.region false [⟨(some 33), .move (.tmp 7), none, [], false, false⟩,
                      ⟨(some 34), .bin .add (.tmp 33) (.const (.int .i64 1)), none, [], false, false⟩,
                      ⟨(some 8), .move (.tmp 34), none, [], false, false⟩])
                   (.block 4 (.loop (some [0, 2, 5, 6, 7, 8, 21, 22]) (
                     .seq (.seq (.region false [⟨(some 35), .move (.tmp 8), none, [], false, false⟩,
                          ⟨(some 36), .move (.tmp 0), none, [], false, false⟩,
                          ⟨(some 37), .len false (.tmp 36), none, [], false, false⟩,
                          ⟨(some 38), .bin .lss (.tmp 35) (.tmp 37), none, [], false, false⟩])
                       (.cond (.tmp 38) (.skip)
                        (.exit 4)))
                      (.seq (.block 5 (.seq (.region false [⟨(some 41), .move (.tmp 0), none, [], false, false⟩,
                            ⟨(some 42), .move (.tmp 6), none, [], false, false⟩,
                            ⟨(some 43), .move (.tmp 7), none, [], false, false⟩,
                            ⟨(some 44), .move (.tmp 8), none, [], false, false⟩,
                            ⟨(some 45), .call 92 [(.tmp 41), (.tmp 42), (.tmp 43), (.tmp 44)], none, [], false, false⟩,
                            ⟨(some 9), .push [(.int .i64 0), (.int .i64 0), (.int .i64 0), (.int .i64 0), (.int .i64 0)], none, [], false, false⟩,
                            ⟨none, .store 5 (.tmp 9) (.tmp 45), none, [], false, false⟩])
                         (.seq (.region false [⟨(some 46), .load true 5 (.tmp 5), none, [], false, false⟩,
                             ⟨(some 47), .load true 5 (.tmp 9), none, [], false, false⟩,
                             ⟨(some 48), .call 93 [(.tmp 46), (.tmp 47)], none, [], false, false⟩])
                          (.cond (.tmp 48) (.region false [⟨(some 49), .load true 5 (.tmp 9), none, [], false, false⟩,
                              ⟨none, .store 5 (.tmp 5) (.tmp 49), none, [], false, false⟩])
                           (.skip)))))
                       (.region false [⟨(some 39), .move (.tmp 8), none, [], false, false⟩,
                          ⟨(some 40), .bin .add (.tmp 39) (.const (.int .i64 1)), none, [], false, false⟩,
                          ⟨(some 8), .move (.tmp 40), none, [], false, false⟩])))))))
                 (.region false [⟨(some 31), .move (.tmp 7), none, [], false, false⟩,
                    ⟨(some 32), .bin .add (.tmp 31) (.const (.int .i64 1)), none, [], false, false⟩,
                    ⟨(some 7), .move (.tmp 32), none, [], false, false⟩]))))))))
          (.region false [⟨(some 50), .bin .add (.tmp 22) (.const (.int .i64 1)), none, [], false, false⟩,
             ⟨(some 22), .move (.tmp 50), none, [], false, false⟩])))))))
    (.seq (.region true [⟨(some 51), .move (.tmp 0), none, [], false, false⟩,
        ⟨(some 52), .fieldAddr 0 (.tmp 5), none, [], false, false⟩,
        ⟨(some 53), .indexAddr (some 3) 1 (.tmp 52) (.const (.int .i64 0)), none, [], false, false⟩,
        ⟨(some 54), .load false 1 (.tmp 53), none, [], false, false⟩,
        ⟨(some 55), .indexAddr none 2 (.tmp 51) (.tmp 54), none, [], false, false⟩,
        ⟨(some 56), .load true 2 (.tmp 55), none, [], false, false⟩,
        ⟨(some 57), .move (.tmp 0), none, [], false, false⟩,
        ⟨(some 58), .fieldAddr 0 (.tmp 5), none, [], false, false⟩,
        ⟨(some 59), .indexAddr (some 3) 1 (.tmp 58) (.const (.int .i64 2)), none, [], false, false⟩,
        ⟨(some 60), .load false 1 (.tmp 59), none, [], true, false⟩,
        ⟨(some 61), .indexAddr none 2 (.tmp 57) (.tmp 60), none, [], false, false⟩,
        ⟨(some 62), .load true 2 (.tmp 61), none, [], true, false⟩,
        ⟨(some 10), .push [(.int .i64 0), (.int .i64 0)], none, [], false, false⟩,
        ⟨(some 11), .push [(.int .i64 0), (.int .i64 0)], none, [], false, false⟩,
        ⟨none, .store 2 (.tmp 10) (.tmp 56), none, [9, 11], false, false⟩,
        ⟨none, .store 2 (.tmp 11) (.tmp 62), none, [], false, false⟩])
     (.seq (.region true [⟨(some 63), .fieldAddr 4 (.tmp 5), none, [], false, false⟩,
         ⟨(some 64), .load false 1 (.tmp 63), none, [], false, false⟩,
         ⟨(some 65), .bin .mul (.const (.int .i64 2)) (.tmp 64), none, [], false, false⟩,
         ⟨(some 66), .fieldAddr 1 (.tmp 10), none, [], false, false⟩,
         ⟨(some 67), .load false 1 (.tmp 66), none, [], false, false⟩,
         ⟨(some 68), .bin .mul (.tmp 65) (.tmp 67), none, [], false, false⟩,
         ⟨(some 69), .fieldAddr 1 (.tmp 11), none, [], false, false⟩,
         ⟨(some 70), .load false 1 (.tmp 69), none, [], false, false⟩,
         ⟨(some 71), .fieldAddr 1 (.tmp 10), none, [], false, false⟩,
         ⟨(some 72), .load false 1 (.tmp 71), none, [], false, false⟩,
         ⟨(some 73), .bin .sub (.tmp 70) (.tmp 72), none, [], false, false⟩,
         ⟨(some 74), .bin .mul (.const (.int .i64 2)) (.tmp 73), none, [], false, false⟩,
         ⟨(some 75), .fieldAddr 0 (.tmp 10), none, [], false, false⟩,
         ⟨(some 76), .load false 1 (.tmp 75), none, [], false, false⟩,
         ⟨(some 77), .bin .mul (.tmp 74) (.tmp 76), none, [], false, false⟩,
         ⟨(some 78), .bin .sub (.tmp 68) (.tmp 77), none, [], false, false⟩,
         ⟨(some 79), .fieldAddr 3 (.tmp 5), none, [], false, false⟩,
         ⟨(some 80), .load false 1 (.tmp 79), none, [], false, false⟩,
         ⟨(some 81), .bin .sub (.tmp 78) (.tmp 80), none, [], false, false⟩,
         ⟨(some 82), .fieldAddr 4 (.tmp 5), none, [], false, false⟩,
         ⟨(some 83), .load false 1 (.tmp 82), none, [], false, false⟩,
         ⟨(some 84), .bin .mul (.const (.int .i64 2)) (.tmp 83), none, [], false, false⟩,
         ⟨(some 85), .call 94 [(.tmp 81), (.tmp 84)], none, [], false, true⟩,
         ⟨(some 86), .fieldAddr 1 (.tmp 11), none, [], false, false⟩,
         ⟨(some 87), .load false 1 (.tmp 86), none, [], false, false⟩,
         ⟨(some 88), .fieldAddr 1 (.tmp 10), none, [], false, false⟩,
         ⟨(some 89), .load false 1 (.tmp 88), none, [], false, false⟩,
         ⟨(some 90), .bin .sub (.tmp 87) (.tmp 89), none, [], false, false⟩,
         ⟨(some 91), .fieldAddr 4 (.tmp 5), none, [], false, false⟩,
         ⟨(some 92), .load false 1 (.tmp 91), none, [], false, false⟩,
         ⟨(some 93), .call 94 [(.tmp 90), (.tmp 92)], none, [], false, true⟩,
         ⟨(some 94), .load true 5 (.tmp 5), none, [], false, false⟩,
         ⟨(some 95), .call 95 [(.tmp 94)], none, [], false, true⟩,
         ⟨(some 96), .fieldAddr 4 (.tmp 5), none, [], false, false⟩,
         ⟨(some 97), .load false 1 (.tmp 96), none, [], false, false⟩,
         ⟨(some 98), .bin .mul (.const (.int .i64 2)) (.tmp 97), none, [], false, false⟩,
         ⟨(some 99), .call 94 [(.tmp 95), (.tmp 98)], none, [], false, true⟩,
         ⟨(some 100), .fieldAddr 0 (.tmp 5), none, [], false, false⟩,
         ⟨(some 101), .load true 3 (.tmp 100), none, [], false, false⟩,
         ⟨(some 102), .build (List.replicate 9 (.int .i64 0)) [(0, 2, (.tmp 85)), (2, 2, (.tmp 93)), (4, 2, (.tmp 99)), (6, 3, (.tmp 101))], none, [], false, false⟩,
         ⟨none, .store 9 (.tmp 2) (.tmp 102), none, [], false, false⟩,
         ⟨(some 3), .move (.const (.int .i64 0)), none, [], false, false⟩])
      (.ret)))))),
 [.cell 2 true 9, .tmp 3], .pure, 103⟩

/-- agraffe/agraffebase.Abs -/
def ef26 : EFun := ⟨
 .seq (.region false [⟨(some 2), .move (.const (.int .i64 0)), none, [], false, false⟩])
 (.seq (.seq (.region false [⟨(some 3), .move (.tmp 0), none, [], false, false⟩,
      ⟨(some 4), .bin .lss (.tmp 3) (.const (.int .i64 0)), none, [], false, false⟩])
   (.cond (.tmp 4) (.seq (.region false [⟨(some 5), .move (.tmp 0), none, [], false, false⟩,
        ⟨(some 6), .un .neg (.tmp 5), none, [], false, false⟩,
        ⟨(some 2), .move (.tmp 6), none, [], false, false⟩])
     (.ret))
    (.skip)))
  (.seq (.region false [⟨(some 7), .move (.tmp 0), none, [], false, false⟩,
      ⟨(some 2), .move (.tmp 7), none, [], false, false⟩])
   (.ret))),
 [.tmp 2], .pure, 8⟩

/-- agraffe/number.Plus -/
def ef27 : EFun := ⟨
 .seq (.region false [⟨(some 2), .box (.tmp 0), none, [], false, false⟩,
    ⟨(some 3), .box (.tmp 1), none, [], false, false⟩,
    ⟨(some 4), .push [(.int .i64 0), (.int .i64 0)], none, [], false, false⟩,
    ⟨(some 5), .move (.const (.int .i64 0)), none, [], false, false⟩])
 (.seq (.seq (.region false [⟨(some 7), .load true 2 (.tmp 2), none, [], false, false⟩,
      ⟨(some 8), .load true 2 (.tmp 3), none, [], false, false⟩,
      ⟨(some 9), .call 96 [(.tmp 7), (.tmp 8)], none, [], false, false⟩,
      ⟨(some 6), .move (.tmp 9), none, [], false, false⟩])
   (.seq (.region false [⟨(some 10), .move (.tmp 6), none, [], false, false⟩,
       ⟨(some 11), .bin .neq (.tmp 10) (.const (.int .i64 0)), none, [], false, false⟩])
    (.cond (.tmp 11) (.seq (.region false [⟨(some 12), .build [(.int .i64 0), (.int .i64 0)] [], none, [], false, false⟩,
         ⟨(some 13), .move (.tmp 6), none, [], false, false⟩,
         ⟨none, .store 2 (.tmp 4) (.tmp 12), none, [], false, false⟩,
         ⟨(some 5), .move (.tmp 13), none, [], false, false⟩])
      (.ret))
     (.skip))))
  (.seq (.region false [⟨(some 14), .fieldAddr 0 (.tmp 2), none, [], false, false⟩,
      ⟨(some 15), .load false 1 (.tmp 14), none, [], false, false⟩,
      ⟨(some 16), .fieldAddr 0 (.tmp 3), none, [], false, false⟩,
      ⟨(some 17), .load false 1 (.tmp 16), none, [], false, false⟩,
      ⟨(some 18), .bin .add (.tmp 15) (.tmp 17), none, [], false, false⟩,
      ⟨(some 19), .fieldAddr 1 (.tmp 2), none, [], false, false⟩,
      ⟨(some 20), .load false 1 (.tmp 19), none, [], false, false⟩,
      ⟨(some 21), .fieldAddr 1 (.tmp 3), none, [], false, false⟩,
      ⟨(some 22), .load false 1 (.tmp 21), none, [], false, false⟩,
      ⟨(some 23), .bin .add (.tmp 20) (.tmp 22), none, [], false, false⟩,
      ⟨(some 24), .build [(.int .i64 0), (.int .i64 0)] [(0, 1, (.tmp 18)), (1, 1, (.tmp 23))], none, [], false, false⟩,
      ⟨(some 25), .call 84 [(.tmp 24)], none, [], false, false⟩,
      ⟨(some 26), .extract (.tmp 25) 0, none, [], false, false⟩,
      ⟨(some 27), .extract (.tmp 25) 1, none, [], false, false⟩,
      ⟨none, .store 2 (.tmp 4) (.tmp 26), none, [], false, false⟩,
      ⟨(some 5), .move (.tmp 27), none, [], false, false⟩])
   (.ret))),
 [.cell 4 true 2, .tmp 5], .pure, 28⟩

/-- agraffe/number.Meet -/
def ef28 : EFun := ⟨
 .seq (.region false [⟨(some 2), .box (.tmp 0), none, [], false, false⟩,
    ⟨(some 3), .box (.tmp 1), none, [], false, false⟩,
    ⟨(some 4), .push [(.int .i64 0), (.int .i64 0)], none, [], false, false⟩,
    ⟨(some 5), .move (.const (.int .i64 0)), none, [], false, false⟩])
 (.seq (.seq (.region false [⟨(some 8), .load true 2 (.tmp 2), none, [], false, false⟩,
      ⟨(some 9), .load true 2 (.tmp 3), none, [], false, false⟩,
      ⟨(some 10), .call 96 [(.tmp 8), (.tmp 9)], none, [], false, false⟩,
      ⟨(some 6), .move (.tmp 10), none, [], false, false⟩])
   (.seq (.region false [⟨(some 11), .move (.tmp 6), none, [], false, false⟩,
       ⟨(some 12), .bin .neq (.tmp 11) (.const (.int .i64 0)), none, [], false, false⟩])
    (.cond (.tmp 12) (.seq (.region false [⟨(some 13), .build [(.int .i64 0), (.int .i64 0)] [], none, [], false, false⟩,
         ⟨(some 14), .move (.tmp 6), none, [], false, false⟩,
         ⟨none, .store 2 (.tmp 4) (.tmp 13), none, [], false, false⟩,
         ⟨(some 5), .move (.tmp 14), none, [], false, false⟩])
      (.ret))
     (.skip))))
  (.seq (.region false [⟨(some 15), .fieldAddr 0 (.tmp 2), none, [], false, false⟩,
      ⟨(some 16), .load false 1 (.tmp 15), none, [], false, false⟩,
      ⟨(some 17), .fieldAddr 0 (.tmp 3), none, [], false, false⟩,
      ⟨(some 18), .load false 1 (.tmp 17), none, [], false, false⟩,
      ⟨(some 19), .max [(.tmp 16), (.tmp 18)], none, [], false, false⟩,
      ⟨(some 20), .fieldAddr 1 (.tmp 2), none, [], false, false⟩,
      ⟨(some 21), .load false 1 (.tmp 20), none, [], false, false⟩,
      ⟨(some 22), .fieldAddr 1 (.tmp 3), none, [], false, false⟩,
      ⟨(some 23), .load false 1 (.tmp 22), none, [], false, false⟩,
      ⟨(some 24), .min [(.tmp 21), (.tmp 23)], none, [], false, false⟩,
      ⟨(some 25), .build [(.int .i64 0), (.int .i64 0)] [(0, 1, (.tmp 19)), (1, 1, (.tmp 24))], none, [], false, false⟩,
      ⟨(some 7), .push [(.int .i64 0), (.int .i64 0)], none, [], false, false⟩,
      ⟨none, .store 2 (.tmp 7) (.tmp 25), none, [], false, false⟩])
   (.seq (.seq (.region false [⟨(some 26), .fieldAddr 0 (.tmp 7), none, [], false, false⟩,
        ⟨(some 27), .load false 1 (.tmp 26), none, [], false, false⟩,
        ⟨(some 28), .fieldAddr 1 (.tmp 7), none, [], false, false⟩,
        ⟨(some 29), .load false 1 (.tmp 28), none, [], false, false⟩,
        ⟨(some 30), .bin .gtr (.tmp 27) (.tmp 29), none, [], false, false⟩])
     (.cond (.tmp 30) (.seq (.region false [⟨(some 31), .build [(.int .i64 0), (.int .i64 0)] [], none, [], false, false⟩,
          ⟨none, .store 2 (.tmp 4) (.tmp 31), none, [], false, false⟩,
          ⟨(some 5), .move (.const (.int .i64 12)), none, [], false, false⟩])
       (.ret))
      (.skip)))
    (.seq (.region false [⟨(some 32), .load true 2 (.tmp 7), none, [], false, false⟩,
        ⟨none, .store 2 (.tmp 4) (.tmp 32), none, [], false, false⟩,
        ⟨(some 5), .move (.const (.int .i64 0)), none, [], false, false⟩])
     (.ret))))),
 [.cell 4 true 2, .tmp 5], .pure, 33⟩

/-- agraffe/number.CheckRange -/
def ef29 : EFun := ⟨
 .seq (.region false [⟨(some 1), .box (.tmp 0), none, [], false, false⟩,
    ⟨(some 2), .move (.const (.int .i64 0)), none, [], false, false⟩])
 (.seq (.block 0 (.seq (.region false [⟨(some 4), .fieldAddr 0 (.tmp 1), none, [], false, false⟩,
       ⟨(some 5), .load false 1 (.tmp 4), none, [], false, false⟩,
       ⟨(some 6), .call 77 [(.tmp 5), (.const (.int .i64 (-1000000000000000))), (.const (.int .i64 1000000000000000))], none, [], false, false⟩,
       ⟨(some 7), .un .not (.tmp 6), none, [], false, false⟩,
       ⟨(some 8), .move (.tmp 7), none, [], false, false⟩,
       ⟨(some 9), .fieldAddr 1 (.tmp 1), (some (8, false)), [], false, false⟩,
       ⟨(some 10), .load false 1 (.tmp 9), (some (8, false)), [], false, false⟩,
       ⟨(some 11), .call 77 [(.tmp 10), (.const (.int .i64 (-1000000000000000))), (.const (.int .i64 1000000000000000))], (some (8, false)), [], false, false⟩,
       ⟨(some 12), .un .not (.tmp 11), (some (8, false)), [], false, false⟩,
       ⟨(some 13), .pick (.tmp 8) (.const (.bool true)) (.tmp 12), none, [], false, false⟩,
       ⟨(some 3), .move (.tmp 13), none, [], false, false⟩])
    (.cond (.tmp 3) (.seq (.region false [⟨(some 2), .move (.const (.int .i64 2)), none, [], false, false⟩])
      (.ret))
     (.seq (.region false [⟨(some 15), .fieldAddr 0 (.tmp 1), none, [], false, false⟩,
         ⟨(some 16), .load false 1 (.tmp 15), none, [], false, false⟩,
         ⟨(some 17), .fieldAddr 1 (.tmp 1), none, [], false, false⟩,
         ⟨(some 18), .load false 1 (.tmp 17), none, [], false, false⟩,
         ⟨(some 19), .bin .gtr (.tmp 16) (.tmp 18), none, [], false, false⟩,
         ⟨(some 14), .move (.tmp 19), none, [], false, false⟩])
      (.cond (.tmp 14) (.seq (.region false [⟨(some 2), .move (.const (.int .i64 9)), none, [], false, false⟩])
        (.ret))
       (.skip))))))
  (.seq (.region false [⟨(some 2), .move (.const (.int .i64 0)), none, [], false, false⟩])
   (.ret))),
 [.tmp 2], .pure, 20⟩

/-- agraffe/agrafferef01.CheckRange -/
def ef30 : EFun := ⟨
 .seq (.region false [⟨(some 1), .box (.tmp 0), none, [], false, false⟩,
    ⟨(some 2), .move (.const (.int .i64 0)), none, [], false, false⟩])
 (.seq (.seq (.region false [⟨(some 3), .fieldAddr 0 (.tmp 1), none, [], false, false⟩,
      ⟨(some 4), .load false 1 (.tmp 3), none, [], false, false⟩,
      ⟨(some 5), .call 22 [(.tmp 4), (.const (.int .i64 (-1000000000000000))), (.const (.int .i64 1000000000000000))], none, [], false, false⟩,
      ⟨(some 6), .un .not (.tmp 5), none, [], false, false⟩,
      ⟨(some 7), .move (.tmp 6), none, [], false, false⟩,
      ⟨(some 8), .fieldAddr 1 (.tmp 1), (some (7, false)), [], false, false⟩,
      ⟨(some 9), .load false 1 (.tmp 8), (some (7, false)), [], false, false⟩,
      ⟨(some 10), .call 22 [(.tmp 9), (.const (.int .i64 (-1000000000000000))), (.const (.int .i64 1000000000000000))], (some (7, false)), [], false, false⟩,
      ⟨(some 11), .un .not (.tmp 10), (some (7, false)), [], false, false⟩,
      ⟨(some 12), .pick (.tmp 7) (.const (.bool true)) (.tmp 11), none, [], false, false⟩])
   (.cond (.tmp 12) (.seq (.region false [⟨(some 2), .move (.const (.int .i64 2)), none, [], false, false⟩])
     (.ret))
    (.skip)))
  (.seq (.seq (.region false [⟨(some 13), .fieldAddr 0 (.tmp 1), none, [], false, false⟩,
       ⟨(some 14), .load false 1 (.tmp 13), none, [], false, false⟩,
       ⟨(some 15), .fieldAddr 1 (.tmp 1), none, [], false, false⟩,
       ⟨(some 16), .load false 1 (.tmp 15), none, [], false, false⟩,
       ⟨(some 17), .bin .gtr (.tmp 14) (.tmp 16), none, [], false, false⟩])
    (.cond (.tmp 17) (.seq (.region false [⟨(some 2), .move (.const (.int .i64 9)), none, [], false, false⟩])
      (.ret))
     (.skip)))
   (.seq (.region false [⟨(some 2), .move (.const (.int .i64 0)), none, [], false, false⟩])
    (.ret)))),
 [.tmp 2], .pure, 18⟩

/-- agraffe/agraffelaw01.ranges -/
def ef31 : EFun := ⟨
 .seq (.region false [⟨(some 2), .box (.tmp 0), none, [], false, false⟩,
    ⟨(some 3), .box (.tmp 1), none, [], false, false⟩,
    ⟨(some 4), .move (.const (.int .i64 0)), none, [], false, false⟩])
 (.seq (.seq (.region false [⟨(some 6), .load true 2 (.tmp 2), none, [], false, false⟩,
      ⟨(some 7), .call 30 [(.tmp 6)], none, [], false, false⟩,
      ⟨(some 5), .move (.tmp 7), none, [], false, false⟩])
   (.seq (.region false [⟨(some 8), .move (.tmp 5), none, [], false, false⟩,
       ⟨(some 9), .bin .neq (.tmp 8) (.const (.int .i64 0)), none, [], false, false⟩])
    (.cond (.tmp 9) (.seq (.region false [⟨(some 10), .move (.tmp 5), none, [], false, false⟩,
         ⟨(some 4), .move (.tmp 10), none, [], false, false⟩])
      (.ret))
     (.skip))))
  (.seq (.region false [⟨(some 11), .load true 2 (.tmp 3), none, [], false, false⟩,
      ⟨(some 12), .call 30 [(.tmp 11)], none, [], false, false⟩,
      ⟨(some 4), .move (.tmp 12), none, [], false, false⟩])
   (.ret))),
 [.tmp 4], .pure, 13⟩

/-- agraffe/agrafferef01.Plus -/
def ef32 : EFun := ⟨
 .seq (.region false [⟨(some 2), .box (.tmp 0), none, [], false, false⟩,
    ⟨(some 3), .box (.tmp 1), none, [], false, false⟩,
    ⟨(some 4), .push [(.int .i64 0), (.int .i64 0)], none, [], false, false⟩,
    ⟨(some 5), .move (.const (.int .i64 0)), none, [], false, false⟩])
 (.seq (.region false [⟨(some 7), .fieldAddr 0 (.tmp 2), none, [], false, false⟩,
     ⟨(some 8), .load false 1 (.tmp 7), none, [], false, false⟩,
     ⟨(some 9), .fieldAddr 0 (.tmp 3), none, [], false, false⟩,
     ⟨(some 10), .load false 1 (.tmp 9), none, [], false, false⟩,
     ⟨(some 11), .bin .add (.tmp 8) (.tmp 10), none, [], false, false⟩,
     ⟨(some 12), .fieldAddr 1 (.tmp 2), none, [], false, false⟩,
     ⟨(some 13), .load false 1 (.tmp 12), none, [], false, false⟩,
     ⟨(some 14), .fieldAddr 1 (.tmp 3), none, [], false, false⟩,
     ⟨(some 15), .load false 1 (.tmp 14), none, [], false, false⟩,
     ⟨(some 16), .bin .add (.tmp 13) (.tmp 15), none, [], false, false⟩,
     ⟨(some 17), .build [(.int .i64 0), (.int .i64 0)] [(0, 1, (.tmp 11)), (1, 1, (.tmp 16))], none, [], false, false⟩,
     ⟨(some 6), .push [(.int .i64 0), (.int .i64 0)], none, [], false, false⟩,
     ⟨none, .store 2 (.tmp 6) (.tmp 17), none, [], false, false⟩])
  (.seq (.seq (.region false [⟨(some 18), .load true 2 (.tmp 6), none, [], false, false⟩,
       ⟨(some 19), .call 30 [(.tmp 18)], none, [], false, false⟩,
       ⟨(some 20), .bin .neq (.tmp 19) (.const (.int .i64 0)), none, [], false, false⟩])
    (.cond (.tmp 20) (.seq (.region false [⟨(some 21), .build [(.int .i64 0), (.int .i64 0)] [], none, [], false, false⟩,
         ⟨none, .store 2 (.tmp 4) (.tmp 21), none, [], false, false⟩,
         ⟨(some 5), .move (.const (.int .i64 8)), none, [], false, false⟩])
      (.ret))
     (.skip)))
   (.seq (.region false [⟨(some 22), .load true 2 (.tmp 6), none, [], false, false⟩,
       ⟨none, .store 2 (.tmp 4) (.tmp 22), none, [], false, false⟩,
       ⟨(some 5), .move (.const (.int .i64 0)), none, [], false, false⟩])
    (.ret)))),
 [.cell 4 true 2, .tmp 5], .pure, 23⟩

/-- agraffe/agrafferef01.Meet -/
def ef33 : EFun := ⟨
 .seq (.region false [⟨(some 2), .box (.tmp 0), none, [], false, false⟩,
    ⟨(some 3), .box (.tmp 1), none, [], false, false⟩,
    ⟨(some 4), .push [(.int .i64 0), (.int .i64 0)], none, [], false, false⟩,
    ⟨(some 5), .move (.const (.int .i64 0)), none, [], false, false⟩])
 (.seq (.region false [⟨(some 7), .fieldAddr 0 (.tmp 2), none, [], false, false⟩,
     ⟨(some 8), .load false 1 (.tmp 7), none, [], false, false⟩,
     ⟨(some 9), .fieldAddr 0 (.tmp 3), none, [], false, false⟩,
     ⟨(some 10), .load false 1 (.tmp 9), none, [], false, false⟩,
     ⟨(some 11), .max [(.tmp 8), (.tmp 10)], none, [], false, false⟩,
     ⟨(some 12), .fieldAddr 1 (.tmp 2), none, [], false, false⟩,
     ⟨(some 13), .load false 1 (.tmp 12), none, [], false, false⟩,
     ⟨(some 14), .fieldAddr 1 (.tmp 3), none, [], false, false⟩,
     ⟨(some 15), .load false 1 (.tmp 14), none, [], false, false⟩,
     ⟨(some 16), .min [(.tmp 13), (.tmp 15)], none, [], false, false⟩,
     ⟨(some 17), .build [(.int .i64 0), (.int .i64 0)] [(0, 1, (.tmp 11)), (1, 1, (.tmp 16))], none, [], false, false⟩,
     ⟨(some 6), .push [(.int .i64 0), (.int .i64 0)], none, [], false, false⟩,
     ⟨none, .store 2 (.tmp 6) (.tmp 17), none, [], false, false⟩])
  (.seq (.seq (.region false [⟨(some 18), .fieldAddr 0 (.tmp 6), none, [], false, false⟩,
       ⟨(some 19), .load false 1 (.tmp 18), none, [], false, false⟩,
       ⟨(some 20), .fieldAddr 1 (.tmp 6), none, [], false, false⟩,
       ⟨(some 21), .load false 1 (.tmp 20), none, [], false, false⟩,
       ⟨(some 22), .bin .gtr (.tmp 19) (.tmp 21), none, [], false, false⟩])
    (.cond (.tmp 22) (.seq (.region false [⟨(some 23), .build [(.int .i64 0), (.int .i64 0)] [], none, [], false, false⟩,
         ⟨none, .store 2 (.tmp 4) (.tmp 23), none, [], false, false⟩,
         ⟨(some 5), .move (.const (.int .i64 12)), none, [], false, false⟩])
      (.ret))
     (.skip)))
   (.seq (.region false [⟨(some 24), .load true 2 (.tmp 6), none, [], false, false⟩,
       ⟨none, .store 2 (.tmp 4) (.tmp 24), none, [], false, false⟩,
       ⟨(some 5), .move (.const (.int .i64 0)), none, [], false, false⟩])
    (.ret)))),
 [.cell 4 true 2, .tmp 5], .pure, 25⟩

/-- agraffe/agrafferef01.CheckSystem -/
def ef34 : EFun := ⟨
 .seq (.region false [⟨(some 4), .move (.const (.int .i64 0)), none, [], false, false⟩])
 (.seq (.seq (.region false [⟨(some 6), .move (.tmp 0), none, [], false, false⟩,
      ⟨(some 7), .call 22 [(.tmp 6), (.const (.int .i64 1)), (.const (.int .i64 60))], none, [], false, false⟩,
      ⟨(some 8), .un .not (.tmp 7), none, [], false, false⟩])
   (.cond (.tmp 8) (.seq (.region false [⟨(some 4), .move (.const (.int .i64 2)), none, [], false, false⟩])
     (.ret))
    (.skip)))
  (.seq (.seq (.region false [⟨(some 9), .move (.tmp 1), none, [], false, false⟩,
       ⟨(some 10), .len false (.tmp 9), none, [], false, false⟩,
       ⟨(some 11), .bin .gtr (.tmp 10) (.const (.int .i64 200)), none, [], false, false⟩])
    (.cond (.tmp 11) (.seq (.region false [⟨(some 4), .move (.const (.int .i64 8)), none, [], false, false⟩])
      (.ret))
     (.skip)))
   (.seq (.seq (.region false [⟨(some 5), .move (.const (.int .i64 0)), none, [], false, false⟩])
     (.block 0 (.loop (some [0, 1, 5]) (
       .seq (.seq (.region false [⟨(some 12), .move (.tmp 5), none, [], false, false⟩,
            ⟨(some 13), .move (.tmp 1), none, [], false, false⟩,
            ⟨(some 14), .len false (.tmp 13), none, [], false, false⟩,
            ⟨(some 15), .bin .lss (.tmp 12) (.tmp 14), none, [], false, false⟩])
         (.cond (.tmp 15) (.skip)
          (.exit 0)))
        (.seq (.block 1 (.seq (.seq (.region false [⟨(some 18), .move (.tmp 1), none, [], false, false⟩,
               ⟨(some 19), .move (.tmp 5), none, [], false, false⟩,
               ⟨(some 20), .indexAddr none 3 (.tmp 18) (.tmp 19), none, [], false, false⟩,
               ⟨(some 21), .fieldAddr 0 (.tmp 20), none, [], false, false⟩,
               ⟨(some 22), .load false 1 (.tmp 21), none, [], false, false⟩,
               ⟨(some 23), .move (.tmp 0), none, [], false, false⟩,
               ⟨(some 24), .bin .sub (.tmp 23) (.const (.int .i64 1)), none, [], false, false⟩,
               ⟨(some 25), .call 22 [(.tmp 22), (.const (.int .i64 0)), (.tmp 24)], none, [], false, false⟩,
               ⟨(some 26), .un .not (.tmp 25), none, [], false, false⟩,
               ⟨(some 27), .move (.tmp 26), none, [], false, false⟩,
               ⟨(some 28), .move (.tmp 1), (some (27, false)), [], false, false⟩,
               ⟨(some 29), .move (.tmp 5), (some (27, false)), [], false, false⟩,
               ⟨(some 30), .indexAddr none 3 (.tmp 28) (.tmp 29), (some (27, false)), [], false, false⟩,
               ⟨(some 31), .fieldAddr 1 (.tmp 30), (some (27, false)), [], false, false⟩,
               ⟨(some 32), .load false 1 (.tmp 31), (some (27, false)), [], false, false⟩,
               ⟨(some 33), .move (.tmp 0), (some (27, false)), [], false, false⟩,
               ⟨(some 34), .bin .sub (.tmp 33) (.const (.int .i64 1)), (some (27, false)), [], false, false⟩,
               ⟨(some 35), .call 22 [(.tmp 32), (.const (.int .i64 0)), (.tmp 34)], (some (27, false)), [], false, false⟩,
               ⟨(some 36), .un .not (.tmp 35), (some (27, false)), [], false, false⟩,
               ⟨(some 37), .pick (.tmp 27) (.const (.bool true)) (.tmp 36), none, [], false, false⟩])
            (.cond (.tmp 37) (.seq (.region false [⟨(some 4), .move (.const (.int .i64 6)), none, [], false, false⟩])
              (.ret))
             (.skip)))
           (.seq (.region false [⟨(some 38), .move (.tmp 1), none, [], false, false⟩,
               ⟨(some 39), .move (.tmp 5), none, [], false, false⟩,
               ⟨(some 40), .indexAddr none 3 (.tmp 38) (.tmp 39), none, [], false, false⟩,
               ⟨(some 41), .fieldAddr 2 (.tmp 40), none, [], false, false⟩,
               ⟨(some 42), .load false 1 (.tmp 41), none, [], false, false⟩,
               ⟨(some 43), .call 22 [(.tmp 42), (.const (.int .i64 (-1000000000))), (.const (.int .i64 1000000000))], none, [], false, false⟩,
               ⟨(some 44), .un .not (.tmp 43), none, [], false, false⟩])
            (.cond (.tmp 44) (.seq (.region false [⟨(some 4), .move (.const (.int .i64 2)), none, [], false, false⟩])
              (.ret))
             (.skip)))))
         (.region false [⟨(some 16), .move (.tmp 5), none, [], false, false⟩,
            ⟨(some 17), .bin .add (.tmp 16) (.const (.int .i64 1)), none, [], false, false⟩,
            ⟨(some 5), .move (.tmp 17), none, [], false, false⟩]))))))
    (.seq (.region false [⟨(some 4), .move (.const (.int .i64 0)), none, [], false, false⟩])
     (.ret))))),
 [.tmp 4], .pure, 45⟩

/-- agraffe/number.Solve -/
def ef35 : EFun := ⟨
 .seq (.region false [⟨(some 4), .move (.const (.slice none 0 0)), none, [], false, false⟩,
    ⟨(some 5), .move (.const (.slice none 0 0)), none, [], false, false⟩,
    ⟨(some 6), .move (.const (.int .i64 0)), none, [], false, false⟩])
 (.seq (.seq (.region false [⟨(some 13), .move (.tmp 0), none, [], false, false⟩,
      ⟨(some 14), .move (.tmp 1), none, [], false, false⟩,
      ⟨(some 15), .call 36 [(.tmp 13), (.tmp 14)], none, [], false, false⟩,
      ⟨(some 7), .move (.tmp 15), none, [], false, false⟩])
   (.seq (.region false [⟨(some 16), .move (.tmp 7), none, [], false, false⟩,
       ⟨(some 17), .bin .neq (.tmp 16) (.const (.int .i64 0)), none, [], false, false⟩])
    (.cond (.tmp 17) (.seq (.region false [⟨(some 18), .move (.tmp 7), none, [], false, false⟩,
         ⟨(some 4), .move (.const (.slice none 0 0)), none, [], false, false⟩,
         ⟨(some 5), .move (.const (.slice none 0 0)), none, [], false, false⟩,
         ⟨(some 6), .move (.tmp 18), none, [], false, false⟩])
      (.ret))
     (.skip))))
  (.seq (.region true [⟨(some 19), .move (.tmp 0), none, [], false, false⟩,
      ⟨(some 20), .makeSlice 1 8 [(.int .i64 0)] (.tmp 19) (.tmp 19), none, [], false, false⟩,
      ⟨(some 21), .move (.tmp 0), none, [], false, false⟩,
      ⟨(some 22), .makeSlice 1 8 [(.int .i64 0)] (.tmp 21) (.tmp 21), none, [], false, false⟩,
      ⟨(some 8), .move (.tmp 20), none, [], false, false⟩,
      ⟨(some 9), .move (.tmp 22), none, [], false, false⟩])
   (.seq (.region false [⟨(some 10), .move (.const (.int .i64 0)), none, [], false, false⟩])
    (.seq (.seq (.region false [⟨(some 23), .move (.tmp 0), none, [], false, false⟩,
         ⟨(some 24), .move (.const (.int .i64 0)), none, [], false, false⟩])
      (.block 0 (.loop (some [0, 1, 8, 9, 10, 23, 24]) (
        .seq (.region false [⟨(some 25), .bin .lss (.tmp 24) (.tmp 23), none, [], false, false⟩])
         (.seq (.cond (.tmp 25) (.skip)
           (.exit 0))
          (.seq (.block 1 (.seq (.region false [⟨(some 26), .move (.tmp 1), none, [], false, false⟩,
                ⟨(some 27), .move (.tmp 8), none, [], false, false⟩,
                ⟨(some 28), .move (.tmp 9), none, [], false, false⟩,
                ⟨(some 29), .call 97 [(.tmp 26), (.tmp 27), (.tmp 28)], none, [], false, false⟩,
                ⟨(some 10), .move (.tmp 29), none, [], false, false⟩])
             (.seq (.region false [⟨(some 30), .move (.tmp 10), none, [], false, false⟩,
                 ⟨(some 31), .bin .lss (.tmp 30) (.const (.int .i64 0)), none, [], false, false⟩])
              (.cond (.tmp 31) (.seq (.region false [⟨(some 32), .move (.tmp 8), none, [], false, false⟩,
                   ⟨(some 4), .move (.tmp 32), none, [], false, false⟩,
                   ⟨(some 5), .move (.const (.slice none 0 0)), none, [], false, false⟩,
                   ⟨(some 6), .move (.const (.int .i64 0)), none, [], false, false⟩])
                (.ret))
               (.skip)))))
           (.region false [⟨(some 33), .bin .add (.tmp 24) (.const (.int .i64 1)), none, [], false, false⟩,
              ⟨(some 24), .move (.tmp 33), none, [], false, false⟩])))))))
     (.seq (.seq (.region false [⟨(some 34), .move (.tmp 0), none, [], false, false⟩,
          ⟨(some 35), .move (.const (.int .i64 0)), none, [], false, false⟩])
       (.block 2 (.loop (some [1, 9, 10, 34, 35]) (
         .seq (.region false [⟨(some 36), .bin .lss (.tmp 35) (.tmp 34), none, [], false, false⟩])
          (.seq (.cond (.tmp 36) (.skip)
            (.exit 2))
           (.seq (.block 3 (.region false [⟨(some 37), .move (.tmp 1), none, [], false, false⟩,
                ⟨(some 38), .move (.tmp 9), none, [], false, false⟩,
                ⟨(some 39), .move (.tmp 10), none, [], false, false⟩,
                ⟨(some 40), .indexAddr none 1 (.tmp 38) (.tmp 39), none, [], false, false⟩,
                ⟨(some 41), .load false 1 (.tmp 40), none, [], false, false⟩,
                ⟨(some 42), .indexAddr none 3 (.tmp 37) (.tmp 41), none, [], false, false⟩,
                ⟨(some 43), .fieldAddr 0 (.tmp 42), none, [], false, false⟩,
                ⟨(some 44), .load false 1 (.tmp 43), none, [], false, false⟩,
                ⟨(some 10), .move (.tmp 44), none, [], false, false⟩]))
            (.region false [⟨(some 45), .bin .add (.tmp 35) (.const (.int .i64 1)), none, [], false, false⟩,
               ⟨(some 35), .move (.tmp 45), none, [], false, false⟩])))))))
      (.seq (.region false [⟨(some 11), .move (.const (.slice none 0 0)), none, [], false, false⟩])
       (.seq (.seq (.region false [⟨(some 46), .move (.tmp 10), none, [], false, false⟩,
            ⟨(some 12), .move (.tmp 46), none, [], false, false⟩])
         (.block 4 (.loop (some [1, 9, 10, 11, 12]) (
           .seq (.seq (.region false [⟨(some 47), .move (.tmp 11), none, [], false, false⟩,
                ⟨(some 48), .len false (.tmp 47), none, [], false, false⟩,
                ⟨(some 49), .bin .eql (.tmp 48) (.const (.int .i64 0)), none, [], false, false⟩,
                ⟨(some 50), .move (.tmp 49), none, [], false, false⟩,
                ⟨(some 51), .move (.tmp 12), (some (50, false)), [], false, false⟩,
                ⟨(some 52), .move (.tmp 10), (some (50, false)), [], false, false⟩,
                ⟨(some 53), .bin .neq (.tmp 51) (.tmp 52), (some (50, false)), [], false, false⟩,
                ⟨(some 54), .pick (.tmp 50) (.const (.bool true)) (.tmp 53), none, [], false, false⟩])
             (.cond (.tmp 54) (.skip)
              (.exit 4)))
            (.seq (.block 5 (.region false [⟨(some 63), .move (.tmp 11), none, [], false, false⟩,
                 ⟨(some 64), .move (.tmp 9), none, [], false, false⟩,
                 ⟨(some 65), .move (.tmp 12), none, [], false, false⟩,
                 ⟨(some 66), .indexAddr none 1 (.tmp 64) (.tmp 65), none, [], false, false⟩,
                 ⟨(some 67), .load false 1 (.tmp 66), none, [], false, false⟩,
                 ⟨(some 68), .buildSlice 1 1 [(.int .i64 0)] [(0, 1, (.tmp 67))], none, [], false, false⟩,
                 ⟨(some 69), .append 1 8 (.tmp 63) (.tmp 68), none, [], false, false⟩,
                 ⟨(some 11), .move (.tmp 69), none, [], false, false⟩]))
             (.region false [⟨(some 55), .move (.tmp 1), none, [], false, false⟩,
                ⟨(some 56), .move (.tmp 9), none, [], false, false⟩,
                ⟨(some 57), .move (.tmp 12), none, [], false, false⟩,
                ⟨(some 58), .indexAddr none 1 (.tmp 56) (.tmp 57), none, [], false, false⟩,
                ⟨(some 59), .load false 1 (.tmp 58), none, [], false, false⟩,
                ⟨(some 60), .indexAddr none 3 (.tmp 55) (.tmp 59), none, [], false, false⟩,
                ⟨(some 61), .fieldAddr 0 (.tmp 60), none, [], false, false⟩,
                ⟨(some 62), .load false 1 (.tmp 61), none, [], false, false⟩,
                ⟨(some 12), .move (.tmp 62), none, [], false, false⟩]))))))
        (.seq (.region false [⟨(some 70), .move (.tmp 11), none, [], false, false⟩,
            ⟨(some 71), .call 98 [(.tmp 70)], none, [], false, false⟩])
         (.seq (.region false [⟨(some 72), .move (.tmp 11), none, [], false, false⟩,
             ⟨(some 4), .move (.const (.slice none 0 0)), none, [], false, false⟩,
             ⟨(some 5), .move (.tmp 72), none, [], false, false⟩,
             ⟨(some 6), .move (.const (.int .i64 21)), none, [], false, false⟩])
          (.ret)))))))))),
 [.tmp 4, .tmp 5, .tmp 6], .pure, 73⟩

/-- agraffe/number.CheckSystem -/
def ef36 : EFun := ⟨
 .seq (.region false [⟨(some 4), .move (.const (.int .i64 0)), none, [], false, false⟩])
 (.seq (.block 0 (.seq (.region false [⟨(some 8), .move (.tmp 0), none, [], false, false⟩,
       ⟨(some 9), .call 77 [(.tmp 8), (.const (.int .i64 1)), (.const (.int .i64 60))], none, [], false, false⟩,
       ⟨(some 10), .un .not (.tmp 9), none, [], false, false⟩,
       ⟨(some 7), .move (.tmp 10), none, [], false, false⟩])
    (.cond (.tmp 7) (.seq (.region false [⟨(some 4), .move (.const (.int .i64 2)), none, [], false, false⟩])
      (.ret))
     (.seq (.region false [⟨(some 12), .move (.tmp 1), none, [], false, false⟩,
         ⟨(some 13), .len false (.tmp 12), none, [], false, false⟩,
         ⟨(some 14), .bin .gtr (.tmp 13) (.const (.int .i64 200)), none, [], false, false⟩,
         ⟨(some 11), .move (.tmp 14), none, [], false, false⟩])
      (.cond (.tmp 11) (.seq (.region false [⟨(some 4), .move (.const (.int .i64 8)), none, [], false, false⟩])
        (.ret))
       (.skip))))))
  (.seq (.seq (.region false [⟨(some 15), .move (.tmp 1), none, [], false, false⟩,
       ⟨(some 16), .len false (.tmp 15), none, [], false, false⟩,
       ⟨(some 17), .move (.const (.int .i64 0)), none, [], false, false⟩])
    (.block 1 (.loop (some [0, 15, 16, 17]) (
      .seq (.region false [⟨(some 18), .bin .lss (.tmp 17) (.tmp 16), none, [], false, false⟩])
       (.seq (.cond (.tmp 18) (.skip)
         (.exit 1))
        (.seq (.block 2 (.seq (.region false [⟨(some 19), .indexAddr none 3 (.tmp 15) (.tmp 17), none, [], false, false⟩,
              ⟨(some 20), .load true 3 (.tmp 19), none, [], false, false⟩,
              ⟨(some 6), .push [(.int .i64 0), (.int .i64 0), (.int .i64 0)], none, [], false, false⟩,
              ⟨none, .store 3 (.tmp 6) (.tmp 20), none, [], false, false⟩])
           (.block 3 (.seq (.region false [⟨(some 22), .fieldAddr 0 (.tmp 6), none, [], false, false⟩,
                ⟨(some 23), .load false 1 (.tmp 22), none, [], false, false⟩,
                ⟨(some 24), .move (.tmp 0), none, [], false, false⟩,
                ⟨(some 25), .bin .sub (.tmp 24) (.const (.int .i64 1)), none, [], false, false⟩,
                ⟨(some 26), .call 77 [(.tmp 23), (.const (.int .i64 0)), (.tmp 25)], none, [], false, false⟩,
                ⟨(some 27), .un .not (.tmp 26), none, [], false, false⟩,
                ⟨(some 28), .move (.tmp 27), none, [], false, false⟩,
                ⟨(some 29), .fieldAddr 1 (.tmp 6), (some (28, false)), [], false, false⟩,
                ⟨(some 30), .load false 1 (.tmp 29), (some (28, false)), [], false, false⟩,
                ⟨(some 31), .move (.tmp 0), (some (28, false)), [], false, false⟩,
                ⟨(some 32), .bin .sub (.tmp 31) (.const (.int .i64 1)), (some (28, false)), [], false, false⟩,
                ⟨(some 33), .call 77 [(.tmp 30), (.const (.int .i64 0)), (.tmp 32)], (some (28, false)), [], false, false⟩,
                ⟨(some 34), .un .not (.tmp 33), (some (28, false)), [], false, false⟩,
                ⟨(some 35), .pick (.tmp 28) (.const (.bool true)) (.tmp 34), none, [], false, false⟩,
                ⟨(some 21), .move (.tmp 35), none, [], false, false⟩])
             (.cond (.tmp 21) (.seq (.region false [⟨(some 4), .move (.const (.int .i64 6)), none, [], false, false⟩])
               (.ret))
              (.seq (.region false [⟨(some 37), .fieldAddr 2 (.tmp 6), none, [], false, false⟩,
                  ⟨(some 38), .load false 1 (.tmp 37), none, [], false, false⟩,
                  ⟨(some 39), .call 77 [(.tmp 38), (.const (.int .i64 (-1000000000))), (.const (.int .i64 1000000000))], none, [], false, false⟩,
                  ⟨(some 40), .un .not (.tmp 39), none, [], false, false⟩,
                  ⟨(some 36), .move (.tmp 40), none, [], false, false⟩])
               (.cond (.tmp 36) (.seq (.region false [⟨(some 4), .move (.const (.int .i64 2)), none, [], false, false⟩])
                 (.ret))
                (.skip))))))))
         (.region false [⟨(some 41), .bin .add (.tmp 17) (.const (.int .i64 1)), none, [], false, false⟩,
            ⟨(some 17), .move (.tmp 41), none, [], false, false⟩])))))))
   (.seq (.region false [⟨(some 4), .move (.const (.int .i64 0)), none, [], false, false⟩])
    (.ret)))),
 [.tmp 4], .pure, 42⟩

/-- agraffe/agrafferef01.Solve -/
def ef37 : EFun := ⟨
 .seq (.region false [⟨(some 4), .move (.const (.slice none 0 0)), none, [], false, false⟩,
    ⟨(some 5), .move (.const (.bool false)), none, [], false, false⟩])
 (.seq (.region false [⟨(some 11), .move (.tmp 0), none, [], false, false⟩,
     ⟨(some 12), .makeSlice 1 8 [(.int .i64 0)] (.tmp 11) (.tmp 11), none, [], false, false⟩,
     ⟨(some 6), .move (.tmp 12), none, [], false, false⟩])
  (.seq (.seq (.region false [⟨(some 7), .move (.const (.int .i64 0)), none, [], false, false⟩])
    (.block 0 (.loop (some [0, 1, 6, 7]) (
      .seq (.seq (.region false [⟨(some 13), .move (.tmp 7), none, [], false, false⟩,
           ⟨(some 14), .move (.tmp 0), none, [], false, false⟩,
           ⟨(some 15), .bin .leq (.tmp 13) (.tmp 14), none, [], false, false⟩])
        (.cond (.tmp 15) (.skip)
         (.exit 0)))
       (.seq (.block 1 (.seq (.region false [⟨(some 8), .move (.const (.bool false)), none, [], false, false⟩])
          (.seq (.seq (.region false [⟨(some 9), .move (.const (.int .i64 0)), none, [], false, false⟩])
            (.block 2 (.loop (some [0, 1, 6, 7, 8, 9]) (
              .seq (.seq (.region false [⟨(some 18), .move (.tmp 9), none, [], false, false⟩,
                   ⟨(some 19), .move (.tmp 1), none, [], false, false⟩,
                   ⟨(some 20), .len false (.tmp 19), none, [], false, false⟩,
                   ⟨(some 21), .bin .lss (.tmp 18) (.tmp 20), none, [], false, false⟩])
                (.cond (.tmp 21) (.skip)
                 (.exit 2)))
               (.seq (.block 3 (.seq (.region true [⟨(some 24), .move (.tmp 6), none, [], false, false⟩,
                     ⟨(some 25), .move (.tmp 1), none, [], false, false⟩,
                     ⟨(some 26), .move (.tmp 9), none, [], false, false⟩,
                     ⟨(some 27), .indexAddr none 3 (.tmp 25) (.tmp 26), none, [], false, false⟩,
                     ⟨(some 28), .fieldAddr 0 (.tmp 27), none, [], false, false⟩,
                     ⟨(some 29), .load false 1 (.tmp 28), none, [], false, false⟩,
                     ⟨(some 30), .indexAddr none 1 (.tmp 24) (.tmp 29), none, [], false, false⟩,
                     ⟨(some 31), .load false 1 (.tmp 30), none, [], false, false⟩,
                     ⟨(some 32), .move (.tmp 1), none, [], false, false⟩,
                     ⟨(some 33), .move (.tmp 9), none, [], false, false⟩,
                     ⟨(some 34), .indexAddr none 3 (.tmp 32) (.tmp 33), none, [], false, false⟩,
                     ⟨(some 35), .fieldAddr 2 (.tmp 34), none, [], false, false⟩,
                     ⟨(some 36), .load false 1 (.tmp 35), none, [], false, false⟩,
                     ⟨(some 37), .bin .add (.tmp 31) (.tmp 36), none, [], false, false⟩,
                     ⟨(some 10), .move (.tmp 37), none, [], false, false⟩])
                  (.seq (.region false [⟨(some 38), .move (.tmp 6), none, [], false, false⟩,
                      ⟨(some 39), .move (.tmp 1), none, [], false, false⟩,
                      ⟨(some 40), .move (.tmp 9), none, [], false, false⟩,
                      ⟨(some 41), .indexAddr none 3 (.tmp 39) (.tmp 40), none, [], false, false⟩,
                      ⟨(some 42), .fieldAddr 1 (.tmp 41), none, [], false, false⟩,
                      ⟨(some 43), .load false 1 (.tmp 42), none, [], false, false⟩,
                      ⟨(some 44), .indexAddr none 1 (.tmp 38) (.tmp 43), none, [], false, false⟩,
                      ⟨(some 45), .load false 1 (.tmp 44), none, [], false, false⟩,
                      ⟨(some 46), .move (.tmp 10), none, [], false, false⟩,
                      ⟨(some 47), .bin .gtr (.tmp 45) (.tmp 46), none, [], false, false⟩])
                   (.cond (.tmp 47) (.region false [⟨(some 48), .move (.tmp 6), none, [], false, false⟩,
                       ⟨(some 49), .move (.tmp 1), none, [], false, false⟩,
                       ⟨(some 50), .move (.tmp 9), none, [], false, false⟩,
                       ⟨(some 51), .indexAddr none 3 (.tmp 49) (.tmp 50), none, [], false, false⟩,
                       ⟨(some 52), .fieldAddr 1 (.tmp 51), none, [], false, false⟩,
                       ⟨(some 53), .load false 1 (.tmp 52), none, [], false, false⟩,
                       ⟨(some 54), .move (.tmp 10), none, [], false, false⟩,
                       ⟨(some 55), .indexAddr none 1 (.tmp 48) (.tmp 53), none, [], false, false⟩,
                       ⟨none, .store 1 (.tmp 55) (.tmp 54), none, [], false, false⟩,
                       ⟨(some 8), .move (.const (.bool true)), none, [], false, false⟩])
                    (.skip)))))
                (.region false [⟨(some 22), .move (.tmp 9), none, [], false, false⟩,
                   ⟨(some 23), .bin .add (.tmp 22) (.const (.int .i64 1)), none, [], false, false⟩,
                   ⟨(some 9), .move (.tmp 23), none, [], false, false⟩]))))))
           (.seq (.region false [⟨(some 56), .move (.tmp 8), none, [], false, false⟩,
               ⟨(some 57), .un .not (.tmp 56), none, [], false, false⟩])
            (.cond (.tmp 57) (.seq (.region false [⟨(some 58), .move (.tmp 6), none, [], false, false⟩,
                 ⟨(some 4), .move (.tmp 58), none, [], false, false⟩,
                 ⟨(some 5), .move (.const (.bool true)), none, [], false, false⟩])
              (.ret))
             (.skip))))))
        (.region false [⟨(some 16), .move (.tmp 7), none, [], false, false⟩,
           ⟨(some 17), .bin .add (.tmp 16) (.const (.int .i64 1)), none, [], false, false⟩,
           ⟨(some 7), .move (.tmp 17), none, [], false, false⟩]))))))
   (.seq (.region false [⟨(some 4), .move (.const (.slice none 0 0)), none, [], false, false⟩,
       ⟨(some 5), .move (.const (.bool false)), none, [], false, false⟩])
    (.ret)))),
 [.tmp 4, .tmp 5], .pure, 59⟩

/-- agraffe/agraffebase.Ints -/
def ef38 : EFun := ⟨
 .seq (.region false [⟨(some 4), .move (.const (.bool false)), none, [], false, false⟩])
 (.seq (.seq (.region false [⟨(some 6), .move (.tmp 0), none, [], false, false⟩,
      ⟨(some 7), .len false (.tmp 6), none, [], false, false⟩,
      ⟨(some 8), .move (.tmp 1), none, [], false, false⟩,
      ⟨(some 9), .len false (.tmp 8), none, [], false, false⟩,
      ⟨(some 10), .bin .neq (.tmp 7) (.tmp 9), none, [], false, false⟩])
   (.cond (.tmp 10) (.seq (.region false [⟨(some 4), .move (.const (.bool false)), none, [], false, false⟩])
     (.ret))
    (.skip)))
  (.seq (.seq (.region false [⟨(some 5), .move (.const (.int .i64 0)), none, [], false, false⟩])
    (.block 0 (.loop (some [0, 1, 5]) (
      .seq (.seq (.region false [⟨(some 11), .move (.tmp 5), none, [], false, false⟩,
           ⟨(some 12), .move (.tmp 0), none, [], false, false⟩,
           ⟨(some 13), .len false (.tmp 12), none, [], false, false⟩,
           ⟨(some 14), .bin .lss (.tmp 11) (.tmp 13), none, [], false, false⟩])
        (.cond (.tmp 14) (.skip)
         (.exit 0)))
       (.seq (.block 1 (.seq (.region true [⟨(some 17), .move (.tmp 0), none, [], false, false⟩,
             ⟨(some 18), .move (.tmp 5), none, [], false, false⟩,
             ⟨(some 19), .indexAddr none 1 (.tmp 17) (.tmp 18), none, [], false, false⟩,
             ⟨(some 20), .load false 1 (.tmp 19), none, [], false, false⟩,
             ⟨(some 21), .move (.tmp 1), none, [], false, false⟩,
             ⟨(some 22), .move (.tmp 5), none, [], false, false⟩,
             ⟨(some 23), .indexAddr none 1 (.tmp 21) (.tmp 22), none, [], false, false⟩,
             ⟨(some 24), .load false 1 (.tmp 23), none, [], false, false⟩,
             ⟨(some 25), .bin .neq (.tmp 20) (.tmp 24), none, [], false, false⟩])
          (.cond (.tmp 25) (.seq (.region false [⟨(some 4), .move (.const (.bool false)), none, [], false, false⟩])
            (.ret))
           (.skip))))
        (.region false [⟨(some 15), .move (.tmp 5), none, [], false, false⟩,
           ⟨(some 16), .bin .add (.tmp 15) (.const (.int .i64 1)), none, [], false, false⟩,
           ⟨(some 5), .move (.tmp 16), none, [], false, false⟩]))))))
   (.seq (.region false [⟨(some 4), .move (.const (.bool true)), none, [], false, false⟩])
    (.ret)))),
 [.tmp 4], .pure, 26⟩

/-- agraffe/agrafferef01.CheckCircle -/
def ef39 : EFun := ⟨
 .seq (.region false [⟨(some 4), .move (.const (.int .i64 0)), none, [], false, false⟩,
    ⟨(some 5), .move (.const (.int .i64 0)), none, [], false, false⟩])
 (.seq (.seq (.region false [⟨(some 9), .move (.tmp 1), none, [], false, false⟩,
      ⟨(some 10), .len false (.tmp 9), none, [], false, false⟩,
      ⟨(some 11), .call 22 [(.tmp 10), (.const (.int .i64 1)), (.const (.int .i64 60))], none, [], false, false⟩,
      ⟨(some 12), .un .not (.tmp 11), none, [], false, false⟩])
   (.cond (.tmp 12) (.seq (.region false [⟨(some 4), .move (.const (.int .i64 0)), none, [], false, false⟩,
        ⟨(some 5), .move (.const (.int .i64 10)), none, [], false, false⟩])
     (.ret))
    (.skip)))
  (.seq (.seq (.region false [⟨(some 6), .move (.const (.int .i64 0)), none, [], false, false⟩])
    (.block 0 (.loop (some [0, 1, 6]) (
      .seq (.seq (.region false [⟨(some 13), .move (.tmp 6), none, [], false, false⟩,
           ⟨(some 14), .move (.tmp 1), none, [], false, false⟩,
           ⟨(some 15), .len false (.tmp 14), none, [], false, false⟩,
           ⟨(some 16), .bin .lss (.tmp 13) (.tmp 15), none, [], false, false⟩])
        (.cond (.tmp 16) (.skip)
         (.exit 0)))
       (.seq (.block 1 (.seq (.region false [⟨(some 19), .move (.tmp 1), none, [], false, false⟩,
             ⟨(some 20), .move (.tmp 6), none, [], false, false⟩,
             ⟨(some 21), .indexAddr none 1 (.tmp 19) (.tmp 20), none, [], false, false⟩,
             ⟨(some 22), .load false 1 (.tmp 21), none, [], false, false⟩,
             ⟨(some 23), .move (.tmp 0), none, [], false, false⟩,
             ⟨(some 24), .len false (.tmp 23), none, [], false, false⟩,
             ⟨(some 25), .bin .sub (.tmp 24) (.const (.int .i64 1)), none, [], false, false⟩,
             ⟨(some 26), .call 22 [(.tmp 22), (.const (.int .i64 0)), (.tmp 25)], none, [], false, false⟩,
             ⟨(some 27), .un .not (.tmp 26), none, [], false, false⟩])
          (.cond (.tmp 27) (.seq (.region false [⟨(some 4), .move (.const (.int .i64 0)), none, [], false, false⟩,
               ⟨(some 5), .move (.const (.int .i64 6)), none, [], false, false⟩])
            (.ret))
           (.skip))))
        (.region false [⟨(some 17), .move (.tmp 6), none, [], false, false⟩,
           ⟨(some 18), .bin .add (.tmp 17) (.const (.int .i64 1)), none, [], false, false⟩,
           ⟨(some 6), .move (.tmp 18), none, [], false, false⟩]))))))
   (.seq (.region false [⟨(some 7), .move (.const (.int .i64 0)), none, [], false, false⟩])
    (.seq (.seq (.region false [⟨(some 8), .move (.const (.int .i64 0)), none, [], false, false⟩])
      (.block 2 (.loop (some [0, 1, 7, 8]) (
        .seq (.seq (.region false [⟨(some 28), .move (.tmp 8), none, [], false, false⟩,
             ⟨(some 29), .move (.tmp 1), none, [], false, false⟩,
             ⟨(some 30), .len false (.tmp 29), none, [], false, false⟩,
             ⟨(some 31), .bin .lss (.tmp 28) (.tmp 30), none, [], false, false⟩])
          (.cond (.tmp 31) (.skip)
           (.exit 2)))
         (.seq (.block 3 (.seq (.seq (.region true [⟨(some 34), .move (.tmp 0), none, [], false, false⟩,
                ⟨(some 35), .move (.tmp 1), none, [], false, false⟩,
                ⟨(some 36), .move (.tmp 8), none, [], false, false⟩,
                ⟨(some 37), .indexAddr none 1 (.tmp 35) (.tmp 36), none, [], false, false⟩,
                ⟨(some 38), .load false 1 (.tmp 37), none, [], false, false⟩,
                ⟨(some 39), .indexAddr none 3 (.tmp 34) (.tmp 38), none, [], false, false⟩,
                ⟨(some 40), .fieldAddr 0 (.tmp 39), none, [], false, false⟩,
                ⟨(some 41), .load false 1 (.tmp 40), none, [], false, false⟩,
                ⟨(some 42), .move (.tmp 0), none, [], false, false⟩,
                ⟨(some 43), .move (.tmp 1), none, [], false, false⟩,
                ⟨(some 44), .move (.tmp 8), none, [], false, false⟩,
                ⟨(some 45), .bin .sub (.tmp 44) (.const (.int .i64 1)), none, [], false, false⟩,
                ⟨(some 46), .move (.tmp 1), none, [], false, false⟩,
                ⟨(some 47), .len false (.tmp 46), none, [], false, false⟩,
                ⟨(some 48), .call 99 [(.tmp 45), (.tmp 47)], none, [], false, true⟩,
                ⟨(some 49), .indexAddr none 1 (.tmp 43) (.tmp 48), none, [], false, false⟩,
                ⟨(some 50), .load false 1 (.tmp 49), none, [], false, false⟩,
                ⟨(some 51), .indexAddr none 3 (.tmp 42) (.tmp 50), none, [], false, false⟩,
                ⟨(some 52), .fieldAddr 1 (.tmp 51), none, [], false, false⟩,
                ⟨(some 53), .load false 1 (.tmp 52), none, [], false, false⟩,
                ⟨(some 54), .bin .neq (.tmp 41) (.tmp 53), none, [], false, false⟩])
             (.cond (.tmp 54) (.seq (.region false [⟨(some 4), .move (.const (.int .i64 0)), none, [], false, false⟩,
                  ⟨(some 5), .move (.const (.int .i64 25)), none, [], false, false⟩])
               (.ret))
              (.skip)))
            (.region false [⟨(some 55), .move (.tmp 7), none, [], false, false⟩,
               ⟨(some 56), .move (.tmp 0), none, [], false, false⟩,
               ⟨(some 57), .move (.tmp 1), none, [], false, false⟩,
               ⟨(some 58), .move (.tmp 8), none, [], false, false⟩,
               ⟨(some 59), .indexAddr none 1 (.tmp 57) (.tmp 58), none, [], false, false⟩,
               ⟨(some 60), .load false 1 (.tmp 59), none, [], false, false⟩,
               ⟨(some 61), .indexAddr none 3 (.tmp 56) (.tmp 60), none, [], false, false⟩,
               ⟨(some 62), .fieldAddr 2 (.tmp 61), none, [], false, false⟩,
               ⟨(some 63), .load false 1 (.tmp 62), none, [], false, false⟩,
               ⟨(some 64), .bin .add (.tmp 55) (.tmp 63), none, [], false, false⟩,
               ⟨(some 7), .move (.tmp 64), none, [], false, false⟩])))
          (.region false [⟨(some 32), .move (.tmp 8), none, [], false, false⟩,
             ⟨(some 33), .bin .add (.tmp 32) (.const (.int .i64 1)), none, [], false, false⟩,
             ⟨(some 8), .move (.tmp 33), none, [], false, false⟩]))))))
     (.seq (.seq (.region false [⟨(some 65), .move (.tmp 7), none, [], false, false⟩,
          ⟨(some 66), .bin .geq (.tmp 65) (.const (.int .i64 0)), none, [], false, false⟩])
       (.cond (.tmp 66) (.seq (.region false [⟨(some 4), .move (.const (.int .i64 0)), none, [], false, false⟩,
            ⟨(some 5), .move (.const (.int .i64 22)), none, [], false, false⟩])
         (.ret))
        (.skip)))
      (.seq (.region false [⟨(some 67), .move (.tmp 7), none, [], false, false⟩,
          ⟨(some 4), .move (.tmp 67), none, [], false, false⟩,
          ⟨(some 5), .move (.const (.int .i64 0)), none, [], false, false⟩])
       (.ret))))))),
 [.tmp 4, .tmp 5], .pure, 68⟩

/-- agraffe/number.CheckCircle -/
def ef40 : EFun := ⟨
 .seq (.region false [⟨(some 6), .move (.const (.int .i64 0)), none, [], false, false⟩,
    ⟨(some 7), .move (.const (.int .i64 0)), none, [], false, false⟩])
 (.seq (.seq (.region false [⟨(some 15), .move (.tmp 0), none, [], false, false⟩,
      ⟨(some 16), .move (.tmp 1), none, [], false, false⟩,
      ⟨(some 17), .call 36 [(.tmp 15), (.tmp 16)], none, [], false, false⟩,
      ⟨(some 8), .move (.tmp 17), none, [], false, false⟩])
   (.seq (.region false [⟨(some 18), .move (.tmp 8), none, [], false, false⟩,
       ⟨(some 19), .bin .neq (.tmp 18) (.const (.int .i64 0)), none, [], false, false⟩])
    (.cond (.tmp 19) (.seq (.region false [⟨(some 20), .move (.tmp 8), none, [], false, false⟩,
         ⟨(some 6), .move (.const (.int .i64 0)), none, [], false, false⟩,
         ⟨(some 7), .move (.tmp 20), none, [], false, false⟩])
      (.ret))
     (.skip))))
  (.seq (.seq (.region false [⟨(some 21), .move (.tmp 2), none, [], false, false⟩,
       ⟨(some 22), .len false (.tmp 21), none, [], false, false⟩,
       ⟨(some 23), .call 77 [(.tmp 22), (.const (.int .i64 1)), (.const (.int .i64 60))], none, [], false, false⟩,
       ⟨(some 24), .un .not (.tmp 23), none, [], false, false⟩])
    (.cond (.tmp 24) (.seq (.region false [⟨(some 6), .move (.const (.int .i64 0)), none, [], false, false⟩,
         ⟨(some 7), .move (.const (.int .i64 10)), none, [], false, false⟩])
      (.ret))
     (.skip)))
   (.seq (.seq (.region false [⟨(some 25), .move (.tmp 2), none, [], false, false⟩,
        ⟨(some 26), .len false (.tmp 25), none, [], false, false⟩,
        ⟨(some 27), .move (.const (.int .i64 0)), none, [], false, false⟩])
     (.block 0 (.loop (some [1, 2, 25, 26, 27]) (
       .seq (.region false [⟨(some 28), .bin .lss (.tmp 27) (.tmp 26), none, [], false, false⟩])
        (.seq (.cond (.tmp 28) (.skip)
          (.exit 0))
         (.seq (.block 1 (.seq (.region false [⟨(some 29), .indexAddr none 1 (.tmp 25) (.tmp 27), none, [], false, false⟩,
               ⟨(some 30), .load false 1 (.tmp 29), none, [], false, false⟩,
               ⟨(some 10), .move (.tmp 30), none, [], false, false⟩])
            (.seq (.region false [⟨(some 31), .move (.tmp 10), none, [], false, false⟩,
                ⟨(some 32), .move (.tmp 1), none, [], false, false⟩,
                ⟨(some 33), .len false (.tmp 32), none, [], false, false⟩,
                ⟨(some 34), .bin .sub (.tmp 33) (.const (.int .i64 1)), none, [], false, false⟩,
                ⟨(some 35), .call 77 [(.tmp 31), (.const (.int .i64 0)), (.tmp 34)], none, [], false, false⟩,
                ⟨(some 36), .un .not (.tmp 35), none, [], false, false⟩])
             (.cond (.tmp 36) (.seq (.region false [⟨(some 6), .move (.const (.int .i64 0)), none, [], false, false⟩,
                  ⟨(some 7), .move (.const (.int .i64 6)), none, [], false, false⟩])
               (.ret))
              (.skip)))))
          (.region false [⟨(some 37), .bin .add (.tmp 27) (.const (.int .i64 1)), none, [], false, false⟩,
             ⟨(some 27), .move (.tmp 37), none, [], false, false⟩])))))))
    (.seq (.region true [⟨(some 38), .move (.tmp 2), none, [], false, false⟩,
        ⟨(some 39), .move (.tmp 2), none, [], false, false⟩,
        ⟨(some 40), .len false (.tmp 39), none, [], false, false⟩,
        ⟨(some 41), .bin .sub (.tmp 40) (.const (.int .i64 1)), none, [], false, false⟩,
        ⟨(some 42), .indexAddr none 1 (.tmp 38) (.tmp 41), none, [], false, false⟩,
        ⟨(some 43), .load false 1 (.tmp 42), none, [], false, false⟩,
        ⟨(some 11), .move (.const (.int .i64 0)), none, [], false, false⟩,
        ⟨(some 12), .move (.tmp 43), none, [], false, false⟩])
     (.seq (.seq (.region false [⟨(some 44), .move (.tmp 2), none, [], false, false⟩,
          ⟨(some 45), .len false (.tmp 44), none, [], false, false⟩,
          ⟨(some 46), .move (.const (.int .i64 0)), none, [], false, false⟩])
       (.block 2 (.loop (some [1, 11, 12, 44, 45, 46]) (
         .seq (.region false [⟨(some 47), .bin .lss (.tmp 46) (.tmp 45), none, [], false, false⟩])
          (.seq (.cond (.tmp 47) (.skip)
            (.exit 2))
           (.seq (.block 3 (.seq (.region false [⟨(some 48), .indexAddr none 1 (.tmp 44) (.tmp 46), none, [], false, false⟩,
                 ⟨(some 49), .load false 1 (.tmp 48), none, [], false, false⟩,
                 ⟨(some 14), .move (.tmp 49), none, [], false, false⟩])
              (.seq (.seq (.region true [⟨(some 50), .move (.tmp 1), none, [], false, false⟩,
                   ⟨(some 51), .move (.tmp 14), none, [], false, false⟩,
                   ⟨(some 52), .indexAddr none 3 (.tmp 50) (.tmp 51), none, [], false, false⟩,
                   ⟨(some 53), .fieldAddr 0 (.tmp 52), none, [], false, false⟩,
                   ⟨(some 54), .load false 1 (.tmp 53), none, [], false, false⟩,
                   ⟨(some 55), .move (.tmp 1), none, [], false, false⟩,
                   ⟨(some 56), .move (.tmp 12), none, [], false, false⟩,
                   ⟨(some 57), .indexAddr none 3 (.tmp 55) (.tmp 56), none, [], false, false⟩,
                   ⟨(some 58), .fieldAddr 1 (.tmp 57), none, [], false, false⟩,
                   ⟨(some 59), .load false 1 (.tmp 58), none, [], false, false⟩,
                   ⟨(some 60), .bin .neq (.tmp 54) (.tmp 59), none, [], false, false⟩])
                (.cond (.tmp 60) (.seq (.region false [⟨(some 6), .move (.const (.int .i64 0)), none, [], false, false⟩,
                     ⟨(some 7), .move (.const (.int .i64 25)), none, [], false, false⟩])
                  (.ret))
                 (.skip)))
               (.region false [⟨(some 61), .move (.tmp 11), none, [], false, false⟩,
                  ⟨(some 62), .move (.tmp 1), none, [], false, false⟩,
                  ⟨(some 63), .move (.tmp 14), none, [], false, false⟩,
                  ⟨(some 64), .indexAddr none 3 (.tmp 62) (.tmp 63), none, [], false, false⟩,
                  ⟨(some 65), .fieldAddr 2 (.tmp 64), none, [], false, false⟩,
                  ⟨(some 66), .load false 1 (.tmp 65), none, [], false, false⟩,
                  ⟨(some 67), .bin .add (.tmp 61) (.tmp 66), none, [], false, false⟩,
                  ⟨(some 68), .move (.tmp 14), none, [], false, false⟩,
                  ⟨(some 11), .move (.tmp 67), none, [], false, false⟩,
                  ⟨(some 12), .move (.tmp 68), none, [], false, false⟩]))))
            (.region false [⟨(some 69), .bin .add (.tmp 46) (.const (.int .i64 1)), none, [], false, false⟩,
               ⟨(some 46), .move (.tmp 69), none, [], false, false⟩])))))))
      (.seq (.seq (.region false [⟨(some 70), .move (.tmp 11), none, [], false, false⟩,
           ⟨(some 71), .bin .geq (.tmp 70) (.const (.int .i64 0)), none, [], false, false⟩])
        (.cond (.tmp 71) (.seq (.region false [⟨(some 6), .move (.const (.int .i64 0)), none, [], false, false⟩,
             ⟨(some 7), .move (.const (.int .i64 22)), none, [], false, false⟩])
          (.ret))
         (.skip)))
       (.seq (.region false [⟨(some 72), .move (.tmp 11), none, [], false, false⟩,
           ⟨(some 6), .move (.tmp 72), none, [], false, false⟩,
           ⟨(some 7), .move (.const (.int .i64 0)), none, [], false, false⟩])
        (.ret)))))))),
 [.tmp 6, .tmp 7], .pure, 73⟩

/-- agraffe/agraffebase.CopyInts -/
def ef41 : EFun := ⟨
 .seq (.region false [⟨(some 2), .move (.const (.slice none 0 0)), none, [], false, false⟩])
 (.seq (.region false [⟨(some 3), .buildSlice 1 0 [] [], none, [], false, false⟩,
     ⟨(some 4), .move (.tmp 0), none, [], false, false⟩,
     ⟨(some 5), .append 1 8 (.tmp 3) (.tmp 4), none, [], false, false⟩,
     ⟨(some 2), .move (.tmp 5), none, [], false, false⟩])
  (.ret)),
 [.tmp 2], .pure, 6⟩

/-- agraffe/number.Power -/
def ef42 : EFun := ⟨
 .seq (.region false [⟨(some 2), .box (.tmp 0), none, [], false, false⟩,
    ⟨(some 3), .box (.tmp 1), none, [], false, false⟩,
    ⟨(some 4), .push [(.int .i64 0), (.int .i64 0), (.int .i64 0), (.int .i64 0)], none, [], false, false⟩,
    ⟨(some 5), .move (.const (.int .i64 0)), none, [], false, false⟩])
 (.seq (.seq (.region false [⟨(some 8), .load true 4 (.tmp 2), none, [], false, false⟩,
      ⟨(some 9), .call 51 [(.tmp 8)], none, [], false, false⟩,
      ⟨(some 6), .move (.tmp 9), none, [], false, false⟩])
   (.seq (.region false [⟨(some 10), .move (.tmp 6), none, [], false, false⟩,
       ⟨(some 11), .bin .neq (.tmp 10) (.const (.int .i64 0)), none, [], false, false⟩])
    (.cond (.tmp 11) (.seq (.region false [⟨(some 12), .build [(.int .i64 0), (.int .i64 0), (.int .i64 0), (.int .i64 0)] [], none, [], false, false⟩,
         ⟨(some 13), .move (.tmp 6), none, [], false, false⟩,
         ⟨none, .store 4 (.tmp 4) (.tmp 12), none, [], false, false⟩,
         ⟨(some 5), .move (.tmp 13), none, [], false, false⟩])
      (.ret))
     (.skip))))
  (.seq (.seq (.region false [⟨(some 14), .load true 2 (.tmp 3), none, [], false, false⟩,
       ⟨(some 15), .call 64 [(.tmp 14)], none, [], false, false⟩,
       ⟨(some 7), .move (.tmp 15), none, [], false, false⟩])
    (.seq (.region false [⟨(some 16), .move (.tmp 7), none, [], false, false⟩,
        ⟨(some 17), .bin .neq (.tmp 16) (.const (.int .i64 0)), none, [], false, false⟩])
     (.cond (.tmp 17) (.seq (.region false [⟨(some 18), .build [(.int .i64 0), (.int .i64 0), (.int .i64 0), (.int .i64 0)] [], none, [], false, false⟩,
          ⟨(some 19), .move (.tmp 7), none, [], false, false⟩,
          ⟨none, .store 4 (.tmp 4) (.tmp 18), none, [], false, false⟩,
          ⟨(some 5), .move (.tmp 19), none, [], false, false⟩])
       (.ret))
      (.skip))))
   (.seq (.region false [⟨(some 20), .fieldAddr 0 (.tmp 2), none, [], false, false⟩,
       ⟨(some 21), .load false 1 (.tmp 20), none, [], false, false⟩,
       ⟨(some 22), .fieldAddr 0 (.tmp 3), none, [], false, false⟩,
       ⟨(some 23), .load false 1 (.tmp 22), none, [], false, false⟩,
       ⟨(some 24), .bin .mul (.tmp 21) (.tmp 23), none, [], false, false⟩,
       ⟨(some 25), .fieldAddr 1 (.tmp 2), none, [], false, false⟩,
       ⟨(some 26), .load false 1 (.tmp 25), none, [], false, false⟩,
       ⟨(some 27), .fieldAddr 0 (.tmp 3), none, [], false, false⟩,
       ⟨(some 28), .load false 1 (.tmp 27), none, [], false, false⟩,
       ⟨(some 29), .bin .mul (.tmp 26) (.tmp 28), none, [], false, false⟩,
       ⟨(some 30), .fieldAddr 2 (.tmp 2), none, [], false, false⟩,
       ⟨(some 31), .load false 1 (.tmp 30), none, [], false, false⟩,
       ⟨(some 32), .fieldAddr 0 (.tmp 3), none, [], false, false⟩,
       ⟨(some 33), .load false 1 (.tmp 32), none, [], false, false⟩,
       ⟨(some 34), .bin .mul (.tmp 31) (.tmp 33), none, [], false, false⟩,
       ⟨(some 35), .fieldAddr 3 (.tmp 2), none, [], false, false⟩,
       ⟨(some 36), .load false 1 (.tmp 35), none, [], false, false⟩,
       ⟨(some 37), .fieldAddr 1 (.tmp 3), none, [], false, false⟩,
       ⟨(some 38), .load false 1 (.tmp 37), none, [], false, false⟩,
       ⟨(some 39), .bin .mul (.tmp 36) (.tmp 38), none, [], false, false⟩,
       ⟨(some 40), .build [(.int .i64 0), (.int .i64 0), (.int .i64 0), (.int .i64 0)] [(0, 1, (.tmp 24)), (1, 1, (.tmp 29)), (2, 1, (.tmp 34)), (3, 1, (.tmp 39))], none, [], false, false⟩,
       ⟨(some 41), .call 100 [(.tmp 40)], none, [], false, false⟩,
       ⟨(some 42), .extract (.tmp 41) 0, none, [], false, false⟩,
       ⟨(some 43), .extract (.tmp 41) 1, none, [], false, false⟩,
       ⟨none, .store 4 (.tmp 4) (.tmp 42), none, [], false, false⟩,
       ⟨(some 5), .move (.tmp 43), none, [], false, false⟩])
    (.ret)))),
 [.cell 4 true 4, .tmp 5], .pure, 44⟩

/-- agraffe/agrafferef01.CheckFrac -/
def ef43 : EFun := ⟨
 .seq (.region false [⟨(some 1), .box (.tmp 0), none, [], false, false⟩,
    ⟨(some 2), .move (.const (.int .i64 0)), none, [], false, false⟩])
 (.seq (.seq (.region false [⟨(some 3), .load true 2 (.tmp 1), none, [], false, false⟩,
      ⟨(some 4), .call 101 [(.tmp 3)], none, [], false, false⟩,
      ⟨(some 5), .un .not (.tmp 4), none, [], false, false⟩])
   (.cond (.tmp 5) (.seq (.region false [⟨(some 2), .move (.const (.int .i64 3)), none, [], false, false⟩])
     (.ret))
    (.skip)))
  (.seq (.seq (.region false [⟨(some 6), .fieldAddr 0 (.tmp 1), none, [], false, false⟩,
       ⟨(some 7), .load false 1 (.tmp 6), none, [], false, false⟩,
       ⟨(some 8), .call 22 [(.tmp 7), (.const (.int .i64 (-1000000000))), (.const (.int .i64 1000000000))], none, [], false, false⟩,
       ⟨(some 9), .un .not (.tmp 8), none, [], false, false⟩,
       ⟨(some 10), .move (.tmp 9), none, [], false, false⟩,
       ⟨(some 11), .fieldAddr 1 (.tmp 1), (some (10, false)), [], false, false⟩,
       ⟨(some 12), .load false 1 (.tmp 11), (some (10, false)), [], false, false⟩,
       ⟨(some 13), .bin .gtr (.tmp 12) (.const (.int .i64 1000000000)), (some (10, false)), [], false, false⟩,
       ⟨(some 14), .pick (.tmp 10) (.const (.bool true)) (.tmp 13), none, [], false, false⟩])
    (.cond (.tmp 14) (.seq (.region false [⟨(some 2), .move (.const (.int .i64 2)), none, [], false, false⟩])
      (.ret))
     (.skip)))
   (.seq (.region false [⟨(some 2), .move (.const (.int .i64 0)), none, [], false, false⟩])
    (.ret)))),
 [.tmp 2], .pure, 15⟩

/-- agraffe/agrafferef01.Power -/
def ef44 : EFun := ⟨
 .seq (.region false [⟨(some 2), .box (.tmp 0), none, [], false, false⟩,
    ⟨(some 3), .box (.tmp 1), none, [], false, false⟩,
    ⟨(some 4), .push [(.int .i64 0), (.int .i64 0), (.int .i64 0), (.int .i64 0)], none, [], false, false⟩,
    ⟨(some 5), .move (.const (.int .i64 0)), none, [], false, false⟩])
 (.seq (.region false [⟨(some 6), .fieldAddr 0 (.tmp 2), none, [], false, false⟩,
     ⟨(some 7), .load false 1 (.tmp 6), none, [], false, false⟩,
     ⟨(some 8), .fieldAddr 0 (.tmp 3), none, [], false, false⟩,
     ⟨(some 9), .load false 1 (.tmp 8), none, [], false, false⟩,
     ⟨(some 10), .bin .mul (.tmp 7) (.tmp 9), none, [], false, false⟩,
     ⟨(some 11), .fieldAddr 1 (.tmp 2), none, [], false, false⟩,
     ⟨(some 12), .load false 1 (.tmp 11), none, [], false, false⟩,
     ⟨(some 13), .fieldAddr 0 (.tmp 3), none, [], false, false⟩,
     ⟨(some 14), .load false 1 (.tmp 13), none, [], false, false⟩,
     ⟨(some 15), .bin .mul (.tmp 12) (.tmp 14), none, [], false, false⟩,
     ⟨(some 16), .fieldAddr 2 (.tmp 2), none, [], false, false⟩,
     ⟨(some 17), .load false 1 (.tmp 16), none, [], false, false⟩,
     ⟨(some 18), .fieldAddr 0 (.tmp 3), none, [], false, false⟩,
     ⟨(some 19), .load false 1 (.tmp 18), none, [], false, false⟩,
     ⟨(some 20), .bin .mul (.tmp 17) (.tmp 19), none, [], false, false⟩,
     ⟨(some 21), .fieldAddr 3 (.tmp 2), none, [], false, false⟩,
     ⟨(some 22), .load false 1 (.tmp 21), none, [], false, false⟩,
     ⟨(some 23), .fieldAddr 1 (.tmp 3), none, [], false, false⟩,
     ⟨(some 24), .load false 1 (.tmp 23), none, [], false, false⟩,
     ⟨(some 25), .bin .mul (.tmp 22) (.tmp 24), none, [], false, false⟩,
     ⟨(some 26), .build [(.int .i64 0), (.int .i64 0), (.int .i64 0), (.int .i64 0)] [(0, 1, (.tmp 10)), (1, 1, (.tmp 15)), (2, 1, (.tmp 20)), (3, 1, (.tmp 25))], none, [], false, false⟩,
     ⟨(some 27), .call 102 [(.tmp 26)], none, [], false, false⟩,
     ⟨(some 28), .extract (.tmp 27) 0, none, [], false, false⟩,
     ⟨(some 29), .extract (.tmp 27) 1, none, [], false, false⟩,
     ⟨none, .store 4 (.tmp 4) (.tmp 28), none, [], false, false⟩,
     ⟨(some 5), .move (.tmp 29), none, [], false, false⟩])
  (.ret)),
 [.cell 4 true 4, .tmp 5], .pure, 30⟩

/-- agraffe/number.Rounded -/
def ef45 : EFun := ⟨
 .seq (.region false [⟨(some 2), .box (.tmp 0), none, [], false, false⟩,
    ⟨(some 4), .push [(.int .i64 0), (.int .i64 0)], none, [], false, false⟩,
    ⟨(some 5), .move (.const (.int .i64 0)), none, [], false, false⟩])
 (.seq (.seq (.region false [⟨(some 7), .load true 2 (.tmp 2), none, [], false, false⟩,
      ⟨(some 8), .call 64 [(.tmp 7)], none, [], false, false⟩,
      ⟨(some 6), .move (.tmp 8), none, [], false, false⟩])
   (.seq (.region false [⟨(some 9), .move (.tmp 6), none, [], false, false⟩,
       ⟨(some 10), .bin .neq (.tmp 9) (.const (.int .i64 0)), none, [], false, false⟩])
    (.cond (.tmp 10) (.seq (.region false [⟨(some 11), .build [(.int .i64 0), (.int .i64 0)] [], none, [], false, false⟩,
         ⟨(some 12), .move (.tmp 6), none, [], false, false⟩,
         ⟨none, .store 2 (.tmp 4) (.tmp 11), none, [], false, false⟩,
         ⟨(some 5), .move (.tmp 12), none, [], false, false⟩])
      (.ret))
     (.skip))))
  (.seq (.seq (.region false [⟨(some 13), .move (.tmp 1), none, [], false, false⟩,
       ⟨(some 14), .call 77 [(.tmp 13), (.const (.int .i64 1)), (.const (.int .i64 1000000000))], none, [], false, false⟩,
       ⟨(some 15), .un .not (.tmp 14), none, [], false, false⟩])
    (.cond (.tmp 15) (.seq (.region false [⟨(some 16), .build [(.int .i64 0), (.int .i64 0)] [], none, [], false, false⟩,
         ⟨none, .store 2 (.tmp 4) (.tmp 16), none, [], false, false⟩,
         ⟨(some 5), .move (.const (.int .i64 2)), none, [], false, false⟩])
      (.ret))
     (.skip)))
   (.seq (.region true [⟨(some 17), .move (.tmp 1), none, [], false, false⟩,
       ⟨(some 18), .fieldAddr 0 (.tmp 2), none, [], false, false⟩,
       ⟨(some 19), .load false 1 (.tmp 18), none, [], false, false⟩,
       ⟨(some 20), .bin .mul (.tmp 17) (.tmp 19), none, [], false, false⟩,
       ⟨(some 21), .fieldAddr 1 (.tmp 2), none, [], false, false⟩,
       ⟨(some 22), .load false 1 (.tmp 21), none, [], false, false⟩,
       ⟨(some 23), .call 103 [(.tmp 20), (.tmp 22)], none, [], false, true⟩,
       ⟨(some 24), .move (.tmp 1), none, [], false, false⟩,
       ⟨(some 25), .fieldAddr 0 (.tmp 2), none, [], false, false⟩,
       ⟨(some 26), .load false 1 (.tmp 25), none, [], false, false⟩,
       ⟨(some 27), .bin .mul (.tmp 24) (.tmp 26), none, [], false, false⟩,
       ⟨(some 28), .fieldAddr 1 (.tmp 2), none, [], false, false⟩,
       ⟨(some 29), .load false 1 (.tmp 28), none, [], false, false⟩,
       ⟨(some 30), .call 104 [(.tmp 27), (.tmp 29)], none, [], false, false⟩,
       ⟨(some 31), .build [(.int .i64 0), (.int .i64 0)] [(0, 1, (.tmp 23)), (1, 1, (.tmp 30))], none, [], false, false⟩,
       ⟨none, .store 2 (.tmp 4) (.tmp 31), none, [], false, false⟩,
       ⟨(some 5), .move (.const (.int .i64 0)), none, [], false, false⟩])
    (.ret)))),
 [.cell 4 true 2, .tmp 5], .pure, 32⟩

/-- agraffe/agrafferef01.Rounded -/
def ef46 : EFun := ⟨
 .seq (.region false [⟨(some 2), .box (.tmp 0), none, [], false, false⟩,
    ⟨(some 4), .push [(.int .i64 0), (.int .i64 0)], none, [], false, false⟩])
 (.seq (.region true [⟨(some 5), .fieldAddr 0 (.tmp 2), none, [], false, false⟩,
     ⟨(some 6), .load false 1 (.tmp 5), none, [], false, false⟩,
     ⟨(some 7), .move (.tmp 1), none, [], false, false⟩,
     ⟨(some 8), .bin .mul (.tmp 6) (.tmp 7), none, [], false, false⟩,
     ⟨(some 9), .fieldAddr 1 (.tmp 2), none, [], false, false⟩,
     ⟨(some 10), .load false 1 (.tmp 9), none, [], false, false⟩,
     ⟨(some 11), .call 105 [(.tmp 8), (.tmp 10)], none, [], false, true⟩,
     ⟨(some 12), .fieldAddr 0 (.tmp 2), none, [], false, false⟩,
     ⟨(some 13), .load false 1 (.tmp 12), none, [], false, false⟩,
     ⟨(some 14), .move (.tmp 1), none, [], false, false⟩,
     ⟨(some 15), .bin .mul (.tmp 13) (.tmp 14), none, [], false, false⟩,
     ⟨(some 16), .fieldAddr 1 (.tmp 2), none, [], false, false⟩,
     ⟨(some 17), .load false 1 (.tmp 16), none, [], false, false⟩,
     ⟨(some 18), .call 106 [(.tmp 15), (.tmp 17)], none, [], false, false⟩,
     ⟨(some 19), .build [(.int .i64 0), (.int .i64 0)] [(0, 1, (.tmp 11)), (1, 1, (.tmp 18))], none, [], false, false⟩,
     ⟨none, .store 2 (.tmp 4) (.tmp 19), none, [], false, false⟩])
  (.ret)),
 [.cell 4 true 2], .pure, 20⟩

/-- agraffe/number.Root -/
def ef47 : EFun := ⟨
 .seq (.region false [⟨(some 4), .move (.const (.int .i64 0)), none, [], false, false⟩,
    ⟨(some 5), .move (.const (.int .i64 0)), none, [], false, false⟩])
 (.seq (.seq (.region false [⟨(some 9), .move (.tmp 0), none, [], false, false⟩,
      ⟨(some 10), .call 77 [(.tmp 9), (.const (.int .i64 0)), (.const (.int .i64 1000000000000000000))], none, [], false, false⟩,
      ⟨(some 11), .un .not (.tmp 10), none, [], false, false⟩,
      ⟨(some 12), .move (.tmp 11), none, [], false, false⟩,
      ⟨(some 13), .move (.tmp 1), (some (12, false)), [], false, false⟩,
      ⟨(some 14), .call 77 [(.tmp 13), (.const (.int .i64 1)), (.const (.int .i64 12))], (some (12, false)), [], false, false⟩,
      ⟨(some 15), .un .not (.tmp 14), (some (12, false)), [], false, false⟩,
      ⟨(some 16), .pick (.tmp 12) (.const (.bool true)) (.tmp 15), none, [], false, false⟩])
   (.cond (.tmp 16) (.seq (.region false [⟨(some 4), .move (.const (.int .i64 0)), none, [], false, false⟩,
        ⟨(some 5), .move (.const (.int .i64 2)), none, [], false, false⟩])
     (.ret))
    (.skip)))
  (.seq (.region false [⟨(some 17), .move (.tmp 0), none, [], false, false⟩,
      ⟨(some 6), .move (.const (.int .i64 0)), none, [], false, false⟩,
      ⟨(some 7), .move (.tmp 17), none, [], false, false⟩])
   (.seq (.block 0 (.loop (some [0, 1, 6, 7]) (
      .seq (.seq (.region false [⟨(some 18), .move (.tmp 6), none, [], false, false⟩,
           ⟨(some 19), .move (.tmp 7), none, [], false, false⟩,
           ⟨(some 20), .bin .lss (.tmp 18) (.tmp 19), none, [], false, false⟩])
        (.cond (.tmp 20) (.skip)
         (.exit 0)))
       (.block 1 (.seq (.region false [⟨(some 21), .move (.tmp 7), none, [], false, false⟩,
            ⟨(some 22), .move (.tmp 7), none, [], false, false⟩,
            ⟨(some 23), .move (.tmp 6), none, [], false, false⟩,
            ⟨(some 24), .bin .sub (.tmp 22) (.tmp 23), none, [], false, false⟩,
            ⟨(some 25), .bin .quo (.tmp 24) (.const (.int .i64 2)), none, [], false, false⟩,
            ⟨(some 26), .bin .sub (.tmp 21) (.tmp 25), none, [], false, false⟩,
            ⟨(some 8), .move (.tmp 26), none, [], false, false⟩])
         (.seq (.region false [⟨(some 27), .move (.tmp 8), none, [], false, false⟩,
             ⟨(some 28), .move (.tmp 1), none, [], false, false⟩,
             ⟨(some 29), .move (.tmp 0), none, [], false, false⟩,
             ⟨(some 30), .call 107 [(.tmp 27), (.tmp 28), (.tmp 29)], none, [], false, false⟩])
          (.cond (.tmp 30) (.region false [⟨(some 31), .move (.tmp 8), none, [], false, false⟩,
              ⟨(some 6), .move (.tmp 31), none, [], false, false⟩])
           (.region false [⟨(some 32), .move (.tmp 8), none, [], false, false⟩,
              ⟨(some 33), .bin .sub (.tmp 32) (.const (.int .i64 1)), none, [], false, false⟩,
              ⟨(some 7), .move (.tmp 33), none, [], false, false⟩]))))))))
    (.seq (.region false [⟨(some 34), .move (.tmp 6), none, [], false, false⟩,
        ⟨(some 4), .move (.tmp 34), none, [], false, false⟩,
        ⟨(some 5), .move (.const (.int .i64 0)), none, [], false, false⟩])
     (.ret))))),
 [.tmp 4, .tmp 5], .pure, 35⟩

/-- agraffe/agrafferef01.Root -/
def ef48 : EFun := ⟨
 .seq (.region false [⟨(some 4), .move (.const (.int .i64 0)), none, [], false, false⟩])
 (.seq (.region false [⟨(some 8), .move (.tmp 0), none, [], false, false⟩,
     ⟨(some 5), .move (.const (.int .i64 0)), none, [], false, false⟩,
     ⟨(some 6), .move (.tmp 8), none, [], false, false⟩])
  (.seq (.block 0 (.loop (some [0, 1, 5, 6]) (
     .seq (.seq (.region false [⟨(some 9), .move (.tmp 5), none, [], false, false⟩,
          ⟨(some 10), .move (.tmp 6), none, [], false, false⟩,
          ⟨(some 11), .bin .lss (.tmp 9) (.tmp 10), none, [], false, false⟩])
       (.cond (.tmp 11) (.skip)
        (.exit 0)))
      (.block 1 (.seq (.region false [⟨(some 12), .move (.tmp 6), none, [], false, false⟩,
           ⟨(some 13), .move (.tmp 6), none, [], false, false⟩,
           ⟨(some 14), .move (.tmp 5), none, [], false, false⟩,
           ⟨(some 15), .bin .sub (.tmp 13) (.tmp 14), none, [], false, false⟩,
           ⟨(some 16), .bin .quo (.tmp 15) (.const (.int .i64 2)), none, [], false, false⟩,
           ⟨(some 17), .bin .sub (.tmp 12) (.tmp 16), none, [], false, false⟩,
           ⟨(some 7), .move (.tmp 17), none, [], false, false⟩])
        (.seq (.region false [⟨(some 18), .move (.tmp 7), none, [], false, false⟩,
            ⟨(some 19), .move (.tmp 1), none, [], false, false⟩,
            ⟨(some 20), .move (.tmp 0), none, [], false, false⟩,
            ⟨(some 21), .call 108 [(.tmp 18), (.tmp 19), (.tmp 20)], none, [], false, false⟩])
         (.cond (.tmp 21) (.region false [⟨(some 22), .move (.tmp 7), none, [], false, false⟩,
             ⟨(some 5), .move (.tmp 22), none, [], false, false⟩])
          (.region false [⟨(some 23), .move (.tmp 7), none, [], false, false⟩,
             ⟨(some 24), .bin .sub (.tmp 23) (.const (.int .i64 1)), none, [], false, false⟩,
             ⟨(some 6), .move (.tmp 24), none, [], false, false⟩]))))))))
   (.seq (.region false [⟨(some 25), .move (.tmp 5), none, [], false, false⟩,
       ⟨(some 4), .move (.tmp 25), none, [], false, false⟩])
    (.ret)))),
 [.tmp 4], .pure, 26⟩

/-- agraffe/number.Normal -/
def ef49 : EFun := ⟨
 .seq (.region false [⟨(some 1), .box (.tmp 0), none, [], false, false⟩,
    ⟨(some 2), .push [(.int .i64 0), (.int .i64 0), (.int .i64 0), (.int .i64 0)], none, [], false, false⟩,
    ⟨(some 3), .move (.const (.int .i64 0)), none, [], false, false⟩])
 (.seq (.seq (.region false [⟨(some 5), .load true 4 (.tmp 1), none, [], false, false⟩,
      ⟨(some 6), .call 51 [(.tmp 5)], none, [], false, false⟩,
      ⟨(some 4), .move (.tmp 6), none, [], false, false⟩])
   (.seq (.region false [⟨(some 7), .move (.tmp 4), none, [], false, false⟩,
       ⟨(some 8), .bin .neq (.tmp 7) (.const (.int .i64 0)), none, [], false, false⟩])
    (.cond (.tmp 8) (.seq (.region false [⟨(some 9), .build [(.int .i64 0), (.int .i64 0), (.int .i64 0), (.int .i64 0)] [], none, [], false, false⟩,
         ⟨(some 10), .move (.tmp 4), none, [], false, false⟩,
         ⟨none, .store 4 (.tmp 2) (.tmp 9), none, [], false, false⟩,
         ⟨(some 3), .move (.tmp 10), none, [], false, false⟩])
      (.ret))
     (.skip))))
  (.seq (.region false [⟨(some 11), .load true 4 (.tmp 1), none, [], false, false⟩,
      ⟨(some 12), .call 78 [(.tmp 11)], none, [], false, false⟩,
      ⟨none, .store 4 (.tmp 2) (.tmp 12), none, [], false, false⟩,
      ⟨(some 3), .move (.const (.int .i64 0)), none, [], false, false⟩])
   (.ret))),
 [.cell 2 true 4, .tmp 3], .pure, 13⟩

/-- agraffe/number.Join -/
def ef50 : EFun := ⟨
 .seq (.region false [⟨(some 2), .box (.tmp 0), none, [], false, false⟩,
    ⟨(some 3), .box (.tmp 1), none, [], false, false⟩,
    ⟨(some 4), .push [(.int .i64 0), (.int .i64 0), (.int .i64 0), (.int .i64 0)], none, [], false, false⟩,
    ⟨(some 5), .move (.const (.int .i64 0)), none, [], false, false⟩])
 (.seq (.seq (.region false [⟨(some 7), .load true 4 (.tmp 2), none, [], false, false⟩,
      ⟨(some 8), .load true 4 (.tmp 3), none, [], false, false⟩,
      ⟨(some 9), .call 109 [(.tmp 7), (.tmp 8)], none, [], false, false⟩,
      ⟨(some 6), .move (.tmp 9), none, [], false, false⟩])
   (.seq (.region false [⟨(some 10), .move (.tmp 6), none, [], false, false⟩,
       ⟨(some 11), .bin .neq (.tmp 10) (.const (.int .i64 0)), none, [], false, false⟩])
    (.cond (.tmp 11) (.seq (.region false [⟨(some 12), .build [(.int .i64 0), (.int .i64 0), (.int .i64 0), (.int .i64 0)] [], none, [], false, false⟩,
         ⟨(some 13), .move (.tmp 6), none, [], false, false⟩,
         ⟨none, .store 4 (.tmp 4) (.tmp 12), none, [], false, false⟩,
         ⟨(some 5), .move (.tmp 13), none, [], false, false⟩])
      (.ret))
     (.skip))))
  (.seq (.region false [⟨(some 14), .load true 4 (.tmp 2), none, [], false, false⟩,
      ⟨(some 15), .load true 4 (.tmp 3), none, [], false, false⟩,
      ⟨(some 16), .call 110 [(.tmp 14), (.tmp 15), (.const (.int .i64 1))], none, [], false, false⟩,
      ⟨(some 17), .call 100 [(.tmp 16)], none, [], false, false⟩,
      ⟨(some 18), .extract (.tmp 17) 0, none, [], false, false⟩,
      ⟨(some 19), .extract (.tmp 17) 1, none, [], false, false⟩,
      ⟨none, .store 4 (.tmp 4) (.tmp 18), none, [], false, false⟩,
      ⟨(some 5), .move (.tmp 19), none, [], false, false⟩])
   (.ret))),
 [.cell 4 true 4, .tmp 5], .pure, 20⟩

/-- agraffe/number.CheckPitch -/
def ef51 : EFun := ⟨
 .seq (.region false [⟨(some 1), .box (.tmp 0), none, [], false, false⟩,
    ⟨(some 2), .move (.const (.int .i64 0)), none, [], false, false⟩])
 (.seq (.seq (.region false [⟨(some 5), .load true 4 (.tmp 1), none, [], false, false⟩,
      ⟨(some 6), .call 80 [(.tmp 5)], none, [], false, false⟩,
      ⟨(some 7), .move (.const (.int .i64 0)), none, [], false, false⟩])
   (.block 0 (.loop (some [1, 6, 7]) (
     .seq (.region false [⟨(some 8), .bin .lss (.tmp 7) (.const (.int .i64 3)), none, [], false, false⟩])
      (.seq (.cond (.tmp 8) (.skip)
        (.exit 0))
       (.seq (.block 1 (.seq (.region false [⟨(some 9), .index 3 1 false (.tmp 6) (.tmp 7), none, [], false, false⟩,
             ⟨(some 4), .move (.tmp 9), none, [], false, false⟩])
          (.seq (.region false [⟨(some 10), .move (.tmp 4), none, [], false, false⟩,
              ⟨(some 11), .call 77 [(.tmp 10), (.const (.int .i64 (-400))), (.const (.int .i64 400))], none, [], false, false⟩,
              ⟨(some 12), .un .not (.tmp 11), none, [], false, false⟩])
           (.cond (.tmp 12) (.seq (.region false [⟨(some 2), .move (.const (.int .i64 2)), none, [], false, false⟩])
             (.ret))
            (.skip)))))
        (.region false [⟨(some 13), .bin .add (.tmp 7) (.const (.int .i64 1)), none, [], false, false⟩,
           ⟨(some 7), .move (.tmp 13), none, [], false, false⟩])))))))
  (.seq (.seq (.region false [⟨(some 14), .fieldAddr 3 (.tmp 1), none, [], false, false⟩,
       ⟨(some 15), .load false 1 (.tmp 14), none, [], false, false⟩,
       ⟨(some 16), .call 77 [(.tmp 15), (.const (.int .i64 1)), (.const (.int .i64 12))], none, [], false, false⟩,
       ⟨(some 17), .un .not (.tmp 16), none, [], false, false⟩])
    (.cond (.tmp 17) (.seq (.region false [⟨(some 2), .move (.const (.int .i64 2)), none, [], false, false⟩])
      (.ret))
     (.skip)))
   (.seq (.region false [⟨(some 2), .move (.const (.int .i64 0)), none, [], false, false⟩])
    (.ret)))),
 [.tmp 2], .pure, 18⟩

/-- agraffe/agrafferef01.Normal -/
def ef52 : EFun := ⟨
 .seq (.region false [⟨(some 1), .box (.tmp 0), none, [], false, false⟩,
    ⟨(some 2), .push [(.int .i64 0), (.int .i64 0), (.int .i64 0), (.int .i64 0)], none, [], false, false⟩])
 (.seq (.region true [⟨(some 4), .fieldAddr 0 (.tmp 1), none, [], false, false⟩,
     ⟨(some 5), .load false 1 (.tmp 4), none, [], false, false⟩,
     ⟨(some 6), .fieldAddr 1 (.tmp 1), none, [], false, false⟩,
     ⟨(some 7), .load false 1 (.tmp 6), none, [], false, false⟩,
     ⟨(some 8), .call 111 [(.tmp 5), (.tmp 7)], none, [], false, true⟩,
     ⟨(some 9), .fieldAddr 2 (.tmp 1), none, [], false, false⟩,
     ⟨(some 10), .load false 1 (.tmp 9), none, [], false, false⟩,
     ⟨(some 11), .fieldAddr 3 (.tmp 1), none, [], false, false⟩,
     ⟨(some 12), .load false 1 (.tmp 11), none, [], false, false⟩,
     ⟨(some 13), .call 111 [(.tmp 10), (.tmp 12)], none, [], false, false⟩,
     ⟨(some 14), .call 111 [(.tmp 8), (.tmp 13)], none, [], false, false⟩,
     ⟨(some 3), .move (.tmp 14), none, [], false, false⟩])
  (.seq (.region true [⟨(some 15), .fieldAddr 0 (.tmp 1), none, [], false, false⟩,
      ⟨(some 16), .load false 1 (.tmp 15), none, [], false, false⟩,
      ⟨(some 17), .move (.tmp 3), none, [], false, false⟩,
      ⟨(some 18), .bin .quo (.tmp 16) (.tmp 17), none, [], false, false⟩,
      ⟨(some 19), .fieldAddr 1 (.tmp 1), none, [], false, false⟩,
      ⟨(some 20), .load false 1 (.tmp 19), none, [], false, false⟩,
      ⟨(some 21), .move (.tmp 3), none, [], false, false⟩,
      ⟨(some 22), .bin .quo (.tmp 20) (.tmp 21), none, [], false, false⟩,
      ⟨(some 23), .fieldAddr 2 (.tmp 1), none, [], false, false⟩,
      ⟨(some 24), .load false 1 (.tmp 23), none, [], false, false⟩,
      ⟨(some 25), .move (.tmp 3), none, [], false, false⟩,
      ⟨(some 26), .bin .quo (.tmp 24) (.tmp 25), none, [], false, false⟩,
      ⟨(some 27), .fieldAddr 3 (.tmp 1), none, [], false, false⟩,
      ⟨(some 28), .load false 1 (.tmp 27), none, [], false, false⟩,
      ⟨(some 29), .move (.tmp 3), none, [], false, false⟩,
      ⟨(some 30), .bin .quo (.tmp 28) (.tmp 29), none, [], false, false⟩,
      ⟨(some 31), .build [(.int .i64 0), (.int .i64 0), (.int .i64 0), (.int .i64 0)] [(0, 1, (.tmp 18)), (1, 1, (.tmp 22)), (2, 1, (.tmp 26)), (3, 1, (.tmp 30))], none, [], false, false⟩,
      ⟨none, .store 4 (.tmp 2) (.tmp 31), none, [], false, false⟩])
   (.ret))),
 [.cell 2 true 4], .pure, 32⟩

/-- agraffe/agrafferef01.Join -/
def ef53 : EFun := ⟨
 .seq (.region false [⟨(some 2), .box (.tmp 0), none, [], false, false⟩,
    ⟨(some 3), .box (.tmp 1), none, [], false, false⟩,
    ⟨(some 4), .push [(.int .i64 0), (.int .i64 0), (.int .i64 0), (.int .i64 0)], none, [], false, false⟩,
    ⟨(some 5), .move (.const (.int .i64 0)), none, [], false, false⟩])
 (.seq (.region false [⟨(some 6), .load true 4 (.tmp 2), none, [], false, false⟩,
     ⟨(some 7), .load true 4 (.tmp 3), none, [], false, false⟩,
     ⟨(some 8), .call 112 [(.tmp 6), (.tmp 7), (.const (.int .i64 1))], none, [], false, false⟩,
     ⟨(some 9), .call 102 [(.tmp 8)], none, [], false, false⟩,
     ⟨(some 10), .extract (.tmp 9) 0, none, [], false, false⟩,
     ⟨(some 11), .extract (.tmp 9) 1, none, [], false, false⟩,
     ⟨none, .store 4 (.tmp 4) (.tmp 10), none, [], false, false⟩,
     ⟨(some 5), .move (.tmp 11), none, [], false, false⟩])
  (.ret)),
 [.cell 4 true 4, .tmp 5], .pure, 12⟩

/-- agraffe/number.Order -/
def ef54 : EFun := ⟨
 .seq (.region false [⟨(some 2), .box (.tmp 0), none, [], false, false⟩,
    ⟨(some 3), .box (.tmp 1), none, [], false, false⟩,
    ⟨(some 4), .move (.const (.int .i64 0)), none, [], false, false⟩,
    ⟨(some 5), .move (.const (.int .i64 0)), none, [], false, false⟩])
 (.seq (.seq (.region false [⟨(some 7), .load true 4 (.tmp 2), none, [], false, false⟩,
      ⟨(some 8), .load true 4 (.tmp 3), none, [], false, false⟩,
      ⟨(some 9), .call 109 [(.tmp 7), (.tmp 8)], none, [], false, false⟩,
      ⟨(some 6), .move (.tmp 9), none, [], false, false⟩])
   (.seq (.region false [⟨(some 10), .move (.tmp 6), none, [], false, false⟩,
       ⟨(some 11), .bin .neq (.tmp 10) (.const (.int .i64 0)), none, [], false, false⟩])
    (.cond (.tmp 11) (.seq (.region false [⟨(some 12), .move (.tmp 6), none, [], false, false⟩,
         ⟨(some 4), .move (.const (.int .i64 0)), none, [], false, false⟩,
         ⟨(some 5), .move (.tmp 12), none, [], false, false⟩])
      (.ret))
     (.skip))))
  (.seq (.region false [⟨(some 13), .load true 4 (.tmp 2), none, [], false, false⟩,
      ⟨(some 14), .load true 4 (.tmp 3), none, [], false, false⟩,
      ⟨(some 15), .call 113 [(.tmp 13), (.tmp 14)], none, [], false, false⟩,
      ⟨(some 4), .move (.tmp 15), none, [], false, false⟩,
      ⟨(some 5), .move (.const (.int .i64 0)), none, [], false, false⟩])
   (.ret))),
 [.tmp 4, .tmp 5], .pure, 16⟩

/-- agraffe/agrafferef01.Order -/
def ef55 : EFun := ⟨
 .seq (.region false [⟨(some 2), .box (.tmp 0), none, [], false, false⟩,
    ⟨(some 3), .box (.tmp 1), none, [], false, false⟩,
    ⟨(some 4), .move (.const (.int .i64 0)), none, [], false, false⟩])
 (.seq (.region false [⟨(some 8), .load true 4 (.tmp 2), none, [], false, false⟩,
     ⟨(some 9), .load true 4 (.tmp 3), none, [], false, false⟩,
     ⟨(some 10), .call 112 [(.tmp 8), (.tmp 9), (.const (.int .i64 (-1)))], none, [], false, false⟩,
     ⟨(some 11), .call 52 [(.tmp 10)], none, [], false, false⟩,
     ⟨(some 5), .push [(.int .i64 0), (.int .i64 0), (.int .i64 0), (.int .i64 0)], none, [], false, false⟩,
     ⟨none, .store 4 (.tmp 5) (.tmp 11), none, [], false, false⟩])
  (.seq (.region false [⟨(some 13), .fieldAddr 0 (.tmp 5), none, [], false, false⟩,
      ⟨(some 14), .load false 1 (.tmp 13), none, [], false, false⟩,
      ⟨(some 15), .fieldAddr 1 (.tmp 5), none, [], false, false⟩,
      ⟨(some 16), .load false 1 (.tmp 15), none, [], false, false⟩,
      ⟨(some 17), .fieldAddr 2 (.tmp 5), none, [], false, false⟩,
      ⟨(some 18), .load false 1 (.tmp 17), none, [], false, false⟩,
      ⟨(some 19), .call 86 [(.tmp 14), (.tmp 16), (.tmp 18)], none, [], false, false⟩,
      ⟨(some 12), .move (.tmp 19), none, [], false, false⟩,
      ⟨(some 20), .extract (.tmp 12) 0, none, [], false, false⟩,
      ⟨(some 21), .extract (.tmp 12) 1, none, [], false, false⟩,
      ⟨(some 6), .move (.tmp 20), none, [], false, false⟩,
      ⟨(some 7), .move (.tmp 21), none, [], false, false⟩])
   (.seq (.region false [⟨(some 22), .move (.tmp 6), none, [], false, false⟩,
       ⟨(some 23), .move (.tmp 7), none, [], false, false⟩,
       ⟨(some 24), .call 90 [(.tmp 22), (.tmp 23)], none, [], false, false⟩,
       ⟨(some 4), .move (.tmp 24), none, [], false, false⟩])
    (.ret)))),
 [.tmp 4], .pure, 25⟩

end Go.Abs.N
