/- The functions, compiled for the abstract evaluator. Written by wip/abs/Print.lean. -/
import Derived.Test.YtfbelnhibipndaaAbsU0
set_option linter.unusedSimpArgs false
set_option linter.unusedVariables false
set_option maxRecDepth 100000
set_option maxHeartbeats 0
namespace Go.Abs.U
open Go Go.Abs
/-- agraffe/agraffelaw07.UpkeepPasses -/
def ef3 : EFun := ⟨
 .seq (.region false [⟨(some 6), .move (.const (.bool false)), none, [], false, false⟩])
 (.seq (.seq (.region false [⟨(some 13), .call 14 [], none, [], false, false⟩,
      ⟨(some 14), .un .not (.tmp 13), none, [], false, false⟩])
   (.cond (.tmp 14) (.seq (.region false [⟨(some 6), .move (.const (.bool false)), none, [], false, false⟩])
     (.ret))
    (.skip)))
  (.seq (.region false [⟨(some 16), .move (.tmp 0), none, [], false, false⟩,
      ⟨(some 17), .move (.tmp 1), none, [], false, false⟩,
      ⟨(some 18), .move (.tmp 2), none, [], false, false⟩,
      ⟨(some 19), .call 15 [(.tmp 16), (.tmp 17), (.tmp 18)], none, [], false, false⟩,
      ⟨(some 15), .move (.tmp 19), none, [], false, false⟩,
      ⟨(some 20), .extract (.tmp 15) 0, none, [], false, false⟩,
      ⟨(some 21), .extract (.tmp 15) 1, none, [], false, false⟩,
      ⟨(some 7), .move (.tmp 20), none, [], false, false⟩,
      ⟨(some 8), .move (.tmp 21), none, [], false, false⟩])
   (.seq (.region false [⟨(some 23), .move (.tmp 0), none, [], false, false⟩,
       ⟨(some 24), .move (.tmp 1), none, [], false, false⟩,
       ⟨(some 25), .move (.tmp 2), none, [], false, false⟩,
       ⟨(some 26), .call 16 [(.tmp 23), (.tmp 24), (.tmp 25)], none, [], false, false⟩,
       ⟨(some 22), .move (.tmp 26), none, [], false, false⟩,
       ⟨(some 27), .extract (.tmp 22) 0, none, [], false, false⟩,
       ⟨(some 28), .extract (.tmp 22) 1, none, [], false, false⟩,
       ⟨(some 9), .move (.tmp 27), none, [], false, false⟩,
       ⟨(some 10), .move (.tmp 28), none, [], false, false⟩])
    (.seq (.seq (.region false [⟨(some 29), .move (.tmp 8), none, [], false, false⟩,
         ⟨(some 30), .move (.tmp 10), none, [], false, false⟩,
         ⟨(some 31), .bin .neq (.tmp 29) (.tmp 30), none, [], false, false⟩,
         ⟨(some 32), .move (.tmp 31), none, [], false, false⟩,
         ⟨(some 33), .move (.tmp 7), (some (32, false)), [], false, false⟩,
         ⟨(some 34), .move (.tmp 9), (some (32, false)), [], false, false⟩,
         ⟨(some 35), .bin .neq (.tmp 33) (.tmp 34), (some (32, false)), [], false, false⟩,
         ⟨(some 36), .pick (.tmp 32) (.const (.bool true)) (.tmp 35), none, [], false, false⟩])
      (.cond (.tmp 36) (.seq (.region false [⟨(some 6), .move (.const (.bool false)), none, [], false, false⟩])
        (.ret))
       (.skip)))
     (.seq (.seq (.region false [⟨(some 37), .move (.tmp 10), none, [], false, false⟩,
          ⟨(some 38), .bin .neq (.tmp 37) (.const (.int .i64 0)), none, [], false, false⟩,
          ⟨(some 39), .move (.tmp 38), none, [], false, false⟩,
          ⟨(some 40), .move (.tmp 0), (some (39, false)), [], false, false⟩,
          ⟨(some 41), .bin .eql (.tmp 40) (.const (.int .i64 0)), (some (39, false)), [], false, false⟩,
          ⟨(some 42), .pick (.tmp 39) (.const (.bool true)) (.tmp 41), none, [], false, false⟩])
       (.cond (.tmp 42) (.seq (.region false [⟨(some 6), .move (.const (.bool true)), none, [], false, false⟩])
         (.ret))
        (.skip)))
      (.seq (.region false [⟨(some 44), .move (.tmp 0), none, [], false, false⟩,
          ⟨(some 45), .bin .sub (.tmp 44) (.const (.int .i64 1)), none, [], false, false⟩,
          ⟨(some 46), .move (.tmp 1), none, [], false, false⟩,
          ⟨(some 47), .move (.tmp 2), none, [], false, false⟩,
          ⟨(some 48), .call 15 [(.tmp 45), (.tmp 46), (.tmp 47)], none, [], false, false⟩,
          ⟨(some 43), .move (.tmp 48), none, [], false, false⟩,
          ⟨(some 49), .extract (.tmp 43) 0, none, [], false, false⟩,
          ⟨(some 50), .extract (.tmp 43) 1, none, [], false, false⟩,
          ⟨(some 11), .move (.tmp 49), none, [], false, false⟩,
          ⟨(some 12), .move (.tmp 50), none, [], false, false⟩])
       (.seq (.region false [⟨(some 51), .move (.tmp 12), none, [], false, false⟩,
           ⟨(some 52), .bin .eql (.tmp 51) (.const (.int .i64 0)), none, [], false, false⟩,
           ⟨(some 53), .move (.tmp 52), none, [], false, false⟩,
           ⟨(some 54), .move (.tmp 11), (some (53, true)), [], false, false⟩,
           ⟨(some 55), .move (.tmp 7), (some (53, true)), [], false, false⟩,
           ⟨(some 56), .bin .leq (.tmp 54) (.tmp 55), (some (53, true)), [], false, false⟩,
           ⟨(some 57), .pick (.tmp 53) (.tmp 56) (.const (.bool false)), none, [], false, false⟩,
           ⟨(some 6), .move (.tmp 57), none, [], false, false⟩])
        (.ret)))))))),
 [.tmp 6], .pure, 58⟩

/-- agraffe/agraffelaw07.UpkeepClimates -/
def ef4 : EFun := ⟨
 .seq (.region false [⟨(some 3), .box (.tmp 1), none, [], false, false⟩,
    ⟨(some 4), .move (.const (.bool false)), none, [], false, false⟩])
 (.seq (.seq (.region false [⟨(some 13), .call 14 [], none, [], false, false⟩,
      ⟨(some 14), .un .not (.tmp 13), none, [], false, false⟩])
   (.cond (.tmp 14) (.seq (.region false [⟨(some 4), .move (.const (.bool false)), none, [], false, false⟩])
     (.ret))
    (.skip)))
  (.seq (.seq (.region false [⟨(some 15), .move (.tmp 0), none, [], false, false⟩,
       ⟨(some 16), .call 17 [(.tmp 15), (.const (.int .i64 10))], none, [], false, false⟩,
       ⟨(some 17), .un .not (.tmp 16), none, [], false, false⟩])
    (.cond (.tmp 17) (.seq (.region false [⟨(some 4), .move (.const (.bool true)), none, [], false, false⟩])
      (.ret))
     (.skip)))
   (.seq (.region false [⟨(some 18), .move (.tmp 0), none, [], false, false⟩,
       ⟨(some 19), .call 18 [(.tmp 18)], none, [], false, false⟩,
       ⟨(some 5), .move (.tmp 19), none, [], false, false⟩])
    (.seq (.seq (.region false [⟨(some 20), .move (.tmp 0), none, [], false, false⟩,
         ⟨(some 21), .call 20 [(.tmp 20)], none, [], false, false⟩,
         ⟨(some 22), .call 19 [(.tmp 21)], none, [], false, false⟩,
         ⟨(some 23), .move (.tmp 5), none, [], false, false⟩,
         ⟨(some 24), .bin .neq (.tmp 22) (.tmp 23), none, [], false, false⟩])
      (.cond (.tmp 24) (.seq (.region false [⟨(some 4), .move (.const (.bool false)), none, [], false, false⟩])
        (.ret))
       (.skip)))
     (.seq (.region true [⟨(some 25), .move (.tmp 0), none, [], false, false⟩,
         ⟨(some 26), .call 20 [(.tmp 25)], none, [], false, true⟩,
         ⟨(some 27), .load true 2 (.tmp 3), none, [], false, false⟩,
         ⟨(some 28), .buildSlice 2 1 [(.int .i64 0), (.int .i64 0)] [(0, 2, (.tmp 27))], none, [], false, false⟩,
         ⟨(some 29), .append 2 16 (.tmp 26) (.tmp 28), none, [], false, false⟩,
         ⟨(some 6), .move (.tmp 29), none, [], false, false⟩])
      (.seq (.region true [⟨(some 31), .move (.tmp 0), none, [], false, false⟩,
          ⟨(some 32), .call 20 [(.tmp 31)], none, [], false, true⟩,
          ⟨(some 33), .load true 2 (.tmp 3), none, [], false, false⟩,
          ⟨(some 34), .call 21 [(.tmp 32), (.tmp 33)], none, [], false, false⟩,
          ⟨(some 30), .move (.tmp 34), none, [], false, false⟩,
          ⟨(some 35), .extract (.tmp 30) 0, none, [], false, false⟩,
          ⟨(some 36), .extract (.tmp 30) 1, none, [], false, false⟩,
          ⟨(some 7), .move (.tmp 35), none, [], false, false⟩,
          ⟨(some 8), .move (.tmp 36), none, [], false, false⟩])
       (.seq (.seq (.region false [⟨(some 37), .move (.tmp 6), none, [], false, false⟩,
            ⟨(some 38), .call 18 [(.tmp 37)], none, [], false, false⟩,
            ⟨(some 9), .move (.tmp 38), none, [], false, false⟩])
         (.seq (.region false [⟨(some 39), .move (.tmp 9), none, [], false, false⟩,
             ⟨(some 40), .bin .neq (.tmp 39) (.const (.int .i64 0)), none, [], false, false⟩])
          (.cond (.tmp 40) (.seq (.region false [⟨(some 41), .move (.tmp 8), none, [], false, false⟩,
               ⟨(some 42), .move (.tmp 9), none, [], false, false⟩,
               ⟨(some 43), .bin .neq (.tmp 41) (.tmp 42), none, [], false, false⟩,
               ⟨(some 44), .move (.tmp 43), none, [], false, false⟩,
               ⟨(some 45), .move (.tmp 7), (some (44, false)), [], false, false⟩,
               ⟨(some 46), .len false (.tmp 45), (some (44, false)), [], false, false⟩,
               ⟨(some 47), .bin .neq (.tmp 46) (.const (.int .i64 0)), (some (44, false)), [], false, false⟩,
               ⟨(some 48), .pick (.tmp 44) (.const (.bool true)) (.tmp 47), none, [], false, false⟩])
            (.cond (.tmp 48) (.seq (.region false [⟨(some 4), .move (.const (.bool false)), none, [], false, false⟩])
              (.ret))
             (.skip)))
           (.seq (.seq (.region false [⟨(some 49), .move (.tmp 8), none, [], false, false⟩,
                ⟨(some 50), .bin .neq (.tmp 49) (.const (.int .i64 0)), none, [], false, false⟩,
                ⟨(some 51), .move (.tmp 50), none, [], false, false⟩,
                ⟨(some 52), .move (.tmp 7), (some (51, false)), [], false, false⟩,
                ⟨(some 53), .len false (.tmp 52), (some (51, false)), [], false, false⟩,
                ⟨(some 54), .move (.tmp 6), (some (51, false)), [], false, false⟩,
                ⟨(some 55), .len false (.tmp 54), (some (51, false)), [], false, false⟩,
                ⟨(some 56), .bin .neq (.tmp 53) (.tmp 55), (some (51, false)), [], false, false⟩,
                ⟨(some 57), .pick (.tmp 51) (.const (.bool true)) (.tmp 56), none, [], false, false⟩])
             (.cond (.tmp 57) (.seq (.region false [⟨(some 4), .move (.const (.bool false)), none, [], false, false⟩])
               (.ret))
              (.skip)))
            (.seq (.region false [⟨(some 10), .move (.const (.int .i64 0)), none, [], false, false⟩])
             (.block 0 (.loop (some [0, 3, 5, 6, 7, 10]) (
               .seq (.seq (.region false [⟨(some 58), .move (.tmp 10), none, [], false, false⟩,
                    ⟨(some 59), .move (.tmp 7), none, [], false, false⟩,
                    ⟨(some 60), .len false (.tmp 59), none, [], false, false⟩,
                    ⟨(some 61), .bin .lss (.tmp 58) (.tmp 60), none, [], false, false⟩])
                 (.cond (.tmp 61) (.skip)
                  (.exit 0)))
                (.seq (.block 1 (.seq (.region true [⟨(some 64), .move (.tmp 7), none, [], false, false⟩,
                      ⟨(some 65), .move (.tmp 10), none, [], false, false⟩,
                      ⟨(some 66), .indexAddr none 2 (.tmp 64) (.tmp 65), none, [], false, false⟩,
                      ⟨(some 67), .load true 2 (.tmp 66), none, [], false, false⟩,
                      ⟨(some 68), .move (.tmp 6), none, [], false, false⟩,
                      ⟨(some 69), .move (.tmp 10), none, [], false, false⟩,
                      ⟨(some 70), .indexAddr none 2 (.tmp 68) (.tmp 69), none, [], false, false⟩,
                      ⟨(some 71), .load true 2 (.tmp 70), none, [], false, false⟩,
                      ⟨(some 72), .eqAgg true [(.int .i64), (.int .i64)] (.tmp 67) (.tmp 71), none, [], false, false⟩])
                   (.cond (.tmp 72) (.seq (.region false [⟨(some 4), .move (.const (.bool false)), none, [], false, false⟩])
                     (.ret))
                    (.skip))))
                 (.region false [⟨(some 62), .move (.tmp 10), none, [], false, false⟩,
                    ⟨(some 63), .bin .add (.tmp 62) (.const (.int .i64 1)), none, [], false, false⟩,
                    ⟨(some 10), .move (.tmp 63), none, [], false, false⟩]))))))))))
        (.seq (.region true [⟨(some 74), .move (.tmp 0), none, [], false, false⟩,
            ⟨(some 75), .call 20 [(.tmp 74)], none, [], false, true⟩,
            ⟨(some 76), .fieldAddr 0 (.tmp 3), none, [], false, false⟩,
            ⟨(some 77), .load false 1 (.tmp 76), none, [], false, false⟩,
            ⟨(some 78), .call 22 [(.tmp 75), (.tmp 77)], none, [], false, false⟩,
            ⟨(some 73), .move (.tmp 78), none, [], false, false⟩,
            ⟨(some 79), .extract (.tmp 73) 0, none, [], false, false⟩,
            ⟨(some 80), .extract (.tmp 73) 1, none, [], false, false⟩,
            ⟨(some 11), .move (.tmp 79), none, [], false, false⟩,
            ⟨(some 12), .move (.tmp 80), none, [], false, false⟩])
         (.seq (.seq (.region false [⟨(some 81), .move (.tmp 5), none, [], false, false⟩,
              ⟨(some 82), .bin .eql (.tmp 81) (.const (.int .i64 0)), none, [], false, false⟩,
              ⟨(some 83), .move (.tmp 82), none, [], false, false⟩,
              ⟨(some 84), .fieldAddr 0 (.tmp 3), (some (83, true)), [], false, false⟩,
              ⟨(some 85), .load false 1 (.tmp 84), (some (83, true)), [], false, false⟩,
              ⟨(some 86), .call 23 [(.tmp 85)], (some (83, true)), [], false, false⟩,
              ⟨(some 87), .un .not (.tmp 86), (some (83, true)), [], false, false⟩,
              ⟨(some 88), .pick (.tmp 83) (.tmp 87) (.const (.bool false)), none, [], false, false⟩])
           (.cond (.tmp 88) (.region false [⟨(some 5), .move (.const (.int .i64 2)), none, [], false, false⟩])
            (.skip)))
          (.seq (.seq (.region false [⟨(some 89), .move (.tmp 5), none, [], false, false⟩,
               ⟨(some 90), .bin .neq (.tmp 89) (.const (.int .i64 0)), none, [], false, false⟩])
            (.cond (.tmp 90) (.seq (.region false [⟨(some 91), .move (.tmp 12), none, [], false, false⟩,
                 ⟨(some 92), .move (.tmp 5), none, [], false, false⟩,
                 ⟨(some 93), .bin .eql (.tmp 91) (.tmp 92), none, [], false, false⟩,
                 ⟨(some 94), .move (.tmp 93), none, [], false, false⟩,
                 ⟨(some 95), .move (.tmp 11), (some (94, true)), [], false, false⟩,
                 ⟨(some 96), .bin .eql (.tmp 95) (.const (.int .i64 0)), (some (94, true)), [], false, false⟩,
                 ⟨(some 97), .pick (.tmp 94) (.tmp 96) (.const (.bool false)), none, [], false, false⟩,
                 ⟨(some 4), .move (.tmp 97), none, [], false, false⟩])
              (.ret))
             (.skip)))
           (.seq (.region false [⟨(some 98), .move (.tmp 12), none, [], false, false⟩,
               ⟨(some 99), .bin .eql (.tmp 98) (.const (.int .i64 0)), none, [], false, false⟩,
               ⟨(some 100), .move (.tmp 99), none, [], false, false⟩,
               ⟨(some 101), .move (.tmp 11), (some (100, true)), [], false, false⟩,
               ⟨(some 102), .move (.tmp 0), (some (100, true)), [], false, false⟩,
               ⟨(some 103), .fieldAddr 0 (.tmp 3), (some (100, true)), [], false, false⟩,
               ⟨(some 104), .load false 1 (.tmp 103), (some (100, true)), [], false, false⟩,
               ⟨(some 105), .call 24 [(.tmp 102), (.tmp 104)], (some (100, true)), [], false, false⟩,
               ⟨(some 106), .bin .eql (.tmp 101) (.tmp 105), (some (100, true)), [], false, false⟩,
               ⟨(some 107), .pick (.tmp 100) (.tmp 106) (.const (.bool false)), none, [], false, false⟩,
               ⟨(some 4), .move (.tmp 107), none, [], false, false⟩])
            (.ret)))))))))))),
 [.tmp 4], .pure, 108⟩

/-- agraffe/agraffelaw07.UpkeepDrifts -/
def ef5 : EFun := ⟨
 .seq (.region false [⟨(some 3), .box (.tmp 0), none, [], false, false⟩,
    ⟨(some 6), .move (.const (.bool false)), none, [], false, false⟩])
 (.seq (.seq (.region false [⟨(some 14), .call 14 [], none, [], false, false⟩,
      ⟨(some 15), .un .not (.tmp 14), none, [], false, false⟩])
   (.cond (.tmp 15) (.seq (.region false [⟨(some 6), .move (.const (.bool false)), none, [], false, false⟩])
     (.ret))
    (.skip)))
  (.seq (.seq (.region false [⟨(some 16), .move (.tmp 1), none, [], false, false⟩,
       ⟨(some 17), .call 17 [(.tmp 16), (.const (.int .i64 10))], none, [], false, false⟩,
       ⟨(some 18), .un .not (.tmp 17), none, [], false, false⟩,
       ⟨(some 19), .move (.tmp 18), none, [], false, false⟩,
       ⟨(some 20), .move (.tmp 2), (some (19, false)), [], false, false⟩,
       ⟨(some 21), .bin .gtr (.tmp 20) (.const (.int .i64 400)), (some (19, false)), [], false, false⟩,
       ⟨(some 22), .move (.tmp 21), (some (19, false)), [], false, false⟩,
       ⟨(some 23), .move (.tmp 2), (some (22, true)), [], false, false⟩,
       ⟨(some 24), .bin .leq (.tmp 23) (.const (.int .i64 4000)), (some (22, true)), [], false, false⟩,
       ⟨(some 25), .pick (.tmp 22) (.tmp 24) (.const (.bool false)), (some (19, false)), [], false, false⟩,
       ⟨(some 26), .pick (.tmp 19) (.const (.bool true)) (.tmp 25), none, [], false, false⟩])
    (.cond (.tmp 26) (.seq (.region false [⟨(some 6), .move (.const (.bool true)), none, [], false, false⟩])
      (.ret))
     (.skip)))
   (.seq (.region true [⟨(some 28), .load true 4 (.tmp 3), none, [], false, false⟩,
       ⟨(some 29), .move (.tmp 1), none, [], false, false⟩,
       ⟨(some 30), .call 20 [(.tmp 29)], none, [], false, true⟩,
       ⟨(some 31), .move (.tmp 2), none, [], false, false⟩,
       ⟨(some 32), .call 25 [(.tmp 28), (.tmp 30), (.tmp 31)], none, [], false, false⟩,
       ⟨(some 27), .move (.tmp 32), none, [], false, false⟩,
       ⟨(some 33), .extract (.tmp 27) 0, none, [], false, false⟩,
       ⟨(some 34), .extract (.tmp 27) 1, none, [], false, false⟩,
       ⟨(some 7), .move (.tmp 33), none, [], false, false⟩,
       ⟨(some 8), .move (.tmp 34), none, [], false, false⟩])
    (.seq (.region true [⟨(some 36), .load true 4 (.tmp 3), none, [], false, false⟩,
        ⟨(some 37), .move (.tmp 1), none, [], false, false⟩,
        ⟨(some 38), .call 20 [(.tmp 37)], none, [], false, true⟩,
        ⟨(some 39), .move (.tmp 2), none, [], false, false⟩,
        ⟨(some 40), .call 26 [(.tmp 36), (.tmp 38), (.tmp 39)], none, [], false, false⟩,
        ⟨(some 35), .move (.tmp 40), none, [], false, false⟩,
        ⟨(some 41), .extract (.tmp 35) 0, none, [], false, false⟩,
        ⟨(some 42), .extract (.tmp 35) 1, none, [], false, false⟩,
        ⟨(some 9), .move (.tmp 41), none, [], false, false⟩,
        ⟨(some 10), .move (.tmp 42), none, [], false, false⟩])
     (.seq (.region true [⟨(some 44), .load true 4 (.tmp 3), none, [], false, false⟩,
         ⟨(some 45), .move (.tmp 1), none, [], false, false⟩,
         ⟨(some 46), .call 20 [(.tmp 45)], none, [], false, true⟩,
         ⟨(some 47), .move (.tmp 2), none, [], false, false⟩,
         ⟨(some 48), .call 27 [(.tmp 44), (.tmp 46), (.tmp 47)], none, [], false, false⟩,
         ⟨(some 43), .move (.tmp 48), none, [], false, false⟩,
         ⟨(some 49), .extract (.tmp 43) 0, none, [], false, false⟩,
         ⟨(some 50), .extract (.tmp 43) 1, none, [], false, false⟩,
         ⟨(some 11), .move (.tmp 49), none, [], false, false⟩,
         ⟨(some 12), .move (.tmp 50), none, [], false, false⟩])
      (.seq (.region false [⟨(some 51), .load true 4 (.tmp 3), none, [], false, false⟩,
          ⟨(some 52), .call 28 [(.tmp 51)], none, [], false, false⟩,
          ⟨(some 13), .move (.tmp 52), none, [], false, false⟩])
       (.seq (.seq (.region false [⟨(some 53), .load true 4 (.tmp 3), none, [], false, false⟩,
            ⟨(some 54), .call 29 [(.tmp 53)], none, [], false, false⟩,
            ⟨(some 55), .move (.tmp 13), none, [], false, false⟩,
            ⟨(some 56), .bin .neq (.tmp 54) (.tmp 55), none, [], false, false⟩])
         (.cond (.tmp 56) (.seq (.region false [⟨(some 6), .move (.const (.bool false)), none, [], false, false⟩])
           (.ret))
          (.skip)))
        (.seq (.seq (.region false [⟨(some 57), .move (.tmp 13), none, [], false, false⟩,
             ⟨(some 58), .bin .eql (.tmp 57) (.const (.int .i64 0)), none, [], false, false⟩])
          (.cond (.tmp 58) (.region false [⟨(some 59), .move (.tmp 1), none, [], false, false⟩,
              ⟨(some 60), .call 18 [(.tmp 59)], none, [], false, false⟩,
              ⟨(some 13), .move (.tmp 60), none, [], false, false⟩])
           (.skip)))
         (.seq (.seq (.region false [⟨(some 61), .move (.tmp 13), none, [], false, false⟩,
              ⟨(some 62), .bin .eql (.tmp 61) (.const (.int .i64 0)), none, [], false, false⟩,
              ⟨(some 63), .move (.tmp 62), none, [], false, false⟩,
              ⟨(some 64), .move (.tmp 2), (some (63, true)), [], false, false⟩,
              ⟨(some 65), .call 30 [(.tmp 64), (.const (.int .i64 0)), (.const (.int .i64 4000))], (some (63, true)), [], false, false⟩,
              ⟨(some 66), .un .not (.tmp 65), (some (63, true)), [], false, false⟩,
              ⟨(some 67), .pick (.tmp 63) (.tmp 66) (.const (.bool false)), none, [], false, false⟩])
           (.cond (.tmp 67) (.region false [⟨(some 13), .move (.const (.int .i64 2)), none, [], false, false⟩])
            (.skip)))
          (.seq (.seq (.region false [⟨(some 68), .move (.tmp 13), none, [], false, false⟩,
               ⟨(some 69), .bin .neq (.tmp 68) (.const (.int .i64 0)), none, [], false, false⟩])
            (.cond (.tmp 69) (.seq (.region false [⟨(some 70), .move (.tmp 8), none, [], false, false⟩,
                 ⟨(some 71), .move (.tmp 13), none, [], false, false⟩,
                 ⟨(some 72), .bin .eql (.tmp 70) (.tmp 71), none, [], false, false⟩,
                 ⟨(some 73), .move (.tmp 72), none, [], false, false⟩,
                 ⟨(some 74), .move (.tmp 10), (some (73, true)), [], false, false⟩,
                 ⟨(some 75), .move (.tmp 13), (some (73, true)), [], false, false⟩,
                 ⟨(some 76), .bin .eql (.tmp 74) (.tmp 75), (some (73, true)), [], false, false⟩,
                 ⟨(some 77), .pick (.tmp 73) (.tmp 76) (.const (.bool false)), none, [], false, false⟩,
                 ⟨(some 78), .move (.tmp 77), none, [], false, false⟩,
                 ⟨(some 79), .move (.tmp 12), (some (78, true)), [], false, false⟩,
                 ⟨(some 80), .move (.tmp 13), (some (78, true)), [], false, false⟩,
                 ⟨(some 81), .bin .eql (.tmp 79) (.tmp 80), (some (78, true)), [], false, false⟩,
                 ⟨(some 82), .pick (.tmp 78) (.tmp 81) (.const (.bool false)), none, [], false, false⟩,
                 ⟨(some 83), .move (.tmp 82), none, [], false, false⟩,
                 ⟨(some 84), .move (.tmp 7), (some (83, true)), [], false, false⟩,
                 ⟨(some 85), .bin .eql (.tmp 84) (.const (.int .i64 0)), (some (83, true)), [], false, false⟩,
                 ⟨(some 86), .pick (.tmp 83) (.tmp 85) (.const (.bool false)), none, [], false, false⟩,
                 ⟨(some 87), .move (.tmp 86), none, [], false, false⟩,
                 ⟨(some 88), .move (.tmp 9), (some (87, true)), [], false, false⟩,
                 ⟨(some 89), .bin .eql (.tmp 88) (.const (.int .i64 0)), (some (87, true)), [], false, false⟩,
                 ⟨(some 90), .pick (.tmp 87) (.tmp 89) (.const (.bool false)), none, [], false, false⟩,
                 ⟨(some 91), .move (.tmp 90), none, [], false, false⟩,
                 ⟨(some 92), .move (.tmp 11), (some (91, true)), [], false, false⟩,
                 ⟨(some 93), .bin .eql (.tmp 92) (.const (.int .i64 0)), (some (91, true)), [], false, false⟩,
                 ⟨(some 94), .pick (.tmp 91) (.tmp 93) (.const (.bool false)), none, [], false, false⟩,
                 ⟨(some 6), .move (.tmp 94), none, [], false, false⟩])
              (.ret))
             (.skip)))
           (.seq (.seq (.region false [⟨(some 95), .move (.tmp 8), none, [], false, false⟩,
                ⟨(some 96), .bin .neq (.tmp 95) (.const (.int .i64 0)), none, [], false, false⟩,
                ⟨(some 97), .move (.tmp 96), none, [], false, false⟩,
                ⟨(some 98), .move (.tmp 7), (some (97, false)), [], false, false⟩,
                ⟨(some 99), .load true 4 (.tmp 3), (some (97, false)), [], false, false⟩,
                ⟨(some 100), .move (.tmp 1), (some (97, false)), [], false, false⟩,
                ⟨(some 101), .move (.tmp 2), (some (97, false)), [], false, false⟩,
                ⟨(some 102), .call 31 [(.tmp 99), (.tmp 100), (.tmp 101)], (some (97, false)), [], false, false⟩,
                ⟨(some 103), .bin .neq (.tmp 98) (.tmp 102), (some (97, false)), [], false, false⟩,
                ⟨(some 104), .pick (.tmp 97) (.const (.bool true)) (.tmp 103), none, [], false, false⟩,
                ⟨(some 105), .move (.tmp 104), none, [], false, false⟩,
                ⟨(some 106), .move (.tmp 10), (some (105, false)), [], false, false⟩,
                ⟨(some 107), .bin .neq (.tmp 106) (.const (.int .i64 0)), (some (105, false)), [], false, false⟩,
                ⟨(some 108), .pick (.tmp 105) (.const (.bool true)) (.tmp 107), none, [], false, false⟩,
                ⟨(some 109), .move (.tmp 108), none, [], false, false⟩,
                ⟨(some 110), .move (.tmp 9), (some (109, false)), [], false, false⟩,
                ⟨(some 111), .load true 4 (.tmp 3), (some (109, false)), [], false, false⟩,
                ⟨(some 112), .move (.tmp 1), (some (109, false)), [], false, false⟩,
                ⟨(some 113), .move (.tmp 2), (some (109, false)), [], false, false⟩,
                ⟨(some 114), .call 32 [(.tmp 111), (.tmp 112), (.tmp 113)], (some (109, false)), [], false, false⟩,
                ⟨(some 115), .bin .neq (.tmp 110) (.tmp 114), (some (109, false)), [], false, false⟩,
                ⟨(some 116), .pick (.tmp 109) (.const (.bool true)) (.tmp 115), none, [], false, false⟩])
             (.cond (.tmp 116) (.seq (.region false [⟨(some 6), .move (.const (.bool false)), none, [], false, false⟩])
               (.ret))
              (.skip)))
            (.seq (.seq (.region false [⟨(some 117), .move (.tmp 2), none, [], false, false⟩,
                 ⟨(some 118), .bin .eql (.tmp 117) (.const (.int .i64 0)), none, [], false, false⟩])
              (.cond (.tmp 118) (.seq (.region false [⟨(some 119), .move (.tmp 12), none, [], false, false⟩,
                   ⟨(some 120), .bin .eql (.tmp 119) (.const (.int .i64 2)), none, [], false, false⟩,
                   ⟨(some 121), .move (.tmp 120), none, [], false, false⟩,
                   ⟨(some 122), .move (.tmp 11), (some (121, true)), [], false, false⟩,
                   ⟨(some 123), .bin .eql (.tmp 122) (.const (.int .i64 0)), (some (121, true)), [], false, false⟩,
                   ⟨(some 124), .pick (.tmp 121) (.tmp 123) (.const (.bool false)), none, [], false, false⟩,
                   ⟨(some 6), .move (.tmp 124), none, [], false, false⟩])
                (.ret))
               (.skip)))
             (.seq (.region false [⟨(some 125), .move (.tmp 12), none, [], false, false⟩,
                 ⟨(some 126), .bin .eql (.tmp 125) (.const (.int .i64 0)), none, [], false, false⟩,
                 ⟨(some 127), .move (.tmp 126), none, [], false, false⟩,
                 ⟨(some 128), .move (.tmp 11), (some (127, true)), [], false, false⟩,
                 ⟨(some 129), .load true 4 (.tmp 3), (some (127, true)), [], false, false⟩,
                 ⟨(some 130), .move (.tmp 1), (some (127, true)), [], false, false⟩,
                 ⟨(some 131), .move (.tmp 2), (some (127, true)), [], false, false⟩,
                 ⟨(some 132), .call 33 [(.tmp 129), (.tmp 130), (.tmp 131)], (some (127, true)), [], false, false⟩,
                 ⟨(some 133), .bin .eql (.tmp 128) (.tmp 132), (some (127, true)), [], false, false⟩,
                 ⟨(some 134), .pick (.tmp 127) (.tmp 133) (.const (.bool false)), none, [], false, false⟩,
                 ⟨(some 6), .move (.tmp 134), none, [], false, false⟩])
              (.ret)))))))))))))),
 [.tmp 6], .pure, 135⟩

/-- agraffe/agraffelaw07.UpkeepMonotone -/
def ef6 : EFun := ⟨
 .seq (.region false [⟨(some 2), .box (.tmp 0), none, [], false, false⟩,
    ⟨(some 3), .box (.tmp 1), none, [], false, false⟩,
    ⟨(some 4), .move (.const (.bool false)), none, [], false, false⟩])
 (.seq (.seq (.region false [⟨(some 23), .call 14 [], none, [], false, false⟩,
      ⟨(some 24), .un .not (.tmp 23), none, [], false, false⟩])
   (.cond (.tmp 24) (.seq (.region false [⟨(some 4), .move (.const (.bool false)), none, [], false, false⟩])
     (.ret))
    (.skip)))
  (.seq (.seq (.region false [⟨(some 25), .fieldAddr 0 (.tmp 3), none, [], false, false⟩,
       ⟨(some 26), .load false 1 (.tmp 25), none, [], false, false⟩,
       ⟨(some 27), .len false (.tmp 26), none, [], false, false⟩,
       ⟨(some 28), .bin .gtr (.tmp 27) (.const (.int .i64 10)), none, [], false, false⟩,
       ⟨(some 29), .move (.tmp 28), none, [], false, false⟩,
       ⟨(some 30), .fieldAddr 1 (.tmp 3), (some (29, false)), [], false, false⟩,
       ⟨(some 31), .load false 1 (.tmp 30), (some (29, false)), [], false, false⟩,
       ⟨(some 32), .len false (.tmp 31), (some (29, false)), [], false, false⟩,
       ⟨(some 33), .fieldAddr 0 (.tmp 3), (some (29, false)), [], false, false⟩,
       ⟨(some 34), .load false 1 (.tmp 33), (some (29, false)), [], false, false⟩,
       ⟨(some 35), .len false (.tmp 34), (some (29, false)), [], false, false⟩,
       ⟨(some 36), .bin .neq (.tmp 32) (.tmp 35), (some (29, false)), [], false, false⟩,
       ⟨(some 37), .pick (.tmp 29) (.const (.bool true)) (.tmp 36), none, [], false, false⟩,
       ⟨(some 38), .move (.tmp 37), none, [], false, false⟩,
       ⟨(some 39), .fieldAddr 2 (.tmp 3), (some (38, false)), [], false, false⟩,
       ⟨(some 40), .load false 1 (.tmp 39), (some (38, false)), [], false, false⟩,
       ⟨(some 41), .call 30 [(.tmp 40), (.const (.int .i64 1)), (.const (.int .i64 400))], (some (38, false)), [], false, false⟩,
       ⟨(some 42), .un .not (.tmp 41), (some (38, false)), [], false, false⟩,
       ⟨(some 43), .pick (.tmp 38) (.const (.bool true)) (.tmp 42), none, [], false, false⟩,
       ⟨(some 44), .move (.tmp 43), none, [], false, false⟩,
       ⟨(some 45), .load true 4 (.tmp 2), (some (44, false)), [], false, false⟩,
       ⟨(some 46), .call 29 [(.tmp 45)], (some (44, false)), [], false, false⟩,
       ⟨(some 47), .bin .neq (.tmp 46) (.const (.int .i64 0)), (some (44, false)), [], false, false⟩,
       ⟨(some 48), .pick (.tmp 44) (.const (.bool true)) (.tmp 47), none, [], false, false⟩,
       ⟨(some 49), .move (.tmp 48), none, [], false, false⟩,
       ⟨(some 50), .fieldAddr 0 (.tmp 3), (some (49, false)), [], false, false⟩,
       ⟨(some 51), .load false 1 (.tmp 50), (some (49, false)), [], false, false⟩,
       ⟨(some 52), .call 20 [(.tmp 51)], (some (49, false)), [], false, false⟩,
       ⟨(some 53), .call 19 [(.tmp 52)], (some (49, false)), [], false, false⟩,
       ⟨(some 54), .bin .neq (.tmp 53) (.const (.int .i64 0)), (some (49, false)), [], false, false⟩,
       ⟨(some 55), .pick (.tmp 49) (.const (.bool true)) (.tmp 54), none, [], false, false⟩])
    (.cond (.tmp 55) (.seq (.region false [⟨(some 4), .move (.const (.bool true)), none, [], false, false⟩])
      (.ret))
     (.skip)))
   (.seq (.region false [⟨(some 56), .fieldAddr 0 (.tmp 3), none, [], false, false⟩,
       ⟨(some 57), .load false 1 (.tmp 56), none, [], false, false⟩,
       ⟨(some 58), .call 20 [(.tmp 57)], none, [], false, false⟩,
       ⟨(some 5), .move (.tmp 58), none, [], false, false⟩,
       ⟨(some 6), .move (.const (.bool true)), none, [], false, false⟩])
    (.seq (.seq (.region false [⟨(some 7), .move (.const (.int .i64 0)), none, [], false, false⟩])
      (.block 0 (.loop (some [2, 3, 5, 6, 7]) (
        .seq (.seq (.region false [⟨(some 59), .move (.tmp 7), none, [], false, false⟩,
             ⟨(some 60), .move (.tmp 5), none, [], false, false⟩,
             ⟨(some 61), .len false (.tmp 60), none, [], false, false⟩,
             ⟨(some 62), .bin .lss (.tmp 59) (.tmp 61), none, [], false, false⟩])
          (.cond (.tmp 62) (.skip)
           (.exit 0)))
         (.seq (.block 1 (.seq (.seq (.region false [⟨(some 65), .fieldAddr 1 (.tmp 3), none, [], false, false⟩,
                ⟨(some 66), .load false 1 (.tmp 65), none, [], false, false⟩,
                ⟨(some 67), .move (.tmp 7), none, [], false, false⟩,
                ⟨(some 68), .indexAddr none 1 (.tmp 66) (.tmp 67), none, [], false, false⟩,
                ⟨(some 69), .load false 1 (.tmp 68), none, [], false, false⟩,
                ⟨(some 70), .call 30 [(.tmp 69), (.const (.int .i64 0)), (.const (.int .i64 1000))], none, [], false, false⟩,
                ⟨(some 71), .un .not (.tmp 70), none, [], false, false⟩])
             (.cond (.tmp 71) (.seq (.region false [⟨(some 4), .move (.const (.bool true)), none, [], false, false⟩])
               (.ret))
              (.skip)))
            (.seq (.region true [⟨(some 72), .move (.tmp 6), none, [], false, false⟩,
                ⟨(some 73), .move (.tmp 72), none, [], false, false⟩,
                ⟨(some 74), .move (.tmp 5), (some (73, true)), [], false, false⟩,
                ⟨(some 75), .move (.tmp 7), (some (73, true)), [], false, false⟩,
                ⟨(some 76), .indexAddr none 2 (.tmp 74) (.tmp 75), (some (73, true)), [], false, false⟩,
                ⟨(some 77), .fieldAddr 1 (.tmp 76), (some (73, true)), [], false, false⟩,
                ⟨(some 78), .load false 1 (.tmp 77), (some (73, true)), [], false, false⟩,
                ⟨(some 79), .fieldAddr 0 (.tmp 2), (some (73, true)), [], false, false⟩,
                ⟨(some 80), .load false 1 (.tmp 79), (some (73, true)), [], false, false⟩,
                ⟨(some 81), .bin .geq (.tmp 78) (.tmp 80), (some (73, true)), [], false, false⟩,
                ⟨(some 82), .pick (.tmp 73) (.tmp 81) (.const (.bool false)), none, [], false, false⟩,
                ⟨(some 6), .move (.tmp 82), none, [], false, false⟩])
             (.region true [⟨(some 83), .move (.tmp 5), none, [], false, false⟩,
                ⟨(some 84), .move (.tmp 7), none, [], false, false⟩,
                ⟨(some 85), .move (.tmp 5), none, [], false, false⟩,
                ⟨(some 86), .move (.tmp 7), none, [], false, false⟩,
                ⟨(some 87), .indexAddr none 2 (.tmp 85) (.tmp 86), none, [], false, false⟩,
                ⟨(some 88), .fieldAddr 1 (.tmp 87), none, [], false, false⟩,
                ⟨(some 89), .load false 1 (.tmp 88), none, [], false, false⟩,
                ⟨(some 90), .fieldAddr 1 (.tmp 3), none, [], false, false⟩,
                ⟨(some 91), .load false 1 (.tmp 90), none, [], false, false⟩,
                ⟨(some 92), .move (.tmp 7), none, [], false, false⟩,
                ⟨(some 93), .indexAddr none 1 (.tmp 91) (.tmp 92), none, [], false, false⟩,
                ⟨(some 94), .load false 1 (.tmp 93), none, [], false, false⟩,
                ⟨(some 95), .bin .add (.tmp 89) (.tmp 94), none, [], false, false⟩,
                ⟨(some 96), .min [(.const (.int .i64 1000)), (.tmp 95)], none, [], false, false⟩,
                ⟨(some 97), .indexAddr none 2 (.tmp 83) (.tmp 84), none, [], false, false⟩,
                ⟨(some 98), .fieldAddr 1 (.tmp 97), none, [], false, false⟩,
                ⟨none, .store 1 (.tmp 98) (.tmp 96), none, [], false, false⟩]))))
          (.region false [⟨(some 63), .move (.tmp 7), none, [], false, false⟩,
             ⟨(some 64), .bin .add (.tmp 63) (.const (.int .i64 1)), none, [], false, false⟩,
             ⟨(some 7), .move (.tmp 64), none, [], false, false⟩]))))))
     (.seq (.region true [⟨(some 100), .load true 4 (.tmp 2), none, [], false, false⟩,
         ⟨(some 101), .fieldAddr 0 (.tmp 3), none, [], false, false⟩,
         ⟨(some 102), .load false 1 (.tmp 101), none, [], false, false⟩,
         ⟨(some 103), .call 20 [(.tmp 102)], none, [], false, true⟩,
         ⟨(some 104), .fieldAddr 2 (.tmp 3), none, [], false, false⟩,
         ⟨(some 105), .load false 1 (.tmp 104), none, [], false, false⟩,
         ⟨(some 106), .call 25 [(.tmp 100), (.tmp 103), (.tmp 105)], none, [], false, false⟩,
         ⟨(some 99), .move (.tmp 106), none, [], false, false⟩,
         ⟨(some 107), .extract (.tmp 99) 0, none, [], false, false⟩,
         ⟨(some 108), .extract (.tmp 99) 1, none, [], false, false⟩,
         ⟨(some 8), .move (.tmp 107), none, [], false, false⟩,
         ⟨(some 9), .move (.tmp 108), none, [], false, false⟩])
      (.seq (.region true [⟨(some 110), .load true 4 (.tmp 2), none, [], false, false⟩,
          ⟨(some 111), .move (.tmp 5), none, [], false, false⟩,
          ⟨(some 112), .call 20 [(.tmp 111)], none, [], false, true⟩,
          ⟨(some 113), .fieldAddr 2 (.tmp 3), none, [], false, false⟩,
          ⟨(some 114), .load false 1 (.tmp 113), none, [], false, false⟩,
          ⟨(some 115), .call 25 [(.tmp 110), (.tmp 112), (.tmp 114)], none, [], false, false⟩,
          ⟨(some 109), .move (.tmp 115), none, [], false, false⟩,
          ⟨(some 116), .extract (.tmp 109) 0, none, [], false, false⟩,
          ⟨(some 117), .extract (.tmp 109) 1, none, [], false, false⟩,
          ⟨(some 10), .move (.tmp 116), none, [], false, false⟩,
          ⟨(some 11), .move (.tmp 117), none, [], false, false⟩])
       (.seq (.region true [⟨(some 119), .load true 4 (.tmp 2), none, [], false, false⟩,
           ⟨(some 120), .fieldAddr 0 (.tmp 3), none, [], false, false⟩,
           ⟨(some 121), .load false 1 (.tmp 120), none, [], false, false⟩,
           ⟨(some 122), .call 20 [(.tmp 121)], none, [], false, true⟩,
           ⟨(some 123), .fieldAddr 2 (.tmp 3), none, [], false, false⟩,
           ⟨(some 124), .load false 1 (.tmp 123), none, [], false, false⟩,
           ⟨(some 125), .call 26 [(.tmp 119), (.tmp 122), (.tmp 124)], none, [], false, false⟩,
           ⟨(some 118), .move (.tmp 125), none, [], false, false⟩,
           ⟨(some 126), .extract (.tmp 118) 0, none, [], false, false⟩,
           ⟨(some 127), .extract (.tmp 118) 1, none, [], false, false⟩,
           ⟨(some 12), .move (.tmp 126), none, [], false, false⟩,
           ⟨(some 13), .move (.tmp 127), none, [], false, false⟩])
        (.seq (.region true [⟨(some 129), .load true 4 (.tmp 2), none, [], false, false⟩,
            ⟨(some 130), .move (.tmp 5), none, [], false, false⟩,
            ⟨(some 131), .call 20 [(.tmp 130)], none, [], false, true⟩,
            ⟨(some 132), .fieldAddr 2 (.tmp 3), none, [], false, false⟩,
            ⟨(some 133), .load false 1 (.tmp 132), none, [], false, false⟩,
            ⟨(some 134), .call 26 [(.tmp 129), (.tmp 131), (.tmp 133)], none, [], false, false⟩,
            ⟨(some 128), .move (.tmp 134), none, [], false, false⟩,
            ⟨(some 135), .extract (.tmp 128) 0, none, [], false, false⟩,
            ⟨(some 136), .extract (.tmp 128) 1, none, [], false, false⟩,
            ⟨(some 14), .move (.tmp 135), none, [], false, false⟩,
            ⟨(some 15), .move (.tmp 136), none, [], false, false⟩])
         (.seq (.region true [⟨(some 138), .load true 4 (.tmp 2), none, [], false, false⟩,
             ⟨(some 139), .fieldAddr 0 (.tmp 3), none, [], false, false⟩,
             ⟨(some 140), .load false 1 (.tmp 139), none, [], false, false⟩,
             ⟨(some 141), .call 20 [(.tmp 140)], none, [], false, true⟩,
             ⟨(some 142), .fieldAddr 2 (.tmp 3), none, [], false, false⟩,
             ⟨(some 143), .load false 1 (.tmp 142), none, [], false, false⟩,
             ⟨(some 144), .call 27 [(.tmp 138), (.tmp 141), (.tmp 143)], none, [], false, false⟩,
             ⟨(some 137), .move (.tmp 144), none, [], false, false⟩,
             ⟨(some 145), .extract (.tmp 137) 0, none, [], false, false⟩,
             ⟨(some 146), .extract (.tmp 137) 1, none, [], false, false⟩,
             ⟨(some 16), .move (.tmp 145), none, [], false, false⟩,
             ⟨(some 17), .move (.tmp 146), none, [], false, false⟩])
          (.seq (.region true [⟨(some 148), .load true 4 (.tmp 2), none, [], false, false⟩,
              ⟨(some 149), .move (.tmp 5), none, [], false, false⟩,
              ⟨(some 150), .call 20 [(.tmp 149)], none, [], false, true⟩,
              ⟨(some 151), .fieldAddr 2 (.tmp 3), none, [], false, false⟩,
              ⟨(some 152), .load false 1 (.tmp 151), none, [], false, false⟩,
              ⟨(some 153), .call 27 [(.tmp 148), (.tmp 150), (.tmp 152)], none, [], false, false⟩,
              ⟨(some 147), .move (.tmp 153), none, [], false, false⟩,
              ⟨(some 154), .extract (.tmp 147) 0, none, [], false, false⟩,
              ⟨(some 155), .extract (.tmp 147) 1, none, [], false, false⟩,
              ⟨(some 18), .move (.tmp 154), none, [], false, false⟩,
              ⟨(some 19), .move (.tmp 155), none, [], false, false⟩])
           (.seq (.seq (.region false [⟨(some 156), .move (.tmp 9), none, [], false, false⟩,
                ⟨(some 157), .bin .neq (.tmp 156) (.const (.int .i64 0)), none, [], false, false⟩,
                ⟨(some 158), .move (.tmp 157), none, [], false, false⟩,
                ⟨(some 159), .move (.tmp 11), (some (158, false)), [], false, false⟩,
                ⟨(some 160), .bin .neq (.tmp 159) (.const (.int .i64 0)), (some (158, false)), [], false, false⟩,
                ⟨(some 161), .pick (.tmp 158) (.const (.bool true)) (.tmp 160), none, [], false, false⟩,
                ⟨(some 162), .move (.tmp 161), none, [], false, false⟩,
                ⟨(some 163), .move (.tmp 13), (some (162, false)), [], false, false⟩,
                ⟨(some 164), .bin .neq (.tmp 163) (.const (.int .i64 0)), (some (162, false)), [], false, false⟩,
                ⟨(some 165), .pick (.tmp 162) (.const (.bool true)) (.tmp 164), none, [], false, false⟩,
                ⟨(some 166), .move (.tmp 165), none, [], false, false⟩,
                ⟨(some 167), .move (.tmp 15), (some (166, false)), [], false, false⟩,
                ⟨(some 168), .bin .neq (.tmp 167) (.const (.int .i64 0)), (some (166, false)), [], false, false⟩,
                ⟨(some 169), .pick (.tmp 166) (.const (.bool true)) (.tmp 168), none, [], false, false⟩,
                ⟨(some 170), .move (.tmp 169), none, [], false, false⟩,
                ⟨(some 171), .move (.tmp 17), (some (170, false)), [], false, false⟩,
                ⟨(some 172), .bin .neq (.tmp 171) (.const (.int .i64 0)), (some (170, false)), [], false, false⟩,
                ⟨(some 173), .pick (.tmp 170) (.const (.bool true)) (.tmp 172), none, [], false, false⟩,
                ⟨(some 174), .move (.tmp 173), none, [], false, false⟩,
                ⟨(some 175), .move (.tmp 19), (some (174, false)), [], false, false⟩,
                ⟨(some 176), .bin .neq (.tmp 175) (.const (.int .i64 0)), (some (174, false)), [], false, false⟩,
                ⟨(some 177), .pick (.tmp 174) (.const (.bool true)) (.tmp 176), none, [], false, false⟩])
             (.cond (.tmp 177) (.seq (.region false [⟨(some 4), .move (.const (.bool false)), none, [], false, false⟩])
               (.ret))
              (.skip)))
            (.seq (.seq (.region false [⟨(some 178), .move (.tmp 8), none, [], false, false⟩,
                 ⟨(some 179), .move (.tmp 10), none, [], false, false⟩,
                 ⟨(some 180), .bin .gtr (.tmp 178) (.tmp 179), none, [], false, false⟩,
                 ⟨(some 181), .move (.tmp 180), none, [], false, false⟩,
                 ⟨(some 182), .move (.tmp 12), (some (181, false)), [], false, false⟩,
                 ⟨(some 183), .move (.tmp 14), (some (181, false)), [], false, false⟩,
                 ⟨(some 184), .bin .gtr (.tmp 182) (.tmp 183), (some (181, false)), [], false, false⟩,
                 ⟨(some 185), .pick (.tmp 181) (.const (.bool true)) (.tmp 184), none, [], false, false⟩,
                 ⟨(some 186), .move (.tmp 185), none, [], false, false⟩,
                 ⟨(some 187), .move (.tmp 6), (some (186, false)), [], false, false⟩,
                 ⟨(some 188), .move (.tmp 187), (some (186, false)), [], false, false⟩,
                 ⟨(some 189), .move (.tmp 16), (some (188, true)), [], false, false⟩,
                 ⟨(some 190), .move (.tmp 18), (some (188, true)), [], false, false⟩,
                 ⟨(some 191), .bin .lss (.tmp 189) (.tmp 190), (some (188, true)), [], false, false⟩,
                 ⟨(some 192), .pick (.tmp 188) (.tmp 191) (.const (.bool false)), (some (186, false)), [], false, false⟩,
                 ⟨(some 193), .pick (.tmp 186) (.const (.bool true)) (.tmp 192), none, [], false, false⟩])
              (.cond (.tmp 193) (.seq (.region false [⟨(some 4), .move (.const (.bool false)), none, [], false, false⟩])
                (.ret))
               (.skip)))
             (.seq (.region false [⟨(some 194), .load true 4 (.tmp 2), none, [], false, false⟩,
                 ⟨(some 20), .push [(.int .i64 0), (.int .i64 0), (.int .i64 0), (.int .i64 0)], none, [], false, false⟩,
                 ⟨none, .store 4 (.tmp 20) (.tmp 194), none, [], false, false⟩])
              (.seq (.region false [⟨(some 195), .fieldAddr 3 (.tmp 20), none, [], false, false⟩,
                  ⟨(some 196), .load false 1 (.tmp 195), none, [], false, false⟩,
                  ⟨(some 197), .bin .add (.tmp 196) (.const (.int .i64 1)), none, [], false, false⟩,
                  ⟨(some 198), .fieldAddr 3 (.tmp 20), none, [], false, false⟩,
                  ⟨none, .store 1 (.tmp 198) (.tmp 197), none, [], false, false⟩])
               (.seq (.region true [⟨(some 200), .load true 4 (.tmp 20), none, [], false, false⟩,
                   ⟨(some 201), .fieldAddr 0 (.tmp 3), none, [], false, false⟩,
                   ⟨(some 202), .load false 1 (.tmp 201), none, [], false, false⟩,
                   ⟨(some 203), .call 20 [(.tmp 202)], none, [], false, true⟩,
                   ⟨(some 204), .fieldAddr 2 (.tmp 3), none, [], false, false⟩,
                   ⟨(some 205), .load false 1 (.tmp 204), none, [], false, false⟩,
                   ⟨(some 206), .call 27 [(.tmp 200), (.tmp 203), (.tmp 205)], none, [], false, false⟩,
                   ⟨(some 199), .move (.tmp 206), none, [], false, false⟩,
                   ⟨(some 207), .extract (.tmp 199) 0, none, [], false, false⟩,
                   ⟨(some 208), .extract (.tmp 199) 1, none, [], false, false⟩,
                   ⟨(some 21), .move (.tmp 207), none, [], false, false⟩,
                   ⟨(some 22), .move (.tmp 208), none, [], false, false⟩])
                (.seq (.region false [⟨(some 209), .move (.tmp 22), none, [], false, false⟩,
                    ⟨(some 210), .bin .eql (.tmp 209) (.const (.int .i64 0)), none, [], false, false⟩,
                    ⟨(some 211), .move (.tmp 210), none, [], false, false⟩,
                    ⟨(some 212), .move (.tmp 21), (some (211, true)), [], false, false⟩,
                    ⟨(some 213), .move (.tmp 16), (some (211, true)), [], false, false⟩,
                    ⟨(some 214), .bin .geq (.tmp 212) (.tmp 213), (some (211, true)), [], false, false⟩,
                    ⟨(some 215), .pick (.tmp 211) (.tmp 214) (.const (.bool false)), none, [], false, false⟩,
                    ⟨(some 216), .move (.tmp 215), none, [], false, false⟩,
                    ⟨(some 217), .move (.tmp 22), (some (216, false)), [], false, false⟩,
                    ⟨(some 218), .bin .eql (.tmp 217) (.const (.int .i64 2)), (some (216, false)), [], false, false⟩,
                    ⟨(some 219), .move (.tmp 218), (some (216, false)), [], false, false⟩,
                    ⟨(some 220), .fieldAddr 3 (.tmp 20), (some (219, true)), [], false, false⟩,
                    ⟨(some 221), .load false 1 (.tmp 220), (some (219, true)), [], false, false⟩,
                    ⟨(some 222), .bin .gtr (.tmp 221) (.const (.int .i64 1000000)), (some (219, true)), [], false, false⟩,
                    ⟨(some 223), .pick (.tmp 219) (.tmp 222) (.const (.bool false)), (some (216, false)), [], false, false⟩,
                    ⟨(some 224), .pick (.tmp 216) (.const (.bool true)) (.tmp 223), none, [], false, false⟩,
                    ⟨(some 4), .move (.tmp 224), none, [], false, false⟩])
                 (.ret))))))))))))))))),
 [.tmp 4], .pure, 225⟩

/-- agraffe/agraffelaw07.UpkeepOverpulls -/
def ef7 : EFun := ⟨
 .seq (.region false [⟨(some 4), .move (.const (.bool false)), none, [], false, false⟩])
 (.seq (.seq (.region false [⟨(some 8), .call 14 [], none, [], false, false⟩,
      ⟨(some 9), .un .not (.tmp 8), none, [], false, false⟩])
   (.cond (.tmp 9) (.seq (.region false [⟨(some 4), .move (.const (.bool false)), none, [], false, false⟩])
     (.ret))
    (.skip)))
  (.seq (.seq (.region false [⟨(some 10), .move (.tmp 0), none, [], false, false⟩,
       ⟨(some 11), .len false (.tmp 10), none, [], false, false⟩,
       ⟨(some 12), .bin .gtr (.tmp 11) (.const (.int .i64 23)), none, [], false, false⟩])
    (.cond (.tmp 12) (.seq (.region false [⟨(some 4), .move (.const (.bool true)), none, [], false, false⟩])
      (.ret))
     (.skip)))
   (.seq (.region false [⟨(some 14), .buildSlice 3 0 [] [], none, [], false, false⟩,
       ⟨(some 15), .move (.tmp 0), none, [], false, false⟩,
       ⟨(some 16), .append 3 24 (.tmp 14) (.tmp 15), none, [], false, false⟩,
       ⟨(some 17), .move (.tmp 1), none, [], false, false⟩,
       ⟨(some 18), .call 34 [(.tmp 16), (.tmp 17)], none, [], false, false⟩,
       ⟨(some 13), .move (.tmp 18), none, [], false, false⟩,
       ⟨(some 19), .extract (.tmp 13) 0, none, [], false, false⟩,
       ⟨(some 20), .extract (.tmp 13) 1, none, [], false, false⟩,
       ⟨(some 5), .move (.tmp 19), none, [], false, false⟩,
       ⟨(some 6), .move (.tmp 20), none, [], false, false⟩])
    (.seq (.region false [⟨(some 21), .move (.tmp 0), none, [], false, false⟩,
        ⟨(some 22), .call 35 [(.tmp 21)], none, [], false, false⟩,
        ⟨(some 7), .move (.tmp 22), none, [], false, false⟩])
     (.seq (.seq (.region false [⟨(some 23), .buildSlice 3 0 [] [], none, [], false, false⟩,
          ⟨(some 24), .move (.tmp 0), none, [], false, false⟩,
          ⟨(some 25), .append 3 24 (.tmp 23) (.tmp 24), none, [], false, false⟩,
          ⟨(some 26), .call 36 [(.tmp 25)], none, [], false, false⟩,
          ⟨(some 27), .move (.tmp 7), none, [], false, false⟩,
          ⟨(some 28), .bin .neq (.tmp 26) (.tmp 27), none, [], false, false⟩])
       (.cond (.tmp 28) (.seq (.region false [⟨(some 4), .move (.const (.bool false)), none, [], false, false⟩])
         (.ret))
        (.skip)))
      (.seq (.seq (.region false [⟨(some 29), .move (.tmp 7), none, [], false, false⟩,
           ⟨(some 30), .bin .eql (.tmp 29) (.const (.int .i64 0)), none, [], false, false⟩,
           ⟨(some 31), .move (.tmp 30), none, [], false, false⟩,
           ⟨(some 32), .move (.tmp 1), (some (31, true)), [], false, false⟩,
           ⟨(some 33), .call 37 [(.tmp 32)], (some (31, true)), [], false, false⟩,
           ⟨(some 34), .un .not (.tmp 33), (some (31, true)), [], false, false⟩,
           ⟨(some 35), .pick (.tmp 31) (.tmp 34) (.const (.bool false)), none, [], false, false⟩])
        (.cond (.tmp 35) (.region false [⟨(some 7), .move (.const (.int .i64 2)), none, [], false, false⟩])
         (.skip)))
       (.seq (.seq (.region false [⟨(some 36), .move (.tmp 7), none, [], false, false⟩,
            ⟨(some 37), .bin .neq (.tmp 36) (.const (.int .i64 0)), none, [], false, false⟩])
         (.cond (.tmp 37) (.seq (.region false [⟨(some 38), .move (.tmp 6), none, [], false, false⟩,
              ⟨(some 39), .move (.tmp 7), none, [], false, false⟩,
              ⟨(some 40), .bin .eql (.tmp 38) (.tmp 39), none, [], false, false⟩,
              ⟨(some 41), .move (.tmp 40), none, [], false, false⟩,
              ⟨(some 42), .move (.tmp 5), (some (41, true)), [], false, false⟩,
              ⟨(some 43), .bin .eql (.tmp 42) (.const (.int .i64 0)), (some (41, true)), [], false, false⟩,
              ⟨(some 44), .pick (.tmp 41) (.tmp 43) (.const (.bool false)), none, [], false, false⟩,
              ⟨(some 4), .move (.tmp 44), none, [], false, false⟩])
           (.ret))
          (.skip)))
        (.seq (.region false [⟨(some 45), .move (.tmp 6), none, [], false, false⟩,
            ⟨(some 46), .bin .eql (.tmp 45) (.const (.int .i64 0)), none, [], false, false⟩,
            ⟨(some 47), .move (.tmp 46), none, [], false, false⟩,
            ⟨(some 48), .move (.tmp 5), (some (47, true)), [], false, false⟩,
            ⟨(some 49), .move (.tmp 0), (some (47, true)), [], false, false⟩,
            ⟨(some 50), .move (.tmp 1), (some (47, true)), [], false, false⟩,
            ⟨(some 51), .call 38 [(.tmp 49), (.tmp 50)], (some (47, true)), [], false, false⟩,
            ⟨(some 52), .bin .eql (.tmp 48) (.tmp 51), (some (47, true)), [], false, false⟩,
            ⟨(some 53), .pick (.tmp 47) (.tmp 52) (.const (.bool false)), none, [], false, false⟩,
            ⟨(some 4), .move (.tmp 53), none, [], false, false⟩])
         (.ret))))))))),
 [.tmp 4], .pure, 54⟩

/-- agraffe/agraffelaw07.UpkeepHears -/
def ef8 : EFun := ⟨
 .seq (.region false [⟨(some 4), .move (.const (.bool false)), none, [], false, false⟩])
 (.seq (.seq (.region false [⟨(some 9), .call 14 [], none, [], false, false⟩,
      ⟨(some 10), .un .not (.tmp 9), none, [], false, false⟩])
   (.cond (.tmp 10) (.seq (.region false [⟨(some 4), .move (.const (.bool false)), none, [], false, false⟩])
     (.ret))
    (.skip)))
  (.seq (.seq (.region false [⟨(some 11), .move (.tmp 0), none, [], false, false⟩,
       ⟨(some 12), .len false (.tmp 11), none, [], false, false⟩,
       ⟨(some 13), .bin .gtr (.tmp 12) (.const (.int .i64 10)), none, [], false, false⟩,
       ⟨(some 14), .move (.tmp 13), none, [], false, false⟩,
       ⟨(some 15), .move (.tmp 0), (some (14, true)), [], false, false⟩,
       ⟨(some 16), .len false (.tmp 15), (some (14, true)), [], false, false⟩,
       ⟨(some 17), .bin .leq (.tmp 16) (.const (.int .i64 88)), (some (14, true)), [], false, false⟩,
       ⟨(some 18), .pick (.tmp 14) (.tmp 17) (.const (.bool false)), none, [], false, false⟩,
       ⟨(some 19), .move (.tmp 18), none, [], false, false⟩,
       ⟨(some 20), .move (.tmp 0), (some (19, false)), [], false, false⟩,
       ⟨(some 21), .len false (.tmp 20), (some (19, false)), [], false, false⟩,
       ⟨(some 22), .bin .gtr (.tmp 21) (.const (.int .i64 91)), (some (19, false)), [], false, false⟩,
       ⟨(some 23), .pick (.tmp 19) (.const (.bool true)) (.tmp 22), none, [], false, false⟩,
       ⟨(some 24), .move (.tmp 23), none, [], false, false⟩,
       ⟨(some 25), .move (.tmp 1), (some (24, false)), [], false, false⟩,
       ⟨(some 26), .call 39 [(.tmp 25), (.const (.int .i64 6))], (some (24, false)), [], false, false⟩,
       ⟨(some 27), .un .not (.tmp 26), (some (24, false)), [], false, false⟩,
       ⟨(some 28), .pick (.tmp 24) (.const (.bool true)) (.tmp 27), none, [], false, false⟩])
    (.cond (.tmp 28) (.seq (.region false [⟨(some 4), .move (.const (.bool true)), none, [], false, false⟩])
      (.ret))
     (.skip)))
   (.seq (.region false [⟨(some 30), .buildSlice 3 0 [] [], none, [], false, false⟩,
       ⟨(some 31), .move (.tmp 0), none, [], false, false⟩,
       ⟨(some 32), .append 3 24 (.tmp 30) (.tmp 31), none, [], false, false⟩,
       ⟨(some 33), .move (.tmp 1), none, [], false, false⟩,
       ⟨(some 34), .call 41 [(.tmp 33)], none, [], false, false⟩,
       ⟨(some 35), .call 40 [(.tmp 32), (.tmp 34)], none, [], false, false⟩,
       ⟨(some 29), .move (.tmp 35), none, [], false, false⟩,
       ⟨(some 36), .extract (.tmp 29) 0, none, [], false, false⟩,
       ⟨(some 37), .extract (.tmp 29) 1, none, [], false, false⟩,
       ⟨(some 5), .move (.tmp 36), none, [], false, false⟩,
       ⟨(some 6), .move (.tmp 37), none, [], false, false⟩])
    (.seq (.region false [⟨(some 39), .move (.tmp 0), none, [], false, false⟩,
        ⟨(some 40), .move (.tmp 1), none, [], false, false⟩,
        ⟨(some 41), .call 42 [(.tmp 39), (.tmp 40)], none, [], false, false⟩,
        ⟨(some 38), .move (.tmp 41), none, [], false, false⟩,
        ⟨(some 42), .extract (.tmp 38) 0, none, [], false, false⟩,
        ⟨(some 43), .extract (.tmp 38) 1, none, [], false, false⟩,
        ⟨(some 7), .move (.tmp 42), none, [], false, false⟩,
        ⟨(some 8), .move (.tmp 43), none, [], false, false⟩])
     (.seq (.region false [⟨(some 44), .move (.tmp 6), none, [], false, false⟩,
         ⟨(some 45), .move (.tmp 8), none, [], false, false⟩,
         ⟨(some 46), .bin .eql (.tmp 44) (.tmp 45), none, [], false, false⟩,
         ⟨(some 47), .move (.tmp 46), none, [], false, false⟩,
         ⟨(some 48), .move (.tmp 5), (some (47, true)), [], false, false⟩,
         ⟨(some 49), .move (.tmp 7), (some (47, true)), [], false, false⟩,
         ⟨(some 50), .call 43 [(.tmp 48), (.tmp 49)], (some (47, true)), [], false, false⟩,
         ⟨(some 51), .pick (.tmp 47) (.tmp 50) (.const (.bool false)), none, [], false, false⟩,
         ⟨(some 4), .move (.tmp 51), none, [], false, false⟩])
      (.ret)))))),
 [.tmp 4], .pure, 52⟩

/-- agraffe/agraffelaw07.UpkeepRaises -/
def ef9 : EFun := ⟨
 .seq (.region false [⟨(some 6), .move (.const (.bool false)), none, [], false, false⟩])
 (.seq (.seq (.region false [⟨(some 11), .call 14 [], none, [], false, false⟩,
      ⟨(some 12), .un .not (.tmp 11), none, [], false, false⟩])
   (.cond (.tmp 12) (.seq (.region false [⟨(some 6), .move (.const (.bool false)), none, [], false, false⟩])
     (.ret))
    (.skip)))
  (.seq (.seq (.region false [⟨(some 13), .move (.tmp 0), none, [], false, false⟩,
       ⟨(some 14), .len false (.tmp 13), none, [], false, false⟩,
       ⟨(some 15), .bin .gtr (.tmp 14) (.const (.int .i64 23)), none, [], false, false⟩,
       ⟨(some 16), .move (.tmp 15), none, [], false, false⟩,
       ⟨(some 17), .move (.tmp 1), (some (16, false)), [], false, false⟩,
       ⟨(some 18), .len false (.tmp 17), (some (16, false)), [], false, false⟩,
       ⟨(some 19), .bin .gtr (.tmp 18) (.const (.int .i64 90)), (some (16, false)), [], false, false⟩,
       ⟨(some 20), .pick (.tmp 16) (.const (.bool true)) (.tmp 19), none, [], false, false⟩])
    (.cond (.tmp 20) (.seq (.region false [⟨(some 6), .move (.const (.bool true)), none, [], false, false⟩])
      (.ret))
     (.skip)))
   (.seq (.region false [⟨(some 22), .buildSlice 3 0 [] [], none, [], false, false⟩,
       ⟨(some 23), .move (.tmp 0), none, [], false, false⟩,
       ⟨(some 24), .append 3 24 (.tmp 22) (.tmp 23), none, [], false, false⟩,
       ⟨(some 25), .move (.tmp 1), none, [], false, false⟩,
       ⟨(some 26), .call 45 [(.tmp 25)], none, [], false, false⟩,
       ⟨(some 27), .move (.tmp 2), none, [], false, false⟩,
       ⟨(some 28), .call 44 [(.tmp 24), (.tmp 26), (.tmp 27)], none, [], false, false⟩,
       ⟨(some 21), .move (.tmp 28), none, [], false, false⟩,
       ⟨(some 29), .extract (.tmp 21) 0, none, [], false, false⟩,
       ⟨(some 30), .extract (.tmp 21) 1, none, [], false, false⟩,
       ⟨(some 7), .move (.tmp 29), none, [], false, false⟩,
       ⟨(some 8), .move (.tmp 30), none, [], false, false⟩])
    (.seq (.region false [⟨(some 32), .move (.tmp 0), none, [], false, false⟩,
        ⟨(some 33), .move (.tmp 1), none, [], false, false⟩,
        ⟨(some 34), .move (.tmp 2), none, [], false, false⟩,
        ⟨(some 35), .call 46 [(.tmp 32), (.tmp 33), (.tmp 34)], none, [], false, false⟩,
        ⟨(some 31), .move (.tmp 35), none, [], false, false⟩,
        ⟨(some 36), .extract (.tmp 31) 0, none, [], false, false⟩,
        ⟨(some 37), .extract (.tmp 31) 1, none, [], false, false⟩,
        ⟨(some 9), .move (.tmp 36), none, [], false, false⟩,
        ⟨(some 10), .move (.tmp 37), none, [], false, false⟩])
     (.seq (.region false [⟨(some 38), .move (.tmp 8), none, [], false, false⟩,
         ⟨(some 39), .move (.tmp 10), none, [], false, false⟩,
         ⟨(some 40), .bin .eql (.tmp 38) (.tmp 39), none, [], false, false⟩,
         ⟨(some 41), .move (.tmp 40), none, [], false, false⟩,
         ⟨(some 42), .move (.tmp 7), (some (41, true)), [], false, false⟩,
         ⟨(some 43), .move (.tmp 9), (some (41, true)), [], false, false⟩,
         ⟨(some 44), .call 47 [(.tmp 42), (.tmp 43)], (some (41, true)), [], false, false⟩,
         ⟨(some 45), .pick (.tmp 41) (.tmp 44) (.const (.bool false)), none, [], false, false⟩,
         ⟨(some 6), .move (.tmp 45), none, [], false, false⟩])
      (.ret)))))),
 [.tmp 6], .pure, 46⟩

/-- agraffe/agraffelaw07.UpkeepPins -/
def ef10 : EFun := ⟨
 .seq (.region false [⟨(some 4), .move (.const (.bool false)), none, [], false, false⟩])
 (.seq (.seq (.region false [⟨(some 9), .call 14 [], none, [], false, false⟩,
      ⟨(some 10), .un .not (.tmp 9), none, [], false, false⟩])
   (.cond (.tmp 10) (.seq (.region false [⟨(some 4), .move (.const (.bool false)), none, [], false, false⟩])
     (.ret))
    (.skip)))
  (.seq (.seq (.region false [⟨(some 11), .move (.tmp 0), none, [], false, false⟩,
       ⟨(some 12), .len false (.tmp 11), none, [], false, false⟩,
       ⟨(some 13), .bin .gtr (.tmp 12) (.const (.int .i64 63)), none, [], false, false⟩])
    (.cond (.tmp 13) (.seq (.region false [⟨(some 4), .move (.const (.bool true)), none, [], false, false⟩])
      (.ret))
     (.skip)))
   (.seq (.seq (.region false [⟨(some 14), .buildSlice 2 0 [] [], none, [], false, false⟩,
        ⟨(some 15), .move (.tmp 0), none, [], false, false⟩,
        ⟨(some 16), .append 2 16 (.tmp 14) (.tmp 15), none, [], false, false⟩,
        ⟨(some 17), .call 48 [(.tmp 16)], none, [], false, false⟩,
        ⟨(some 18), .move (.tmp 0), none, [], false, false⟩,
        ⟨(some 19), .call 49 [(.tmp 18)], none, [], false, false⟩,
        ⟨(some 20), .bin .neq (.tmp 17) (.tmp 19), none, [], false, false⟩])
     (.cond (.tmp 20) (.seq (.region false [⟨(some 4), .move (.const (.bool false)), none, [], false, false⟩])
       (.ret))
      (.skip)))
    (.seq (.region false [⟨(some 22), .buildSlice 2 0 [] [], none, [], false, false⟩,
        ⟨(some 23), .move (.tmp 0), none, [], false, false⟩,
        ⟨(some 24), .append 2 16 (.tmp 22) (.tmp 23), none, [], false, false⟩,
        ⟨(some 25), .move (.tmp 1), none, [], false, false⟩,
        ⟨(some 26), .call 50 [(.tmp 24), (.tmp 25)], none, [], false, false⟩,
        ⟨(some 21), .move (.tmp 26), none, [], false, false⟩,
        ⟨(some 27), .extract (.tmp 21) 0, none, [], false, false⟩,
        ⟨(some 28), .extract (.tmp 21) 1, none, [], false, false⟩,
        ⟨(some 5), .move (.tmp 27), none, [], false, false⟩,
        ⟨(some 6), .move (.tmp 28), none, [], false, false⟩])
     (.seq (.region false [⟨(some 30), .move (.tmp 0), none, [], false, false⟩,
         ⟨(some 31), .move (.tmp 1), none, [], false, false⟩,
         ⟨(some 32), .call 51 [(.tmp 30), (.tmp 31)], none, [], false, false⟩,
         ⟨(some 29), .move (.tmp 32), none, [], false, false⟩,
         ⟨(some 33), .extract (.tmp 29) 0, none, [], false, false⟩,
         ⟨(some 34), .extract (.tmp 29) 1, none, [], false, false⟩,
         ⟨(some 7), .move (.tmp 33), none, [], false, false⟩,
         ⟨(some 8), .move (.tmp 34), none, [], false, false⟩])
      (.seq (.region false [⟨(some 35), .move (.tmp 6), none, [], false, false⟩,
          ⟨(some 36), .move (.tmp 8), none, [], false, false⟩,
          ⟨(some 37), .bin .eql (.tmp 35) (.tmp 36), none, [], false, false⟩,
          ⟨(some 38), .move (.tmp 37), none, [], false, false⟩,
          ⟨(some 39), .move (.tmp 5), (some (38, true)), [], false, false⟩,
          ⟨(some 40), .move (.tmp 7), (some (38, true)), [], false, false⟩,
          ⟨(some 41), .bin .eql (.tmp 39) (.tmp 40), (some (38, true)), [], false, false⟩,
          ⟨(some 42), .pick (.tmp 38) (.tmp 41) (.const (.bool false)), none, [], false, false⟩,
          ⟨(some 4), .move (.tmp 42), none, [], false, false⟩])
       (.ret))))))),
 [.tmp 4], .pure, 43⟩

/-- agraffe/agraffelaw07.UpkeepSignatures -/
def ef11 : EFun := ⟨
 .seq (.region false [⟨(some 4), .move (.const (.bool false)), none, [], false, false⟩])
 (.seq (.seq (.region false [⟨(some 16), .call 14 [], none, [], false, false⟩,
      ⟨(some 17), .un .not (.tmp 16), none, [], false, false⟩])
   (.cond (.tmp 17) (.seq (.region false [⟨(some 4), .move (.const (.bool false)), none, [], false, false⟩])
     (.ret))
    (.skip)))
  (.seq (.seq (.region false [⟨(some 18), .move (.tmp 0), none, [], false, false⟩,
       ⟨(some 19), .call 39 [(.tmp 18), (.const (.int .i64 12))], none, [], false, false⟩,
       ⟨(some 20), .un .not (.tmp 19), none, [], false, false⟩])
    (.cond (.tmp 20) (.seq (.region false [⟨(some 4), .move (.const (.bool true)), none, [], false, false⟩])
      (.ret))
     (.skip)))
   (.seq (.region false [⟨(some 22), .move (.tmp 0), none, [], false, false⟩,
       ⟨(some 23), .call 41 [(.tmp 22)], none, [], false, false⟩,
       ⟨(some 24), .call 52 [(.tmp 23)], none, [], false, false⟩,
       ⟨(some 21), .move (.tmp 24), none, [], false, false⟩,
       ⟨(some 25), .extract (.tmp 21) 0, none, [], false, false⟩,
       ⟨(some 26), .extract (.tmp 21) 1, none, [], false, false⟩,
       ⟨(some 5), .move (.tmp 25), none, [], false, false⟩,
       ⟨(some 6), .move (.tmp 26), none, [], false, false⟩])
    (.seq (.region false [⟨(some 28), .move (.tmp 0), none, [], false, false⟩,
        ⟨(some 29), .call 41 [(.tmp 28)], none, [], false, false⟩,
        ⟨(some 30), .move (.tmp 1), none, [], false, false⟩,
        ⟨(some 31), .call 53 [(.tmp 29), (.tmp 30)], none, [], false, false⟩,
        ⟨(some 27), .move (.tmp 31), none, [], false, false⟩,
        ⟨(some 32), .extract (.tmp 27) 0, none, [], false, false⟩,
        ⟨(some 33), .extract (.tmp 27) 1, none, [], false, false⟩,
        ⟨(some 7), .move (.tmp 32), none, [], false, false⟩,
        ⟨(some 8), .move (.tmp 33), none, [], false, false⟩])
     (.seq (.region false [⟨(some 35), .move (.tmp 0), none, [], false, false⟩,
         ⟨(some 36), .call 41 [(.tmp 35)], none, [], false, false⟩,
         ⟨(some 37), .call 54 [(.tmp 36)], none, [], false, false⟩,
         ⟨(some 34), .move (.tmp 37), none, [], false, false⟩,
         ⟨(some 38), .extract (.tmp 34) 0, none, [], false, false⟩,
         ⟨(some 39), .extract (.tmp 34) 1, none, [], false, false⟩,
         ⟨(some 40), .extract (.tmp 34) 2, none, [], false, false⟩,
         ⟨(some 10), .push [(.int .i64 0), (.int .i64 0)], none, [], false, false⟩,
         ⟨(some 9), .move (.tmp 38), none, [], false, false⟩,
         ⟨none, .store 2 (.tmp 10) (.tmp 39), none, [], false, false⟩,
         ⟨(some 11), .move (.tmp 40), none, [], false, false⟩])
      (.seq (.seq (.region false [⟨(some 41), .move (.tmp 0), none, [], false, false⟩,
           ⟨(some 42), .call 55 [(.tmp 41)], none, [], false, false⟩,
           ⟨(some 12), .move (.tmp 42), none, [], false, false⟩])
        (.seq (.region false [⟨(some 43), .move (.tmp 12), none, [], false, false⟩,
            ⟨(some 44), .bin .neq (.tmp 43) (.const (.int .i64 0)), none, [], false, false⟩])
         (.cond (.tmp 44) (.seq (.region false [⟨(some 45), .move (.tmp 6), none, [], false, false⟩,
              ⟨(some 46), .move (.tmp 12), none, [], false, false⟩,
              ⟨(some 47), .bin .eql (.tmp 45) (.tmp 46), none, [], false, false⟩,
              ⟨(some 48), .move (.tmp 47), none, [], false, false⟩,
              ⟨(some 49), .move (.tmp 8), (some (48, true)), [], false, false⟩,
              ⟨(some 50), .move (.tmp 12), (some (48, true)), [], false, false⟩,
              ⟨(some 51), .bin .eql (.tmp 49) (.tmp 50), (some (48, true)), [], false, false⟩,
              ⟨(some 52), .pick (.tmp 48) (.tmp 51) (.const (.bool false)), none, [], false, false⟩,
              ⟨(some 53), .move (.tmp 52), none, [], false, false⟩,
              ⟨(some 54), .move (.tmp 11), (some (53, true)), [], false, false⟩,
              ⟨(some 55), .move (.tmp 12), (some (53, true)), [], false, false⟩,
              ⟨(some 56), .bin .eql (.tmp 54) (.tmp 55), (some (53, true)), [], false, false⟩,
              ⟨(some 57), .pick (.tmp 53) (.tmp 56) (.const (.bool false)), none, [], false, false⟩,
              ⟨(some 58), .move (.tmp 57), none, [], false, false⟩,
              ⟨(some 59), .move (.tmp 5), (some (58, true)), [], false, false⟩,
              ⟨(some 60), .len false (.tmp 59), (some (58, true)), [], false, false⟩,
              ⟨(some 61), .move (.tmp 7), (some (58, true)), [], false, false⟩,
              ⟨(some 62), .len false (.tmp 61), (some (58, true)), [], false, false⟩,
              ⟨(some 63), .bin .add (.tmp 60) (.tmp 62), (some (58, true)), [], false, false⟩,
              ⟨(some 64), .bin .eql (.tmp 63) (.const (.int .i64 0)), (some (58, true)), [], false, false⟩,
              ⟨(some 65), .pick (.tmp 58) (.tmp 64) (.const (.bool false)), none, [], false, false⟩,
              ⟨(some 66), .move (.tmp 65), none, [], false, false⟩,
              ⟨(some 67), .move (.tmp 9), (some (66, true)), [], false, false⟩,
              ⟨(some 68), .un .not (.tmp 67), (some (66, true)), [], false, false⟩,
              ⟨(some 69), .pick (.tmp 66) (.tmp 68) (.const (.bool false)), none, [], false, false⟩,
              ⟨(some 70), .move (.tmp 69), none, [], false, false⟩,
              ⟨(some 71), .load true 2 (.tmp 10), (some (70, true)), [], false, false⟩,
              ⟨(some 72), .build [(.int .i64 0), (.int .i64 0)] [], (some (70, true)), [], false, false⟩,
              ⟨(some 73), .eqAgg false [(.int .i64), (.int .i64)] (.tmp 71) (.tmp 72), (some (70, true)), [], false, false⟩,
              ⟨(some 74), .pick (.tmp 70) (.tmp 73) (.const (.bool false)), none, [], false, false⟩,
              ⟨(some 4), .move (.tmp 74), none, [], false, false⟩])
           (.ret))
          (.skip))))
       (.seq (.seq (.region false [⟨(some 75), .move (.tmp 6), none, [], false, false⟩,
            ⟨(some 76), .bin .neq (.tmp 75) (.const (.int .i64 0)), none, [], false, false⟩,
            ⟨(some 77), .move (.tmp 76), none, [], false, false⟩,
            ⟨(some 78), .move (.tmp 5), (some (77, false)), [], false, false⟩,
            ⟨(some 79), .move (.tmp 0), (some (77, false)), [], false, false⟩,
            ⟨(some 80), .call 56 [(.tmp 79)], (some (77, false)), [], false, false⟩,
            ⟨(some 81), .call 47 [(.tmp 78), (.tmp 80)], (some (77, false)), [], false, false⟩,
            ⟨(some 82), .un .not (.tmp 81), (some (77, false)), [], false, false⟩,
            ⟨(some 83), .pick (.tmp 77) (.const (.bool true)) (.tmp 82), none, [], false, false⟩])
         (.cond (.tmp 83) (.seq (.region false [⟨(some 4), .move (.const (.bool false)), none, [], false, false⟩])
           (.ret))
          (.skip)))
        (.seq (.region false [⟨(some 85), .move (.tmp 0), none, [], false, false⟩,
            ⟨(some 86), .call 57 [(.tmp 85)], none, [], false, false⟩,
            ⟨(some 84), .move (.tmp 86), none, [], false, false⟩,
            ⟨(some 87), .extract (.tmp 84) 0, none, [], false, false⟩,
            ⟨(some 88), .extract (.tmp 84) 1, none, [], false, false⟩,
            ⟨(some 13), .push [(.int .i64 0), (.int .i64 0)], none, [], false, false⟩,
            ⟨none, .store 2 (.tmp 13) (.tmp 87), none, [], false, false⟩,
            ⟨(some 14), .move (.tmp 88), none, [], false, false⟩])
         (.seq (.seq (.region false [⟨(some 89), .move (.tmp 11), none, [], false, false⟩,
              ⟨(some 90), .bin .neq (.tmp 89) (.const (.int .i64 0)), none, [], false, false⟩,
              ⟨(some 91), .move (.tmp 90), none, [], false, false⟩,
              ⟨(some 92), .move (.tmp 9), (some (91, false)), [], false, false⟩,
              ⟨(some 93), .move (.tmp 14), (some (91, false)), [], false, false⟩,
              ⟨(some 94), .eqBool false (.tmp 92) (.tmp 93), (some (91, false)), [], false, false⟩,
              ⟨(some 95), .pick (.tmp 91) (.const (.bool true)) (.tmp 94), none, [], false, false⟩,
              ⟨(some 96), .move (.tmp 95), none, [], false, false⟩,
              ⟨(some 97), .load true 2 (.tmp 10), (some (96, false)), [], false, false⟩,
              ⟨(some 98), .load true 2 (.tmp 13), (some (96, false)), [], false, false⟩,
              ⟨(some 99), .eqAgg true [(.int .i64), (.int .i64)] (.tmp 97) (.tmp 98), (some (96, false)), [], false, false⟩,
              ⟨(some 100), .pick (.tmp 96) (.const (.bool true)) (.tmp 99), none, [], false, false⟩])
           (.cond (.tmp 100) (.seq (.region false [⟨(some 4), .move (.const (.bool false)), none, [], false, false⟩])
             (.ret))
            (.skip)))
          (.seq (.seq (.region false [⟨(some 101), .move (.tmp 1), none, [], false, false⟩,
               ⟨(some 102), .call 37 [(.tmp 101)], none, [], false, false⟩,
               ⟨(some 103), .un .not (.tmp 102), none, [], false, false⟩])
            (.cond (.tmp 103) (.seq (.region false [⟨(some 104), .move (.tmp 8), none, [], false, false⟩,
                 ⟨(some 105), .bin .eql (.tmp 104) (.const (.int .i64 2)), none, [], false, false⟩,
                 ⟨(some 106), .move (.tmp 105), none, [], false, false⟩,
                 ⟨(some 107), .move (.tmp 7), (some (106, true)), [], false, false⟩,
                 ⟨(some 108), .len false (.tmp 107), (some (106, true)), [], false, false⟩,
                 ⟨(some 109), .bin .eql (.tmp 108) (.const (.int .i64 0)), (some (106, true)), [], false, false⟩,
                 ⟨(some 110), .pick (.tmp 106) (.tmp 109) (.const (.bool false)), none, [], false, false⟩,
                 ⟨(some 4), .move (.tmp 110), none, [], false, false⟩])
              (.ret))
             (.skip)))
           (.seq (.region false [⟨(some 111), .move (.tmp 0), none, [], false, false⟩,
               ⟨(some 112), .move (.tmp 1), none, [], false, false⟩,
               ⟨(some 113), .call 58 [(.tmp 111), (.tmp 112)], none, [], false, false⟩,
               ⟨(some 15), .move (.tmp 113), none, [], false, false⟩])
            (.seq (.seq (.region false [⟨(some 114), .move (.tmp 15), none, [], false, false⟩,
                 ⟨(some 115), .len false (.tmp 114), none, [], false, false⟩,
                 ⟨(some 116), .bin .eql (.tmp 115) (.const (.int .i64 0)), none, [], false, false⟩])
              (.cond (.tmp 116) (.seq (.region false [⟨(some 117), .move (.tmp 8), none, [], false, false⟩,
                   ⟨(some 118), .bin .eql (.tmp 117) (.const (.int .i64 6)), none, [], false, false⟩,
                   ⟨(some 119), .move (.tmp 118), none, [], false, false⟩,
                   ⟨(some 120), .move (.tmp 7), (some (119, true)), [], false, false⟩,
                   ⟨(some 121), .len false (.tmp 120), (some (119, true)), [], false, false⟩,
                   ⟨(some 122), .bin .eql (.tmp 121) (.const (.int .i64 0)), (some (119, true)), [], false, false⟩,
                   ⟨(some 123), .pick (.tmp 119) (.tmp 122) (.const (.bool false)), none, [], false, false⟩,
                   ⟨(some 4), .move (.tmp 123), none, [], false, false⟩])
                (.ret))
               (.skip)))
             (.seq (.region false [⟨(some 124), .move (.tmp 8), none, [], false, false⟩,
                 ⟨(some 125), .bin .eql (.tmp 124) (.const (.int .i64 0)), none, [], false, false⟩,
                 ⟨(some 126), .move (.tmp 125), none, [], false, false⟩,
                 ⟨(some 127), .move (.tmp 7), (some (126, true)), [], false, false⟩,
                 ⟨(some 128), .move (.tmp 15), (some (126, true)), [], false, false⟩,
                 ⟨(some 129), .call 47 [(.tmp 127), (.tmp 128)], (some (126, true)), [], false, false⟩,
                 ⟨(some 130), .pick (.tmp 126) (.tmp 129) (.const (.bool false)), none, [], false, false⟩,
                 ⟨(some 4), .move (.tmp 130), none, [], false, false⟩])
              (.ret)))))))))))))),
 [.tmp 4], .pure, 131⟩

/-- agraffe/agraffelaw07.UpkeepWrong -/
def ef12 : EFun := ⟨
 .seq (.region false [⟨(some 4), .move (.const (.bool false)), none, [], false, false⟩])
 (.seq (.seq (.region false [⟨(some 16), .call 14 [], none, [], false, false⟩,
      ⟨(some 17), .un .not (.tmp 16), none, [], false, false⟩])
   (.cond (.tmp 17) (.seq (.region false [⟨(some 4), .move (.const (.bool false)), none, [], false, false⟩])
     (.ret))
    (.skip)))
  (.seq (.seq (.region false [⟨(some 18), .move (.tmp 0), none, [], false, false⟩,
       ⟨(some 19), .len false (.tmp 18), none, [], false, false⟩,
       ⟨(some 20), .bin .gtr (.tmp 19) (.const (.int .i64 10)), none, [], false, false⟩,
       ⟨(some 21), .move (.tmp 20), none, [], false, false⟩,
       ⟨(some 22), .move (.tmp 0), (some (21, false)), [], false, false⟩,
       ⟨(some 23), .call 41 [(.tmp 22)], (some (21, false)), [], false, false⟩,
       ⟨(some 24), .call 59 [(.tmp 23)], (some (21, false)), [], false, false⟩,
       ⟨(some 25), .bin .neq (.tmp 24) (.const (.int .i64 0)), (some (21, false)), [], false, false⟩,
       ⟨(some 26), .pick (.tmp 21) (.const (.bool true)) (.tmp 25), none, [], false, false⟩])
    (.cond (.tmp 26) (.seq (.region false [⟨(some 4), .move (.const (.bool true)), none, [], false, false⟩])
      (.ret))
     (.skip)))
   (.seq (.region false [⟨(some 28), .move (.tmp 0), none, [], false, false⟩,
       ⟨(some 29), .call 41 [(.tmp 28)], none, [], false, false⟩,
       ⟨(some 30), .call 54 [(.tmp 29)], none, [], false, false⟩,
       ⟨(some 27), .move (.tmp 30), none, [], false, false⟩,
       ⟨(some 31), .extract (.tmp 27) 0, none, [], false, false⟩,
       ⟨(some 32), .extract (.tmp 27) 1, none, [], false, false⟩,
       ⟨(some 33), .extract (.tmp 27) 2, none, [], false, false⟩,
       ⟨(some 6), .push [(.int .i64 0), (.int .i64 0)], none, [], false, false⟩,
       ⟨(some 5), .move (.tmp 31), none, [], false, false⟩,
       ⟨none, .store 2 (.tmp 6) (.tmp 32), none, [], false, false⟩,
       ⟨(some 7), .move (.tmp 33), none, [], false, false⟩])
    (.seq (.seq (.region false [⟨(some 34), .move (.tmp 7), none, [], false, false⟩,
         ⟨(some 35), .bin .neq (.tmp 34) (.const (.int .i64 0)), none, [], false, false⟩])
      (.cond (.tmp 35) (.seq (.region false [⟨(some 4), .move (.const (.bool false)), none, [], false, false⟩])
        (.ret))
       (.skip)))
     (.seq (.region false [⟨(some 37), .move (.tmp 0), none, [], false, false⟩,
         ⟨(some 38), .call 41 [(.tmp 37)], none, [], false, false⟩,
         ⟨(some 39), .move (.tmp 1), none, [], false, false⟩,
         ⟨(some 40), .call 53 [(.tmp 38), (.tmp 39)], none, [], false, false⟩,
         ⟨(some 36), .move (.tmp 40), none, [], false, false⟩,
         ⟨(some 41), .extract (.tmp 36) 0, none, [], false, false⟩,
         ⟨(some 42), .extract (.tmp 36) 1, none, [], false, false⟩,
         ⟨(some 8), .move (.tmp 41), none, [], false, false⟩,
         ⟨(some 9), .move (.tmp 42), none, [], false, false⟩])
      (.seq (.seq (.region false [⟨(some 43), .move (.tmp 5), none, [], false, false⟩,
           ⟨(some 44), .un .not (.tmp 43), none, [], false, false⟩,
           ⟨(some 45), .move (.tmp 44), none, [], false, false⟩,
           ⟨(some 46), .move (.tmp 9), (some (45, false)), [], false, false⟩,
           ⟨(some 47), .bin .neq (.tmp 46) (.const (.int .i64 0)), (some (45, false)), [], false, false⟩,
           ⟨(some 48), .pick (.tmp 45) (.const (.bool true)) (.tmp 47), none, [], false, false⟩])
        (.cond (.tmp 48) (.seq (.region false [⟨(some 4), .move (.const (.bool true)), none, [], false, false⟩])
          (.ret))
         (.skip)))
       (.seq (.region false [⟨(some 50), .move (.tmp 0), none, [], false, false⟩,
           ⟨(some 51), .call 41 [(.tmp 50)], none, [], false, false⟩,
           ⟨(some 52), .move (.tmp 8), none, [], false, false⟩,
           ⟨(some 53), .call 60 [(.tmp 51), (.tmp 52)], none, [], false, false⟩,
           ⟨(some 49), .move (.tmp 53), none, [], false, false⟩,
           ⟨(some 54), .extract (.tmp 49) 0, none, [], false, false⟩,
           ⟨(some 55), .extract (.tmp 49) 1, none, [], false, false⟩,
           ⟨(some 10), .move (.tmp 54), none, [], false, false⟩,
           ⟨(some 11), .move (.tmp 55), none, [], false, false⟩])
        (.seq (.seq (.region false [⟨(some 56), .move (.tmp 11), none, [], false, false⟩,
             ⟨(some 57), .bin .neq (.tmp 56) (.const (.int .i64 0)), none, [], false, false⟩,
             ⟨(some 58), .move (.tmp 57), none, [], false, false⟩,
             ⟨(some 59), .move (.tmp 10), (some (58, false)), [], false, false⟩,
             ⟨(some 60), .move (.tmp 1), (some (58, false)), [], false, false⟩,
             ⟨(some 61), .buildSlice 1 1 [(.int .i64 0)] [(0, 1, (.tmp 60))], (some (58, false)), [], false, false⟩,
             ⟨(some 62), .call 47 [(.tmp 59), (.tmp 61)], (some (58, false)), [], false, false⟩,
             ⟨(some 63), .un .not (.tmp 62), (some (58, false)), [], false, false⟩,
             ⟨(some 64), .pick (.tmp 58) (.const (.bool true)) (.tmp 63), none, [], false, false⟩])
          (.cond (.tmp 64) (.seq (.region false [⟨(some 4), .move (.const (.bool false)), none, [], false, false⟩])
            (.ret))
           (.skip)))
         (.seq (.region false [⟨(some 66), .move (.tmp 0), none, [], false, false⟩,
             ⟨(some 67), .call 41 [(.tmp 66)], none, [], false, false⟩,
             ⟨(some 68), .move (.tmp 8), none, [], false, false⟩,
             ⟨(some 69), .call 61 [(.tmp 67), (.tmp 68)], none, [], false, false⟩,
             ⟨(some 65), .move (.tmp 69), none, [], false, false⟩,
             ⟨(some 70), .extract (.tmp 65) 0, none, [], false, false⟩,
             ⟨(some 71), .extract (.tmp 65) 1, none, [], false, false⟩,
             ⟨(some 12), .move (.tmp 70), none, [], false, false⟩,
             ⟨(some 13), .move (.tmp 71), none, [], false, false⟩])
          (.seq (.seq (.region false [⟨(some 72), .move (.tmp 13), none, [], false, false⟩,
               ⟨(some 73), .bin .neq (.tmp 72) (.const (.int .i64 0)), none, [], false, false⟩])
            (.cond (.tmp 73) (.seq (.region false [⟨(some 75), .move (.tmp 0), none, [], false, false⟩,
                 ⟨(some 76), .call 41 [(.tmp 75)], none, [], false, false⟩,
                 ⟨(some 77), .call 52 [(.tmp 76)], none, [], false, false⟩,
                 ⟨(some 74), .move (.tmp 77), none, [], false, false⟩,
                 ⟨(some 78), .extract (.tmp 74) 0, none, [], false, false⟩,
                 ⟨(some 79), .extract (.tmp 74) 1, none, [], false, false⟩,
                 ⟨(some 14), .move (.tmp 78), none, [], false, false⟩,
                 ⟨(some 15), .move (.tmp 79), none, [], false, false⟩])
              (.seq (.region false [⟨(some 80), .move (.tmp 13), none, [], false, false⟩,
                  ⟨(some 81), .bin .eql (.tmp 80) (.const (.int .i64 8)), none, [], false, false⟩,
                  ⟨(some 82), .move (.tmp 81), none, [], false, false⟩,
                  ⟨(some 83), .move (.tmp 15), (some (82, true)), [], false, false⟩,
                  ⟨(some 84), .bin .eql (.tmp 83) (.const (.int .i64 0)), (some (82, true)), [], false, false⟩,
                  ⟨(some 85), .pick (.tmp 82) (.tmp 84) (.const (.bool false)), none, [], false, false⟩,
                  ⟨(some 86), .move (.tmp 85), none, [], false, false⟩,
                  ⟨(some 87), .move (.tmp 14), (some (86, true)), [], false, false⟩,
                  ⟨(some 88), .len false (.tmp 87), (some (86, true)), [], false, false⟩,
                  ⟨(some 89), .bin .gtr (.tmp 88) (.const (.int .i64 12)), (some (86, true)), [], false, false⟩,
                  ⟨(some 90), .pick (.tmp 86) (.tmp 89) (.const (.bool false)), none, [], false, false⟩,
                  ⟨(some 4), .move (.tmp 90), none, [], false, false⟩])
               (.ret)))
             (.skip)))
           (.seq (.region false [⟨(some 91), .move (.tmp 12), none, [], false, false⟩,
               ⟨(some 92), .len false (.tmp 91), none, [], false, false⟩,
               ⟨(some 93), .bin .eql (.tmp 92) (.const (.int .i64 1)), none, [], false, false⟩,
               ⟨(some 94), .move (.tmp 93), none, [], false, false⟩,
               ⟨(some 95), .move (.tmp 12), (some (94, true)), [], false, false⟩,
               ⟨(some 96), .indexAddr none 1 (.tmp 95) (.const (.int .i64 0)), (some (94, true)), [], false, false⟩,
               ⟨(some 97), .load false 1 (.tmp 96), (some (94, true)), [], false, false⟩,
               ⟨(some 98), .move (.tmp 1), (some (94, true)), [], false, false⟩,
               ⟨(some 99), .buildSlice 1 1 [(.int .i64 0)] [(0, 1, (.tmp 98))], (some (94, true)), [], false, false⟩,
               ⟨(some 100), .call 47 [(.tmp 97), (.tmp 99)], (some (94, true)), [], false, false⟩,
               ⟨(some 101), .pick (.tmp 94) (.tmp 100) (.const (.bool false)), none, [], false, false⟩,
               ⟨(some 4), .move (.tmp 101), none, [], false, false⟩])
            (.ret)))))))))))),
 [.tmp 4], .pure, 102⟩

/-- agraffe/agraffelaw07.UpkeepThins -/
def ef13 : EFun := ⟨
 .seq (.region false [⟨(some 2), .move (.const (.bool false)), none, [], false, false⟩])
 (.seq (.seq (.region false [⟨(some 13), .call 14 [], none, [], false, false⟩,
      ⟨(some 14), .un .not (.tmp 13), none, [], false, false⟩])
   (.cond (.tmp 14) (.seq (.region false [⟨(some 2), .move (.const (.bool false)), none, [], false, false⟩])
     (.ret))
    (.skip)))
  (.seq (.seq (.region false [⟨(some 15), .move (.tmp 0), none, [], false, false⟩,
       ⟨(some 16), .call 39 [(.tmp 15), (.const (.int .i64 10))], none, [], false, false⟩,
       ⟨(some 17), .un .not (.tmp 16), none, [], false, false⟩])
    (.cond (.tmp 17) (.seq (.region false [⟨(some 2), .move (.const (.bool true)), none, [], false, false⟩])
      (.ret))
     (.skip)))
   (.seq (.region false [⟨(some 19), .move (.tmp 0), none, [], false, false⟩,
       ⟨(some 20), .call 41 [(.tmp 19)], none, [], false, false⟩,
       ⟨(some 21), .call 62 [(.tmp 20)], none, [], false, false⟩,
       ⟨(some 18), .move (.tmp 21), none, [], false, false⟩,
       ⟨(some 22), .extract (.tmp 18) 0, none, [], false, false⟩,
       ⟨(some 23), .extract (.tmp 18) 1, none, [], false, false⟩,
       ⟨(some 3), .move (.tmp 22), none, [], false, false⟩,
       ⟨(some 4), .move (.tmp 23), none, [], false, false⟩])
    (.seq (.region false [⟨(some 24), .move (.tmp 0), none, [], false, false⟩,
        ⟨(some 25), .call 55 [(.tmp 24)], none, [], false, false⟩,
        ⟨(some 5), .move (.tmp 25), none, [], false, false⟩])
     (.seq (.seq (.region false [⟨(some 26), .move (.tmp 5), none, [], false, false⟩,
          ⟨(some 27), .bin .eql (.tmp 26) (.const (.int .i64 0)), none, [], false, false⟩])
       (.cond (.tmp 27) (.seq (.region false [⟨(some 29), .move (.tmp 0), none, [], false, false⟩,
            ⟨(some 30), .call 57 [(.tmp 29)], none, [], false, false⟩,
            ⟨(some 28), .move (.tmp 30), none, [], false, false⟩,
            ⟨(some 31), .extract (.tmp 28) 0, none, [], false, false⟩,
            ⟨(some 32), .extract (.tmp 28) 1, none, [], false, false⟩,
            ⟨(some 6), .push [(.int .i64 0), (.int .i64 0)], none, [], false, false⟩,
            ⟨none, .store 2 (.tmp 6) (.tmp 31), none, [], false, false⟩,
            ⟨(some 7), .move (.tmp 32), none, [], false, false⟩])
         (.seq (.region false [⟨(some 33), .move (.tmp 7), none, [], false, false⟩])
          (.cond (.tmp 33) (.region false [⟨(some 5), .move (.const (.int .i64 24)), none, [], false, false⟩])
           (.skip))))
        (.skip)))
      (.seq (.seq (.region false [⟨(some 34), .move (.tmp 5), none, [], false, false⟩,
           ⟨(some 35), .bin .neq (.tmp 34) (.const (.int .i64 0)), none, [], false, false⟩])
        (.cond (.tmp 35) (.seq (.region false [⟨(some 36), .move (.tmp 4), none, [], false, false⟩,
             ⟨(some 37), .move (.tmp 5), none, [], false, false⟩,
             ⟨(some 38), .bin .eql (.tmp 36) (.tmp 37), none, [], false, false⟩,
             ⟨(some 39), .move (.tmp 38), none, [], false, false⟩,
             ⟨(some 40), .move (.tmp 3), (some (39, true)), [], false, false⟩,
             ⟨(some 41), .len false (.tmp 40), (some (39, true)), [], false, false⟩,
             ⟨(some 42), .bin .eql (.tmp 41) (.const (.int .i64 0)), (some (39, true)), [], false, false⟩,
             ⟨(some 43), .pick (.tmp 39) (.tmp 42) (.const (.bool false)), none, [], false, false⟩,
             ⟨(some 2), .move (.tmp 43), none, [], false, false⟩])
          (.ret))
         (.skip)))
       (.seq (.seq (.region false [⟨(some 44), .move (.tmp 4), none, [], false, false⟩,
            ⟨(some 45), .bin .neq (.tmp 44) (.const (.int .i64 0)), none, [], false, false⟩,
            ⟨(some 46), .move (.tmp 45), none, [], false, false⟩,
            ⟨(some 47), .move (.tmp 3), (some (46, false)), [], false, false⟩,
            ⟨(some 48), .move (.tmp 0), (some (46, false)), [], false, false⟩,
            ⟨(some 49), .call 63 [(.tmp 48)], (some (46, false)), [], false, false⟩,
            ⟨(some 50), .call 47 [(.tmp 47), (.tmp 49)], (some (46, false)), [], false, false⟩,
            ⟨(some 51), .un .not (.tmp 50), (some (46, false)), [], false, false⟩,
            ⟨(some 52), .pick (.tmp 46) (.const (.bool true)) (.tmp 51), none, [], false, false⟩])
         (.cond (.tmp 52) (.seq (.region false [⟨(some 2), .move (.const (.bool false)), none, [], false, false⟩])
           (.ret))
          (.skip)))
        (.seq (.region false [⟨(some 8), .move (.const (.slice none 0 0)), none, [], false, false⟩])
         (.seq (.seq (.region false [⟨(some 9), .move (.const (.int .i64 0)), none, [], false, false⟩])
           (.block 0 (.loop (some [0, 3, 8, 9]) (
             .seq (.seq (.region false [⟨(some 53), .move (.tmp 9), none, [], false, false⟩,
                  ⟨(some 54), .move (.tmp 3), none, [], false, false⟩,
                  ⟨(some 55), .len false (.tmp 54), none, [], false, false⟩,
                  ⟨(some 56), .bin .lss (.tmp 53) (.tmp 55), none, [], false, false⟩])
               (.cond (.tmp 56) (.skip)
                (.exit 0)))
              (.seq (.block 1 (.region false [⟨(some 59), .move (.tmp 8), none, [], false, false⟩,
                   ⟨(some 60), .move (.tmp 0), none, [], false, false⟩,
                   ⟨(some 61), .move (.tmp 3), none, [], false, false⟩,
                   ⟨(some 62), .move (.tmp 9), none, [], false, false⟩,
                   ⟨(some 63), .indexAddr none 1 (.tmp 61) (.tmp 62), none, [], false, false⟩,
                   ⟨(some 64), .load false 1 (.tmp 63), none, [], false, false⟩,
                   ⟨(some 65), .indexAddr none 4 (.tmp 60) (.tmp 64), none, [], false, false⟩,
                   ⟨(some 66), .load true 4 (.tmp 65), none, [], false, false⟩,
                   ⟨(some 67), .buildSlice 4 1 [(.int .i64 0), (.int .i64 0), (.int .i64 0), (.int .i64 0)] [(0, 4, (.tmp 66))], none, [], false, false⟩,
                   ⟨(some 68), .append 4 32 (.tmp 59) (.tmp 67), none, [], false, false⟩,
                   ⟨(some 8), .move (.tmp 68), none, [], false, false⟩]))
               (.region false [⟨(some 57), .move (.tmp 9), none, [], false, false⟩,
                  ⟨(some 58), .bin .add (.tmp 57) (.const (.int .i64 1)), none, [], false, false⟩,
                  ⟨(some 9), .move (.tmp 58), none, [], false, false⟩]))))))
          (.seq (.region false [⟨(some 70), .move (.tmp 8), none, [], false, false⟩,
              ⟨(some 71), .call 54 [(.tmp 70)], none, [], false, false⟩,
              ⟨(some 69), .move (.tmp 71), none, [], false, false⟩,
              ⟨(some 72), .extract (.tmp 69) 0, none, [], false, false⟩,
              ⟨(some 73), .extract (.tmp 69) 1, none, [], false, false⟩,
              ⟨(some 74), .extract (.tmp 69) 2, none, [], false, false⟩,
              ⟨(some 11), .push [(.int .i64 0), (.int .i64 0)], none, [], false, false⟩,
              ⟨(some 10), .move (.tmp 72), none, [], false, false⟩,
              ⟨none, .store 2 (.tmp 11) (.tmp 73), none, [], false, false⟩,
              ⟨(some 12), .move (.tmp 74), none, [], false, false⟩])
           (.seq (.region false [⟨(some 75), .move (.tmp 12), none, [], false, false⟩,
               ⟨(some 76), .bin .eql (.tmp 75) (.const (.int .i64 0)), none, [], false, false⟩,
               ⟨(some 77), .move (.tmp 76), none, [], false, false⟩,
               ⟨(some 78), .move (.tmp 10), (some (77, true)), [], false, false⟩,
               ⟨(some 79), .pick (.tmp 77) (.tmp 78) (.const (.bool false)), none, [], false, false⟩,
               ⟨(some 2), .move (.tmp 79), none, [], false, false⟩])
            (.ret)))))))))))),
 [.tmp 2], .pure, 80⟩

/-- agraffe/agraffelaw07.awake -/
def ef14 : EFun := ⟨
 .seq (.region false [⟨(some 0), .move (.const (.bool false)), none, [], false, false⟩])
 (.seq (.region false [⟨(some 8), .call 64 [], none, [], false, false⟩,
     ⟨(some 9), .buildSlice 1 2 [(.int .i64 0), (.int .i64 0)] [(0, 1, (.const (.int .i64 0))), (1, 1, (.const (.int .i64 1)))], none, [], false, false⟩,
     ⟨(some 10), .call 61 [(.tmp 8), (.tmp 9)], none, [], false, false⟩,
     ⟨(some 7), .move (.tmp 10), none, [], false, false⟩,
     ⟨(some 11), .extract (.tmp 7) 0, none, [], false, false⟩,
     ⟨(some 12), .extract (.tmp 7) 1, none, [], false, false⟩,
     ⟨(some 1), .move (.tmp 11), none, [], false, false⟩,
     ⟨(some 2), .move (.tmp 12), none, [], false, false⟩])
  (.seq (.region false [⟨(some 14), .call 15 [(.const (.int .i64 10000)), (.const (.int .i64 200)), (.const (.int .i64 500))], none, [], false, false⟩,
      ⟨(some 13), .move (.tmp 14), none, [], false, false⟩,
      ⟨(some 15), .extract (.tmp 13) 0, none, [], false, false⟩,
      ⟨(some 16), .extract (.tmp 13) 1, none, [], false, false⟩,
      ⟨(some 3), .move (.tmp 15), none, [], false, false⟩,
      ⟨(some 4), .move (.tmp 16), none, [], false, false⟩])
   (.seq (.region false [⟨(some 18), .build [(.int .i64 0), (.int .i64 0), (.int .i64 0), (.int .i64 0)] [(0, 1, (.const (.int .i64 400))), (1, 1, (.const (.int .i64 10))), (2, 1, (.const (.int .i64 50))), (3, 1, (.const (.int .i64 400)))], none, [], false, false⟩,
       ⟨(some 19), .build [(.int .i64 0), (.int .i64 0)] [(1, 1, (.const (.int .i64 500)))], none, [], false, false⟩,
       ⟨(some 20), .buildSlice 2 1 [(.int .i64 0), (.int .i64 0)] [(0, 2, (.tmp 19))], none, [], false, false⟩,
       ⟨(some 21), .call 25 [(.tmp 18), (.tmp 20), (.const (.int .i64 2))], none, [], false, false⟩,
       ⟨(some 17), .move (.tmp 21), none, [], false, false⟩,
       ⟨(some 22), .extract (.tmp 17) 0, none, [], false, false⟩,
       ⟨(some 23), .extract (.tmp 17) 1, none, [], false, false⟩,
       ⟨(some 5), .move (.tmp 22), none, [], false, false⟩,
       ⟨(some 6), .move (.tmp 23), none, [], false, false⟩])
    (.seq (.region false [⟨(some 24), .move (.tmp 2), none, [], false, false⟩,
        ⟨(some 25), .bin .eql (.tmp 24) (.const (.int .i64 0)), none, [], false, false⟩,
        ⟨(some 26), .move (.tmp 25), none, [], false, false⟩,
        ⟨(some 27), .move (.tmp 1), (some (26, true)), [], false, false⟩,
        ⟨(some 28), .len false (.tmp 27), (some (26, true)), [], false, false⟩,
        ⟨(some 29), .bin .eql (.tmp 28) (.const (.int .i64 1)), (some (26, true)), [], false, false⟩,
        ⟨(some 30), .pick (.tmp 26) (.tmp 29) (.const (.bool false)), none, [], false, false⟩,
        ⟨(some 31), .move (.tmp 30), none, [], false, false⟩,
        ⟨(some 32), .move (.tmp 1), (some (31, true)), [], false, false⟩,
        ⟨(some 33), .indexAddr none 1 (.tmp 32) (.const (.int .i64 0)), (some (31, true)), [], false, false⟩,
        ⟨(some 34), .load false 1 (.tmp 33), (some (31, true)), [], false, false⟩,
        ⟨(some 35), .buildSlice 1 1 [(.int .i64 0)] [(0, 1, (.const (.int .i64 36)))], (some (31, true)), [], false, false⟩,
        ⟨(some 36), .call 47 [(.tmp 34), (.tmp 35)], (some (31, true)), [], false, false⟩,
        ⟨(some 37), .pick (.tmp 31) (.tmp 36) (.const (.bool false)), none, [], false, false⟩,
        ⟨(some 38), .move (.tmp 37), none, [], false, false⟩,
        ⟨(some 39), .move (.tmp 4), (some (38, true)), [], false, false⟩,
        ⟨(some 40), .bin .eql (.tmp 39) (.const (.int .i64 0)), (some (38, true)), [], false, false⟩,
        ⟨(some 41), .pick (.tmp 38) (.tmp 40) (.const (.bool false)), none, [], false, false⟩,
        ⟨(some 42), .move (.tmp 41), none, [], false, false⟩,
        ⟨(some 43), .move (.tmp 3), (some (42, true)), [], false, false⟩,
        ⟨(some 44), .bin .eql (.tmp 43) (.const (.int .i64 2)), (some (42, true)), [], false, false⟩,
        ⟨(some 45), .pick (.tmp 42) (.tmp 44) (.const (.bool false)), none, [], false, false⟩,
        ⟨(some 46), .move (.tmp 45), none, [], false, false⟩,
        ⟨(some 47), .move (.tmp 6), (some (46, true)), [], false, false⟩,
        ⟨(some 48), .bin .eql (.tmp 47) (.const (.int .i64 0)), (some (46, true)), [], false, false⟩,
        ⟨(some 49), .pick (.tmp 46) (.tmp 48) (.const (.bool false)), none, [], false, false⟩,
        ⟨(some 50), .move (.tmp 49), none, [], false, false⟩,
        ⟨(some 51), .move (.tmp 5), (some (50, true)), [], false, false⟩,
        ⟨(some 52), .bin .eql (.tmp 51) (.const (.int .i64 419000)), (some (50, true)), [], false, false⟩,
        ⟨(some 53), .pick (.tmp 50) (.tmp 52) (.const (.bool false)), none, [], false, false⟩,
        ⟨(some 0), .move (.tmp 53), none, [], false, false⟩])
     (.ret))))),
 [.tmp 0], .pure, 54⟩

/-- agraffe/upkeep.Passes -/
def ef15 : EFun := ⟨
 .seq (.region false [⟨(some 6), .move (.const (.int .i64 0)), none, [], false, false⟩,
    ⟨(some 7), .move (.const (.int .i64 0)), none, [], false, false⟩])
 (.seq (.seq (.region false [⟨(some 10), .move (.tmp 0), none, [], false, false⟩,
      ⟨(some 11), .call 65 [(.tmp 10), (.const (.int .i64 0)), (.const (.int .i64 200000))], none, [], false, false⟩,
      ⟨(some 12), .un .not (.tmp 11), none, [], false, false⟩,
      ⟨(some 13), .move (.tmp 12), none, [], false, false⟩,
      ⟨(some 14), .move (.tmp 1), (some (13, false)), [], false, false⟩,
      ⟨(some 15), .call 65 [(.tmp 14), (.const (.int .i64 0)), (.const (.int .i64 999))], (some (13, false)), [], false, false⟩,
      ⟨(some 16), .un .not (.tmp 15), (some (13, false)), [], false, false⟩,
      ⟨(some 17), .pick (.tmp 13) (.const (.bool true)) (.tmp 16), none, [], false, false⟩,
      ⟨(some 18), .move (.tmp 17), none, [], false, false⟩,
      ⟨(some 19), .move (.tmp 2), (some (18, false)), [], false, false⟩,
      ⟨(some 20), .call 65 [(.tmp 19), (.const (.int .i64 0)), (.const (.int .i64 200000))], (some (18, false)), [], false, false⟩,
      ⟨(some 21), .un .not (.tmp 20), (some (18, false)), [], false, false⟩,
      ⟨(some 22), .pick (.tmp 18) (.const (.bool true)) (.tmp 21), none, [], false, false⟩])
   (.cond (.tmp 22) (.seq (.region false [⟨(some 6), .move (.const (.int .i64 0)), none, [], false, false⟩,
        ⟨(some 7), .move (.const (.int .i64 2)), none, [], false, false⟩])
     (.ret))
    (.skip)))
  (.seq (.region false [⟨(some 8), .move (.const (.int .i64 0)), none, [], false, false⟩])
   (.seq (.block 0 (.loop (some [0, 1, 2, 8]) (
      .seq (.seq (.region false [⟨(some 23), .move (.tmp 0), none, [], false, false⟩,
           ⟨(some 24), .move (.tmp 2), none, [], false, false⟩,
           ⟨(some 25), .bin .gtr (.tmp 23) (.tmp 24), none, [], false, false⟩])
        (.cond (.tmp 25) (.skip)
         (.exit 0)))
       (.seq (.block 1 (.seq (.region false [⟨(some 28), .move (.tmp 0), none, [], false, false⟩,
             ⟨(some 29), .move (.tmp 1), none, [], false, false⟩,
             ⟨(some 30), .bin .mul (.tmp 28) (.tmp 29), none, [], false, false⟩,
             ⟨(some 31), .bin .add (.tmp 30) (.const (.int .i64 1000)), none, [], false, false⟩,
             ⟨(some 32), .bin .sub (.tmp 31) (.const (.int .i64 1)), none, [], false, false⟩,
             ⟨(some 33), .bin .quo (.tmp 32) (.const (.int .i64 1000)), none, [], false, false⟩,
             ⟨(some 9), .move (.tmp 33), none, [], false, false⟩])
          (.seq (.seq (.region false [⟨(some 34), .move (.tmp 9), none, [], false, false⟩,
               ⟨(some 35), .move (.tmp 0), none, [], false, false⟩,
               ⟨(some 36), .bin .eql (.tmp 34) (.tmp 35), none, [], false, false⟩])
            (.cond (.tmp 36) (.seq (.region false [⟨(some 6), .move (.const (.int .i64 0)), none, [], false, false⟩,
                 ⟨(some 7), .move (.const (.int .i64 12)), none, [], false, false⟩])
              (.ret))
             (.skip)))
           (.region false [⟨(some 37), .move (.tmp 9), none, [], false, false⟩,
              ⟨(some 0), .move (.tmp 37), none, [], false, false⟩]))))
        (.region false [⟨(some 26), .move (.tmp 8), none, [], false, false⟩,
           ⟨(some 27), .bin .add (.tmp 26) (.const (.int .i64 1)), none, [], false, false⟩,
           ⟨(some 8), .move (.tmp 27), none, [], false, false⟩])))))
    (.seq (.region false [⟨(some 38), .move (.tmp 8), none, [], false, false⟩,
        ⟨(some 6), .move (.tmp 38), none, [], false, false⟩,
        ⟨(some 7), .move (.const (.int .i64 0)), none, [], false, false⟩])
     (.ret))))),
 [.tmp 6, .tmp 7], .pure, 39⟩

/-- agraffe/agrafferef07.Passes -/
def ef16 : EFun := ⟨
 .seq (.region false [⟨(some 6), .move (.const (.int .i64 0)), none, [], false, false⟩,
    ⟨(some 7), .move (.const (.int .i64 0)), none, [], false, false⟩])
 (.seq (.seq (.region false [⟨(some 10), .move (.tmp 0), none, [], false, false⟩,
      ⟨(some 11), .call 66 [(.tmp 10)], none, [], false, false⟩,
      ⟨(some 12), .un .not (.tmp 11), none, [], false, false⟩,
      ⟨(some 13), .move (.tmp 12), none, [], false, false⟩,
      ⟨(some 14), .move (.tmp 1), (some (13, false)), [], false, false⟩,
      ⟨(some 15), .call 30 [(.tmp 14), (.const (.int .i64 0)), (.const (.int .i64 999))], (some (13, false)), [], false, false⟩,
      ⟨(some 16), .un .not (.tmp 15), (some (13, false)), [], false, false⟩,
      ⟨(some 17), .pick (.tmp 13) (.const (.bool true)) (.tmp 16), none, [], false, false⟩,
      ⟨(some 18), .move (.tmp 17), none, [], false, false⟩,
      ⟨(some 19), .move (.tmp 2), (some (18, false)), [], false, false⟩,
      ⟨(some 20), .call 66 [(.tmp 19)], (some (18, false)), [], false, false⟩,
      ⟨(some 21), .un .not (.tmp 20), (some (18, false)), [], false, false⟩,
      ⟨(some 22), .pick (.tmp 18) (.const (.bool true)) (.tmp 21), none, [], false, false⟩])
   (.cond (.tmp 22) (.seq (.region false [⟨(some 6), .move (.const (.int .i64 0)), none, [], false, false⟩,
        ⟨(some 7), .move (.const (.int .i64 2)), none, [], false, false⟩])
     (.ret))
    (.skip)))
  (.seq (.region false [⟨(some 8), .move (.const (.int .i64 0)), none, [], false, false⟩])
   (.seq (.block 0 (.loop (some [0, 1, 2, 8]) (
      .seq (.seq (.region false [⟨(some 23), .move (.tmp 0), none, [], false, false⟩,
           ⟨(some 24), .move (.tmp 2), none, [], false, false⟩,
           ⟨(some 25), .bin .gtr (.tmp 23) (.tmp 24), none, [], false, false⟩])
        (.cond (.tmp 25) (.skip)
         (.exit 0)))
       (.block 1 (.seq (.region false [⟨(some 26), .move (.tmp 0), none, [], false, false⟩,
            ⟨(some 27), .move (.tmp 1), none, [], false, false⟩,
            ⟨(some 28), .bin .mul (.tmp 26) (.tmp 27), none, [], false, false⟩,
            ⟨(some 29), .call 67 [(.tmp 28), (.const (.int .i64 1000))], none, [], false, false⟩,
            ⟨(some 9), .move (.tmp 29), none, [], false, false⟩])
         (.seq (.seq (.region false [⟨(some 30), .move (.tmp 9), none, [], false, false⟩,
              ⟨(some 31), .move (.tmp 0), none, [], false, false⟩,
              ⟨(some 32), .bin .eql (.tmp 30) (.tmp 31), none, [], false, false⟩])
           (.cond (.tmp 32) (.seq (.region false [⟨(some 6), .move (.const (.int .i64 0)), none, [], false, false⟩,
                ⟨(some 7), .move (.const (.int .i64 12)), none, [], false, false⟩])
             (.ret))
            (.skip)))
          (.region false [⟨(some 33), .move (.tmp 9), none, [], false, false⟩,
             ⟨(some 34), .move (.tmp 8), none, [], false, false⟩,
             ⟨(some 35), .bin .add (.tmp 34) (.const (.int .i64 1)), none, [], false, false⟩,
             ⟨(some 0), .move (.tmp 33), none, [], false, false⟩,
             ⟨(some 8), .move (.tmp 35), none, [], false, false⟩])))))))
    (.seq (.region false [⟨(some 36), .move (.tmp 8), none, [], false, false⟩,
        ⟨(some 6), .move (.tmp 36), none, [], false, false⟩,
        ⟨(some 7), .move (.const (.int .i64 0)), none, [], false, false⟩])
     (.ret))))),
 [.tmp 6, .tmp 7], .pure, 37⟩

/-- agraffe/agraffelaw07.readings -/
def ef17 : EFun := ⟨
 .seq (.region false [⟨(some 4), .move (.const (.bool false)), none, [], false, false⟩])
 (.seq (.region false [⟨(some 5), .move (.tmp 0), none, [], false, false⟩,
     ⟨(some 6), .len false (.tmp 5), none, [], false, false⟩,
     ⟨(some 7), .move (.tmp 1), none, [], false, false⟩,
     ⟨(some 8), .bin .leq (.tmp 6) (.tmp 7), none, [], false, false⟩,
     ⟨(some 9), .move (.tmp 8), none, [], false, false⟩,
     ⟨(some 10), .move (.tmp 0), (some (9, false)), [], false, false⟩,
     ⟨(some 11), .len false (.tmp 10), (some (9, false)), [], false, false⟩,
     ⟨(some 12), .bin .gtr (.tmp 11) (.const (.int .i64 200)), (some (9, false)), [], false, false⟩,
     ⟨(some 13), .move (.tmp 12), (some (9, false)), [], false, false⟩,
     ⟨(some 14), .move (.tmp 0), (some (13, true)), [], false, false⟩,
     ⟨(some 15), .len false (.tmp 14), (some (13, true)), [], false, false⟩,
     ⟨(some 16), .bin .leq (.tmp 15) (.const (.int .i64 203)), (some (13, true)), [], false, false⟩,
     ⟨(some 17), .pick (.tmp 13) (.tmp 16) (.const (.bool false)), (some (9, false)), [], false, false⟩,
     ⟨(some 18), .pick (.tmp 9) (.const (.bool true)) (.tmp 17), none, [], false, false⟩,
     ⟨(some 4), .move (.tmp 18), none, [], false, false⟩])
  (.ret)),
 [.tmp 4], .pure, 19⟩

/-- agraffe/agrafferef07.CheckClimate -/
def ef18 : EFun := ⟨
 .seq (.region false [⟨(some 2), .move (.const (.int .i64 0)), none, [], false, false⟩])
 (.seq (.seq (.region false [⟨(some 4), .move (.tmp 0), none, [], false, false⟩,
      ⟨(some 5), .len false (.tmp 4), none, [], false, false⟩,
      ⟨(some 6), .bin .eql (.tmp 5) (.const (.int .i64 0)), none, [], false, false⟩])
   (.cond (.tmp 6) (.seq (.region false [⟨(some 2), .move (.const (.int .i64 12)), none, [], false, false⟩])
     (.ret))
    (.skip)))
  (.seq (.seq (.region false [⟨(some 7), .move (.tmp 0), none, [], false, false⟩,
       ⟨(some 8), .len false (.tmp 7), none, [], false, false⟩,
       ⟨(some 9), .bin .gtr (.tmp 8) (.const (.int .i64 200)), none, [], false, false⟩])
    (.cond (.tmp 9) (.seq (.region false [⟨(some 2), .move (.const (.int .i64 8)), none, [], false, false⟩])
      (.ret))
     (.skip)))
   (.seq (.seq (.region false [⟨(some 3), .move (.const (.int .i64 0)), none, [], false, false⟩])
     (.block 0 (.loop (some [0, 3]) (
       .seq (.seq (.region false [⟨(some 10), .move (.tmp 3), none, [], false, false⟩,
            ⟨(some 11), .move (.tmp 0), none, [], false, false⟩,
            ⟨(some 12), .len false (.tmp 11), none, [], false, false⟩,
            ⟨(some 13), .bin .lss (.tmp 10) (.tmp 12), none, [], false, false⟩])
         (.cond (.tmp 13) (.skip)
          (.exit 0)))
        (.seq (.block 1 (.seq (.seq (.region false [⟨(some 16), .move (.tmp 0), none, [], false, false⟩,
               ⟨(some 17), .move (.tmp 3), none, [], false, false⟩,
               ⟨(some 18), .indexAddr none 2 (.tmp 16) (.tmp 17), none, [], false, false⟩,
               ⟨(some 19), .fieldAddr 0 (.tmp 18), none, [], false, false⟩,
               ⟨(some 20), .load false 1 (.tmp 19), none, [], false, false⟩,
               ⟨(some 21), .call 23 [(.tmp 20)], none, [], false, false⟩,
               ⟨(some 22), .un .not (.tmp 21), none, [], false, false⟩,
               ⟨(some 23), .move (.tmp 22), none, [], false, false⟩,
               ⟨(some 24), .move (.tmp 0), (some (23, false)), [], false, false⟩,
               ⟨(some 25), .move (.tmp 3), (some (23, false)), [], false, false⟩,
               ⟨(some 26), .indexAddr none 2 (.tmp 24) (.tmp 25), (some (23, false)), [], false, false⟩,
               ⟨(some 27), .fieldAddr 1 (.tmp 26), (some (23, false)), [], false, false⟩,
               ⟨(some 28), .load false 1 (.tmp 27), (some (23, false)), [], false, false⟩,
               ⟨(some 29), .call 30 [(.tmp 28), (.const (.int .i64 0)), (.const (.int .i64 1000))], (some (23, false)), [], false, false⟩,
               ⟨(some 30), .un .not (.tmp 29), (some (23, false)), [], false, false⟩,
               ⟨(some 31), .pick (.tmp 23) (.const (.bool true)) (.tmp 30), none, [], false, false⟩])
            (.cond (.tmp 31) (.seq (.region false [⟨(some 2), .move (.const (.int .i64 2)), none, [], false, false⟩])
              (.ret))
             (.skip)))
           (.seq (.region true [⟨(some 32), .move (.tmp 3), none, [], false, false⟩,
               ⟨(some 33), .bin .gtr (.tmp 32) (.const (.int .i64 0)), none, [], false, false⟩,
               ⟨(some 34), .move (.tmp 33), none, [], false, false⟩,
               ⟨(some 35), .move (.tmp 0), (some (34, true)), [], false, false⟩,
               ⟨(some 36), .move (.tmp 3), (some (34, true)), [], false, false⟩,
               ⟨(some 37), .indexAddr none 2 (.tmp 35) (.tmp 36), (some (34, true)), [], false, false⟩,
               ⟨(some 38), .fieldAddr 0 (.tmp 37), (some (34, true)), [], false, false⟩,
               ⟨(some 39), .load false 1 (.tmp 38), (some (34, true)), [], false, false⟩,
               ⟨(some 40), .move (.tmp 0), (some (34, true)), [], false, false⟩,
               ⟨(some 41), .move (.tmp 3), (some (34, true)), [], false, false⟩,
               ⟨(some 42), .bin .sub (.tmp 41) (.const (.int .i64 1)), (some (34, true)), [], false, false⟩,
               ⟨(some 43), .indexAddr none 2 (.tmp 40) (.tmp 42), (some (34, true)), [], false, false⟩,
               ⟨(some 44), .fieldAddr 0 (.tmp 43), (some (34, true)), [], false, false⟩,
               ⟨(some 45), .load false 1 (.tmp 44), (some (34, true)), [], false, false⟩,
               ⟨(some 46), .bin .leq (.tmp 39) (.tmp 45), (some (34, true)), [], false, false⟩,
               ⟨(some 47), .pick (.tmp 34) (.tmp 46) (.const (.bool false)), none, [], false, false⟩])
            (.cond (.tmp 47) (.seq (.region false [⟨(some 2), .move (.const (.int .i64 9)), none, [], false, false⟩])
              (.ret))
             (.skip)))))
         (.region false [⟨(some 14), .move (.tmp 3), none, [], false, false⟩,
            ⟨(some 15), .bin .add (.tmp 14) (.const (.int .i64 1)), none, [], false, false⟩,
            ⟨(some 3), .move (.tmp 15), none, [], false, false⟩]))))))
    (.seq (.region false [⟨(some 2), .move (.const (.int .i64 0)), none, [], false, false⟩])
     (.ret))))),
 [.tmp 2], .pure, 48⟩

/-- agraffe/upkeep.CheckClimate -/
def ef19 : EFun := ⟨
 .seq (.region false [⟨(some 2), .move (.const (.int .i64 0)), none, [], false, false⟩])
 (.seq (.block 0 (.seq (.region false [⟨(some 7), .move (.tmp 0), none, [], false, false⟩,
       ⟨(some 8), .len false (.tmp 7), none, [], false, false⟩,
       ⟨(some 9), .bin .eql (.tmp 8) (.const (.int .i64 0)), none, [], false, false⟩,
       ⟨(some 6), .move (.tmp 9), none, [], false, false⟩])
    (.cond (.tmp 6) (.seq (.region false [⟨(some 2), .move (.const (.int .i64 12)), none, [], false, false⟩])
      (.ret))
     (.seq (.region false [⟨(some 11), .move (.tmp 0), none, [], false, false⟩,
         ⟨(some 12), .len false (.tmp 11), none, [], false, false⟩,
         ⟨(some 13), .bin .gtr (.tmp 12) (.const (.int .i64 200)), none, [], false, false⟩,
         ⟨(some 10), .move (.tmp 13), none, [], false, false⟩])
      (.cond (.tmp 10) (.seq (.region false [⟨(some 2), .move (.const (.int .i64 8)), none, [], false, false⟩])
        (.ret))
       (.skip))))))
  (.seq (.seq (.region false [⟨(some 14), .move (.tmp 0), none, [], false, false⟩,
       ⟨(some 15), .len false (.tmp 14), none, [], false, false⟩,
       ⟨(some 16), .move (.const (.int .i64 0)), none, [], false, false⟩])
    (.block 1 (.loop (some [0, 14, 15, 16]) (
      .seq (.region false [⟨(some 17), .bin .lss (.tmp 16) (.tmp 15), none, [], false, false⟩])
       (.seq (.cond (.tmp 17) (.skip)
         (.exit 1))
        (.seq (.block 2 (.seq (.region false [⟨(some 18), .move (.tmp 16), none, [], false, false⟩,
              ⟨(some 19), .indexAddr none 2 (.tmp 14) (.tmp 16), none, [], false, false⟩,
              ⟨(some 20), .load true 2 (.tmp 19), none, [], false, false⟩,
              ⟨(some 4), .push [(.int .i64 0), (.int .i64 0)], none, [], false, false⟩,
              ⟨(some 3), .move (.tmp 18), none, [], false, false⟩,
              ⟨none, .store 2 (.tmp 4) (.tmp 20), none, [], false, false⟩])
           (.seq (.seq (.region false [⟨(some 21), .load true 2 (.tmp 4), none, [], false, false⟩,
                ⟨(some 22), .call 68 [(.tmp 21)], none, [], false, false⟩,
                ⟨(some 5), .move (.tmp 22), none, [], false, false⟩])
             (.seq (.region false [⟨(some 23), .move (.tmp 5), none, [], false, false⟩,
                 ⟨(some 24), .bin .neq (.tmp 23) (.const (.int .i64 0)), none, [], false, false⟩])
              (.cond (.tmp 24) (.seq (.region false [⟨(some 25), .move (.tmp 5), none, [], false, false⟩,
                   ⟨(some 2), .move (.tmp 25), none, [], false, false⟩])
                (.ret))
               (.skip))))
            (.seq (.region true [⟨(some 26), .move (.tmp 3), none, [], false, false⟩,
                ⟨(some 27), .bin .gtr (.tmp 26) (.const (.int .i64 0)), none, [], false, false⟩,
                ⟨(some 28), .move (.tmp 27), none, [], false, false⟩,
                ⟨(some 29), .fieldAddr 0 (.tmp 4), (some (28, true)), [], false, false⟩,
                ⟨(some 30), .load false 1 (.tmp 29), (some (28, true)), [], false, false⟩,
                ⟨(some 31), .move (.tmp 0), (some (28, true)), [], false, false⟩,
                ⟨(some 32), .move (.tmp 3), (some (28, true)), [], false, false⟩,
                ⟨(some 33), .bin .sub (.tmp 32) (.const (.int .i64 1)), (some (28, true)), [], false, false⟩,
                ⟨(some 34), .indexAddr none 2 (.tmp 31) (.tmp 33), (some (28, true)), [], false, false⟩,
                ⟨(some 35), .fieldAddr 0 (.tmp 34), (some (28, true)), [], false, false⟩,
                ⟨(some 36), .load false 1 (.tmp 35), (some (28, true)), [], false, false⟩,
                ⟨(some 37), .bin .leq (.tmp 30) (.tmp 36), (some (28, true)), [], false, false⟩,
                ⟨(some 38), .pick (.tmp 28) (.tmp 37) (.const (.bool false)), none, [], false, false⟩])
             (.cond (.tmp 38) (.seq (.region false [⟨(some 2), .move (.const (.int .i64 9)), none, [], false, false⟩])
               (.ret))
              (.skip))))))
         (.region false [⟨(some 39), .bin .add (.tmp 16) (.const (.int .i64 1)), none, [], false, false⟩,
            ⟨(some 16), .move (.tmp 39), none, [], false, false⟩])))))))
   (.seq (.region false [⟨(some 2), .move (.const (.int .i64 0)), none, [], false, false⟩])
    (.ret)))),
 [.tmp 2], .pure, 40⟩

/-- agraffe/agraffelaw07.kept -/
def ef20 : EFun := ⟨
 .seq (.region false [⟨(some 2), .move (.const (.slice none 0 0)), none, [], false, false⟩])
 (.seq (.region false [⟨(some 3), .buildSlice 2 0 [] [], none, [], false, false⟩,
     ⟨(some 4), .move (.tmp 0), none, [], false, false⟩,
     ⟨(some 5), .append 2 16 (.tmp 3) (.tmp 4), none, [], false, false⟩,
     ⟨(some 2), .move (.tmp 5), none, [], false, false⟩])
  (.ret)),
 [.tmp 2], .pure, 6⟩

/-- agraffe/upkeep.AddReading -/
def ef21 : EFun := ⟨
 .seq (.region false [⟨(some 3), .box (.tmp 1), none, [], false, false⟩,
    ⟨(some 4), .move (.const (.slice none 0 0)), none, [], false, false⟩,
    ⟨(some 5), .move (.const (.int .i64 0)), none, [], false, false⟩])
 (.seq (.region true [⟨(some 8), .move (.tmp 0), none, [], false, false⟩,
     ⟨(some 9), .call 69 [(.tmp 8)], none, [], false, true⟩,
     ⟨(some 10), .load true 2 (.tmp 3), none, [], false, false⟩,
     ⟨(some 11), .buildSlice 2 1 [(.int .i64 0), (.int .i64 0)] [(0, 2, (.tmp 10))], none, [], false, false⟩,
     ⟨(some 12), .append 2 16 (.tmp 9) (.tmp 11), none, [], false, false⟩,
     ⟨(some 6), .move (.tmp 12), none, [], false, false⟩])
  (.seq (.seq (.region false [⟨(some 13), .move (.tmp 6), none, [], false, false⟩,
       ⟨(some 14), .call 19 [(.tmp 13)], none, [], false, false⟩,
       ⟨(some 7), .move (.tmp 14), none, [], false, false⟩])
    (.seq (.region false [⟨(some 15), .move (.tmp 7), none, [], false, false⟩,
        ⟨(some 16), .bin .neq (.tmp 15) (.const (.int .i64 0)), none, [], false, false⟩])
     (.cond (.tmp 16) (.seq (.region false [⟨(some 17), .move (.tmp 7), none, [], false, false⟩,
          ⟨(some 4), .move (.const (.slice none 0 0)), none, [], false, false⟩,
          ⟨(some 5), .move (.tmp 17), none, [], false, false⟩])
       (.ret))
      (.skip))))
   (.seq (.region false [⟨(some 18), .move (.tmp 6), none, [], false, false⟩,
       ⟨(some 4), .move (.tmp 18), none, [], false, false⟩,
       ⟨(some 5), .move (.const (.int .i64 0)), none, [], false, false⟩])
    (.ret)))),
 [.tmp 4, .tmp 5], .pure, 19⟩

/-- agraffe/upkeep.HumidityOn -/
def ef22 : EFun := ⟨
 .seq (.region false [⟨(some 4), .move (.const (.int .i64 0)), none, [], false, false⟩,
    ⟨(some 5), .move (.const (.int .i64 0)), none, [], false, false⟩])
 (.seq (.seq (.region false [⟨(some 7), .move (.tmp 0), none, [], false, false⟩,
      ⟨(some 8), .call 19 [(.tmp 7)], none, [], false, false⟩,
      ⟨(some 6), .move (.tmp 8), none, [], false, false⟩])
   (.seq (.region false [⟨(some 9), .move (.tmp 6), none, [], false, false⟩,
       ⟨(some 10), .bin .neq (.tmp 9) (.const (.int .i64 0)), none, [], false, false⟩])
    (.cond (.tmp 10) (.seq (.region false [⟨(some 11), .move (.tmp 6), none, [], false, false⟩,
         ⟨(some 4), .move (.const (.int .i64 0)), none, [], false, false⟩,
         ⟨(some 5), .move (.tmp 11), none, [], false, false⟩])
      (.ret))
     (.skip))))
  (.seq (.seq (.region false [⟨(some 12), .move (.tmp 1), none, [], false, false⟩,
       ⟨(some 13), .call 70 [(.tmp 12)], none, [], false, false⟩,
       ⟨(some 14), .un .not (.tmp 13), none, [], false, false⟩])
    (.cond (.tmp 14) (.seq (.region false [⟨(some 4), .move (.const (.int .i64 0)), none, [], false, false⟩,
         ⟨(some 5), .move (.const (.int .i64 2)), none, [], false, false⟩])
      (.ret))
     (.skip)))
   (.seq (.region false [⟨(some 15), .move (.tmp 0), none, [], false, false⟩,
       ⟨(some 16), .move (.tmp 1), none, [], false, false⟩,
       ⟨(some 17), .call 71 [(.tmp 15), (.tmp 16)], none, [], false, false⟩,
       ⟨(some 4), .move (.tmp 17), none, [], false, false⟩,
       ⟨(some 5), .move (.const (.int .i64 0)), none, [], false, false⟩])
    (.ret)))),
 [.tmp 4, .tmp 5], .pure, 18⟩

/-- agraffe/agrafferef07.IsDay -/
def ef23 : EFun := ⟨
 .seq (.region false [⟨(some 2), .move (.const (.bool false)), none, [], false, false⟩])
 (.seq (.region false [⟨(some 3), .move (.tmp 0), none, [], false, false⟩,
     ⟨(some 4), .call 30 [(.tmp 3), (.const (.int .i64 0)), (.const (.int .i64 100000))], none, [], false, false⟩,
     ⟨(some 2), .move (.tmp 4), none, [], false, false⟩])
  (.ret)),
 [.tmp 2], .pure, 5⟩

/-- agraffe/agrafferef07.HumidityOn -/
def ef24 : EFun := ⟨
 .seq (.region false [⟨(some 4), .move (.const (.int .i64 0)), none, [], false, false⟩])
 (.seq (.region false [⟨(some 7), .move (.tmp 0), none, [], false, false⟩,
     ⟨(some 8), .indexAddr none 2 (.tmp 7) (.const (.int .i64 0)), none, [], false, false⟩,
     ⟨(some 9), .fieldAddr 1 (.tmp 8), none, [], false, false⟩,
     ⟨(some 10), .load false 1 (.tmp 9), none, [], false, false⟩,
     ⟨(some 5), .move (.tmp 10), none, [], false, false⟩])
  (.seq (.seq (.region false [⟨(some 6), .move (.const (.int .i64 0)), none, [], false, false⟩])
    (.block 0 (.loop (some [0, 1, 5, 6]) (
      .seq (.seq (.region false [⟨(some 11), .move (.tmp 6), none, [], false, false⟩,
           ⟨(some 12), .move (.tmp 0), none, [], false, false⟩,
           ⟨(some 13), .len false (.tmp 12), none, [], false, false⟩,
           ⟨(some 14), .bin .lss (.tmp 11) (.tmp 13), none, [], false, false⟩])
        (.cond (.tmp 14) (.skip)
         (.exit 0)))
       (.seq (.block 1 (.seq (.region false [⟨(some 17), .move (.tmp 0), none, [], false, false⟩,
             ⟨(some 18), .move (.tmp 6), none, [], false, false⟩,
             ⟨(some 19), .indexAddr none 2 (.tmp 17) (.tmp 18), none, [], false, false⟩,
             ⟨(some 20), .fieldAddr 0 (.tmp 19), none, [], false, false⟩,
             ⟨(some 21), .load false 1 (.tmp 20), none, [], false, false⟩,
             ⟨(some 22), .move (.tmp 1), none, [], false, false⟩,
             ⟨(some 23), .bin .leq (.tmp 21) (.tmp 22), none, [], false, false⟩])
          (.cond (.tmp 23) (.region false [⟨(some 24), .move (.tmp 0), none, [], false, false⟩,
              ⟨(some 25), .move (.tmp 6), none, [], false, false⟩,
              ⟨(some 26), .indexAddr none 2 (.tmp 24) (.tmp 25), none, [], false, false⟩,
              ⟨(some 27), .fieldAddr 1 (.tmp 26), none, [], false, false⟩,
              ⟨(some 28), .load false 1 (.tmp 27), none, [], false, false⟩,
              ⟨(some 5), .move (.tmp 28), none, [], false, false⟩])
           (.skip))))
        (.region false [⟨(some 15), .move (.tmp 6), none, [], false, false⟩,
           ⟨(some 16), .bin .add (.tmp 15) (.const (.int .i64 1)), none, [], false, false⟩,
           ⟨(some 6), .move (.tmp 16), none, [], false, false⟩]))))))
   (.seq (.region false [⟨(some 29), .move (.tmp 5), none, [], false, false⟩,
       ⟨(some 4), .move (.tmp 29), none, [], false, false⟩])
    (.ret)))),
 [.tmp 4], .pure, 30⟩

/-- agraffe/upkeep.Moisture -/
def ef25 : EFun := ⟨
 .seq (.region false [⟨(some 3), .box (.tmp 0), none, [], false, false⟩,
    ⟨(some 6), .move (.const (.int .i64 0)), none, [], false, false⟩,
    ⟨(some 7), .move (.const (.int .i64 0)), none, [], false, false⟩])
 (.seq (.seq (.region false [⟨(some 9), .load true 4 (.tmp 3), none, [], false, false⟩,
      ⟨(some 10), .move (.tmp 1), none, [], false, false⟩,
      ⟨(some 11), .move (.tmp 2), none, [], false, false⟩,
      ⟨(some 12), .call 72 [(.tmp 9), (.tmp 10), (.tmp 11), (.const (.int .i64 0))], none, [], false, false⟩,
      ⟨(some 8), .move (.tmp 12), none, [], false, false⟩])
   (.seq (.region false [⟨(some 13), .move (.tmp 8), none, [], false, false⟩,
       ⟨(some 14), .bin .neq (.tmp 13) (.const (.int .i64 0)), none, [], false, false⟩])
    (.cond (.tmp 14) (.seq (.region false [⟨(some 15), .move (.tmp 8), none, [], false, false⟩,
         ⟨(some 6), .move (.const (.int .i64 0)), none, [], false, false⟩,
         ⟨(some 7), .move (.tmp 15), none, [], false, false⟩])
      (.ret))
     (.skip))))
  (.seq (.region false [⟨(some 16), .load true 4 (.tmp 3), none, [], false, false⟩,
      ⟨(some 17), .move (.tmp 1), none, [], false, false⟩,
      ⟨(some 18), .move (.tmp 2), none, [], false, false⟩,
      ⟨(some 19), .call 73 [(.tmp 16), (.tmp 17), (.tmp 18)], none, [], false, false⟩,
      ⟨(some 6), .move (.tmp 19), none, [], false, false⟩,
      ⟨(some 7), .move (.const (.int .i64 0)), none, [], false, false⟩])
   (.ret))),
 [.tmp 6, .tmp 7], .pure, 20⟩

/-- agraffe/upkeep.Offset -/
def ef26 : EFun := ⟨
 .seq (.region false [⟨(some 3), .box (.tmp 0), none, [], false, false⟩,
    ⟨(some 6), .move (.const (.int .i64 0)), none, [], false, false⟩,
    ⟨(some 7), .move (.const (.int .i64 0)), none, [], false, false⟩])
 (.seq (.seq (.region false [⟨(some 9), .load true 4 (.tmp 3), none, [], false, false⟩,
      ⟨(some 10), .move (.tmp 1), none, [], false, false⟩,
      ⟨(some 11), .move (.tmp 2), none, [], false, false⟩,
      ⟨(some 12), .call 72 [(.tmp 9), (.tmp 10), (.tmp 11), (.const (.int .i64 0))], none, [], false, false⟩,
      ⟨(some 8), .move (.tmp 12), none, [], false, false⟩])
   (.seq (.region false [⟨(some 13), .move (.tmp 8), none, [], false, false⟩,
       ⟨(some 14), .bin .neq (.tmp 13) (.const (.int .i64 0)), none, [], false, false⟩])
    (.cond (.tmp 14) (.seq (.region false [⟨(some 15), .move (.tmp 8), none, [], false, false⟩,
         ⟨(some 6), .move (.const (.int .i64 0)), none, [], false, false⟩,
         ⟨(some 7), .move (.tmp 15), none, [], false, false⟩])
      (.ret))
     (.skip))))
  (.seq (.region true [⟨(some 16), .load true 4 (.tmp 3), none, [], false, false⟩,
      ⟨(some 17), .load true 4 (.tmp 3), none, [], false, false⟩,
      ⟨(some 18), .move (.tmp 1), none, [], false, false⟩,
      ⟨(some 19), .move (.tmp 2), none, [], false, false⟩,
      ⟨(some 20), .call 73 [(.tmp 17), (.tmp 18), (.tmp 19)], none, [], false, true⟩,
      ⟨(some 21), .call 74 [(.tmp 16), (.tmp 20)], none, [], false, false⟩,
      ⟨(some 6), .move (.tmp 21), none, [], false, false⟩,
      ⟨(some 7), .move (.const (.int .i64 0)), none, [], false, false⟩])
   (.ret))),
 [.tmp 6, .tmp 7], .pure, 22⟩

/-- agraffe/upkeep.ServiceDay -/
def ef27 : EFun := ⟨
 .seq (.region false [⟨(some 3), .box (.tmp 0), none, [], false, false⟩,
    ⟨(some 5), .box (.tmp 2), none, [], false, false⟩,
    ⟨(some 6), .push [(.int .i64 0)], none, [], false, false⟩,
    ⟨(some 7), .push [(.int .i64 0)], none, [], false, false⟩])
 (.seq (.seq (.region false [⟨(some 12), .load true 4 (.tmp 3), none, [], false, false⟩,
      ⟨(some 13), .move (.tmp 1), none, [], false, false⟩,
      ⟨(some 14), .load false 1 (.tmp 5), none, [], false, false⟩,
      ⟨(some 15), .call 72 [(.tmp 12), (.tmp 13), (.tmp 14), (.const (.int .i64 1))], none, [], false, false⟩,
      ⟨(some 8), .move (.tmp 15), none, [], false, false⟩])
   (.seq (.region false [⟨(some 16), .move (.tmp 8), none, [], false, false⟩,
       ⟨(some 17), .bin .neq (.tmp 16) (.const (.int .i64 0)), none, [], false, false⟩])
    (.cond (.tmp 17) (.seq (.region false [⟨(some 18), .move (.tmp 8), none, [], false, false⟩,
         ⟨none, .store 1 (.tmp 6) (.const (.int .i64 0)), none, [], false, false⟩,
         ⟨none, .store 1 (.tmp 7) (.tmp 18), none, [], false, false⟩])
      (.ret))
     (.skip))))
  (.seq (.seq (.region false [⟨(some 19), .load true 4 (.tmp 3), none, [], false, false⟩,
       ⟨(some 20), .move (.tmp 1), none, [], false, false⟩,
       ⟨(some 21), .call 75 [(.tmp 19), (.tmp 20)], none, [], false, false⟩])
    (.block 0 (.rangeF (.tmp 21) 27 0 false [3, 5, 6, 7] [22, 23]
      (.seq (.region false [⟨(some 9), .move (.tmp 22), none, [], false, false⟩])
       (.region false [⟨(some 10), .move (.tmp 23), none, [], false, false⟩]))
      (.block 1 (.seq (.region false [⟨(some 24), .load true 4 (.tmp 3), none, [], false, false⟩,
           ⟨(some 25), .move (.tmp 10), none, [], false, false⟩,
           ⟨(some 26), .call 74 [(.tmp 24), (.tmp 25)], none, [], false, false⟩,
           ⟨(some 11), .move (.tmp 26), none, [], false, false⟩])
        (.seq (.region false [⟨(some 27), .move (.tmp 9), none, [], false, false⟩,
            ⟨(some 28), .load false 1 (.tmp 5), none, [], false, false⟩,
            ⟨(some 29), .bin .geq (.tmp 27) (.tmp 28), none, [], false, false⟩,
            ⟨(some 30), .move (.tmp 29), none, [], false, false⟩,
            ⟨(some 31), .move (.tmp 9), (some (30, false)), [], false, false⟩,
            ⟨(some 32), .bin .gtr (.tmp 31) (.const (.int .i64 0)), (some (30, false)), [], false, false⟩,
            ⟨(some 33), .move (.tmp 32), (some (30, false)), [], false, false⟩,
            ⟨(some 34), .move (.tmp 11), (some (33, true)), [], false, false⟩,
            ⟨(some 35), .move (.tmp 11), (some (33, true)), [], false, false⟩,
            ⟨(some 36), .un .neg (.tmp 35), (some (33, true)), [], false, false⟩,
            ⟨(some 37), .max [(.tmp 34), (.tmp 36)], (some (33, true)), [], false, false⟩,
            ⟨(some 38), .fieldAddr 3 (.tmp 3), (some (33, true)), [], false, false⟩,
            ⟨(some 39), .load false 1 (.tmp 38), (some (33, true)), [], false, false⟩,
            ⟨(some 40), .bin .gtr (.tmp 37) (.tmp 39), (some (33, true)), [], false, false⟩,
            ⟨(some 41), .pick (.tmp 33) (.tmp 40) (.const (.bool false)), (some (30, false)), [], false, false⟩,
            ⟨(some 42), .pick (.tmp 30) (.const (.bool true)) (.tmp 41), none, [], false, false⟩])
         (.cond (.tmp 42) (.seq (.region false [⟨(some 43), .move (.tmp 9), none, [], false, false⟩,
              ⟨none, .store 1 (.tmp 6) (.tmp 43), none, [], false, false⟩,
              ⟨none, .store 1 (.tmp 7) (.const (.int .i64 0)), none, [], false, false⟩])
           (.ret))
          (.skip))))))))
   (.seq (.region false [⟨(some 44), .load false 1 (.tmp 5), none, [], false, false⟩,
       ⟨none, .store 1 (.tmp 6) (.tmp 44), none, [], false, false⟩,
       ⟨none, .store 1 (.tmp 7) (.const (.int .i64 0)), none, [], false, false⟩])
    (.ret)))),
 [.cell 6 false 1, .cell 7 false 1], .pure, 45⟩

/-- agraffe/agrafferef07.CheckDrift -/
def ef28 : EFun := ⟨
 .seq (.region false [⟨(some 1), .box (.tmp 0), none, [], false, false⟩,
    ⟨(some 2), .move (.const (.int .i64 0)), none, [], false, false⟩])
 (.seq (.seq (.region false [⟨(some 3), .fieldAddr 0 (.tmp 1), none, [], false, false⟩,
      ⟨(some 4), .load false 1 (.tmp 3), none, [], false, false⟩,
      ⟨(some 5), .call 30 [(.tmp 4), (.const (.int .i64 0)), (.const (.int .i64 1000))], none, [], false, false⟩,
      ⟨(some 6), .un .not (.tmp 5), none, [], false, false⟩,
      ⟨(some 7), .move (.tmp 6), none, [], false, false⟩,
      ⟨(some 8), .fieldAddr 1 (.tmp 1), (some (7, false)), [], false, false⟩,
      ⟨(some 9), .load false 1 (.tmp 8), (some (7, false)), [], false, false⟩,
      ⟨(some 10), .call 30 [(.tmp 9), (.const (.int .i64 1)), (.const (.int .i64 365))], (some (7, false)), [], false, false⟩,
      ⟨(some 11), .un .not (.tmp 10), (some (7, false)), [], false, false⟩,
      ⟨(some 12), .pick (.tmp 7) (.const (.bool true)) (.tmp 11), none, [], false, false⟩,
      ⟨(some 13), .move (.tmp 12), none, [], false, false⟩,
      ⟨(some 14), .fieldAddr 2 (.tmp 1), (some (13, false)), [], false, false⟩,
      ⟨(some 15), .load false 1 (.tmp 14), (some (13, false)), [], false, false⟩,
      ⟨(some 16), .call 30 [(.tmp 15), (.const (.int .i64 0)), (.const (.int .i64 1000))], (some (13, false)), [], false, false⟩,
      ⟨(some 17), .un .not (.tmp 16), (some (13, false)), [], false, false⟩,
      ⟨(some 18), .pick (.tmp 13) (.const (.bool true)) (.tmp 17), none, [], false, false⟩,
      ⟨(some 19), .move (.tmp 18), none, [], false, false⟩,
      ⟨(some 20), .fieldAddr 3 (.tmp 1), (some (19, false)), [], false, false⟩,
      ⟨(some 21), .load false 1 (.tmp 20), (some (19, false)), [], false, false⟩,
      ⟨(some 22), .call 30 [(.tmp 21), (.const (.int .i64 0)), (.const (.int .i64 1000000))], (some (19, false)), [], false, false⟩,
      ⟨(some 23), .un .not (.tmp 22), (some (19, false)), [], false, false⟩,
      ⟨(some 24), .pick (.tmp 19) (.const (.bool true)) (.tmp 23), none, [], false, false⟩])
   (.cond (.tmp 24) (.seq (.region false [⟨(some 2), .move (.const (.int .i64 2)), none, [], false, false⟩])
     (.ret))
    (.skip)))
  (.seq (.region false [⟨(some 2), .move (.const (.int .i64 0)), none, [], false, false⟩])
   (.ret))),
 [.tmp 2], .pure, 25⟩

/-- agraffe/upkeep.CheckDrift -/
def ef29 : EFun := ⟨
 .seq (.region false [⟨(some 1), .box (.tmp 0), none, [], false, false⟩,
    ⟨(some 2), .move (.const (.int .i64 0)), none, [], false, false⟩])
 (.seq (.seq (.region false [⟨(some 3), .fieldAddr 0 (.tmp 1), none, [], false, false⟩,
      ⟨(some 4), .load false 1 (.tmp 3), none, [], false, false⟩,
      ⟨(some 5), .call 65 [(.tmp 4), (.const (.int .i64 0)), (.const (.int .i64 1000))], none, [], false, false⟩,
      ⟨(some 6), .un .not (.tmp 5), none, [], false, false⟩,
      ⟨(some 7), .move (.tmp 6), none, [], false, false⟩,
      ⟨(some 8), .fieldAddr 1 (.tmp 1), (some (7, false)), [], false, false⟩,
      ⟨(some 9), .load false 1 (.tmp 8), (some (7, false)), [], false, false⟩,
      ⟨(some 10), .call 65 [(.tmp 9), (.const (.int .i64 1)), (.const (.int .i64 365))], (some (7, false)), [], false, false⟩,
      ⟨(some 11), .un .not (.tmp 10), (some (7, false)), [], false, false⟩,
      ⟨(some 12), .pick (.tmp 7) (.const (.bool true)) (.tmp 11), none, [], false, false⟩,
      ⟨(some 13), .move (.tmp 12), none, [], false, false⟩,
      ⟨(some 14), .fieldAddr 2 (.tmp 1), (some (13, false)), [], false, false⟩,
      ⟨(some 15), .load false 1 (.tmp 14), (some (13, false)), [], false, false⟩,
      ⟨(some 16), .call 65 [(.tmp 15), (.const (.int .i64 0)), (.const (.int .i64 1000))], (some (13, false)), [], false, false⟩,
      ⟨(some 17), .un .not (.tmp 16), (some (13, false)), [], false, false⟩,
      ⟨(some 18), .pick (.tmp 13) (.const (.bool true)) (.tmp 17), none, [], false, false⟩,
      ⟨(some 19), .move (.tmp 18), none, [], false, false⟩,
      ⟨(some 20), .fieldAddr 3 (.tmp 1), (some (19, false)), [], false, false⟩,
      ⟨(some 21), .load false 1 (.tmp 20), (some (19, false)), [], false, false⟩,
      ⟨(some 22), .call 65 [(.tmp 21), (.const (.int .i64 0)), (.const (.int .i64 1000000))], (some (19, false)), [], false, false⟩,
      ⟨(some 23), .un .not (.tmp 22), (some (19, false)), [], false, false⟩,
      ⟨(some 24), .pick (.tmp 19) (.const (.bool true)) (.tmp 23), none, [], false, false⟩])
   (.cond (.tmp 24) (.seq (.region false [⟨(some 2), .move (.const (.int .i64 2)), none, [], false, false⟩])
     (.ret))
    (.skip)))
  (.seq (.region false [⟨(some 2), .move (.const (.int .i64 0)), none, [], false, false⟩])
   (.ret))),
 [.tmp 2], .pure, 25⟩

/-- agraffe/agraffebase.Within -/
def ef30 : EFun := ⟨
 .seq (.region false [⟨(some 6), .move (.const (.bool false)), none, [], false, false⟩])
 (.seq (.region false [⟨(some 7), .move (.tmp 0), none, [], false, false⟩,
     ⟨(some 8), .move (.tmp 1), none, [], false, false⟩,
     ⟨(some 9), .bin .geq (.tmp 7) (.tmp 8), none, [], false, false⟩,
     ⟨(some 10), .move (.tmp 9), none, [], false, false⟩,
     ⟨(some 11), .move (.tmp 0), (some (10, true)), [], false, false⟩,
     ⟨(some 12), .move (.tmp 2), (some (10, true)), [], false, false⟩,
     ⟨(some 13), .bin .leq (.tmp 11) (.tmp 12), (some (10, true)), [], false, false⟩,
     ⟨(some 14), .pick (.tmp 10) (.tmp 13) (.const (.bool false)), none, [], false, false⟩,
     ⟨(some 6), .move (.tmp 14), none, [], false, false⟩])
  (.ret)),
 [.tmp 6], .pure, 15⟩

/-- agraffe/agrafferef07.Moisture -/
def ef31 : EFun := ⟨
 .seq (.region false [⟨(some 3), .box (.tmp 0), none, [], false, false⟩,
    ⟨(some 6), .move (.const (.int .i64 0)), none, [], false, false⟩])
 (.seq (.region false [⟨(some 9), .fieldAddr 0 (.tmp 3), none, [], false, false⟩,
     ⟨(some 10), .load false 1 (.tmp 9), none, [], false, false⟩,
     ⟨(some 11), .bin .mul (.const (.int .i64 1000)) (.tmp 10), none, [], false, false⟩,
     ⟨(some 7), .move (.tmp 11), none, [], false, false⟩])
  (.seq (.seq (.region false [⟨(some 8), .move (.const (.int .i64 1)), none, [], false, false⟩])
    (.block 0 (.loop (some [1, 2, 3, 7, 8]) (
      .seq (.seq (.region false [⟨(some 12), .move (.tmp 8), none, [], false, false⟩,
           ⟨(some 13), .move (.tmp 2), none, [], false, false⟩,
           ⟨(some 14), .bin .leq (.tmp 12) (.tmp 13), none, [], false, false⟩])
        (.cond (.tmp 14) (.skip)
         (.exit 0)))
       (.seq (.block 1 (.region true [⟨(some 17), .move (.tmp 7), none, [], false, false⟩,
            ⟨(some 18), .move (.tmp 1), none, [], false, false⟩,
            ⟨(some 19), .move (.tmp 8), none, [], false, false⟩,
            ⟨(some 20), .call 24 [(.tmp 18), (.tmp 19)], none, [], false, true⟩,
            ⟨(some 21), .bin .mul (.const (.int .i64 1000)) (.tmp 20), none, [], false, false⟩,
            ⟨(some 22), .move (.tmp 7), none, [], false, false⟩,
            ⟨(some 23), .bin .sub (.tmp 21) (.tmp 22), none, [], false, false⟩,
            ⟨(some 24), .fieldAddr 1 (.tmp 3), none, [], false, false⟩,
            ⟨(some 25), .load false 1 (.tmp 24), none, [], false, false⟩,
            ⟨(some 26), .call 76 [(.tmp 23), (.tmp 25)], none, [], false, false⟩,
            ⟨(some 27), .bin .add (.tmp 17) (.tmp 26), none, [], false, false⟩,
            ⟨(some 7), .move (.tmp 27), none, [], false, false⟩]))
        (.region false [⟨(some 15), .move (.tmp 8), none, [], false, false⟩,
           ⟨(some 16), .bin .add (.tmp 15) (.const (.int .i64 1)), none, [], false, false⟩,
           ⟨(some 8), .move (.tmp 16), none, [], false, false⟩]))))))
   (.seq (.region false [⟨(some 28), .move (.tmp 7), none, [], false, false⟩,
       ⟨(some 6), .move (.tmp 28), none, [], false, false⟩])
    (.ret)))),
 [.tmp 6], .pure, 29⟩

/-- agraffe/agrafferef07.Offset -/
def ef32 : EFun := ⟨
 .seq (.region false [⟨(some 3), .box (.tmp 0), none, [], false, false⟩,
    ⟨(some 6), .move (.const (.int .i64 0)), none, [], false, false⟩])
 (.seq (.region true [⟨(some 7), .fieldAddr 2 (.tmp 3), none, [], false, false⟩,
     ⟨(some 8), .load false 1 (.tmp 7), none, [], false, false⟩,
     ⟨(some 9), .load true 4 (.tmp 3), none, [], false, false⟩,
     ⟨(some 10), .move (.tmp 1), none, [], false, false⟩,
     ⟨(some 11), .move (.tmp 2), none, [], false, false⟩,
     ⟨(some 12), .call 31 [(.tmp 9), (.tmp 10), (.tmp 11)], none, [], false, true⟩,
     ⟨(some 13), .fieldAddr 0 (.tmp 3), none, [], false, false⟩,
     ⟨(some 14), .load false 1 (.tmp 13), none, [], false, false⟩,
     ⟨(some 15), .bin .mul (.const (.int .i64 1000)) (.tmp 14), none, [], false, false⟩,
     ⟨(some 16), .bin .sub (.tmp 12) (.tmp 15), none, [], false, false⟩,
     ⟨(some 17), .bin .mul (.tmp 8) (.tmp 16), none, [], false, false⟩,
     ⟨(some 18), .call 76 [(.tmp 17), (.const (.int .i64 1000))], none, [], false, false⟩,
     ⟨(some 6), .move (.tmp 18), none, [], false, false⟩])
  (.ret)),
 [.tmp 6], .pure, 19⟩

/-- agraffe/agrafferef07.ServiceDay -/
def ef33 : EFun := ⟨
 .seq (.region false [⟨(some 3), .box (.tmp 0), none, [], false, false⟩,
    ⟨(some 6), .move (.const (.int .i64 0)), none, [], false, false⟩])
 (.seq (.region false [⟨(some 9), .fieldAddr 0 (.tmp 3), none, [], false, false⟩,
     ⟨(some 10), .load false 1 (.tmp 9), none, [], false, false⟩,
     ⟨(some 11), .bin .mul (.const (.int .i64 1000)) (.tmp 10), none, [], false, false⟩,
     ⟨(some 7), .move (.tmp 11), none, [], false, false⟩])
  (.seq (.seq (.region false [⟨(some 8), .move (.const (.int .i64 1)), none, [], false, false⟩])
    (.block 0 (.loop (some [1, 2, 3, 7, 8]) (
      .seq (.seq (.region false [⟨(some 12), .move (.tmp 8), none, [], false, false⟩,
           ⟨(some 13), .move (.tmp 2), none, [], false, false⟩,
           ⟨(some 14), .bin .lss (.tmp 12) (.tmp 13), none, [], false, false⟩])
        (.cond (.tmp 14) (.skip)
         (.exit 0)))
       (.seq (.block 1 (.seq (.region true [⟨(some 17), .move (.tmp 7), none, [], false, false⟩,
             ⟨(some 18), .move (.tmp 1), none, [], false, false⟩,
             ⟨(some 19), .move (.tmp 8), none, [], false, false⟩,
             ⟨(some 20), .call 24 [(.tmp 18), (.tmp 19)], none, [], false, true⟩,
             ⟨(some 21), .bin .mul (.const (.int .i64 1000)) (.tmp 20), none, [], false, false⟩,
             ⟨(some 22), .move (.tmp 7), none, [], false, false⟩,
             ⟨(some 23), .bin .sub (.tmp 21) (.tmp 22), none, [], false, false⟩,
             ⟨(some 24), .fieldAddr 1 (.tmp 3), none, [], false, false⟩,
             ⟨(some 25), .load false 1 (.tmp 24), none, [], false, false⟩,
             ⟨(some 26), .call 76 [(.tmp 23), (.tmp 25)], none, [], false, false⟩,
             ⟨(some 27), .bin .add (.tmp 17) (.tmp 26), none, [], false, false⟩,
             ⟨(some 7), .move (.tmp 27), none, [], false, false⟩])
          (.seq (.region true [⟨(some 28), .fieldAddr 2 (.tmp 3), none, [], false, false⟩,
              ⟨(some 29), .load false 1 (.tmp 28), none, [], false, false⟩,
              ⟨(some 30), .move (.tmp 7), none, [], false, false⟩,
              ⟨(some 31), .fieldAddr 0 (.tmp 3), none, [], false, false⟩,
              ⟨(some 32), .load false 1 (.tmp 31), none, [], false, false⟩,
              ⟨(some 33), .bin .mul (.const (.int .i64 1000)) (.tmp 32), none, [], false, false⟩,
              ⟨(some 34), .bin .sub (.tmp 30) (.tmp 33), none, [], false, false⟩,
              ⟨(some 35), .bin .mul (.tmp 29) (.tmp 34), none, [], false, false⟩,
              ⟨(some 36), .call 76 [(.tmp 35), (.const (.int .i64 1000))], none, [], false, true⟩,
              ⟨(some 37), .call 77 [(.tmp 36)], none, [], false, true⟩,
              ⟨(some 38), .fieldAddr 3 (.tmp 3), none, [], false, false⟩,
              ⟨(some 39), .load false 1 (.tmp 38), none, [], false, false⟩,
              ⟨(some 40), .bin .gtr (.tmp 37) (.tmp 39), none, [], false, false⟩])
           (.cond (.tmp 40) (.seq (.region false [⟨(some 41), .move (.tmp 8), none, [], false, false⟩,
                ⟨(some 6), .move (.tmp 41), none, [], false, false⟩])
             (.ret))
            (.skip)))))
        (.region false [⟨(some 15), .move (.tmp 8), none, [], false, false⟩,
           ⟨(some 16), .bin .add (.tmp 15) (.const (.int .i64 1)), none, [], false, false⟩,
           ⟨(some 8), .move (.tmp 16), none, [], false, false⟩]))))))
   (.seq (.region false [⟨(some 42), .move (.tmp 2), none, [], false, false⟩,
       ⟨(some 6), .move (.tmp 42), none, [], false, false⟩])
    (.ret)))),
 [.tmp 6], .pure, 43⟩

/-- agraffe/upkeep.OverpullAt -/
def ef34 : EFun := ⟨
 .seq (.region false [⟨(some 4), .move (.const (.int .i64 0)), none, [], false, false⟩,
    ⟨(some 5), .move (.const (.int .i64 0)), none, [], false, false⟩])
 (.seq (.seq (.region false [⟨(some 7), .move (.tmp 0), none, [], false, false⟩,
      ⟨(some 8), .call 36 [(.tmp 7)], none, [], false, false⟩,
      ⟨(some 6), .move (.tmp 8), none, [], false, false⟩])
   (.seq (.region false [⟨(some 9), .move (.tmp 6), none, [], false, false⟩,
       ⟨(some 10), .bin .neq (.tmp 9) (.const (.int .i64 0)), none, [], false, false⟩])
    (.cond (.tmp 10) (.seq (.region false [⟨(some 11), .move (.tmp 6), none, [], false, false⟩,
         ⟨(some 4), .move (.const (.int .i64 0)), none, [], false, false⟩,
         ⟨(some 5), .move (.tmp 11), none, [], false, false⟩])
      (.ret))
     (.skip))))
  (.seq (.seq (.region false [⟨(some 12), .move (.tmp 1), none, [], false, false⟩,
       ⟨(some 13), .call 78 [(.tmp 12)], none, [], false, false⟩,
       ⟨(some 14), .un .not (.tmp 13), none, [], false, false⟩])
    (.cond (.tmp 14) (.seq (.region false [⟨(some 4), .move (.const (.int .i64 0)), none, [], false, false⟩,
         ⟨(some 5), .move (.const (.int .i64 2)), none, [], false, false⟩])
      (.ret))
     (.skip)))
   (.seq (.region false [⟨(some 15), .move (.tmp 0), none, [], false, false⟩,
       ⟨(some 16), .move (.tmp 1), none, [], false, false⟩,
       ⟨(some 17), .call 79 [(.tmp 15), (.tmp 16)], none, [], false, false⟩,
       ⟨(some 4), .move (.tmp 17), none, [], false, false⟩,
       ⟨(some 5), .move (.const (.int .i64 0)), none, [], false, false⟩])
    (.ret)))),
 [.tmp 4, .tmp 5], .pure, 18⟩

/-- agraffe/agrafferef07.CheckOverpull -/
def ef35 : EFun := ⟨
 .seq (.region false [⟨(some 2), .move (.const (.int .i64 0)), none, [], false, false⟩])
 (.seq (.seq (.region false [⟨(some 4), .move (.tmp 0), none, [], false, false⟩,
      ⟨(some 5), .len false (.tmp 4), none, [], false, false⟩,
      ⟨(some 6), .bin .gtr (.tmp 5) (.const (.int .i64 20)), none, [], false, false⟩])
   (.cond (.tmp 6) (.seq (.region false [⟨(some 2), .move (.const (.int .i64 8)), none, [], false, false⟩])
     (.ret))
    (.skip)))
  (.seq (.seq (.region false [⟨(some 3), .move (.const (.int .i64 0)), none, [], false, false⟩])
    (.block 0 (.loop (some [0, 3]) (
      .seq (.seq (.region false [⟨(some 7), .move (.tmp 3), none, [], false, false⟩,
           ⟨(some 8), .move (.tmp 0), none, [], false, false⟩,
           ⟨(some 9), .len false (.tmp 8), none, [], false, false⟩,
           ⟨(some 10), .bin .lss (.tmp 7) (.tmp 9), none, [], false, false⟩])
        (.cond (.tmp 10) (.skip)
         (.exit 0)))
       (.seq (.block 1 (.seq (.seq (.region false [⟨(some 13), .move (.tmp 0), none, [], false, false⟩,
              ⟨(some 14), .move (.tmp 3), none, [], false, false⟩,
              ⟨(some 15), .indexAddr none 3 (.tmp 13) (.tmp 14), none, [], false, false⟩,
              ⟨(some 16), .fieldAddr 0 (.tmp 15), none, [], false, false⟩,
              ⟨(some 17), .load false 1 (.tmp 16), none, [], false, false⟩,
              ⟨(some 18), .call 37 [(.tmp 17)], none, [], false, false⟩,
              ⟨(some 19), .un .not (.tmp 18), none, [], false, false⟩,
              ⟨(some 20), .move (.tmp 19), none, [], false, false⟩,
              ⟨(some 21), .move (.tmp 0), (some (20, false)), [], false, false⟩,
              ⟨(some 22), .move (.tmp 3), (some (20, false)), [], false, false⟩,
              ⟨(some 23), .indexAddr none 3 (.tmp 21) (.tmp 22), (some (20, false)), [], false, false⟩,
              ⟨(some 24), .fieldAddr 1 (.tmp 23), (some (20, false)), [], false, false⟩,
              ⟨(some 25), .load false 1 (.tmp 24), (some (20, false)), [], false, false⟩,
              ⟨(some 26), .call 37 [(.tmp 25)], (some (20, false)), [], false, false⟩,
              ⟨(some 27), .un .not (.tmp 26), (some (20, false)), [], false, false⟩,
              ⟨(some 28), .pick (.tmp 20) (.const (.bool true)) (.tmp 27), none, [], false, false⟩,
              ⟨(some 29), .move (.tmp 28), none, [], false, false⟩,
              ⟨(some 30), .move (.tmp 0), (some (29, false)), [], false, false⟩,
              ⟨(some 31), .move (.tmp 3), (some (29, false)), [], false, false⟩,
              ⟨(some 32), .indexAddr none 3 (.tmp 30) (.tmp 31), (some (29, false)), [], false, false⟩,
              ⟨(some 33), .fieldAddr 2 (.tmp 32), (some (29, false)), [], false, false⟩,
              ⟨(some 34), .load false 1 (.tmp 33), (some (29, false)), [], false, false⟩,
              ⟨(some 35), .call 30 [(.tmp 34), (.const (.int .i64 0)), (.const (.int .i64 500))], (some (29, false)), [], false, false⟩,
              ⟨(some 36), .un .not (.tmp 35), (some (29, false)), [], false, false⟩,
              ⟨(some 37), .pick (.tmp 29) (.const (.bool true)) (.tmp 36), none, [], false, false⟩])
           (.cond (.tmp 37) (.seq (.region false [⟨(some 2), .move (.const (.int .i64 2)), none, [], false, false⟩])
             (.ret))
            (.skip)))
          (.seq (.region true [⟨(some 38), .move (.tmp 0), none, [], false, false⟩,
              ⟨(some 39), .move (.tmp 3), none, [], false, false⟩,
              ⟨(some 40), .indexAddr none 3 (.tmp 38) (.tmp 39), none, [], false, false⟩,
              ⟨(some 41), .fieldAddr 1 (.tmp 40), none, [], false, false⟩,
              ⟨(some 42), .load false 1 (.tmp 41), none, [], false, false⟩,
              ⟨(some 43), .move (.tmp 0), none, [], false, false⟩,
              ⟨(some 44), .move (.tmp 3), none, [], false, false⟩,
              ⟨(some 45), .indexAddr none 3 (.tmp 43) (.tmp 44), none, [], false, false⟩,
              ⟨(some 46), .fieldAddr 0 (.tmp 45), none, [], false, false⟩,
              ⟨(some 47), .load false 1 (.tmp 46), none, [], false, false⟩,
              ⟨(some 48), .bin .lss (.tmp 42) (.tmp 47), none, [], false, false⟩,
              ⟨(some 49), .move (.tmp 48), none, [], false, false⟩,
              ⟨(some 50), .move (.tmp 3), (some (49, false)), [], false, false⟩,
              ⟨(some 51), .bin .gtr (.tmp 50) (.const (.int .i64 0)), (some (49, false)), [], false, false⟩,
              ⟨(some 52), .move (.tmp 51), (some (49, false)), [], false, false⟩,
              ⟨(some 53), .move (.tmp 0), (some (52, true)), [], false, false⟩,
              ⟨(some 54), .move (.tmp 3), (some (52, true)), [], false, false⟩,
              ⟨(some 55), .indexAddr none 3 (.tmp 53) (.tmp 54), (some (52, true)), [], false, false⟩,
              ⟨(some 56), .fieldAddr 0 (.tmp 55), (some (52, true)), [], false, false⟩,
              ⟨(some 57), .load false 1 (.tmp 56), (some (52, true)), [], false, false⟩,
              ⟨(some 58), .move (.tmp 0), (some (52, true)), [], false, false⟩,
              ⟨(some 59), .move (.tmp 3), (some (52, true)), [], false, false⟩,
              ⟨(some 60), .bin .sub (.tmp 59) (.const (.int .i64 1)), (some (52, true)), [], false, false⟩,
              ⟨(some 61), .indexAddr none 3 (.tmp 58) (.tmp 60), (some (52, true)), [], false, false⟩,
              ⟨(some 62), .fieldAddr 1 (.tmp 61), (some (52, true)), [], false, false⟩,
              ⟨(some 63), .load false 1 (.tmp 62), (some (52, true)), [], false, false⟩,
              ⟨(some 64), .bin .leq (.tmp 57) (.tmp 63), (some (52, true)), [], false, false⟩,
              ⟨(some 65), .pick (.tmp 52) (.tmp 64) (.const (.bool false)), (some (49, false)), [], false, false⟩,
              ⟨(some 66), .pick (.tmp 49) (.const (.bool true)) (.tmp 65), none, [], false, false⟩])
           (.cond (.tmp 66) (.seq (.region false [⟨(some 2), .move (.const (.int .i64 9)), none, [], false, false⟩])
             (.ret))
            (.skip)))))
        (.region false [⟨(some 11), .move (.tmp 3), none, [], false, false⟩,
           ⟨(some 12), .bin .add (.tmp 11) (.const (.int .i64 1)), none, [], false, false⟩,
           ⟨(some 3), .move (.tmp 12), none, [], false, false⟩]))))))
   (.seq (.region false [⟨(some 2), .move (.const (.int .i64 0)), none, [], false, false⟩])
    (.ret)))),
 [.tmp 2], .pure, 67⟩

/-- agraffe/upkeep.CheckOverpull -/
def ef36 : EFun := ⟨
 .seq (.region false [⟨(some 2), .move (.const (.int .i64 0)), none, [], false, false⟩])
 (.seq (.seq (.region false [⟨(some 5), .move (.tmp 0), none, [], false, false⟩,
      ⟨(some 6), .len false (.tmp 5), none, [], false, false⟩,
      ⟨(some 7), .bin .gtr (.tmp 6) (.const (.int .i64 20)), none, [], false, false⟩])
   (.cond (.tmp 7) (.seq (.region false [⟨(some 2), .move (.const (.int .i64 8)), none, [], false, false⟩])
     (.ret))
    (.skip)))
  (.seq (.seq (.region false [⟨(some 8), .move (.tmp 0), none, [], false, false⟩,
       ⟨(some 9), .len false (.tmp 8), none, [], false, false⟩,
       ⟨(some 10), .move (.const (.int .i64 0)), none, [], false, false⟩])
    (.block 0 (.loop (some [0, 8, 9, 10]) (
      .seq (.region false [⟨(some 11), .bin .lss (.tmp 10) (.tmp 9), none, [], false, false⟩])
       (.seq (.cond (.tmp 11) (.skip)
         (.exit 0))
        (.seq (.block 1 (.seq (.region false [⟨(some 12), .move (.tmp 10), none, [], false, false⟩,
              ⟨(some 13), .indexAddr none 3 (.tmp 8) (.tmp 10), none, [], false, false⟩,
              ⟨(some 14), .load true 3 (.tmp 13), none, [], false, false⟩,
              ⟨(some 4), .push [(.int .i64 0), (.int .i64 0), (.int .i64 0)], none, [], false, false⟩,
              ⟨(some 3), .move (.tmp 12), none, [], false, false⟩,
              ⟨none, .store 3 (.tmp 4) (.tmp 14), none, [], false, false⟩])
           (.block 2 (.seq (.region false [⟨(some 16), .fieldAddr 0 (.tmp 4), none, [], false, false⟩,
                ⟨(some 17), .load false 1 (.tmp 16), none, [], false, false⟩,
                ⟨(some 18), .call 78 [(.tmp 17)], none, [], false, false⟩,
                ⟨(some 19), .un .not (.tmp 18), none, [], false, false⟩,
                ⟨(some 20), .move (.tmp 19), none, [], false, false⟩,
                ⟨(some 21), .fieldAddr 1 (.tmp 4), (some (20, false)), [], false, false⟩,
                ⟨(some 22), .load false 1 (.tmp 21), (some (20, false)), [], false, false⟩,
                ⟨(some 23), .call 78 [(.tmp 22)], (some (20, false)), [], false, false⟩,
                ⟨(some 24), .un .not (.tmp 23), (some (20, false)), [], false, false⟩,
                ⟨(some 25), .pick (.tmp 20) (.const (.bool true)) (.tmp 24), none, [], false, false⟩,
                ⟨(some 26), .move (.tmp 25), none, [], false, false⟩,
                ⟨(some 27), .fieldAddr 2 (.tmp 4), (some (26, false)), [], false, false⟩,
                ⟨(some 28), .load false 1 (.tmp 27), (some (26, false)), [], false, false⟩,
                ⟨(some 29), .call 65 [(.tmp 28), (.const (.int .i64 0)), (.const (.int .i64 500))], (some (26, false)), [], false, false⟩,
                ⟨(some 30), .un .not (.tmp 29), (some (26, false)), [], false, false⟩,
                ⟨(some 31), .pick (.tmp 26) (.const (.bool true)) (.tmp 30), none, [], false, false⟩,
                ⟨(some 15), .move (.tmp 31), none, [], false, false⟩])
             (.cond (.tmp 15) (.seq (.region false [⟨(some 2), .move (.const (.int .i64 2)), none, [], false, false⟩])
               (.ret))
              (.seq (.region true [⟨(some 33), .fieldAddr 1 (.tmp 4), none, [], false, false⟩,
                  ⟨(some 34), .load false 1 (.tmp 33), none, [], false, false⟩,
                  ⟨(some 35), .fieldAddr 0 (.tmp 4), none, [], false, false⟩,
                  ⟨(some 36), .load false 1 (.tmp 35), none, [], false, false⟩,
                  ⟨(some 37), .bin .lss (.tmp 34) (.tmp 36), none, [], false, false⟩,
                  ⟨(some 38), .move (.tmp 37), none, [], false, false⟩,
                  ⟨(some 39), .move (.tmp 3), (some (38, false)), [], false, false⟩,
                  ⟨(some 40), .bin .gtr (.tmp 39) (.const (.int .i64 0)), (some (38, false)), [], false, false⟩,
                  ⟨(some 41), .move (.tmp 40), (some (38, false)), [], false, false⟩,
                  ⟨(some 42), .fieldAddr 0 (.tmp 4), (some (41, true)), [], false, false⟩,
                  ⟨(some 43), .load false 1 (.tmp 42), (some (41, true)), [], false, false⟩,
                  ⟨(some 44), .move (.tmp 0), (some (41, true)), [], false, false⟩,
                  ⟨(some 45), .move (.tmp 3), (some (41, true)), [], false, false⟩,
                  ⟨(some 46), .bin .sub (.tmp 45) (.const (.int .i64 1)), (some (41, true)), [], false, false⟩,
                  ⟨(some 47), .indexAddr none 3 (.tmp 44) (.tmp 46), (some (41, true)), [], false, false⟩,
                  ⟨(some 48), .fieldAddr 1 (.tmp 47), (some (41, true)), [], false, false⟩,
                  ⟨(some 49), .load false 1 (.tmp 48), (some (41, true)), [], false, false⟩,
                  ⟨(some 50), .bin .leq (.tmp 43) (.tmp 49), (some (41, true)), [], false, false⟩,
                  ⟨(some 51), .pick (.tmp 41) (.tmp 50) (.const (.bool false)), (some (38, false)), [], false, false⟩,
                  ⟨(some 52), .pick (.tmp 38) (.const (.bool true)) (.tmp 51), none, [], false, false⟩,
                  ⟨(some 32), .move (.tmp 52), none, [], false, false⟩])
               (.cond (.tmp 32) (.seq (.region false [⟨(some 2), .move (.const (.int .i64 9)), none, [], false, false⟩])
                 (.ret))
                (.skip))))))))
         (.region false [⟨(some 53), .bin .add (.tmp 10) (.const (.int .i64 1)), none, [], false, false⟩,
            ⟨(some 10), .move (.tmp 53), none, [], false, false⟩])))))))
   (.seq (.region false [⟨(some 2), .move (.const (.int .i64 0)), none, [], false, false⟩])
    (.ret)))),
 [.tmp 2], .pure, 54⟩

/-- agraffe/agrafferef06.IsNote -/
def ef37 : EFun := ⟨
 .seq (.region false [⟨(some 2), .move (.const (.bool false)), none, [], false, false⟩])
 (.seq (.region false [⟨(some 3), .move (.tmp 0), none, [], false, false⟩,
     ⟨(some 4), .call 30 [(.tmp 3), (.const (.int .i64 0)), (.const (.int .i64 87))], none, [], false, false⟩,
     ⟨(some 2), .move (.tmp 4), none, [], false, false⟩])
  (.ret)),
 [.tmp 2], .pure, 5⟩

/-- agraffe/agrafferef07.OverpullAt -/
def ef38 : EFun := ⟨
 .seq (.region false [⟨(some 4), .move (.const (.int .i64 0)), none, [], false, false⟩])
 (.seq (.seq (.region false [⟨(some 5), .move (.const (.int .i64 0)), none, [], false, false⟩])
   (.block 0 (.loop (some [0, 1, 5]) (
     .seq (.seq (.region false [⟨(some 6), .move (.tmp 5), none, [], false, false⟩,
          ⟨(some 7), .move (.tmp 0), none, [], false, false⟩,
          ⟨(some 8), .len false (.tmp 7), none, [], false, false⟩,
          ⟨(some 9), .bin .lss (.tmp 6) (.tmp 8), none, [], false, false⟩])
       (.cond (.tmp 9) (.skip)
        (.exit 0)))
      (.seq (.block 1 (.seq (.region true [⟨(some 12), .move (.tmp 1), none, [], false, false⟩,
            ⟨(some 13), .move (.tmp 0), none, [], false, false⟩,
            ⟨(some 14), .move (.tmp 5), none, [], false, false⟩,
            ⟨(some 15), .indexAddr none 3 (.tmp 13) (.tmp 14), none, [], false, false⟩,
            ⟨(some 16), .fieldAddr 0 (.tmp 15), none, [], false, false⟩,
            ⟨(some 17), .load false 1 (.tmp 16), none, [], false, false⟩,
            ⟨(some 18), .move (.tmp 0), none, [], false, false⟩,
            ⟨(some 19), .move (.tmp 5), none, [], false, false⟩,
            ⟨(some 20), .indexAddr none 3 (.tmp 18) (.tmp 19), none, [], false, false⟩,
            ⟨(some 21), .fieldAddr 1 (.tmp 20), none, [], false, false⟩,
            ⟨(some 22), .load false 1 (.tmp 21), none, [], false, false⟩,
            ⟨(some 23), .call 30 [(.tmp 12), (.tmp 17), (.tmp 22)], none, [], false, false⟩])
         (.cond (.tmp 23) (.seq (.region false [⟨(some 24), .move (.tmp 0), none, [], false, false⟩,
              ⟨(some 25), .move (.tmp 5), none, [], false, false⟩,
              ⟨(some 26), .indexAddr none 3 (.tmp 24) (.tmp 25), none, [], false, false⟩,
              ⟨(some 27), .fieldAddr 2 (.tmp 26), none, [], false, false⟩,
              ⟨(some 28), .load false 1 (.tmp 27), none, [], false, false⟩,
              ⟨(some 4), .move (.tmp 28), none, [], false, false⟩])
           (.ret))
          (.skip))))
       (.region false [⟨(some 10), .move (.tmp 5), none, [], false, false⟩,
          ⟨(some 11), .bin .add (.tmp 10) (.const (.int .i64 1)), none, [], false, false⟩,
          ⟨(some 5), .move (.tmp 11), none, [], false, false⟩]))))))
  (.seq (.region false [⟨(some 4), .move (.const (.int .i64 0)), none, [], false, false⟩])
   (.ret))),
 [.tmp 4], .pure, 29⟩

/-- agraffe/agraffelaw07.Few -/
def ef39 : EFun := ⟨
 .seq (.region false [⟨(some 4), .move (.const (.bool false)), none, [], false, false⟩])
 (.seq (.region false [⟨(some 5), .move (.tmp 0), none, [], false, false⟩,
     ⟨(some 6), .len false (.tmp 5), none, [], false, false⟩,
     ⟨(some 7), .move (.tmp 1), none, [], false, false⟩,
     ⟨(some 8), .bin .leq (.tmp 6) (.tmp 7), none, [], false, false⟩,
     ⟨(some 9), .move (.tmp 8), none, [], false, false⟩,
     ⟨(some 10), .move (.tmp 0), (some (9, false)), [], false, false⟩,
     ⟨(some 11), .len false (.tmp 10), (some (9, false)), [], false, false⟩,
     ⟨(some 12), .bin .gtr (.tmp 11) (.const (.int .i64 60)), (some (9, false)), [], false, false⟩,
     ⟨(some 13), .move (.tmp 12), (some (9, false)), [], false, false⟩,
     ⟨(some 14), .move (.tmp 0), (some (13, true)), [], false, false⟩,
     ⟨(some 15), .len false (.tmp 14), (some (13, true)), [], false, false⟩,
     ⟨(some 16), .bin .leq (.tmp 15) (.const (.int .i64 63)), (some (13, true)), [], false, false⟩,
     ⟨(some 17), .pick (.tmp 13) (.tmp 16) (.const (.bool false)), (some (9, false)), [], false, false⟩,
     ⟨(some 18), .pick (.tmp 9) (.const (.bool true)) (.tmp 17), none, [], false, false⟩,
     ⟨(some 4), .move (.tmp 18), none, [], false, false⟩])
  (.ret)),
 [.tmp 4], .pure, 19⟩

/-- agraffe/upkeep.Heard -/
def ef40 : EFun := ⟨
 .seq (.region false [⟨(some 4), .move (.const (.slice none 0 0)), none, [], false, false⟩,
    ⟨(some 5), .move (.const (.int .i64 0)), none, [], false, false⟩])
 (.seq (.seq (.region false [⟨(some 18), .move (.tmp 0), none, [], false, false⟩,
      ⟨(some 19), .call 80 [(.tmp 18)], none, [], false, false⟩,
      ⟨(some 6), .move (.tmp 19), none, [], false, false⟩])
   (.seq (.region false [⟨(some 20), .move (.tmp 6), none, [], false, false⟩,
       ⟨(some 21), .bin .neq (.tmp 20) (.const (.int .i64 0)), none, [], false, false⟩])
    (.cond (.tmp 21) (.seq (.region false [⟨(some 22), .move (.tmp 6), none, [], false, false⟩,
         ⟨(some 4), .move (.const (.slice none 0 0)), none, [], false, false⟩,
         ⟨(some 5), .move (.tmp 22), none, [], false, false⟩])
      (.ret))
     (.skip))))
  (.seq (.seq (.region false [⟨(some 23), .move (.tmp 1), none, [], false, false⟩,
       ⟨(some 24), .call 59 [(.tmp 23)], none, [], false, false⟩,
       ⟨(some 7), .move (.tmp 24), none, [], false, false⟩])
    (.seq (.region false [⟨(some 25), .move (.tmp 7), none, [], false, false⟩,
        ⟨(some 26), .bin .neq (.tmp 25) (.const (.int .i64 0)), none, [], false, false⟩])
     (.cond (.tmp 26) (.seq (.region false [⟨(some 27), .move (.tmp 7), none, [], false, false⟩,
          ⟨(some 4), .move (.const (.slice none 0 0)), none, [], false, false⟩,
          ⟨(some 5), .move (.tmp 27), none, [], false, false⟩])
       (.ret))
      (.skip))))
   (.seq (.region false [⟨(some 28), .makeMap, none, [], false, false⟩,
       ⟨(some 8), .move (.tmp 28), none, [], false, false⟩])
    (.seq (.seq (.region false [⟨(some 29), .move (.tmp 0), none, [], false, false⟩,
         ⟨(some 30), .len false (.tmp 29), none, [], false, false⟩,
         ⟨(some 31), .move (.const (.int .i64 0)), none, [], false, false⟩])
      (.block 0 (.loop (some [1, 8, 29, 30, 31]) (
        .seq (.region false [⟨(some 32), .bin .lss (.tmp 31) (.tmp 30), none, [], false, false⟩])
         (.seq (.cond (.tmp 32) (.skip)
           (.exit 0))
          (.seq (.block 1 (.seq (.region false [⟨(some 33), .indexAddr none 3 (.tmp 29) (.tmp 31), none, [], false, false⟩,
                ⟨(some 34), .load true 3 (.tmp 33), none, [], false, false⟩,
                ⟨(some 10), .push [(.int .i64 0), (.int .i64 0), (.int .i64 0)], none, [], false, false⟩,
                ⟨none, .store 3 (.tmp 10) (.tmp 34), none, [], false, false⟩])
             (.region false [⟨(some 35), .move (.tmp 8), none, [], false, false⟩,
                ⟨(some 36), .fieldAddr 0 (.tmp 10), none, [], false, false⟩,
                ⟨(some 37), .load false 1 (.tmp 36), none, [], false, false⟩,
                ⟨(some 38), .fieldAddr 1 (.tmp 10), none, [], false, false⟩,
                ⟨(some 39), .load true 2 (.tmp 38), none, [], false, false⟩,
                ⟨none, .mapSet (.int .i64) (.tmp 35) (.tmp 37) (.tmp 39), none, [], false, false⟩])))
           (.region false [⟨(some 40), .bin .add (.tmp 31) (.const (.int .i64 1)), none, [], false, false⟩,
              ⟨(some 31), .move (.tmp 40), none, [], false, false⟩])))))))
     (.seq (.region false [⟨(some 11), .move (.const (.slice none 0 0)), none, [], false, false⟩])
      (.seq (.seq (.region false [⟨(some 41), .move (.tmp 1), none, [], false, false⟩,
           ⟨(some 42), .len false (.tmp 41), none, [], false, false⟩,
           ⟨(some 43), .move (.const (.int .i64 0)), none, [], false, false⟩])
        (.block 2 (.loop (some [8, 11, 41, 42, 43]) (
          .seq (.region false [⟨(some 44), .bin .lss (.tmp 43) (.tmp 42), none, [], false, false⟩])
           (.seq (.cond (.tmp 44) (.skip)
             (.exit 2))
            (.seq (.block 3 (.seq (.region false [⟨(some 45), .indexAddr none 4 (.tmp 41) (.tmp 43), none, [], false, false⟩,
                  ⟨(some 46), .load true 4 (.tmp 45), none, [], false, false⟩,
                  ⟨(some 13), .push [(.int .i64 0), (.int .i64 0), (.int .i64 0), (.int .i64 0)], none, [], false, false⟩,
                  ⟨none, .store 4 (.tmp 13) (.tmp 46), none, [], false, false⟩])
               (.seq (.region false [⟨(some 48), .move (.tmp 8), none, [], false, false⟩,
                   ⟨(some 49), .fieldAddr 0 (.tmp 13), none, [], false, false⟩,
                   ⟨(some 50), .load false 1 (.tmp 49), none, [], false, false⟩,
                   ⟨(some 51), .mapGet (.int .i64) (.agg #[(.int .i64 0), (.int .i64 0)]) true (.tmp 48) (.tmp 50), none, [], false, false⟩,
                   ⟨(some 47), .move (.tmp 51), none, [], false, false⟩,
                   ⟨(some 52), .extract (.tmp 47) 0, none, [], false, false⟩,
                   ⟨(some 53), .extract (.tmp 47) 1, none, [], false, false⟩,
                   ⟨(some 14), .push [(.int .i64 0), (.int .i64 0)], none, [], false, false⟩,
                   ⟨none, .store 2 (.tmp 14) (.tmp 52), none, [], false, false⟩,
                   ⟨(some 15), .move (.tmp 53), none, [], false, false⟩])
                (.seq (.region false [⟨(some 55), .move (.tmp 8), none, [], false, false⟩,
                    ⟨(some 56), .fieldAddr 1 (.tmp 13), none, [], false, false⟩,
                    ⟨(some 57), .load false 1 (.tmp 56), none, [], false, false⟩,
                    ⟨(some 58), .mapGet (.int .i64) (.agg #[(.int .i64 0), (.int .i64 0)]) true (.tmp 55) (.tmp 57), none, [], false, false⟩,
                    ⟨(some 54), .move (.tmp 58), none, [], false, false⟩,
                    ⟨(some 59), .extract (.tmp 54) 0, none, [], false, false⟩,
                    ⟨(some 60), .extract (.tmp 54) 1, none, [], false, false⟩,
                    ⟨(some 16), .push [(.int .i64 0), (.int .i64 0)], none, [], false, false⟩,
                    ⟨none, .store 2 (.tmp 16) (.tmp 59), none, [], false, false⟩,
                    ⟨(some 17), .move (.tmp 60), none, [], false, false⟩])
                 (.seq (.seq (.region false [⟨(some 61), .move (.tmp 15), none, [], false, false⟩,
                      ⟨(some 62), .un .not (.tmp 61), none, [], false, false⟩,
                      ⟨(some 63), .move (.tmp 62), none, [], false, false⟩,
                      ⟨(some 64), .move (.tmp 17), (some (63, false)), [], false, false⟩,
                      ⟨(some 65), .un .not (.tmp 64), (some (63, false)), [], false, false⟩,
                      ⟨(some 66), .pick (.tmp 63) (.const (.bool true)) (.tmp 65), none, [], false, false⟩])
                   (.cond (.tmp 66) (.seq (.region false [⟨(some 4), .move (.const (.slice none 0 0)), none, [], false, false⟩,
                        ⟨(some 5), .move (.const (.int .i64 6)), none, [], false, false⟩])
                     (.ret))
                    (.skip)))
                  (.region false [⟨(some 67), .move (.tmp 11), none, [], false, false⟩,
                     ⟨(some 68), .load true 4 (.tmp 13), none, [], false, false⟩,
                     ⟨(some 69), .fieldAddr 3 (.tmp 13), none, [], false, false⟩,
                     ⟨(some 70), .load false 1 (.tmp 69), none, [], false, false⟩,
                     ⟨(some 71), .fieldAddr 0 (.tmp 16), none, [], false, false⟩,
                     ⟨(some 72), .load false 1 (.tmp 71), none, [], false, false⟩,
                     ⟨(some 73), .bin .mul (.tmp 70) (.tmp 72), none, [], false, false⟩,
                     ⟨(some 74), .fieldAddr 2 (.tmp 13), none, [], false, false⟩,
                     ⟨(some 75), .load false 1 (.tmp 74), none, [], false, false⟩,
                     ⟨(some 76), .fieldAddr 1 (.tmp 14), none, [], false, false⟩,
                     ⟨(some 77), .load false 1 (.tmp 76), none, [], false, false⟩,
                     ⟨(some 78), .bin .mul (.tmp 75) (.tmp 77), none, [], false, false⟩,
                     ⟨(some 79), .bin .sub (.tmp 73) (.tmp 78), none, [], false, false⟩,
                     ⟨(some 80), .fieldAddr 3 (.tmp 13), none, [], false, false⟩,
                     ⟨(some 81), .load false 1 (.tmp 80), none, [], false, false⟩,
                     ⟨(some 82), .fieldAddr 1 (.tmp 16), none, [], false, false⟩,
                     ⟨(some 83), .load false 1 (.tmp 82), none, [], false, false⟩,
                     ⟨(some 84), .bin .mul (.tmp 81) (.tmp 83), none, [], false, false⟩,
                     ⟨(some 85), .fieldAddr 2 (.tmp 13), none, [], false, false⟩,
                     ⟨(some 86), .load false 1 (.tmp 85), none, [], false, false⟩,
                     ⟨(some 87), .fieldAddr 0 (.tmp 14), none, [], false, false⟩,
                     ⟨(some 88), .load false 1 (.tmp 87), none, [], false, false⟩,
                     ⟨(some 89), .bin .mul (.tmp 86) (.tmp 88), none, [], false, false⟩,
                     ⟨(some 90), .bin .sub (.tmp 84) (.tmp 89), none, [], false, false⟩,
                     ⟨(some 91), .build [(.int .i64 0), (.int .i64 0)] [(0, 1, (.tmp 79)), (1, 1, (.tmp 90))], none, [], false, false⟩,
                     ⟨(some 92), .build [(.int .i64 0), (.int .i64 0), (.int .i64 0), (.int .i64 0), (.int .i64 0), (.int .i64 0)] [(0, 4, (.tmp 68)), (4, 2, (.tmp 91))], none, [], false, false⟩,
                     ⟨(some 93), .buildSlice 6 1 [(.int .i64 0), (.int .i64 0), (.int .i64 0), (.int .i64 0), (.int .i64 0), (.int .i64 0)] [(0, 6, (.tmp 92))], none, [], false, false⟩,
                     ⟨(some 94), .append 6 48 (.tmp 67) (.tmp 93), none, [], false, false⟩,
                     ⟨(some 11), .move (.tmp 94), none, [], false, false⟩]))))))
             (.region false [⟨(some 95), .bin .add (.tmp 43) (.const (.int .i64 1)), none, [], false, false⟩,
                ⟨(some 43), .move (.tmp 95), none, [], false, false⟩])))))))
       (.seq (.region false [⟨(some 96), .move (.tmp 11), none, [], false, false⟩,
           ⟨(some 4), .move (.tmp 96), none, [], false, false⟩,
           ⟨(some 5), .move (.const (.int .i64 0)), none, [], false, false⟩])
        (.ret)))))))),
 [.tmp 4, .tmp 5], .pure, 97⟩

/-- agraffe/agraffelaw07.tests -/
def ef41 : EFun := ⟨
 .seq (.region false [⟨(some 2), .move (.const (.slice none 0 0)), none, [], false, false⟩])
 (.seq (.region false [⟨(some 3), .buildSlice 4 0 [] [], none, [], false, false⟩,
     ⟨(some 4), .move (.tmp 0), none, [], false, false⟩,
     ⟨(some 5), .append 4 32 (.tmp 3) (.tmp 4), none, [], false, false⟩,
     ⟨(some 2), .move (.tmp 5), none, [], false, false⟩])
  (.ret)),
 [.tmp 2], .pure, 6⟩

/-- agraffe/agrafferef07.Heard -/
def ef42 : EFun := ⟨
 .seq (.region false [⟨(some 4), .move (.const (.slice none 0 0)), none, [], false, false⟩,
    ⟨(some 5), .move (.const (.int .i64 0)), none, [], false, false⟩])
 (.seq (.seq (.region false [⟨(some 15), .move (.tmp 0), none, [], false, false⟩,
      ⟨(some 16), .call 81 [(.tmp 15)], none, [], false, false⟩,
      ⟨(some 6), .move (.tmp 16), none, [], false, false⟩])
   (.seq (.region false [⟨(some 17), .move (.tmp 6), none, [], false, false⟩,
       ⟨(some 18), .bin .neq (.tmp 17) (.const (.int .i64 0)), none, [], false, false⟩])
    (.cond (.tmp 18) (.seq (.region false [⟨(some 19), .move (.tmp 6), none, [], false, false⟩,
         ⟨(some 4), .move (.const (.slice none 0 0)), none, [], false, false⟩,
         ⟨(some 5), .move (.tmp 19), none, [], false, false⟩])
      (.ret))
     (.skip))))
  (.seq (.seq (.region false [⟨(some 20), .move (.tmp 1), none, [], false, false⟩,
       ⟨(some 21), .call 55 [(.tmp 20)], none, [], false, false⟩,
       ⟨(some 7), .move (.tmp 21), none, [], false, false⟩])
    (.seq (.region false [⟨(some 22), .move (.tmp 7), none, [], false, false⟩,
        ⟨(some 23), .bin .neq (.tmp 22) (.const (.int .i64 0)), none, [], false, false⟩])
     (.cond (.tmp 23) (.seq (.region false [⟨(some 24), .move (.tmp 7), none, [], false, false⟩,
          ⟨(some 4), .move (.const (.slice none 0 0)), none, [], false, false⟩,
          ⟨(some 5), .move (.tmp 24), none, [], false, false⟩])
       (.ret))
      (.skip))))
   (.seq (.region false [⟨(some 8), .move (.const (.slice none 0 0)), none, [], false, false⟩])
    (.seq (.seq (.region false [⟨(some 9), .move (.const (.int .i64 0)), none, [], false, false⟩])
      (.block 0 (.loop (some [0, 1, 8, 9]) (
        .seq (.seq (.region false [⟨(some 25), .move (.tmp 9), none, [], false, false⟩,
             ⟨(some 26), .move (.tmp 1), none, [], false, false⟩,
             ⟨(some 27), .len false (.tmp 26), none, [], false, false⟩,
             ⟨(some 28), .bin .lss (.tmp 25) (.tmp 27), none, [], false, false⟩])
          (.cond (.tmp 28) (.skip)
           (.exit 0)))
         (.seq (.block 1 (.seq (.region false [⟨(some 31), .move (.tmp 1), none, [], false, false⟩,
               ⟨(some 32), .move (.tmp 9), none, [], false, false⟩,
               ⟨(some 33), .indexAddr none 4 (.tmp 31) (.tmp 32), none, [], false, false⟩,
               ⟨(some 34), .load true 4 (.tmp 33), none, [], false, false⟩,
               ⟨(some 10), .push [(.int .i64 0), (.int .i64 0), (.int .i64 0), (.int .i64 0)], none, [], false, false⟩,
               ⟨none, .store 4 (.tmp 10) (.tmp 34), none, [], false, false⟩])
            (.seq (.region false [⟨(some 36), .move (.tmp 0), none, [], false, false⟩,
                ⟨(some 37), .fieldAddr 0 (.tmp 10), none, [], false, false⟩,
                ⟨(some 38), .load false 1 (.tmp 37), none, [], false, false⟩,
                ⟨(some 39), .call 82 [(.tmp 36), (.tmp 38)], none, [], false, false⟩,
                ⟨(some 35), .move (.tmp 39), none, [], false, false⟩,
                ⟨(some 40), .extract (.tmp 35) 0, none, [], false, false⟩,
                ⟨(some 41), .extract (.tmp 35) 1, none, [], false, false⟩,
                ⟨(some 11), .push [(.int .i64 0), (.int .i64 0)], none, [], false, false⟩,
                ⟨none, .store 2 (.tmp 11) (.tmp 40), none, [], false, false⟩,
                ⟨(some 12), .move (.tmp 41), none, [], false, false⟩])
             (.seq (.region false [⟨(some 43), .move (.tmp 0), none, [], false, false⟩,
                 ⟨(some 44), .fieldAddr 1 (.tmp 10), none, [], false, false⟩,
                 ⟨(some 45), .load false 1 (.tmp 44), none, [], false, false⟩,
                 ⟨(some 46), .call 82 [(.tmp 43), (.tmp 45)], none, [], false, false⟩,
                 ⟨(some 42), .move (.tmp 46), none, [], false, false⟩,
                 ⟨(some 47), .extract (.tmp 42) 0, none, [], false, false⟩,
                 ⟨(some 48), .extract (.tmp 42) 1, none, [], false, false⟩,
                 ⟨(some 13), .push [(.int .i64 0), (.int .i64 0)], none, [], false, false⟩,
                 ⟨none, .store 2 (.tmp 13) (.tmp 47), none, [], false, false⟩,
                 ⟨(some 14), .move (.tmp 48), none, [], false, false⟩])
              (.seq (.seq (.region false [⟨(some 49), .move (.tmp 12), none, [], false, false⟩,
                   ⟨(some 50), .un .not (.tmp 49), none, [], false, false⟩,
                   ⟨(some 51), .move (.tmp 50), none, [], false, false⟩,
                   ⟨(some 52), .move (.tmp 14), (some (51, false)), [], false, false⟩,
                   ⟨(some 53), .un .not (.tmp 52), (some (51, false)), [], false, false⟩,
                   ⟨(some 54), .pick (.tmp 51) (.const (.bool true)) (.tmp 53), none, [], false, false⟩])
                (.cond (.tmp 54) (.seq (.region false [⟨(some 4), .move (.const (.slice none 0 0)), none, [], false, false⟩,
                     ⟨(some 5), .move (.const (.int .i64 6)), none, [], false, false⟩])
                  (.ret))
                 (.skip)))
               (.region false [⟨(some 55), .move (.tmp 8), none, [], false, false⟩,
                  ⟨(some 56), .load true 4 (.tmp 10), none, [], false, false⟩,
                  ⟨(some 57), .fieldAddr 3 (.tmp 10), none, [], false, false⟩,
                  ⟨(some 58), .load false 1 (.tmp 57), none, [], false, false⟩,
                  ⟨(some 59), .fieldAddr 0 (.tmp 13), none, [], false, false⟩,
                  ⟨(some 60), .load false 1 (.tmp 59), none, [], false, false⟩,
                  ⟨(some 61), .bin .mul (.tmp 58) (.tmp 60), none, [], false, false⟩,
                  ⟨(some 62), .fieldAddr 2 (.tmp 10), none, [], false, false⟩,
                  ⟨(some 63), .load false 1 (.tmp 62), none, [], false, false⟩,
                  ⟨(some 64), .fieldAddr 1 (.tmp 11), none, [], false, false⟩,
                  ⟨(some 65), .load false 1 (.tmp 64), none, [], false, false⟩,
                  ⟨(some 66), .bin .mul (.tmp 63) (.tmp 65), none, [], false, false⟩,
                  ⟨(some 67), .bin .sub (.tmp 61) (.tmp 66), none, [], false, false⟩,
                  ⟨(some 68), .fieldAddr 3 (.tmp 10), none, [], false, false⟩,
                  ⟨(some 69), .load false 1 (.tmp 68), none, [], false, false⟩,
                  ⟨(some 70), .fieldAddr 1 (.tmp 13), none, [], false, false⟩,
                  ⟨(some 71), .load false 1 (.tmp 70), none, [], false, false⟩,
                  ⟨(some 72), .bin .mul (.tmp 69) (.tmp 71), none, [], false, false⟩,
                  ⟨(some 73), .fieldAddr 2 (.tmp 10), none, [], false, false⟩,
                  ⟨(some 74), .load false 1 (.tmp 73), none, [], false, false⟩,
                  ⟨(some 75), .fieldAddr 0 (.tmp 11), none, [], false, false⟩,
                  ⟨(some 76), .load false 1 (.tmp 75), none, [], false, false⟩,
                  ⟨(some 77), .bin .mul (.tmp 74) (.tmp 76), none, [], false, false⟩,
                  ⟨(some 78), .bin .sub (.tmp 72) (.tmp 77), none, [], false, false⟩,
                  ⟨(some 79), .build [(.int .i64 0), (.int .i64 0)] [(0, 1, (.tmp 67)), (1, 1, (.tmp 78))], none, [], false, false⟩,
                  ⟨(some 80), .build [(.int .i64 0), (.int .i64 0), (.int .i64 0), (.int .i64 0), (.int .i64 0), (.int .i64 0)] [(0, 4, (.tmp 56)), (4, 2, (.tmp 79))], none, [], false, false⟩,
                  ⟨(some 81), .buildSlice 6 1 [(.int .i64 0), (.int .i64 0), (.int .i64 0), (.int .i64 0), (.int .i64 0), (.int .i64 0)] [(0, 6, (.tmp 80))], none, [], false, false⟩,
                  ⟨(some 82), .append 6 48 (.tmp 55) (.tmp 81), none, [], false, false⟩,
                  ⟨(some 8), .move (.tmp 82), none, [], false, false⟩]))))))
          (.region false [⟨(some 29), .move (.tmp 9), none, [], false, false⟩,
             ⟨(some 30), .bin .add (.tmp 29) (.const (.int .i64 1)), none, [], false, false⟩,
             ⟨(some 9), .move (.tmp 30), none, [], false, false⟩]))))))
     (.seq (.region false [⟨(some 83), .move (.tmp 8), none, [], false, false⟩,
         ⟨(some 4), .move (.tmp 83), none, [], false, false⟩,
         ⟨(some 5), .move (.const (.int .i64 0)), none, [], false, false⟩])
      (.ret)))))),
 [.tmp 4, .tmp 5], .pure, 84⟩

/-- agraffe/agraffelaw07.sameCounts -/
def ef43 : EFun := ⟨
 .seq (.region false [⟨(some 4), .move (.const (.bool false)), none, [], false, false⟩])
 (.seq (.seq (.region false [⟨(some 6), .move (.tmp 0), none, [], false, false⟩,
      ⟨(some 7), .len false (.tmp 6), none, [], false, false⟩,
      ⟨(some 8), .move (.tmp 1), none, [], false, false⟩,
      ⟨(some 9), .len false (.tmp 8), none, [], false, false⟩,
      ⟨(some 10), .bin .neq (.tmp 7) (.tmp 9), none, [], false, false⟩])
   (.cond (.tmp 10) (.seq (.region false [⟨(some 4), .move (.const (.bool false)), none, [], false, false⟩])
     (.ret))
    (.skip)))
  (.seq (.seq (.region false [⟨(some 5), .move (.const (.int .i64 0)), none, [], false, false⟩])
    (.block 0 (.loop (some [0, 1, 5]) (
      .seq (.seq (.region false [⟨(some 11), .move (.tmp 5), none, [], false, false⟩,
           ⟨(some 12), .move (.tmp 0), none, [], false, false⟩,
           ⟨(some 13), .len false (.tmp 12), none, [], false, false⟩,
           ⟨(some 14), .bin .lss (.tmp 11) (.tmp 13), none, [], false, false⟩])
        (.cond (.tmp 14) (.skip)
         (.exit 0)))
       (.seq (.block 1 (.seq (.region true [⟨(some 17), .move (.tmp 0), none, [], false, false⟩,
             ⟨(some 18), .move (.tmp 5), none, [], false, false⟩,
             ⟨(some 19), .indexAddr none 6 (.tmp 17) (.tmp 18), none, [], false, false⟩,
             ⟨(some 20), .load true 6 (.tmp 19), none, [], false, false⟩,
             ⟨(some 21), .move (.tmp 1), none, [], false, false⟩,
             ⟨(some 22), .move (.tmp 5), none, [], false, false⟩,
             ⟨(some 23), .indexAddr none 6 (.tmp 21) (.tmp 22), none, [], false, false⟩,
             ⟨(some 24), .load true 6 (.tmp 23), none, [], false, false⟩,
             ⟨(some 25), .eqAgg true [(.int .i64), (.int .i64), (.int .i64), (.int .i64), (.int .i64), (.int .i64)] (.tmp 20) (.tmp 24), none, [], false, false⟩])
          (.cond (.tmp 25) (.seq (.region false [⟨(some 4), .move (.const (.bool false)), none, [], false, false⟩])
            (.ret))
           (.skip))))
        (.region false [⟨(some 15), .move (.tmp 5), none, [], false, false⟩,
           ⟨(some 16), .bin .add (.tmp 15) (.const (.int .i64 1)), none, [], false, false⟩,
           ⟨(some 5), .move (.tmp 16), none, [], false, false⟩]))))))
   (.seq (.region false [⟨(some 4), .move (.const (.bool true)), none, [], false, false⟩])
    (.ret)))),
 [.tmp 4], .pure, 26⟩

/-- agraffe/upkeep.Raise -/
def ef44 : EFun := ⟨
 .seq (.region false [⟨(some 6), .move (.const (.slice none 0 0)), none, [], false, false⟩,
    ⟨(some 7), .move (.const (.int .i64 0)), none, [], false, false⟩])
 (.seq (.seq (.region false [⟨(some 12), .move (.tmp 0), none, [], false, false⟩,
      ⟨(some 13), .call 36 [(.tmp 12)], none, [], false, false⟩,
      ⟨(some 8), .move (.tmp 13), none, [], false, false⟩])
   (.seq (.region false [⟨(some 14), .move (.tmp 8), none, [], false, false⟩,
       ⟨(some 15), .bin .neq (.tmp 14) (.const (.int .i64 0)), none, [], false, false⟩])
    (.cond (.tmp 15) (.seq (.region false [⟨(some 16), .move (.tmp 8), none, [], false, false⟩,
         ⟨(some 6), .move (.const (.slice none 0 0)), none, [], false, false⟩,
         ⟨(some 7), .move (.tmp 16), none, [], false, false⟩])
      (.ret))
     (.skip))))
  (.seq (.seq (.region false [⟨(some 17), .move (.tmp 1), none, [], false, false⟩,
       ⟨(some 18), .len false (.tmp 17), none, [], false, false⟩,
       ⟨(some 19), .bin .neq (.tmp 18) (.const (.int .i64 88)), none, [], false, false⟩])
    (.cond (.tmp 19) (.seq (.region false [⟨(some 6), .move (.const (.slice none 0 0)), none, [], false, false⟩,
         ⟨(some 7), .move (.const (.int .i64 10)), none, [], false, false⟩])
      (.ret))
     (.skip)))
   (.seq (.seq (.region false [⟨(some 20), .move (.tmp 1), none, [], false, false⟩,
        ⟨(some 21), .call 83 [(.tmp 20), (.func 84)], none, [], false, false⟩,
        ⟨(some 22), .move (.tmp 21), none, [], false, false⟩,
        ⟨(some 23), .move (.tmp 2), (some (22, false)), [], false, false⟩,
        ⟨(some 24), .call 65 [(.tmp 23), (.const (.int .i64 0)), (.const (.int .i64 200000))], (some (22, false)), [], false, false⟩,
        ⟨(some 25), .un .not (.tmp 24), (some (22, false)), [], false, false⟩,
        ⟨(some 26), .pick (.tmp 22) (.const (.bool true)) (.tmp 25), none, [], false, false⟩])
     (.cond (.tmp 26) (.seq (.region false [⟨(some 6), .move (.const (.slice none 0 0)), none, [], false, false⟩,
          ⟨(some 7), .move (.const (.int .i64 2)), none, [], false, false⟩])
       (.ret))
      (.skip)))
    (.seq (.region false [⟨(some 27), .move (.tmp 1), none, [], false, false⟩,
        ⟨(some 28), .len false (.tmp 27), none, [], false, false⟩,
        ⟨(some 29), .makeSlice 1 8 [(.int .i64 0)] (.tmp 28) (.tmp 28), none, [], false, false⟩,
        ⟨(some 9), .move (.tmp 29), none, [], false, false⟩])
     (.seq (.seq (.region false [⟨(some 30), .move (.tmp 1), none, [], false, false⟩,
          ⟨(some 31), .len false (.tmp 30), none, [], false, false⟩,
          ⟨(some 32), .move (.const (.int .i64 0)), none, [], false, false⟩])
       (.block 0 (.loop (some [0, 2, 9, 30, 31, 32]) (
         .seq (.region false [⟨(some 33), .bin .lss (.tmp 32) (.tmp 31), none, [], false, false⟩])
          (.seq (.cond (.tmp 33) (.skip)
            (.exit 0))
           (.seq (.block 1 (.seq (.region false [⟨(some 34), .move (.tmp 32), none, [], false, false⟩,
                 ⟨(some 35), .indexAddr none 1 (.tmp 30) (.tmp 32), none, [], false, false⟩,
                 ⟨(some 36), .load false 1 (.tmp 35), none, [], false, false⟩,
                 ⟨(some 10), .move (.tmp 34), none, [], false, false⟩,
                 ⟨(some 11), .move (.tmp 36), none, [], false, false⟩])
              (.region false [⟨(some 37), .move (.tmp 9), none, [], false, false⟩,
                 ⟨(some 38), .move (.tmp 10), none, [], false, false⟩,
                 ⟨(some 39), .move (.tmp 11), none, [], false, false⟩,
                 ⟨(some 40), .move (.tmp 2), none, [], false, false⟩,
                 ⟨(some 41), .move (.tmp 11), none, [], false, false⟩,
                 ⟨(some 42), .move (.tmp 0), none, [], false, false⟩,
                 ⟨(some 43), .move (.tmp 10), none, [], false, false⟩,
                 ⟨(some 44), .call 79 [(.tmp 42), (.tmp 43)], none, [], false, false⟩,
                 ⟨(some 45), .bin .mul (.tmp 41) (.tmp 44), none, [], false, false⟩,
                 ⟨(some 46), .bin .quo (.tmp 45) (.const (.int .i64 1000)), none, [], false, false⟩,
                 ⟨(some 47), .min [(.tmp 40), (.tmp 46)], none, [], false, false⟩,
                 ⟨(some 48), .bin .add (.tmp 39) (.tmp 47), none, [], false, false⟩,
                 ⟨(some 49), .indexAddr none 1 (.tmp 37) (.tmp 38), none, [], false, false⟩,
                 ⟨none, .store 1 (.tmp 49) (.tmp 48), none, [], false, false⟩])))
            (.region false [⟨(some 50), .bin .add (.tmp 32) (.const (.int .i64 1)), none, [], false, false⟩,
               ⟨(some 32), .move (.tmp 50), none, [], false, false⟩])))))))
      (.seq (.region false [⟨(some 51), .move (.tmp 9), none, [], false, false⟩,
          ⟨(some 6), .move (.tmp 51), none, [], false, false⟩,
          ⟨(some 7), .move (.const (.int .i64 0)), none, [], false, false⟩])
       (.ret))))))),
 [.tmp 6, .tmp 7], .pure, 52⟩

/-- agraffe/agraffebase.CopyInts -/
def ef45 : EFun := ⟨
 .seq (.region false [⟨(some 2), .move (.const (.slice none 0 0)), none, [], false, false⟩])
 (.seq (.region false [⟨(some 3), .buildSlice 1 0 [] [], none, [], false, false⟩,
     ⟨(some 4), .move (.tmp 0), none, [], false, false⟩,
     ⟨(some 5), .append 1 8 (.tmp 3) (.tmp 4), none, [], false, false⟩,
     ⟨(some 2), .move (.tmp 5), none, [], false, false⟩])
  (.ret)),
 [.tmp 2], .pure, 6⟩

/-- agraffe/agrafferef07.Raise -/
def ef46 : EFun := ⟨
 .seq (.region false [⟨(some 6), .move (.const (.slice none 0 0)), none, [], false, false⟩,
    ⟨(some 7), .move (.const (.int .i64 0)), none, [], false, false⟩])
 (.seq (.seq (.region false [⟨(some 12), .move (.tmp 0), none, [], false, false⟩,
      ⟨(some 13), .call 35 [(.tmp 12)], none, [], false, false⟩,
      ⟨(some 8), .move (.tmp 13), none, [], false, false⟩])
   (.seq (.region false [⟨(some 14), .move (.tmp 8), none, [], false, false⟩,
       ⟨(some 15), .bin .neq (.tmp 14) (.const (.int .i64 0)), none, [], false, false⟩])
    (.cond (.tmp 15) (.seq (.region false [⟨(some 16), .move (.tmp 8), none, [], false, false⟩,
         ⟨(some 6), .move (.const (.slice none 0 0)), none, [], false, false⟩,
         ⟨(some 7), .move (.tmp 16), none, [], false, false⟩])
      (.ret))
     (.skip))))
  (.seq (.seq (.region false [⟨(some 17), .move (.tmp 1), none, [], false, false⟩,
       ⟨(some 18), .len false (.tmp 17), none, [], false, false⟩,
       ⟨(some 19), .bin .neq (.tmp 18) (.const (.int .i64 88)), none, [], false, false⟩])
    (.cond (.tmp 19) (.seq (.region false [⟨(some 6), .move (.const (.slice none 0 0)), none, [], false, false⟩,
         ⟨(some 7), .move (.const (.int .i64 10)), none, [], false, false⟩])
      (.ret))
     (.skip)))
   (.seq (.seq (.region false [⟨(some 9), .move (.const (.int .i64 0)), none, [], false, false⟩])
     (.block 0 (.loop (some [0, 1, 2, 9]) (
       .seq (.seq (.region false [⟨(some 20), .move (.tmp 9), none, [], false, false⟩,
            ⟨(some 21), .bin .lss (.tmp 20) (.const (.int .i64 88)), none, [], false, false⟩])
         (.cond (.tmp 21) (.skip)
          (.exit 0)))
        (.seq (.block 1 (.seq (.region false [⟨(some 24), .move (.tmp 1), none, [], false, false⟩,
              ⟨(some 25), .move (.tmp 9), none, [], false, false⟩,
              ⟨(some 26), .indexAddr none 1 (.tmp 24) (.tmp 25), none, [], false, false⟩,
              ⟨(some 27), .load false 1 (.tmp 26), none, [], false, false⟩,
              ⟨(some 28), .call 66 [(.tmp 27)], none, [], false, false⟩,
              ⟨(some 29), .un .not (.tmp 28), none, [], false, false⟩])
           (.cond (.tmp 29) (.seq (.region false [⟨(some 6), .move (.const (.slice none 0 0)), none, [], false, false⟩,
                ⟨(some 7), .move (.const (.int .i64 2)), none, [], false, false⟩])
             (.ret))
            (.skip))))
         (.region false [⟨(some 22), .move (.tmp 9), none, [], false, false⟩,
            ⟨(some 23), .bin .add (.tmp 22) (.const (.int .i64 1)), none, [], false, false⟩,
            ⟨(some 9), .move (.tmp 23), none, [], false, false⟩]))))))
    (.seq (.seq (.region false [⟨(some 30), .move (.tmp 2), none, [], false, false⟩,
         ⟨(some 31), .call 66 [(.tmp 30)], none, [], false, false⟩,
         ⟨(some 32), .un .not (.tmp 31), none, [], false, false⟩])
      (.cond (.tmp 32) (.seq (.region false [⟨(some 6), .move (.const (.slice none 0 0)), none, [], false, false⟩,
           ⟨(some 7), .move (.const (.int .i64 2)), none, [], false, false⟩])
        (.ret))
       (.skip)))
     (.seq (.region false [⟨(some 10), .move (.const (.slice none 0 0)), none, [], false, false⟩])
      (.seq (.seq (.region false [⟨(some 11), .move (.const (.int .i64 0)), none, [], false, false⟩])
        (.block 2 (.loop (some [0, 1, 2, 10, 11]) (
          .seq (.seq (.region false [⟨(some 33), .move (.tmp 11), none, [], false, false⟩,
               ⟨(some 34), .bin .lss (.tmp 33) (.const (.int .i64 88)), none, [], false, false⟩])
            (.cond (.tmp 34) (.skip)
             (.exit 2)))
           (.seq (.block 3 (.region true [⟨(some 37), .move (.tmp 10), none, [], false, false⟩,
                ⟨(some 38), .move (.tmp 1), none, [], false, false⟩,
                ⟨(some 39), .move (.tmp 11), none, [], false, false⟩,
                ⟨(some 40), .indexAddr none 1 (.tmp 38) (.tmp 39), none, [], false, false⟩,
                ⟨(some 41), .load false 1 (.tmp 40), none, [], false, false⟩,
                ⟨(some 42), .move (.tmp 2), none, [], false, false⟩,
                ⟨(some 43), .move (.tmp 1), none, [], false, false⟩,
                ⟨(some 44), .move (.tmp 11), none, [], false, false⟩,
                ⟨(some 45), .indexAddr none 1 (.tmp 43) (.tmp 44), none, [], false, false⟩,
                ⟨(some 46), .load false 1 (.tmp 45), none, [], false, false⟩,
                ⟨(some 47), .move (.tmp 0), none, [], false, false⟩,
                ⟨(some 48), .move (.tmp 11), none, [], false, false⟩,
                ⟨(some 49), .call 38 [(.tmp 47), (.tmp 48)], none, [], false, true⟩,
                ⟨(some 50), .bin .mul (.tmp 46) (.tmp 49), none, [], false, false⟩,
                ⟨(some 51), .bin .quo (.tmp 50) (.const (.int .i64 1000)), none, [], false, false⟩,
                ⟨(some 52), .min [(.tmp 42), (.tmp 51)], none, [], false, false⟩,
                ⟨(some 53), .bin .add (.tmp 41) (.tmp 52), none, [], false, false⟩,
                ⟨(some 54), .buildSlice 1 1 [(.int .i64 0)] [(0, 1, (.tmp 53))], none, [], false, false⟩,
                ⟨(some 55), .append 1 8 (.tmp 37) (.tmp 54), none, [], false, false⟩,
                ⟨(some 10), .move (.tmp 55), none, [], false, false⟩]))
            (.region false [⟨(some 35), .move (.tmp 11), none, [], false, false⟩,
               ⟨(some 36), .bin .add (.tmp 35) (.const (.int .i64 1)), none, [], false, false⟩,
               ⟨(some 11), .move (.tmp 36), none, [], false, false⟩]))))))
       (.seq (.region false [⟨(some 56), .move (.tmp 10), none, [], false, false⟩,
           ⟨(some 6), .move (.tmp 56), none, [], false, false⟩,
           ⟨(some 7), .move (.const (.int .i64 0)), none, [], false, false⟩])
        (.ret)))))))),
 [.tmp 6, .tmp 7], .pure, 57⟩

/-- agraffe/agraffebase.Ints -/
def ef47 : EFun := ⟨
 .seq (.region false [⟨(some 4), .move (.const (.bool false)), none, [], false, false⟩])
 (.seq (.seq (.region false [⟨(some 6), .move (.tmp 0), none, [], false, false⟩,
      ⟨(some 7), .len false (.tmp 6), none, [], false, false⟩,
      ⟨(some 8), .move (.tmp 1), none, [], false, false⟩,
      ⟨(some 9), .len false (.tmp 8), none, [], false, false⟩,
      ⟨(some 10), .bin .neq (.tmp 7) (.tmp 9), none, [], false, false⟩])
   (.cond (.tmp 10) (.seq (.region false [⟨(some 4), .move (.const (.bool false)), none, [], false, false⟩])
     (.ret))
    (.skip)))
  (.seq (.seq (.region false [⟨(some 5), .move (.const (.int .i64 0)), none, [], false, false⟩])
    (.block 0 (.loop (some [0, 1, 5]) (
      .seq (.seq (.region false [⟨(some 11), .move (.tmp 5), none, [], false, false⟩,
           ⟨(some 12), .move (.tmp 0), none, [], false, false⟩,
           ⟨(some 13), .len false (.tmp 12), none, [], false, false⟩,
           ⟨(some 14), .bin .lss (.tmp 11) (.tmp 13), none, [], false, false⟩])
        (.cond (.tmp 14) (.skip)
         (.exit 0)))
       (.seq (.block 1 (.seq (.region true [⟨(some 17), .move (.tmp 0), none, [], false, false⟩,
             ⟨(some 18), .move (.tmp 5), none, [], false, false⟩,
             ⟨(some 19), .indexAddr none 1 (.tmp 17) (.tmp 18), none, [], false, false⟩,
             ⟨(some 20), .load false 1 (.tmp 19), none, [], false, false⟩,
             ⟨(some 21), .move (.tmp 1), none, [], false, false⟩,
             ⟨(some 22), .move (.tmp 5), none, [], false, false⟩,
             ⟨(some 23), .indexAddr none 1 (.tmp 21) (.tmp 22), none, [], false, false⟩,
             ⟨(some 24), .load false 1 (.tmp 23), none, [], false, false⟩,
             ⟨(some 25), .bin .neq (.tmp 20) (.tmp 24), none, [], false, false⟩])
          (.cond (.tmp 25) (.seq (.region false [⟨(some 4), .move (.const (.bool false)), none, [], false, false⟩])
            (.ret))
           (.skip))))
        (.region false [⟨(some 15), .move (.tmp 5), none, [], false, false⟩,
           ⟨(some 16), .bin .add (.tmp 15) (.const (.int .i64 1)), none, [], false, false⟩,
           ⟨(some 5), .move (.tmp 16), none, [], false, false⟩]))))))
   (.seq (.region false [⟨(some 4), .move (.const (.bool true)), none, [], false, false⟩])
    (.ret)))),
 [.tmp 4], .pure, 26⟩

/-- agraffe/upkeep.CheckTorques -/
def ef48 : EFun := ⟨
 .seq (.region false [⟨(some 2), .move (.const (.int .i64 0)), none, [], false, false⟩])
 (.seq (.seq (.region false [⟨(some 5), .move (.tmp 0), none, [], false, false⟩,
      ⟨(some 6), .len false (.tmp 5), none, [], false, false⟩,
      ⟨(some 7), .bin .gtr (.tmp 6) (.const (.int .i64 60)), none, [], false, false⟩])
   (.cond (.tmp 7) (.seq (.region false [⟨(some 2), .move (.const (.int .i64 8)), none, [], false, false⟩])
     (.ret))
    (.skip)))
  (.seq (.seq (.region false [⟨(some 8), .move (.tmp 0), none, [], false, false⟩,
       ⟨(some 9), .len false (.tmp 8), none, [], false, false⟩,
       ⟨(some 10), .move (.const (.int .i64 0)), none, [], false, false⟩])
    (.block 0 (.loop (some [0, 8, 9, 10]) (
      .seq (.region false [⟨(some 11), .bin .lss (.tmp 10) (.tmp 9), none, [], false, false⟩])
       (.seq (.cond (.tmp 11) (.skip)
         (.exit 0))
        (.seq (.block 1 (.seq (.region false [⟨(some 12), .move (.tmp 10), none, [], false, false⟩,
              ⟨(some 13), .indexAddr none 2 (.tmp 8) (.tmp 10), none, [], false, false⟩,
              ⟨(some 14), .load true 2 (.tmp 13), none, [], false, false⟩,
              ⟨(some 4), .push [(.int .i64 0), (.int .i64 0)], none, [], false, false⟩,
              ⟨(some 3), .move (.tmp 12), none, [], false, false⟩,
              ⟨none, .store 2 (.tmp 4) (.tmp 14), none, [], false, false⟩])
           (.block 2 (.seq (.region false [⟨(some 16), .fieldAddr 0 (.tmp 4), none, [], false, false⟩,
                ⟨(some 17), .load false 1 (.tmp 16), none, [], false, false⟩,
                ⟨(some 18), .call 70 [(.tmp 17)], none, [], false, false⟩,
                ⟨(some 19), .un .not (.tmp 18), none, [], false, false⟩,
                ⟨(some 20), .move (.tmp 19), none, [], false, false⟩,
                ⟨(some 21), .fieldAddr 1 (.tmp 4), (some (20, false)), [], false, false⟩,
                ⟨(some 22), .load false 1 (.tmp 21), (some (20, false)), [], false, false⟩,
                ⟨(some 23), .call 65 [(.tmp 22), (.const (.int .i64 0)), (.const (.int .i64 100000))], (some (20, false)), [], false, false⟩,
                ⟨(some 24), .un .not (.tmp 23), (some (20, false)), [], false, false⟩,
                ⟨(some 25), .pick (.tmp 20) (.const (.bool true)) (.tmp 24), none, [], false, false⟩,
                ⟨(some 15), .move (.tmp 25), none, [], false, false⟩])
             (.cond (.tmp 15) (.seq (.region false [⟨(some 2), .move (.const (.int .i64 2)), none, [], false, false⟩])
               (.ret))
              (.seq (.region true [⟨(some 27), .move (.tmp 3), none, [], false, false⟩,
                  ⟨(some 28), .bin .gtr (.tmp 27) (.const (.int .i64 0)), none, [], false, false⟩,
                  ⟨(some 29), .move (.tmp 28), none, [], false, false⟩,
                  ⟨(some 30), .fieldAddr 0 (.tmp 4), (some (29, true)), [], false, false⟩,
                  ⟨(some 31), .load false 1 (.tmp 30), (some (29, true)), [], false, false⟩,
                  ⟨(some 32), .move (.tmp 0), (some (29, true)), [], false, false⟩,
                  ⟨(some 33), .move (.tmp 3), (some (29, true)), [], false, false⟩,
                  ⟨(some 34), .bin .sub (.tmp 33) (.const (.int .i64 1)), (some (29, true)), [], false, false⟩,
                  ⟨(some 35), .indexAddr none 2 (.tmp 32) (.tmp 34), (some (29, true)), [], false, false⟩,
                  ⟨(some 36), .fieldAddr 0 (.tmp 35), (some (29, true)), [], false, false⟩,
                  ⟨(some 37), .load false 1 (.tmp 36), (some (29, true)), [], false, false⟩,
                  ⟨(some 38), .bin .leq (.tmp 31) (.tmp 37), (some (29, true)), [], false, false⟩,
                  ⟨(some 39), .pick (.tmp 29) (.tmp 38) (.const (.bool false)), none, [], false, false⟩,
                  ⟨(some 26), .move (.tmp 39), none, [], false, false⟩])
               (.cond (.tmp 26) (.seq (.region false [⟨(some 2), .move (.const (.int .i64 9)), none, [], false, false⟩])
                 (.ret))
                (.skip))))))))
         (.region false [⟨(some 40), .bin .add (.tmp 10) (.const (.int .i64 1)), none, [], false, false⟩,
            ⟨(some 10), .move (.tmp 40), none, [], false, false⟩])))))))
   (.seq (.region false [⟨(some 2), .move (.const (.int .i64 0)), none, [], false, false⟩])
    (.ret)))),
 [.tmp 2], .pure, 41⟩

/-- agraffe/agrafferef07.CheckTorques -/
def ef49 : EFun := ⟨
 .seq (.region false [⟨(some 2), .move (.const (.int .i64 0)), none, [], false, false⟩])
 (.seq (.seq (.region false [⟨(some 4), .move (.tmp 0), none, [], false, false⟩,
      ⟨(some 5), .len false (.tmp 4), none, [], false, false⟩,
      ⟨(some 6), .bin .gtr (.tmp 5) (.const (.int .i64 60)), none, [], false, false⟩])
   (.cond (.tmp 6) (.seq (.region false [⟨(some 2), .move (.const (.int .i64 8)), none, [], false, false⟩])
     (.ret))
    (.skip)))
  (.seq (.seq (.region false [⟨(some 3), .move (.const (.int .i64 0)), none, [], false, false⟩])
    (.block 0 (.loop (some [0, 3]) (
      .seq (.seq (.region false [⟨(some 7), .move (.tmp 3), none, [], false, false⟩,
           ⟨(some 8), .move (.tmp 0), none, [], false, false⟩,
           ⟨(some 9), .len false (.tmp 8), none, [], false, false⟩,
           ⟨(some 10), .bin .lss (.tmp 7) (.tmp 9), none, [], false, false⟩])
        (.cond (.tmp 10) (.skip)
         (.exit 0)))
       (.seq (.block 1 (.seq (.seq (.region false [⟨(some 13), .move (.tmp 0), none, [], false, false⟩,
              ⟨(some 14), .move (.tmp 3), none, [], false, false⟩,
              ⟨(some 15), .indexAddr none 2 (.tmp 13) (.tmp 14), none, [], false, false⟩,
              ⟨(some 16), .fieldAddr 0 (.tmp 15), none, [], false, false⟩,
              ⟨(some 17), .load false 1 (.tmp 16), none, [], false, false⟩,
              ⟨(some 18), .call 23 [(.tmp 17)], none, [], false, false⟩,
              ⟨(some 19), .un .not (.tmp 18), none, [], false, false⟩,
              ⟨(some 20), .move (.tmp 19), none, [], false, false⟩,
              ⟨(some 21), .move (.tmp 0), (some (20, false)), [], false, false⟩,
              ⟨(some 22), .move (.tmp 3), (some (20, false)), [], false, false⟩,
              ⟨(some 23), .indexAddr none 2 (.tmp 21) (.tmp 22), (some (20, false)), [], false, false⟩,
              ⟨(some 24), .fieldAddr 1 (.tmp 23), (some (20, false)), [], false, false⟩,
              ⟨(some 25), .load false 1 (.tmp 24), (some (20, false)), [], false, false⟩,
              ⟨(some 26), .call 30 [(.tmp 25), (.const (.int .i64 0)), (.const (.int .i64 100000))], (some (20, false)), [], false, false⟩,
              ⟨(some 27), .un .not (.tmp 26), (some (20, false)), [], false, false⟩,
              ⟨(some 28), .pick (.tmp 20) (.const (.bool true)) (.tmp 27), none, [], false, false⟩])
           (.cond (.tmp 28) (.seq (.region false [⟨(some 2), .move (.const (.int .i64 2)), none, [], false, false⟩])
             (.ret))
            (.skip)))
          (.seq (.region true [⟨(some 29), .move (.tmp 3), none, [], false, false⟩,
              ⟨(some 30), .bin .gtr (.tmp 29) (.const (.int .i64 0)), none, [], false, false⟩,
              ⟨(some 31), .move (.tmp 30), none, [], false, false⟩,
              ⟨(some 32), .move (.tmp 0), (some (31, true)), [], false, false⟩,
              ⟨(some 33), .move (.tmp 3), (some (31, true)), [], false, false⟩,
              ⟨(some 34), .indexAddr none 2 (.tmp 32) (.tmp 33), (some (31, true)), [], false, false⟩,
              ⟨(some 35), .fieldAddr 0 (.tmp 34), (some (31, true)), [], false, false⟩,
              ⟨(some 36), .load false 1 (.tmp 35), (some (31, true)), [], false, false⟩,
              ⟨(some 37), .move (.tmp 0), (some (31, true)), [], false, false⟩,
              ⟨(some 38), .move (.tmp 3), (some (31, true)), [], false, false⟩,
              ⟨(some 39), .bin .sub (.tmp 38) (.const (.int .i64 1)), (some (31, true)), [], false, false⟩,
              ⟨(some 40), .indexAddr none 2 (.tmp 37) (.tmp 39), (some (31, true)), [], false, false⟩,
              ⟨(some 41), .fieldAddr 0 (.tmp 40), (some (31, true)), [], false, false⟩,
              ⟨(some 42), .load false 1 (.tmp 41), (some (31, true)), [], false, false⟩,
              ⟨(some 43), .bin .leq (.tmp 36) (.tmp 42), (some (31, true)), [], false, false⟩,
              ⟨(some 44), .pick (.tmp 31) (.tmp 43) (.const (.bool false)), none, [], false, false⟩])
           (.cond (.tmp 44) (.seq (.region false [⟨(some 2), .move (.const (.int .i64 9)), none, [], false, false⟩])
             (.ret))
            (.skip)))))
        (.region false [⟨(some 11), .move (.tmp 3), none, [], false, false⟩,
           ⟨(some 12), .bin .add (.tmp 11) (.const (.int .i64 1)), none, [], false, false⟩,
           ⟨(some 3), .move (.tmp 12), none, [], false, false⟩]))))))
   (.seq (.region false [⟨(some 2), .move (.const (.int .i64 0)), none, [], false, false⟩])
    (.ret)))),
 [.tmp 2], .pure, 45⟩

/-- agraffe/upkeep.LooseOn -/
def ef50 : EFun := ⟨
 .seq (.region false [⟨(some 4), .move (.const (.int .i64 0)), none, [], false, false⟩,
    ⟨(some 5), .move (.const (.int .i64 0)), none, [], false, false⟩])
 (.seq (.seq (.region false [⟨(some 11), .move (.tmp 0), none, [], false, false⟩,
      ⟨(some 12), .call 48 [(.tmp 11)], none, [], false, false⟩,
      ⟨(some 6), .move (.tmp 12), none, [], false, false⟩])
   (.seq (.region false [⟨(some 13), .move (.tmp 6), none, [], false, false⟩,
       ⟨(some 14), .bin .neq (.tmp 13) (.const (.int .i64 0)), none, [], false, false⟩])
    (.cond (.tmp 14) (.seq (.region false [⟨(some 15), .move (.tmp 6), none, [], false, false⟩,
         ⟨(some 4), .move (.const (.int .i64 0)), none, [], false, false⟩,
         ⟨(some 5), .move (.tmp 15), none, [], false, false⟩])
      (.ret))
     (.skip))))
  (.seq (.block 0 (.seq (.region false [⟨(some 17), .move (.tmp 1), none, [], false, false⟩,
        ⟨(some 18), .call 65 [(.tmp 17), (.const (.int .i64 0)), (.const (.int .i64 100000))], none, [], false, false⟩,
        ⟨(some 19), .un .not (.tmp 18), none, [], false, false⟩,
        ⟨(some 16), .move (.tmp 19), none, [], false, false⟩])
     (.cond (.tmp 16) (.seq (.region false [⟨(some 4), .move (.const (.int .i64 0)), none, [], false, false⟩,
          ⟨(some 5), .move (.const (.int .i64 2)), none, [], false, false⟩])
       (.ret))
      (.seq (.region false [⟨(some 21), .move (.tmp 0), none, [], false, false⟩,
          ⟨(some 22), .len false (.tmp 21), none, [], false, false⟩,
          ⟨(some 23), .bin .lss (.tmp 22) (.const (.int .i64 2)), none, [], false, false⟩,
          ⟨(some 20), .move (.tmp 23), none, [], false, false⟩])
       (.cond (.tmp 20) (.seq (.region false [⟨(some 4), .move (.const (.int .i64 0)), none, [], false, false⟩,
            ⟨(some 5), .move (.const (.int .i64 10)), none, [], false, false⟩])
         (.ret))
        (.skip))))))
   (.seq (.region true [⟨(some 24), .move (.tmp 0), none, [], false, false⟩,
       ⟨(some 25), .indexAddr none 2 (.tmp 24) (.const (.int .i64 0)), none, [], false, false⟩,
       ⟨(some 26), .load true 2 (.tmp 25), none, [], false, false⟩,
       ⟨(some 27), .move (.tmp 0), none, [], false, false⟩,
       ⟨(some 28), .move (.tmp 0), none, [], false, false⟩,
       ⟨(some 29), .len false (.tmp 28), none, [], false, false⟩,
       ⟨(some 30), .bin .sub (.tmp 29) (.const (.int .i64 1)), none, [], false, false⟩,
       ⟨(some 31), .indexAddr none 2 (.tmp 27) (.tmp 30), none, [], false, false⟩,
       ⟨(some 32), .load true 2 (.tmp 31), none, [], true, false⟩,
       ⟨(some 7), .push [(.int .i64 0), (.int .i64 0)], none, [], false, false⟩,
       ⟨(some 8), .push [(.int .i64 0), (.int .i64 0)], none, [], false, false⟩,
       ⟨none, .store 2 (.tmp 7) (.tmp 26), none, [8], false, false⟩,
       ⟨none, .store 2 (.tmp 8) (.tmp 32), none, [], false, false⟩])
    (.seq (.seq (.region false [⟨(some 33), .fieldAddr 1 (.tmp 8), none, [], false, false⟩,
         ⟨(some 34), .load false 1 (.tmp 33), none, [], false, false⟩,
         ⟨(some 35), .move (.tmp 1), none, [], false, false⟩,
         ⟨(some 36), .bin .leq (.tmp 34) (.tmp 35), none, [], false, false⟩])
      (.cond (.tmp 36) (.seq (.region false [⟨(some 37), .fieldAddr 0 (.tmp 8), none, [], false, false⟩,
           ⟨(some 38), .load false 1 (.tmp 37), none, [], false, false⟩,
           ⟨(some 4), .move (.tmp 38), none, [], false, false⟩,
           ⟨(some 5), .move (.const (.int .i64 0)), none, [], false, false⟩])
        (.ret))
       (.skip)))
     (.seq (.seq (.region false [⟨(some 39), .fieldAddr 1 (.tmp 8), none, [], false, false⟩,
          ⟨(some 40), .load false 1 (.tmp 39), none, [], false, false⟩,
          ⟨(some 41), .fieldAddr 1 (.tmp 7), none, [], false, false⟩,
          ⟨(some 42), .load false 1 (.tmp 41), none, [], false, false⟩,
          ⟨(some 43), .bin .geq (.tmp 40) (.tmp 42), none, [], false, false⟩])
       (.cond (.tmp 43) (.seq (.region false [⟨(some 4), .move (.const (.int .i64 0)), none, [], false, false⟩,
            ⟨(some 5), .move (.const (.int .i64 12)), none, [], false, false⟩])
         (.ret))
        (.skip)))
      (.seq (.region false [⟨(some 44), .fieldAddr 1 (.tmp 7), none, [], false, false⟩,
          ⟨(some 45), .load false 1 (.tmp 44), none, [], false, false⟩,
          ⟨(some 46), .fieldAddr 1 (.tmp 8), none, [], false, false⟩,
          ⟨(some 47), .load false 1 (.tmp 46), none, [], false, false⟩,
          ⟨(some 48), .bin .sub (.tmp 45) (.tmp 47), none, [], false, false⟩,
          ⟨(some 9), .move (.tmp 48), none, [], false, false⟩])
       (.seq (.region true [⟨(some 49), .fieldAddr 0 (.tmp 8), none, [], false, false⟩,
           ⟨(some 50), .load false 1 (.tmp 49), none, [], false, false⟩,
           ⟨(some 51), .fieldAddr 1 (.tmp 8), none, [], false, false⟩,
           ⟨(some 52), .load false 1 (.tmp 51), none, [], false, false⟩,
           ⟨(some 53), .move (.tmp 1), none, [], false, false⟩,
           ⟨(some 54), .bin .sub (.tmp 52) (.tmp 53), none, [], false, false⟩,
           ⟨(some 55), .fieldAddr 0 (.tmp 8), none, [], false, false⟩,
           ⟨(some 56), .load false 1 (.tmp 55), none, [], false, false⟩,
           ⟨(some 57), .fieldAddr 0 (.tmp 7), none, [], false, false⟩,
           ⟨(some 58), .load false 1 (.tmp 57), none, [], false, false⟩,
           ⟨(some 59), .bin .sub (.tmp 56) (.tmp 58), none, [], false, false⟩,
           ⟨(some 60), .bin .mul (.tmp 54) (.tmp 59), none, [], false, false⟩,
           ⟨(some 61), .move (.tmp 9), none, [], false, false⟩,
           ⟨(some 62), .bin .add (.tmp 60) (.tmp 61), none, [], false, false⟩,
           ⟨(some 63), .bin .sub (.tmp 62) (.const (.int .i64 1)), none, [], false, false⟩,
           ⟨(some 64), .move (.tmp 9), none, [], false, false⟩,
           ⟨(some 65), .bin .quo (.tmp 63) (.tmp 64), none, [], false, false⟩,
           ⟨(some 66), .bin .add (.tmp 50) (.tmp 65), none, [], false, false⟩,
           ⟨(some 10), .move (.tmp 66), none, [], false, false⟩])
        (.seq (.seq (.region false [⟨(some 67), .move (.tmp 10), none, [], false, false⟩,
             ⟨(some 68), .call 70 [(.tmp 67)], none, [], false, false⟩,
             ⟨(some 69), .un .not (.tmp 68), none, [], false, false⟩])
          (.cond (.tmp 69) (.seq (.region false [⟨(some 4), .move (.const (.int .i64 0)), none, [], false, false⟩,
               ⟨(some 5), .move (.const (.int .i64 12)), none, [], false, false⟩])
            (.ret))
           (.skip)))
         (.seq (.region false [⟨(some 70), .move (.tmp 10), none, [], false, false⟩,
             ⟨(some 4), .move (.tmp 70), none, [], false, false⟩,
             ⟨(some 5), .move (.const (.int .i64 0)), none, [], false, false⟩])
          (.ret)))))))))),
 [.tmp 4, .tmp 5], .pure, 71⟩

/-- agraffe/agrafferef07.LooseOn -/
def ef51 : EFun := ⟨
 .seq (.region false [⟨(some 4), .move (.const (.int .i64 0)), none, [], false, false⟩,
    ⟨(some 5), .move (.const (.int .i64 0)), none, [], false, false⟩])
 (.seq (.seq (.region false [⟨(some 10), .move (.tmp 0), none, [], false, false⟩,
      ⟨(some 11), .call 49 [(.tmp 10)], none, [], false, false⟩,
      ⟨(some 6), .move (.tmp 11), none, [], false, false⟩])
   (.seq (.region false [⟨(some 12), .move (.tmp 6), none, [], false, false⟩,
       ⟨(some 13), .bin .neq (.tmp 12) (.const (.int .i64 0)), none, [], false, false⟩])
    (.cond (.tmp 13) (.seq (.region false [⟨(some 14), .move (.tmp 6), none, [], false, false⟩,
         ⟨(some 4), .move (.const (.int .i64 0)), none, [], false, false⟩,
         ⟨(some 5), .move (.tmp 14), none, [], false, false⟩])
      (.ret))
     (.skip))))
  (.seq (.seq (.region false [⟨(some 15), .move (.tmp 1), none, [], false, false⟩,
       ⟨(some 16), .call 30 [(.tmp 15), (.const (.int .i64 0)), (.const (.int .i64 100000))], none, [], false, false⟩,
       ⟨(some 17), .un .not (.tmp 16), none, [], false, false⟩])
    (.cond (.tmp 17) (.seq (.region false [⟨(some 4), .move (.const (.int .i64 0)), none, [], false, false⟩,
         ⟨(some 5), .move (.const (.int .i64 2)), none, [], false, false⟩])
      (.ret))
     (.skip)))
   (.seq (.seq (.region false [⟨(some 18), .move (.tmp 0), none, [], false, false⟩,
        ⟨(some 19), .len false (.tmp 18), none, [], false, false⟩,
        ⟨(some 20), .bin .lss (.tmp 19) (.const (.int .i64 2)), none, [], false, false⟩])
     (.cond (.tmp 20) (.seq (.region false [⟨(some 4), .move (.const (.int .i64 0)), none, [], false, false⟩,
          ⟨(some 5), .move (.const (.int .i64 10)), none, [], false, false⟩])
       (.ret))
      (.skip)))
    (.seq (.region true [⟨(some 21), .move (.tmp 0), none, [], false, false⟩,
        ⟨(some 22), .indexAddr none 2 (.tmp 21) (.const (.int .i64 0)), none, [], false, false⟩,
        ⟨(some 23), .load true 2 (.tmp 22), none, [], false, false⟩,
        ⟨(some 24), .move (.tmp 0), none, [], false, false⟩,
        ⟨(some 25), .move (.tmp 0), none, [], false, false⟩,
        ⟨(some 26), .len false (.tmp 25), none, [], false, false⟩,
        ⟨(some 27), .bin .sub (.tmp 26) (.const (.int .i64 1)), none, [], false, false⟩,
        ⟨(some 28), .indexAddr none 2 (.tmp 24) (.tmp 27), none, [], false, false⟩,
        ⟨(some 29), .load true 2 (.tmp 28), none, [], true, false⟩,
        ⟨(some 7), .push [(.int .i64 0), (.int .i64 0)], none, [], false, false⟩,
        ⟨(some 8), .push [(.int .i64 0), (.int .i64 0)], none, [], false, false⟩,
        ⟨none, .store 2 (.tmp 7) (.tmp 23), none, [8], false, false⟩,
        ⟨none, .store 2 (.tmp 8) (.tmp 29), none, [], false, false⟩])
     (.seq (.seq (.region false [⟨(some 30), .fieldAddr 0 (.tmp 8), none, [], false, false⟩,
          ⟨(some 31), .load false 1 (.tmp 30), none, [], false, false⟩,
          ⟨(some 9), .move (.tmp 31), none, [], false, false⟩])
       (.block 0 (.loop (some [1, 7, 8, 9]) (
         .seq (.seq (.region false [⟨(some 32), .move (.tmp 9), none, [], false, false⟩,
              ⟨(some 33), .bin .leq (.tmp 32) (.const (.int .i64 100000)), none, [], false, false⟩])
           (.cond (.tmp 33) (.skip)
            (.exit 0)))
          (.seq (.block 1 (.seq (.region false [⟨(some 36), .fieldAddr 1 (.tmp 7), none, [], false, false⟩,
                ⟨(some 37), .load false 1 (.tmp 36), none, [], false, false⟩,
                ⟨(some 38), .fieldAddr 0 (.tmp 8), none, [], false, false⟩,
                ⟨(some 39), .load false 1 (.tmp 38), none, [], false, false⟩,
                ⟨(some 40), .fieldAddr 0 (.tmp 7), none, [], false, false⟩,
                ⟨(some 41), .load false 1 (.tmp 40), none, [], false, false⟩,
                ⟨(some 42), .bin .sub (.tmp 39) (.tmp 41), none, [], false, false⟩,
                ⟨(some 43), .bin .mul (.tmp 37) (.tmp 42), none, [], false, false⟩,
                ⟨(some 44), .fieldAddr 1 (.tmp 8), none, [], false, false⟩,
                ⟨(some 45), .load false 1 (.tmp 44), none, [], false, false⟩,
                ⟨(some 46), .fieldAddr 1 (.tmp 7), none, [], false, false⟩,
                ⟨(some 47), .load false 1 (.tmp 46), none, [], false, false⟩,
                ⟨(some 48), .bin .sub (.tmp 45) (.tmp 47), none, [], false, false⟩,
                ⟨(some 49), .move (.tmp 9), none, [], false, false⟩,
                ⟨(some 50), .fieldAddr 0 (.tmp 7), none, [], false, false⟩,
                ⟨(some 51), .load false 1 (.tmp 50), none, [], false, false⟩,
                ⟨(some 52), .bin .sub (.tmp 49) (.tmp 51), none, [], false, false⟩,
                ⟨(some 53), .bin .mul (.tmp 48) (.tmp 52), none, [], false, false⟩,
                ⟨(some 54), .bin .add (.tmp 43) (.tmp 53), none, [], false, false⟩,
                ⟨(some 55), .move (.tmp 1), none, [], false, false⟩,
                ⟨(some 56), .fieldAddr 0 (.tmp 8), none, [], false, false⟩,
                ⟨(some 57), .load false 1 (.tmp 56), none, [], false, false⟩,
                ⟨(some 58), .fieldAddr 0 (.tmp 7), none, [], false, false⟩,
                ⟨(some 59), .load false 1 (.tmp 58), none, [], false, false⟩,
                ⟨(some 60), .bin .sub (.tmp 57) (.tmp 59), none, [], false, false⟩,
                ⟨(some 61), .bin .mul (.tmp 55) (.tmp 60), none, [], false, false⟩,
                ⟨(some 62), .bin .leq (.tmp 54) (.tmp 61), none, [], false, false⟩])
             (.cond (.tmp 62) (.seq (.region false [⟨(some 63), .move (.tmp 9), none, [], false, false⟩,
                  ⟨(some 4), .move (.tmp 63), none, [], false, false⟩,
                  ⟨(some 5), .move (.const (.int .i64 0)), none, [], false, false⟩])
               (.ret))
              (.skip))))
           (.region false [⟨(some 34), .move (.tmp 9), none, [], false, false⟩,
              ⟨(some 35), .bin .add (.tmp 34) (.const (.int .i64 1)), none, [], false, false⟩,
              ⟨(some 9), .move (.tmp 35), none, [], false, false⟩]))))))
      (.seq (.region false [⟨(some 4), .move (.const (.int .i64 0)), none, [], false, false⟩,
          ⟨(some 5), .move (.const (.int .i64 12)), none, [], false, false⟩])
       (.ret))))))),
 [.tmp 4, .tmp 5], .pure, 64⟩

/-- agraffe/upkeep.Notes -/
def ef52 : EFun := ⟨
 .seq (.region false [⟨(some 2), .move (.const (.slice none 0 0)), none, [], false, false⟩,
    ⟨(some 3), .move (.const (.int .i64 0)), none, [], false, false⟩])
 (.seq (.seq (.region false [⟨(some 5), .move (.tmp 0), none, [], false, false⟩,
      ⟨(some 6), .call 59 [(.tmp 5)], none, [], false, false⟩,
      ⟨(some 4), .move (.tmp 6), none, [], false, false⟩])
   (.seq (.region false [⟨(some 7), .move (.tmp 4), none, [], false, false⟩,
       ⟨(some 8), .bin .neq (.tmp 7) (.const (.int .i64 0)), none, [], false, false⟩])
    (.cond (.tmp 8) (.seq (.region false [⟨(some 9), .move (.tmp 4), none, [], false, false⟩,
         ⟨(some 2), .move (.const (.slice none 0 0)), none, [], false, false⟩,
         ⟨(some 3), .move (.tmp 9), none, [], false, false⟩])
      (.ret))
     (.skip))))
  (.seq (.region false [⟨(some 10), .move (.tmp 0), none, [], false, false⟩,
      ⟨(some 11), .call 85 [(.tmp 10)], none, [], false, false⟩,
      ⟨(some 2), .move (.tmp 11), none, [], false, false⟩,
      ⟨(some 3), .move (.const (.int .i64 0)), none, [], false, false⟩])
   (.ret))),
 [.tmp 2, .tmp 3], .pure, 12⟩

/-- agraffe/upkeep.Signature -/
def ef53 : EFun := ⟨
 .seq (.region false [⟨(some 4), .move (.const (.slice none 0 0)), none, [], false, false⟩,
    ⟨(some 5), .move (.const (.int .i64 0)), none, [], false, false⟩])
 (.seq (.seq (.region false [⟨(some 8), .move (.tmp 0), none, [], false, false⟩,
      ⟨(some 9), .call 59 [(.tmp 8)], none, [], false, false⟩,
      ⟨(some 6), .move (.tmp 9), none, [], false, false⟩])
   (.seq (.region false [⟨(some 10), .move (.tmp 6), none, [], false, false⟩,
       ⟨(some 11), .bin .neq (.tmp 10) (.const (.int .i64 0)), none, [], false, false⟩])
    (.cond (.tmp 11) (.seq (.region false [⟨(some 12), .move (.tmp 6), none, [], false, false⟩,
         ⟨(some 4), .move (.const (.slice none 0 0)), none, [], false, false⟩,
         ⟨(some 5), .move (.tmp 12), none, [], false, false⟩])
      (.ret))
     (.skip))))
  (.seq (.seq (.region false [⟨(some 13), .move (.tmp 1), none, [], false, false⟩,
       ⟨(some 14), .call 78 [(.tmp 13)], none, [], false, false⟩,
       ⟨(some 15), .un .not (.tmp 14), none, [], false, false⟩])
    (.cond (.tmp 15) (.seq (.region false [⟨(some 4), .move (.const (.slice none 0 0)), none, [], false, false⟩,
         ⟨(some 5), .move (.const (.int .i64 2)), none, [], false, false⟩])
      (.ret))
     (.skip)))
   (.seq (.region false [⟨(some 16), .move (.tmp 0), none, [], false, false⟩,
       ⟨(some 17), .move (.tmp 1), none, [], false, false⟩,
       ⟨(some 18), .call 86 [(.tmp 16), (.tmp 17)], none, [], false, false⟩,
       ⟨(some 7), .move (.tmp 18), none, [], false, false⟩])
    (.seq (.seq (.region false [⟨(some 19), .move (.tmp 7), none, [], false, false⟩,
         ⟨(some 20), .len false (.tmp 19), none, [], false, false⟩,
         ⟨(some 21), .bin .eql (.tmp 20) (.const (.int .i64 0)), none, [], false, false⟩])
      (.cond (.tmp 21) (.seq (.region false [⟨(some 4), .move (.const (.slice none 0 0)), none, [], false, false⟩,
           ⟨(some 5), .move (.const (.int .i64 6)), none, [], false, false⟩])
        (.ret))
       (.skip)))
     (.seq (.region false [⟨(some 22), .move (.tmp 7), none, [], false, false⟩,
         ⟨(some 4), .move (.tmp 22), none, [], false, false⟩,
         ⟨(some 5), .move (.const (.int .i64 0)), none, [], false, false⟩])
      (.ret)))))),
 [.tmp 4, .tmp 5], .pure, 23⟩

/-- agraffe/upkeep.SinglesOut -/
def ef54 : EFun := ⟨
 .seq (.region false [⟨(some 2), .move (.const (.bool false)), none, [], false, false⟩,
    ⟨(some 3), .push [(.int .i64 0), (.int .i64 0)], none, [], false, false⟩,
    ⟨(some 4), .move (.const (.int .i64 0)), none, [], false, false⟩])
 (.seq (.seq (.region false [⟨(some 8), .move (.tmp 0), none, [], false, false⟩,
      ⟨(some 9), .call 59 [(.tmp 8)], none, [], false, false⟩,
      ⟨(some 5), .move (.tmp 9), none, [], false, false⟩])
   (.seq (.region false [⟨(some 10), .move (.tmp 5), none, [], false, false⟩,
       ⟨(some 11), .bin .neq (.tmp 10) (.const (.int .i64 0)), none, [], false, false⟩])
    (.cond (.tmp 11) (.seq (.region false [⟨(some 12), .build [(.int .i64 0), (.int .i64 0)] [], none, [], false, false⟩,
         ⟨(some 13), .move (.tmp 5), none, [], false, false⟩,
         ⟨(some 2), .move (.const (.bool false)), none, [], false, false⟩,
         ⟨none, .store 2 (.tmp 3) (.tmp 12), none, [], false, false⟩,
         ⟨(some 4), .move (.tmp 13), none, [], false, false⟩])
      (.ret))
     (.skip))))
  (.seq (.region false [⟨(some 15), .move (.tmp 0), none, [], false, false⟩,
      ⟨(some 16), .call 87 [(.tmp 15)], none, [], false, false⟩,
      ⟨(some 14), .move (.tmp 16), none, [], false, false⟩,
      ⟨(some 17), .extract (.tmp 14) 0, none, [], false, false⟩,
      ⟨(some 18), .extract (.tmp 14) 1, none, [], false, false⟩,
      ⟨(some 6), .push [(.int .i64 0), (.int .i64 0)], none, [], false, false⟩,
      ⟨none, .store 2 (.tmp 6) (.tmp 17), none, [], false, false⟩,
      ⟨(some 7), .move (.tmp 18), none, [], false, false⟩])
   (.seq (.region true [⟨(some 19), .move (.tmp 7), none, [], false, false⟩,
       ⟨(some 20), .un .not (.tmp 19), none, [], false, false⟩,
       ⟨(some 21), .load true 2 (.tmp 6), none, [], false, false⟩,
       ⟨(some 2), .move (.tmp 20), none, [], false, false⟩,
       ⟨none, .store 2 (.tmp 3) (.tmp 21), none, [], false, false⟩,
       ⟨(some 4), .move (.const (.int .i64 0)), none, [], false, false⟩])
    (.ret)))),
 [.tmp 2, .cell 3 true 2, .tmp 4], .pure, 22⟩

/-- agraffe/agrafferef07.CheckTests -/
def ef55 : EFun := ⟨
 .seq (.region false [⟨(some 2), .move (.const (.int .i64 0)), none, [], false, false⟩])
 (.seq (.seq (.region false [⟨(some 6), .move (.tmp 0), none, [], false, false⟩,
      ⟨(some 7), .len false (.tmp 6), none, [], false, false⟩,
      ⟨(some 8), .bin .gtr (.tmp 7) (.const (.int .i64 60)), none, [], false, false⟩])
   (.cond (.tmp 8) (.seq (.region false [⟨(some 2), .move (.const (.int .i64 8)), none, [], false, false⟩])
     (.ret))
    (.skip)))
  (.seq (.seq (.region false [⟨(some 3), .move (.const (.int .i64 0)), none, [], false, false⟩])
    (.block 0 (.loop (some [0, 3]) (
      .seq (.seq (.region false [⟨(some 9), .move (.tmp 3), none, [], false, false⟩,
           ⟨(some 10), .move (.tmp 0), none, [], false, false⟩,
           ⟨(some 11), .len false (.tmp 10), none, [], false, false⟩,
           ⟨(some 12), .bin .lss (.tmp 9) (.tmp 11), none, [], false, false⟩])
        (.cond (.tmp 12) (.skip)
         (.exit 0)))
       (.seq (.block 1 (.seq (.seq (.region false [⟨(some 15), .move (.tmp 0), none, [], false, false⟩,
              ⟨(some 16), .move (.tmp 3), none, [], false, false⟩,
              ⟨(some 17), .indexAddr none 4 (.tmp 15) (.tmp 16), none, [], false, false⟩,
              ⟨(some 18), .load true 4 (.tmp 17), none, [], false, false⟩,
              ⟨(some 19), .call 88 [(.tmp 18)], none, [], false, false⟩,
              ⟨(some 4), .move (.tmp 19), none, [], false, false⟩])
           (.seq (.region false [⟨(some 20), .move (.tmp 4), none, [], false, false⟩,
               ⟨(some 21), .bin .neq (.tmp 20) (.const (.int .i64 0)), none, [], false, false⟩])
            (.cond (.tmp 21) (.seq (.region false [⟨(some 22), .move (.tmp 4), none, [], false, false⟩,
                 ⟨(some 2), .move (.tmp 22), none, [], false, false⟩])
              (.ret))
             (.skip))))
          (.seq (.region false [⟨(some 5), .move (.const (.int .i64 0)), none, [], false, false⟩])
           (.block 2 (.loop (some [0, 3, 5]) (
             .seq (.seq (.region false [⟨(some 23), .move (.tmp 5), none, [], false, false⟩,
                  ⟨(some 24), .move (.tmp 3), none, [], false, false⟩,
                  ⟨(some 25), .bin .lss (.tmp 23) (.tmp 24), none, [], false, false⟩])
               (.cond (.tmp 25) (.skip)
                (.exit 2)))
              (.seq (.block 3 (.seq (.region true [⟨(some 28), .move (.tmp 0), none, [], false, false⟩,
                    ⟨(some 29), .move (.tmp 5), none, [], false, false⟩,
                    ⟨(some 30), .indexAddr none 4 (.tmp 28) (.tmp 29), none, [], false, false⟩,
                    ⟨(some 31), .load true 4 (.tmp 30), none, [], false, false⟩,
                    ⟨(some 32), .move (.tmp 0), none, [], false, false⟩,
                    ⟨(some 33), .move (.tmp 3), none, [], false, false⟩,
                    ⟨(some 34), .indexAddr none 4 (.tmp 32) (.tmp 33), none, [], false, false⟩,
                    ⟨(some 35), .load true 4 (.tmp 34), none, [], false, false⟩,
                    ⟨(some 36), .eqAgg false [(.int .i64), (.int .i64), (.int .i64), (.int .i64)] (.tmp 31) (.tmp 35), none, [], false, false⟩])
                 (.cond (.tmp 36) (.seq (.region false [⟨(some 2), .move (.const (.int .i64 5)), none, [], false, false⟩])
                   (.ret))
                  (.skip))))
               (.region false [⟨(some 26), .move (.tmp 5), none, [], false, false⟩,
                  ⟨(some 27), .bin .add (.tmp 26) (.const (.int .i64 1)), none, [], false, false⟩,
                  ⟨(some 5), .move (.tmp 27), none, [], false, false⟩]))))))))
        (.region false [⟨(some 13), .move (.tmp 3), none, [], false, false⟩,
           ⟨(some 14), .bin .add (.tmp 13) (.const (.int .i64 1)), none, [], false, false⟩,
           ⟨(some 3), .move (.tmp 14), none, [], false, false⟩]))))))
   (.seq (.region false [⟨(some 2), .move (.const (.int .i64 0)), none, [], false, false⟩])
    (.ret)))),
 [.tmp 2], .pure, 37⟩

/-- agraffe/agrafferef07.Notes -/
def ef56 : EFun := ⟨
 .seq (.region false [⟨(some 2), .move (.const (.slice none 0 0)), none, [], false, false⟩])
 (.seq (.region false [⟨(some 3), .move (.const (.slice none 0 0)), none, [], false, false⟩])
  (.seq (.seq (.region false [⟨(some 4), .move (.const (.int .i64 0)), none, [], false, false⟩])
    (.block 0 (.loop (some [0, 3, 4]) (
      .seq (.seq (.region false [⟨(some 5), .move (.tmp 4), none, [], false, false⟩,
           ⟨(some 6), .bin .leq (.tmp 5) (.const (.int .i64 87)), none, [], false, false⟩])
        (.cond (.tmp 6) (.skip)
         (.exit 0)))
       (.seq (.block 1 (.seq (.region false [⟨(some 9), .move (.tmp 0), none, [], false, false⟩,
             ⟨(some 10), .move (.tmp 4), none, [], false, false⟩,
             ⟨(some 11), .call 58 [(.tmp 9), (.tmp 10)], none, [], false, false⟩,
             ⟨(some 12), .len false (.tmp 11), none, [], false, false⟩,
             ⟨(some 13), .bin .gtr (.tmp 12) (.const (.int .i64 0)), none, [], false, false⟩])
          (.cond (.tmp 13) (.region false [⟨(some 14), .move (.tmp 3), none, [], false, false⟩,
              ⟨(some 15), .move (.tmp 4), none, [], false, false⟩,
              ⟨(some 16), .buildSlice 1 1 [(.int .i64 0)] [(0, 1, (.tmp 15))], none, [], false, false⟩,
              ⟨(some 17), .append 1 8 (.tmp 14) (.tmp 16), none, [], false, false⟩,
              ⟨(some 3), .move (.tmp 17), none, [], false, false⟩])
           (.skip))))
        (.region false [⟨(some 7), .move (.tmp 4), none, [], false, false⟩,
           ⟨(some 8), .bin .add (.tmp 7) (.const (.int .i64 1)), none, [], false, false⟩,
           ⟨(some 4), .move (.tmp 8), none, [], false, false⟩]))))))
   (.seq (.region false [⟨(some 18), .move (.tmp 3), none, [], false, false⟩,
       ⟨(some 2), .move (.tmp 18), none, [], false, false⟩])
    (.ret)))),
 [.tmp 2], .pure, 19⟩

/-- agraffe/agrafferef07.Twins -/
def ef57 : EFun := ⟨
 .seq (.region false [⟨(some 2), .push [(.int .i64 0), (.int .i64 0)], none, [], false, false⟩,
    ⟨(some 3), .move (.const (.bool false)), none, [], false, false⟩])
 (.seq (.region false [⟨(some 7), .move (.tmp 0), none, [], false, false⟩,
     ⟨(some 8), .call 56 [(.tmp 7)], none, [], false, false⟩,
     ⟨(some 4), .move (.tmp 8), none, [], false, false⟩])
  (.seq (.seq (.region false [⟨(some 5), .move (.const (.int .i64 0)), none, [], false, false⟩])
    (.block 0 (.loop (some [0, 2, 4, 5]) (
      .seq (.seq (.region false [⟨(some 9), .move (.tmp 5), none, [], false, false⟩,
           ⟨(some 10), .move (.tmp 4), none, [], false, false⟩,
           ⟨(some 11), .len false (.tmp 10), none, [], false, false⟩,
           ⟨(some 12), .bin .lss (.tmp 9) (.tmp 11), none, [], false, false⟩])
        (.cond (.tmp 12) (.skip)
         (.exit 0)))
       (.seq (.block 1 (.seq (.region false [⟨(some 15), .move (.tmp 5), none, [], false, false⟩,
             ⟨(some 16), .bin .add (.tmp 15) (.const (.int .i64 1)), none, [], false, false⟩,
             ⟨(some 6), .move (.tmp 16), none, [], false, false⟩])
          (.block 2 (.loop (some [0, 2, 4, 5, 6]) (
            .seq (.seq (.region false [⟨(some 17), .move (.tmp 6), none, [], false, false⟩,
                 ⟨(some 18), .move (.tmp 4), none, [], false, false⟩,
                 ⟨(some 19), .len false (.tmp 18), none, [], false, false⟩,
                 ⟨(some 20), .bin .lss (.tmp 17) (.tmp 19), none, [], false, false⟩])
              (.cond (.tmp 20) (.skip)
               (.exit 2)))
             (.seq (.block 3 (.seq (.region true [⟨(some 23), .move (.tmp 0), none, [], false, false⟩,
                   ⟨(some 24), .move (.tmp 4), none, [], false, false⟩,
                   ⟨(some 25), .move (.tmp 5), none, [], false, false⟩,
                   ⟨(some 26), .indexAddr none 1 (.tmp 24) (.tmp 25), none, [], false, false⟩,
                   ⟨(some 27), .load false 1 (.tmp 26), none, [], false, false⟩,
                   ⟨(some 28), .call 58 [(.tmp 23), (.tmp 27)], none, [], false, true⟩,
                   ⟨(some 29), .move (.tmp 0), none, [], false, false⟩,
                   ⟨(some 30), .move (.tmp 4), none, [], false, false⟩,
                   ⟨(some 31), .move (.tmp 6), none, [], false, false⟩,
                   ⟨(some 32), .indexAddr none 1 (.tmp 30) (.tmp 31), none, [], false, false⟩,
                   ⟨(some 33), .load false 1 (.tmp 32), none, [], false, false⟩,
                   ⟨(some 34), .call 58 [(.tmp 29), (.tmp 33)], none, [], false, false⟩,
                   ⟨(some 35), .call 47 [(.tmp 28), (.tmp 34)], none, [], false, false⟩])
                (.cond (.tmp 35) (.seq (.region true [⟨(some 36), .move (.tmp 4), none, [], false, false⟩,
                     ⟨(some 37), .move (.tmp 5), none, [], false, false⟩,
                     ⟨(some 38), .indexAddr none 1 (.tmp 36) (.tmp 37), none, [], false, false⟩,
                     ⟨(some 39), .load false 1 (.tmp 38), none, [], false, false⟩,
                     ⟨(some 40), .move (.tmp 4), none, [], false, false⟩,
                     ⟨(some 41), .move (.tmp 6), none, [], false, false⟩,
                     ⟨(some 42), .indexAddr none 1 (.tmp 40) (.tmp 41), none, [], false, false⟩,
                     ⟨(some 43), .load false 1 (.tmp 42), none, [], false, false⟩,
                     ⟨(some 44), .build [(.int .i64 0), (.int .i64 0)] [(0, 1, (.tmp 39)), (1, 1, (.tmp 43))], none, [], false, false⟩,
                     ⟨none, .store 2 (.tmp 2) (.tmp 44), none, [], false, false⟩,
                     ⟨(some 3), .move (.const (.bool true)), none, [], false, false⟩])
                  (.ret))
                 (.skip))))
              (.region false [⟨(some 21), .move (.tmp 6), none, [], false, false⟩,
                 ⟨(some 22), .bin .add (.tmp 21) (.const (.int .i64 1)), none, [], false, false⟩,
                 ⟨(some 6), .move (.tmp 22), none, [], false, false⟩])))))))
        (.region false [⟨(some 13), .move (.tmp 5), none, [], false, false⟩,
           ⟨(some 14), .bin .add (.tmp 13) (.const (.int .i64 1)), none, [], false, false⟩,
           ⟨(some 5), .move (.tmp 14), none, [], false, false⟩]))))))
   (.seq (.region false [⟨(some 45), .build [(.int .i64 0), (.int .i64 0)] [], none, [], false, false⟩,
       ⟨none, .store 2 (.tmp 2) (.tmp 45), none, [], false, false⟩,
       ⟨(some 3), .move (.const (.bool false)), none, [], false, false⟩])
    (.ret)))),
 [.cell 2 true 2, .tmp 3], .pure, 46⟩

/-- agraffe/agrafferef07.Signature -/
def ef58 : EFun := ⟨
 .seq (.region false [⟨(some 4), .move (.const (.slice none 0 0)), none, [], false, false⟩])
 (.seq (.region false [⟨(some 5), .move (.const (.slice none 0 0)), none, [], false, false⟩])
  (.seq (.seq (.region false [⟨(some 6), .move (.const (.int .i64 0)), none, [], false, false⟩])
    (.block 0 (.loop (some [0, 1, 5, 6]) (
      .seq (.seq (.region false [⟨(some 7), .move (.tmp 6), none, [], false, false⟩,
           ⟨(some 8), .move (.tmp 0), none, [], false, false⟩,
           ⟨(some 9), .len false (.tmp 8), none, [], false, false⟩,
           ⟨(some 10), .bin .lss (.tmp 7) (.tmp 9), none, [], false, false⟩])
        (.cond (.tmp 10) (.skip)
         (.exit 0)))
       (.seq (.block 1 (.seq (.region false [⟨(some 13), .move (.tmp 0), none, [], false, false⟩,
             ⟨(some 14), .move (.tmp 6), none, [], false, false⟩,
             ⟨(some 15), .indexAddr none 4 (.tmp 13) (.tmp 14), none, [], false, false⟩,
             ⟨(some 16), .fieldAddr 0 (.tmp 15), none, [], false, false⟩,
             ⟨(some 17), .load false 1 (.tmp 16), none, [], false, false⟩,
             ⟨(some 18), .move (.tmp 1), none, [], false, false⟩,
             ⟨(some 19), .bin .eql (.tmp 17) (.tmp 18), none, [], false, false⟩,
             ⟨(some 20), .move (.tmp 19), none, [], false, false⟩,
             ⟨(some 21), .move (.tmp 0), (some (20, false)), [], false, false⟩,
             ⟨(some 22), .move (.tmp 6), (some (20, false)), [], false, false⟩,
             ⟨(some 23), .indexAddr none 4 (.tmp 21) (.tmp 22), (some (20, false)), [], false, false⟩,
             ⟨(some 24), .fieldAddr 1 (.tmp 23), (some (20, false)), [], false, false⟩,
             ⟨(some 25), .load false 1 (.tmp 24), (some (20, false)), [], false, false⟩,
             ⟨(some 26), .move (.tmp 1), (some (20, false)), [], false, false⟩,
             ⟨(some 27), .bin .eql (.tmp 25) (.tmp 26), (some (20, false)), [], false, false⟩,
             ⟨(some 28), .pick (.tmp 20) (.const (.bool true)) (.tmp 27), none, [], false, false⟩])
          (.cond (.tmp 28) (.region false [⟨(some 29), .move (.tmp 5), none, [], false, false⟩,
              ⟨(some 30), .move (.tmp 6), none, [], false, false⟩,
              ⟨(some 31), .buildSlice 1 1 [(.int .i64 0)] [(0, 1, (.tmp 30))], none, [], false, false⟩,
              ⟨(some 32), .append 1 8 (.tmp 29) (.tmp 31), none, [], false, false⟩,
              ⟨(some 5), .move (.tmp 32), none, [], false, false⟩])
           (.skip))))
        (.region false [⟨(some 11), .move (.tmp 6), none, [], false, false⟩,
           ⟨(some 12), .bin .add (.tmp 11) (.const (.int .i64 1)), none, [], false, false⟩,
           ⟨(some 6), .move (.tmp 12), none, [], false, false⟩]))))))
   (.seq (.region false [⟨(some 33), .move (.tmp 5), none, [], false, false⟩,
       ⟨(some 4), .move (.tmp 33), none, [], false, false⟩])
    (.ret)))),
 [.tmp 4], .pure, 34⟩

/-- agraffe/upkeep.CheckTests -/
def ef59 : EFun := ⟨
 .seq (.region false [⟨(some 2), .move (.const (.int .i64 0)), none, [], false, false⟩])
 (.seq (.seq (.region false [⟨(some 6), .move (.tmp 0), none, [], false, false⟩,
      ⟨(some 7), .len false (.tmp 6), none, [], false, false⟩,
      ⟨(some 8), .bin .gtr (.tmp 7) (.const (.int .i64 60)), none, [], false, false⟩])
   (.cond (.tmp 8) (.seq (.region false [⟨(some 2), .move (.const (.int .i64 8)), none, [], false, false⟩])
     (.ret))
    (.skip)))
  (.seq (.seq (.region false [⟨(some 9), .move (.tmp 0), none, [], false, false⟩,
       ⟨(some 10), .len false (.tmp 9), none, [], false, false⟩,
       ⟨(some 11), .move (.const (.int .i64 0)), none, [], false, false⟩])
    (.block 0 (.loop (some [0, 9, 10, 11]) (
      .seq (.region false [⟨(some 12), .bin .lss (.tmp 11) (.tmp 10), none, [], false, false⟩])
       (.seq (.cond (.tmp 12) (.skip)
         (.exit 0))
        (.seq (.block 1 (.seq (.region false [⟨(some 13), .move (.tmp 11), none, [], false, false⟩,
              ⟨(some 14), .indexAddr none 4 (.tmp 9) (.tmp 11), none, [], false, false⟩,
              ⟨(some 15), .load true 4 (.tmp 14), none, [], false, false⟩,
              ⟨(some 4), .push [(.int .i64 0), (.int .i64 0), (.int .i64 0), (.int .i64 0)], none, [], false, false⟩,
              ⟨(some 3), .move (.tmp 13), none, [], false, false⟩,
              ⟨none, .store 4 (.tmp 4) (.tmp 15), none, [], false, false⟩])
           (.seq (.seq (.region false [⟨(some 16), .load true 4 (.tmp 4), none, [], false, false⟩,
                ⟨(some 17), .call 89 [(.tmp 16)], none, [], false, false⟩,
                ⟨(some 5), .move (.tmp 17), none, [], false, false⟩])
             (.seq (.region false [⟨(some 18), .move (.tmp 5), none, [], false, false⟩,
                 ⟨(some 19), .bin .neq (.tmp 18) (.const (.int .i64 0)), none, [], false, false⟩])
              (.cond (.tmp 19) (.seq (.region false [⟨(some 20), .move (.tmp 5), none, [], false, false⟩,
                   ⟨(some 2), .move (.tmp 20), none, [], false, false⟩])
                (.ret))
               (.skip))))
            (.seq (.region true [⟨(some 21), .move (.tmp 0), none, [], false, false⟩,
                ⟨(some 22), .move (.tmp 3), none, [], false, false⟩,
                ⟨(some 23), .slice 4 (.tmp 21) none (some (.tmp 22)), none, [], false, false⟩,
                ⟨(some 24), .load true 4 (.tmp 4), none, [], false, false⟩,
                ⟨(some 25), .call 90 [(.tmp 23), (.tmp 24)], none, [], false, false⟩])
             (.cond (.tmp 25) (.seq (.region false [⟨(some 2), .move (.const (.int .i64 5)), none, [], false, false⟩])
               (.ret))
              (.skip))))))
         (.region false [⟨(some 26), .bin .add (.tmp 11) (.const (.int .i64 1)), none, [], false, false⟩,
            ⟨(some 11), .move (.tmp 26), none, [], false, false⟩])))))))
   (.seq (.region false [⟨(some 2), .move (.const (.int .i64 0)), none, [], false, false⟩])
    (.ret)))),
 [.tmp 2], .pure, 27⟩

/-- agraffe/upkeep.Suspects -/
def ef60 : EFun := ⟨
 .seq (.region false [⟨(some 4), .move (.const (.slice none 0 0)), none, [], false, false⟩,
    ⟨(some 5), .move (.const (.int .i64 0)), none, [], false, false⟩])
 (.seq (.seq (.region false [⟨(some 10), .move (.tmp 0), none, [], false, false⟩,
      ⟨(some 11), .move (.tmp 1), none, [], false, false⟩,
      ⟨(some 12), .call 91 [(.tmp 10), (.tmp 11)], none, [], false, false⟩,
      ⟨(some 6), .move (.tmp 12), none, [], false, false⟩])
   (.seq (.region false [⟨(some 13), .move (.tmp 6), none, [], false, false⟩,
       ⟨(some 14), .bin .neq (.tmp 13) (.const (.int .i64 0)), none, [], false, false⟩])
    (.cond (.tmp 14) (.seq (.region false [⟨(some 15), .move (.tmp 6), none, [], false, false⟩,
         ⟨(some 4), .move (.const (.slice none 0 0)), none, [], false, false⟩,
         ⟨(some 5), .move (.tmp 15), none, [], false, false⟩])
      (.ret))
     (.skip))))
  (.seq (.region false [⟨(some 7), .move (.const (.slice none 0 0)), none, [], false, false⟩])
   (.seq (.seq (.region false [⟨(some 16), .move (.tmp 0), none, [], false, false⟩,
        ⟨(some 17), .call 85 [(.tmp 16)], none, [], false, false⟩,
        ⟨(some 18), .len false (.tmp 17), none, [], false, false⟩,
        ⟨(some 19), .move (.const (.int .i64 0)), none, [], false, false⟩])
     (.block 0 (.loop (some [0, 1, 7, 17, 18, 19]) (
       .seq (.region false [⟨(some 20), .bin .lss (.tmp 19) (.tmp 18), none, [], false, false⟩])
        (.seq (.cond (.tmp 20) (.skip)
          (.exit 0))
         (.seq (.block 1 (.seq (.region false [⟨(some 21), .indexAddr none 1 (.tmp 17) (.tmp 19), none, [], false, false⟩,
               ⟨(some 22), .load false 1 (.tmp 21), none, [], false, false⟩,
               ⟨(some 9), .move (.tmp 22), none, [], false, false⟩])
            (.seq (.region false [⟨(some 23), .move (.tmp 0), none, [], false, false⟩,
                ⟨(some 24), .move (.tmp 1), none, [], false, false⟩,
                ⟨(some 25), .move (.tmp 9), none, [], false, false⟩,
                ⟨(some 26), .buildSlice 1 1 [(.int .i64 0)] [(0, 1, (.tmp 25))], none, [], false, false⟩,
                ⟨(some 27), .call 92 [(.tmp 23), (.tmp 24), (.tmp 26)], none, [], false, false⟩,
                ⟨(some 28), .bin .eql (.tmp 27) (.const (.int .i64 0)), none, [], false, false⟩])
             (.cond (.tmp 28) (.region false [⟨(some 29), .move (.tmp 7), none, [], false, false⟩,
                 ⟨(some 30), .move (.tmp 9), none, [], false, false⟩,
                 ⟨(some 31), .buildSlice 1 1 [(.int .i64 0)] [(0, 1, (.tmp 30))], none, [], false, false⟩,
                 ⟨(some 32), .append 1 8 (.tmp 29) (.tmp 31), none, [], false, false⟩,
                 ⟨(some 7), .move (.tmp 32), none, [], false, false⟩])
              (.skip)))))
          (.region false [⟨(some 33), .bin .add (.tmp 19) (.const (.int .i64 1)), none, [], false, false⟩,
             ⟨(some 19), .move (.tmp 33), none, [], false, false⟩])))))))
    (.seq (.region false [⟨(some 34), .move (.tmp 7), none, [], false, false⟩,
        ⟨(some 4), .move (.tmp 34), none, [], false, false⟩,
        ⟨(some 5), .move (.const (.int .i64 0)), none, [], false, false⟩])
     (.ret))))),
 [.tmp 4, .tmp 5], .pure, 35⟩

end Go.Abs.U
