/- The functions, compiled for the abstract evaluator. Written by wip/abs/Print.lean. -/
import Derived.Test.YtinbdefjjfmfoaaDoorAbsT0
set_option linter.unusedSimpArgs false
set_option linter.unusedVariables false
set_option maxRecDepth 100000
set_option maxHeartbeats 0
namespace Go.Abs.T
open Go Go.Abs
/-- agraffe/agraffelaw06.TemperTests -/
def ef6 : EFun := ⟨
 .seq (.region false [⟨(some 2), .box (.tmp 0), none, [], false, false⟩,
    ⟨(some 3), .box (.tmp 1), none, [], false, false⟩,
    ⟨(some 4), .move (.const (.bool false)), none, [], false, false⟩])
 (.seq (.seq (.region false [⟨(some 13), .call 19 [], none, [], false, false⟩,
      ⟨(some 14), .un .not (.tmp 13), none, [], false, false⟩])
   (.cond (.tmp 14) (.seq (.region false [⟨(some 4), .move (.const (.bool false)), none, [], false, false⟩])
     (.ret))
    (.skip)))
  (.seq (.seq (.region true [⟨(some 15), .load true 4 (.tmp 2), none, [], false, false⟩,
       ⟨(some 16), .call 35 [(.tmp 15)], none, [], false, true⟩,
       ⟨(some 17), .load true 4 (.tmp 2), none, [], false, false⟩,
       ⟨(some 18), .call 36 [(.tmp 17)], none, [], false, false⟩,
       ⟨(some 19), .bin .neq (.tmp 16) (.tmp 18), none, [], false, false⟩])
    (.cond (.tmp 19) (.seq (.region false [⟨(some 4), .move (.const (.bool false)), none, [], false, false⟩])
      (.ret))
     (.skip)))
   (.seq (.region false [⟨(some 21), .fieldAddr 0 (.tmp 3), none, [], false, false⟩,
       ⟨(some 22), .load false 1 (.tmp 21), none, [], false, false⟩,
       ⟨(some 23), .call 37 [(.tmp 22)], none, [], false, false⟩,
       ⟨(some 20), .move (.tmp 23), none, [], false, false⟩,
       ⟨(some 24), .extract (.tmp 20) 0, none, [], false, false⟩,
       ⟨(some 25), .extract (.tmp 20) 1, none, [], false, false⟩,
       ⟨(some 26), .extract (.tmp 20) 2, none, [], false, false⟩,
       ⟨(some 5), .move (.tmp 24), none, [], false, false⟩,
       ⟨(some 6), .move (.tmp 25), none, [], false, false⟩,
       ⟨(some 7), .move (.tmp 26), none, [], false, false⟩])
    (.seq (.region false [⟨(some 28), .fieldAddr 0 (.tmp 3), none, [], false, false⟩,
        ⟨(some 29), .load false 1 (.tmp 28), none, [], false, false⟩,
        ⟨(some 30), .fieldAddr 1 (.tmp 3), none, [], false, false⟩,
        ⟨(some 31), .load false 1 (.tmp 30), none, [], false, false⟩,
        ⟨(some 32), .fieldAddr 2 (.tmp 3), none, [], false, false⟩,
        ⟨(some 33), .load false 1 (.tmp 32), none, [], false, false⟩,
        ⟨(some 34), .call 38 [(.tmp 29), (.tmp 31), (.tmp 33)], none, [], false, false⟩,
        ⟨(some 27), .move (.tmp 34), none, [], false, false⟩,
        ⟨(some 35), .extract (.tmp 27) 0, none, [], false, false⟩,
        ⟨(some 36), .extract (.tmp 27) 1, none, [], false, false⟩,
        ⟨(some 8), .move (.tmp 35), none, [], false, false⟩,
        ⟨(some 9), .move (.tmp 36), none, [], false, false⟩])
     (.seq (.region false [⟨(some 38), .fieldAddr 0 (.tmp 3), none, [], false, false⟩,
         ⟨(some 39), .load false 1 (.tmp 38), none, [], false, false⟩,
         ⟨(some 40), .call 39 [(.tmp 39)], none, [], false, false⟩,
         ⟨(some 37), .move (.tmp 40), none, [], false, false⟩,
         ⟨(some 41), .extract (.tmp 37) 0, none, [], false, false⟩,
         ⟨(some 42), .extract (.tmp 37) 1, none, [], false, false⟩,
         ⟨(some 10), .move (.tmp 41), none, [], false, false⟩,
         ⟨(some 11), .move (.tmp 42), none, [], false, false⟩])
      (.seq (.seq (.region false [⟨(some 43), .move (.tmp 5), none, [], false, false⟩,
           ⟨(some 44), .move (.tmp 10), none, [], false, false⟩,
           ⟨(some 45), .bin .neq (.tmp 43) (.tmp 44), none, [], false, false⟩,
           ⟨(some 46), .move (.tmp 45), none, [], false, false⟩,
           ⟨(some 47), .move (.tmp 6), (some (46, false)), [], false, false⟩,
           ⟨(some 48), .move (.tmp 11), (some (46, false)), [], false, false⟩,
           ⟨(some 49), .bin .neq (.tmp 47) (.tmp 48), (some (46, false)), [], false, false⟩,
           ⟨(some 50), .pick (.tmp 46) (.const (.bool true)) (.tmp 49), none, [], false, false⟩])
        (.cond (.tmp 50) (.seq (.region false [⟨(some 4), .move (.const (.bool false)), none, [], false, false⟩])
          (.ret))
         (.skip)))
       (.seq (.seq (.region false [⟨(some 51), .move (.tmp 10), none, [], false, false⟩,
            ⟨(some 52), .bin .eql (.tmp 51) (.const (.int .i64 0)), none, [], false, false⟩])
         (.cond (.tmp 52) (.seq (.region false [⟨(some 53), .move (.tmp 7), none, [], false, false⟩,
              ⟨(some 54), .bin .eql (.tmp 53) (.const (.int .i64 12)), none, [], false, false⟩,
              ⟨(some 55), .move (.tmp 54), none, [], false, false⟩,
              ⟨(some 56), .move (.tmp 9), (some (55, true)), [], false, false⟩,
              ⟨(some 57), .bin .eql (.tmp 56) (.const (.int .i64 12)), (some (55, true)), [], false, false⟩,
              ⟨(some 58), .pick (.tmp 55) (.tmp 57) (.const (.bool false)), none, [], false, false⟩,
              ⟨(some 59), .move (.tmp 58), none, [], false, false⟩,
              ⟨(some 60), .move (.tmp 8), (some (59, true)), [], false, false⟩,
              ⟨(some 61), .len false (.tmp 60), (some (59, true)), [], false, false⟩,
              ⟨(some 62), .bin .eql (.tmp 61) (.const (.int .i64 0)), (some (59, true)), [], false, false⟩,
              ⟨(some 63), .pick (.tmp 59) (.tmp 62) (.const (.bool false)), none, [], false, false⟩,
              ⟨(some 4), .move (.tmp 63), none, [], false, false⟩])
           (.ret))
          (.skip)))
        (.seq (.seq (.region false [⟨(some 64), .move (.tmp 7), none, [], false, false⟩,
             ⟨(some 65), .bin .neq (.tmp 64) (.const (.int .i64 0)), none, [], false, false⟩])
          (.cond (.tmp 65) (.seq (.region false [⟨(some 4), .move (.const (.bool false)), none, [], false, false⟩])
            (.ret))
           (.skip)))
         (.seq (.seq (.region false [⟨(some 66), .fieldAddr 1 (.tmp 3), none, [], false, false⟩,
              ⟨(some 67), .load false 1 (.tmp 66), none, [], false, false⟩,
              ⟨(some 68), .call 24 [(.tmp 67)], none, [], false, false⟩,
              ⟨(some 69), .un .not (.tmp 68), none, [], false, false⟩,
              ⟨(some 70), .move (.tmp 69), none, [], false, false⟩,
              ⟨(some 71), .fieldAddr 2 (.tmp 3), (some (70, false)), [], false, false⟩,
              ⟨(some 72), .load false 1 (.tmp 71), (some (70, false)), [], false, false⟩,
              ⟨(some 73), .call 24 [(.tmp 72)], (some (70, false)), [], false, false⟩,
              ⟨(some 74), .un .not (.tmp 73), (some (70, false)), [], false, false⟩,
              ⟨(some 75), .pick (.tmp 70) (.const (.bool true)) (.tmp 74), none, [], false, false⟩])
           (.cond (.tmp 75) (.seq (.region false [⟨(some 76), .move (.tmp 9), none, [], false, false⟩,
                ⟨(some 77), .bin .eql (.tmp 76) (.const (.int .i64 2)), none, [], false, false⟩,
                ⟨(some 78), .move (.tmp 77), none, [], false, false⟩,
                ⟨(some 79), .move (.tmp 8), (some (78, true)), [], false, false⟩,
                ⟨(some 80), .len false (.tmp 79), (some (78, true)), [], false, false⟩,
                ⟨(some 81), .bin .eql (.tmp 80) (.const (.int .i64 0)), (some (78, true)), [], false, false⟩,
                ⟨(some 82), .pick (.tmp 78) (.tmp 81) (.const (.bool false)), none, [], false, false⟩,
                ⟨(some 4), .move (.tmp 82), none, [], false, false⟩])
             (.ret))
            (.skip)))
          (.seq (.seq (.region false [⟨(some 83), .fieldAddr 2 (.tmp 3), none, [], false, false⟩,
               ⟨(some 84), .load false 1 (.tmp 83), none, [], false, false⟩,
               ⟨(some 85), .fieldAddr 1 (.tmp 3), none, [], false, false⟩,
               ⟨(some 86), .load false 1 (.tmp 85), none, [], false, false⟩,
               ⟨(some 87), .bin .lss (.tmp 84) (.tmp 86), none, [], false, false⟩])
            (.cond (.tmp 87) (.seq (.region false [⟨(some 88), .move (.tmp 9), none, [], false, false⟩,
                 ⟨(some 89), .bin .eql (.tmp 88) (.const (.int .i64 9)), none, [], false, false⟩,
                 ⟨(some 90), .move (.tmp 89), none, [], false, false⟩,
                 ⟨(some 91), .move (.tmp 8), (some (90, true)), [], false, false⟩,
                 ⟨(some 92), .len false (.tmp 91), (some (90, true)), [], false, false⟩,
                 ⟨(some 93), .bin .eql (.tmp 92) (.const (.int .i64 0)), (some (90, true)), [], false, false⟩,
                 ⟨(some 94), .pick (.tmp 90) (.tmp 93) (.const (.bool false)), none, [], false, false⟩,
                 ⟨(some 4), .move (.tmp 94), none, [], false, false⟩])
              (.ret))
             (.skip)))
           (.seq (.seq (.region false [⟨(some 12), .move (.const (.int .i64 0)), none, [], false, false⟩])
             (.block 0 (.loop (some [3, 8, 9, 12]) (
               .seq (.seq (.region false [⟨(some 95), .move (.tmp 12), none, [], false, false⟩,
                    ⟨(some 96), .move (.tmp 8), none, [], false, false⟩,
                    ⟨(some 97), .len false (.tmp 96), none, [], false, false⟩,
                    ⟨(some 98), .bin .lss (.tmp 95) (.tmp 97), none, [], false, false⟩])
                 (.cond (.tmp 98) (.skip)
                  (.exit 0)))
                (.seq (.block 1 (.seq (.region false [⟨(some 101), .move (.tmp 8), none, [], false, false⟩,
                      ⟨(some 102), .move (.tmp 12), none, [], false, false⟩,
                      ⟨(some 103), .indexAddr none 4 (.tmp 101) (.tmp 102), none, [], false, false⟩,
                      ⟨(some 104), .load true 4 (.tmp 103), none, [], false, false⟩,
                      ⟨(some 105), .call 35 [(.tmp 104)], none, [], false, false⟩,
                      ⟨(some 106), .bin .neq (.tmp 105) (.const (.int .i64 0)), none, [], false, false⟩])
                   (.cond (.tmp 106) (.seq (.region false [⟨(some 4), .move (.const (.bool false)), none, [], false, false⟩])
                     (.ret))
                    (.skip))))
                 (.region false [⟨(some 99), .move (.tmp 12), none, [], false, false⟩,
                    ⟨(some 100), .bin .add (.tmp 99) (.const (.int .i64 1)), none, [], false, false⟩,
                    ⟨(some 12), .move (.tmp 100), none, [], false, false⟩]))))))
            (.seq (.region false [⟨(some 107), .move (.tmp 9), none, [], false, false⟩,
                ⟨(some 108), .bin .eql (.tmp 107) (.const (.int .i64 0)), none, [], false, false⟩,
                ⟨(some 109), .move (.tmp 108), none, [], false, false⟩,
                ⟨(some 110), .move (.tmp 8), (some (109, true)), [], false, false⟩,
                ⟨(some 111), .fieldAddr 0 (.tmp 3), (some (109, true)), [], false, false⟩,
                ⟨(some 112), .load false 1 (.tmp 111), (some (109, true)), [], false, false⟩,
                ⟨(some 113), .fieldAddr 1 (.tmp 3), (some (109, true)), [], false, false⟩,
                ⟨(some 114), .load false 1 (.tmp 113), (some (109, true)), [], false, false⟩,
                ⟨(some 115), .fieldAddr 2 (.tmp 3), (some (109, true)), [], false, false⟩,
                ⟨(some 116), .load false 1 (.tmp 115), (some (109, true)), [], false, false⟩,
                ⟨(some 117), .call 41 [(.tmp 112), (.tmp 114), (.tmp 116)], (some (109, true)), [], false, false⟩,
                ⟨(some 118), .call 40 [(.tmp 110), (.tmp 117)], (some (109, true)), [], false, false⟩,
                ⟨(some 119), .pick (.tmp 109) (.tmp 118) (.const (.bool false)), none, [], false, false⟩,
                ⟨(some 4), .move (.tmp 119), none, [], false, false⟩])
             (.ret))))))))))))),
 [.tmp 4], .pure, 120⟩

/-- agraffe/agraffelaw06.TemperAccepts -/
def ef13 : EFun := ⟨
 .seq (.region false [⟨(some 6), .move (.const (.bool false)), none, [], false, false⟩])
 (.seq (.seq (.region false [⟨(some 7), .call 19 [], none, [], false, false⟩,
      ⟨(some 8), .un .not (.tmp 7), none, [], false, false⟩])
   (.cond (.tmp 8) (.seq (.region false [⟨(some 6), .move (.const (.bool false)), none, [], false, false⟩])
     (.ret))
    (.skip)))
  (.seq (.seq (.region false [⟨(some 9), .move (.tmp 0), none, [], false, false⟩,
       ⟨(some 10), .call 62 [(.tmp 9)], none, [], false, false⟩,
       ⟨(some 11), .un .not (.tmp 10), none, [], false, false⟩])
    (.cond (.tmp 11) (.seq (.region false [⟨(some 6), .move (.const (.bool true)), none, [], false, false⟩])
      (.ret))
     (.skip)))
   (.seq (.region false [⟨(some 12), .buildSlice 2 0 [] [], none, [], false, false⟩,
       ⟨(some 13), .move (.tmp 0), none, [], false, false⟩,
       ⟨(some 14), .append 2 16 (.tmp 12) (.tmp 13), none, [], false, false⟩,
       ⟨(some 15), .move (.tmp 1), none, [], false, false⟩,
       ⟨(some 16), .move (.tmp 2), none, [], false, false⟩,
       ⟨(some 17), .call 63 [(.tmp 14), (.tmp 15), (.tmp 16)], none, [], false, false⟩,
       ⟨(some 18), .move (.tmp 0), none, [], false, false⟩,
       ⟨(some 19), .move (.tmp 1), none, [], false, false⟩,
       ⟨(some 20), .move (.tmp 2), none, [], false, false⟩,
       ⟨(some 21), .call 64 [(.tmp 18), (.tmp 19), (.tmp 20)], none, [], false, false⟩,
       ⟨(some 22), .bin .eql (.tmp 17) (.tmp 21), none, [], false, false⟩,
       ⟨(some 6), .move (.tmp 22), none, [], false, false⟩])
    (.ret)))),
 [.tmp 6], .pure, 23⟩

/-- agraffe/agraffelaw06.TemperOrders -/
def ef14 : EFun := ⟨
 .seq (.region false [⟨(some 4), .move (.const (.bool false)), none, [], false, false⟩])
 (.seq (.seq (.region false [⟨(some 7), .call 19 [], none, [], false, false⟩,
      ⟨(some 8), .un .not (.tmp 7), none, [], false, false⟩,
      ⟨(some 9), .move (.tmp 8), none, [], false, false⟩,
      ⟨(some 10), .call 66 [], (some (9, false)), [], false, false⟩,
      ⟨(some 11), .call 67 [], (some (9, false)), [], false, false⟩,
      ⟨(some 12), .call 65 [(.tmp 10), (.tmp 11)], (some (9, false)), [], false, false⟩,
      ⟨(some 13), .un .not (.tmp 12), (some (9, false)), [], false, false⟩,
      ⟨(some 14), .pick (.tmp 9) (.const (.bool true)) (.tmp 13), none, [], false, false⟩])
   (.cond (.tmp 14) (.seq (.region false [⟨(some 4), .move (.const (.bool false)), none, [], false, false⟩])
     (.ret))
    (.skip)))
  (.seq (.region false [⟨(some 16), .move (.tmp 0), none, [], false, false⟩,
      ⟨(some 17), .move (.tmp 1), none, [], false, false⟩,
      ⟨(some 18), .call 68 [(.tmp 16), (.tmp 17)], none, [], false, false⟩,
      ⟨(some 15), .move (.tmp 18), none, [], false, false⟩,
      ⟨(some 19), .extract (.tmp 15) 0, none, [], false, false⟩,
      ⟨(some 20), .extract (.tmp 15) 1, none, [], false, false⟩,
      ⟨(some 5), .move (.tmp 19), none, [], false, false⟩,
      ⟨(some 6), .move (.tmp 20), none, [], false, false⟩])
   (.seq (.seq (.region false [⟨(some 21), .move (.tmp 0), none, [], false, false⟩,
        ⟨(some 22), .call 60 [(.tmp 21), (.const (.int .i64 0)), (.const (.int .i64 32))], none, [], false, false⟩,
        ⟨(some 23), .un .not (.tmp 22), none, [], false, false⟩,
        ⟨(some 24), .move (.tmp 23), none, [], false, false⟩,
        ⟨(some 25), .move (.tmp 1), (some (24, false)), [], false, false⟩,
        ⟨(some 26), .call 60 [(.tmp 25), (.const (.int .i64 48)), (.const (.int .i64 87))], (some (24, false)), [], false, false⟩,
        ⟨(some 27), .un .not (.tmp 26), (some (24, false)), [], false, false⟩,
        ⟨(some 28), .pick (.tmp 24) (.const (.bool true)) (.tmp 27), none, [], false, false⟩])
     (.cond (.tmp 28) (.seq (.region false [⟨(some 29), .move (.tmp 6), none, [], false, false⟩,
          ⟨(some 30), .bin .eql (.tmp 29) (.const (.int .i64 2)), none, [], false, false⟩,
          ⟨(some 31), .move (.tmp 30), none, [], false, false⟩,
          ⟨(some 32), .move (.tmp 5), (some (31, true)), [], false, false⟩,
          ⟨(some 33), .len false (.tmp 32), (some (31, true)), [], false, false⟩,
          ⟨(some 34), .bin .eql (.tmp 33) (.const (.int .i64 0)), (some (31, true)), [], false, false⟩,
          ⟨(some 35), .pick (.tmp 31) (.tmp 34) (.const (.bool false)), none, [], false, false⟩,
          ⟨(some 4), .move (.tmp 35), none, [], false, false⟩])
       (.ret))
      (.skip)))
    (.seq (.region false [⟨(some 36), .move (.tmp 6), none, [], false, false⟩,
        ⟨(some 37), .bin .eql (.tmp 36) (.const (.int .i64 0)), none, [], false, false⟩,
        ⟨(some 38), .move (.tmp 37), none, [], false, false⟩,
        ⟨(some 39), .move (.tmp 5), (some (38, true)), [], false, false⟩,
        ⟨(some 40), .move (.tmp 0), (some (38, true)), [], false, false⟩,
        ⟨(some 41), .move (.tmp 1), (some (38, true)), [], false, false⟩,
        ⟨(some 42), .call 69 [(.tmp 40), (.tmp 41)], (some (38, true)), [], false, false⟩,
        ⟨(some 43), .call 65 [(.tmp 39), (.tmp 42)], (some (38, true)), [], false, false⟩,
        ⟨(some 44), .pick (.tmp 38) (.tmp 43) (.const (.bool false)), none, [], false, false⟩,
        ⟨(some 45), .move (.tmp 44), none, [], false, false⟩,
        ⟨(some 46), .move (.tmp 5), (some (45, true)), [], false, false⟩,
        ⟨(some 47), .move (.tmp 0), (some (45, true)), [], false, false⟩,
        ⟨(some 48), .move (.tmp 1), (some (45, true)), [], false, false⟩,
        ⟨(some 49), .call 63 [(.tmp 46), (.tmp 47), (.tmp 48)], (some (45, true)), [], false, false⟩,
        ⟨(some 50), .bin .eql (.tmp 49) (.const (.int .i64 0)), (some (45, true)), [], false, false⟩,
        ⟨(some 51), .pick (.tmp 45) (.tmp 50) (.const (.bool false)), none, [], false, false⟩,
        ⟨(some 4), .move (.tmp 51), none, [], false, false⟩])
     (.ret))))),
 [.tmp 4], .pure, 52⟩

/-- agraffe/agraffelaw06.TemperDerives -/
def ef17 : EFun := ⟨
 .seq (.region false [⟨(some 3), .box (.tmp 0), none, [], false, false⟩,
    ⟨(some 6), .move (.const (.bool false)), none, [], false, false⟩])
 (.seq (.seq (.region false [⟨(some 14), .call 19 [], none, [], false, false⟩,
      ⟨(some 15), .un .not (.tmp 14), none, [], false, false⟩])
   (.cond (.tmp 15) (.seq (.region false [⟨(some 6), .move (.const (.bool false)), none, [], false, false⟩])
     (.ret))
    (.skip)))
  (.seq (.seq (.region false [⟨(some 16), .load true 25 (.tmp 3), none, [], false, false⟩,
       ⟨(some 17), .call 20 [(.tmp 16)], none, [], false, false⟩,
       ⟨(some 18), .un .not (.tmp 17), none, [], false, false⟩,
       ⟨(some 19), .move (.tmp 18), none, [], false, false⟩,
       ⟨(some 20), .move (.tmp 1), (some (19, false)), [], false, false⟩,
       ⟨(some 21), .call 62 [(.tmp 20)], (some (19, false)), [], false, false⟩,
       ⟨(some 22), .un .not (.tmp 21), (some (19, false)), [], false, false⟩,
       ⟨(some 23), .pick (.tmp 19) (.const (.bool true)) (.tmp 22), none, [], false, false⟩])
    (.cond (.tmp 23) (.seq (.region false [⟨(some 6), .move (.const (.bool true)), none, [], false, false⟩])
      (.ret))
     (.skip)))
   (.seq (.region true [⟨(some 25), .load true 25 (.tmp 3), none, [], true, false⟩,
       ⟨(some 26), .buildSlice 2 0 [] [], none, [], false, false⟩,
       ⟨(some 27), .move (.tmp 1), none, [], false, false⟩,
       ⟨(some 28), .append 2 16 (.tmp 26) (.tmp 27), none, [0], false, false⟩,
       ⟨(some 29), .move (.tmp 2), none, [], false, false⟩,
       ⟨(some 30), .call 78 [(.tmp 25), (.tmp 28), (.tmp 29)], none, [], false, true⟩,
       ⟨(some 24), .move (.tmp 30), none, [], false, false⟩,
       ⟨(some 31), .extract (.tmp 24) 0, none, [], false, false⟩,
       ⟨(some 32), .extract (.tmp 24) 1, none, [], false, false⟩,
       ⟨(some 33), .extract (.tmp 24) 2, none, [], false, false⟩,
       ⟨(some 7), .push [(.int .i64 0), (.int .i64 0), (.int .i64 0), (.int .i64 0)], none, [], false, false⟩,
       ⟨none, .store 4 (.tmp 7) (.tmp 31), none, [], false, false⟩,
       ⟨(some 8), .move (.tmp 32), none, [], false, false⟩,
       ⟨(some 9), .move (.tmp 33), none, [], false, false⟩])
    (.seq (.region false [⟨(some 34), .load true 25 (.tmp 3), none, [], false, false⟩,
        ⟨(some 35), .call 23 [(.tmp 34)], none, [], false, false⟩,
        ⟨(some 10), .move (.tmp 35), none, [], false, false⟩])
     (.seq (.seq (.region false [⟨(some 36), .move (.tmp 10), none, [], false, false⟩,
          ⟨(some 37), .bin .eql (.tmp 36) (.const (.int .i64 0)), none, [], false, false⟩])
       (.cond (.tmp 37) (.region false [⟨(some 39), .move (.tmp 1), none, [], false, false⟩,
           ⟨(some 40), .call 79 [(.tmp 39), (.const (.int .i64 0)), (.const (.int .i64 87))], none, [], false, false⟩,
           ⟨(some 38), .move (.tmp 40), none, [], false, false⟩,
           ⟨(some 41), .extract (.tmp 38) 0, none, [], false, false⟩,
           ⟨(some 42), .extract (.tmp 38) 1, none, [], false, false⟩,
           ⟨(some 10), .move (.tmp 42), none, [], false, false⟩])
        (.skip)))
      (.seq (.seq (.region false [⟨(some 43), .move (.tmp 10), none, [], false, false⟩,
           ⟨(some 44), .bin .eql (.tmp 43) (.const (.int .i64 0)), none, [], false, false⟩,
           ⟨(some 45), .move (.tmp 44), none, [], false, false⟩,
           ⟨(some 46), .move (.tmp 2), (some (45, true)), [], false, false⟩,
           ⟨(some 47), .call 24 [(.tmp 46)], (some (45, true)), [], false, false⟩,
           ⟨(some 48), .un .not (.tmp 47), (some (45, true)), [], false, false⟩,
           ⟨(some 49), .pick (.tmp 45) (.tmp 48) (.const (.bool false)), none, [], false, false⟩])
        (.cond (.tmp 49) (.region false [⟨(some 10), .move (.const (.int .i64 2)), none, [], false, false⟩])
         (.skip)))
       (.seq (.seq (.region false [⟨(some 50), .move (.tmp 10), none, [], false, false⟩,
            ⟨(some 51), .bin .eql (.tmp 50) (.const (.int .i64 0)), none, [], false, false⟩,
            ⟨(some 52), .move (.tmp 51), none, [], false, false⟩,
            ⟨(some 53), .move (.tmp 1), (some (52, true)), [], false, false⟩,
            ⟨(some 54), .move (.tmp 2), (some (52, true)), [], false, false⟩,
            ⟨(some 55), .call 80 [(.tmp 53), (.tmp 54)], (some (52, true)), [], false, false⟩,
            ⟨(some 56), .len false (.tmp 55), (some (52, true)), [], false, false⟩,
            ⟨(some 57), .bin .eql (.tmp 56) (.const (.int .i64 0)), (some (52, true)), [], false, false⟩,
            ⟨(some 58), .pick (.tmp 52) (.tmp 57) (.const (.bool false)), none, [], false, false⟩])
         (.cond (.tmp 58) (.region false [⟨(some 10), .move (.const (.int .i64 6)), none, [], false, false⟩])
          (.skip)))
        (.seq (.seq (.region false [⟨(some 59), .move (.tmp 10), none, [], false, false⟩,
             ⟨(some 60), .bin .neq (.tmp 59) (.const (.int .i64 0)), none, [], false, false⟩])
          (.cond (.tmp 60) (.seq (.region false [⟨(some 61), .move (.tmp 9), none, [], false, false⟩,
               ⟨(some 62), .move (.tmp 10), none, [], false, false⟩,
               ⟨(some 63), .bin .eql (.tmp 61) (.tmp 62), none, [], false, false⟩,
               ⟨(some 64), .move (.tmp 63), none, [], false, false⟩,
               ⟨(some 65), .load true 4 (.tmp 7), (some (64, true)), [], false, false⟩,
               ⟨(some 66), .build [(.int .i64 0), (.int .i64 0), (.int .i64 0), (.int .i64 0)] [], (some (64, true)), [], false, false⟩,
               ⟨(some 67), .eqAgg false [(.int .i64), (.int .i64), (.int .i64), (.int .i64)] (.tmp 65) (.tmp 66), (some (64, true)), [], false, false⟩,
               ⟨(some 68), .pick (.tmp 64) (.tmp 67) (.const (.bool false)), none, [], false, false⟩,
               ⟨(some 69), .move (.tmp 68), none, [], false, false⟩,
               ⟨(some 70), .move (.tmp 8), (some (69, true)), [], false, false⟩,
               ⟨(some 71), .len false (.tmp 70), (some (69, true)), [], false, false⟩,
               ⟨(some 72), .bin .eql (.tmp 71) (.const (.int .i64 0)), (some (69, true)), [], false, false⟩,
               ⟨(some 73), .pick (.tmp 69) (.tmp 72) (.const (.bool false)), none, [], false, false⟩,
               ⟨(some 6), .move (.tmp 73), none, [], false, false⟩])
            (.ret))
           (.skip)))
         (.seq (.region false [⟨(some 74), .move (.tmp 1), none, [], false, false⟩,
             ⟨(some 75), .move (.tmp 2), none, [], false, false⟩,
             ⟨(some 76), .call 80 [(.tmp 74), (.tmp 75)], none, [], false, false⟩,
             ⟨(some 11), .move (.tmp 76), none, [], false, false⟩])
          (.seq (.region false [⟨(some 78), .load true 25 (.tmp 3), none, [], false, false⟩,
              ⟨(some 79), .move (.tmp 2), none, [], false, false⟩,
              ⟨(some 80), .call 21 [(.tmp 78), (.tmp 79)], none, [], false, false⟩,
              ⟨(some 77), .move (.tmp 80), none, [], false, false⟩,
              ⟨(some 81), .extract (.tmp 77) 0, none, [], false, false⟩,
              ⟨(some 82), .extract (.tmp 77) 1, none, [], false, false⟩,
              ⟨(some 12), .push [(.int .i64 0), (.int .i64 0), (.int .i64 0), (.int .i64 0)], none, [], false, false⟩,
              ⟨none, .store 4 (.tmp 12) (.tmp 81), none, [], false, false⟩,
              ⟨(some 13), .move (.tmp 82), none, [], false, false⟩])
           (.seq (.region true [⟨(some 83), .move (.tmp 9), none, [], false, false⟩,
               ⟨(some 84), .bin .eql (.tmp 83) (.const (.int .i64 0)), none, [], false, false⟩,
               ⟨(some 85), .move (.tmp 84), none, [], false, false⟩,
               ⟨(some 86), .move (.tmp 8), (some (85, true)), [], false, false⟩,
               ⟨(some 87), .move (.tmp 11), (some (85, true)), [], false, false⟩,
               ⟨(some 88), .call 76 [(.tmp 86), (.tmp 87)], (some (85, true)), [], false, false⟩,
               ⟨(some 89), .pick (.tmp 85) (.tmp 88) (.const (.bool false)), none, [], false, false⟩,
               ⟨(some 90), .move (.tmp 89), none, [], false, false⟩,
               ⟨(some 91), .load true 4 (.tmp 7), (some (90, true)), [], false, false⟩,
               ⟨(some 92), .load true 25 (.tmp 3), (some (90, true)), [], false, false⟩,
               ⟨(some 93), .move (.tmp 11), (some (90, true)), [], false, false⟩,
               ⟨(some 94), .call 81 [(.tmp 92), (.tmp 93)], (some (90, true)), [], false, true⟩,
               ⟨(some 95), .call 26 [(.tmp 94)], (some (90, true)), [], false, true⟩,
               ⟨(some 96), .eqAgg false [(.int .i64), (.int .i64), (.int .i64), (.int .i64)] (.tmp 91) (.tmp 95), (some (90, true)), [], false, false⟩,
               ⟨(some 97), .pick (.tmp 90) (.tmp 96) (.const (.bool false)), none, [], false, false⟩,
               ⟨(some 98), .move (.tmp 97), none, [], false, false⟩,
               ⟨(some 99), .move (.tmp 13), (some (98, true)), [], false, false⟩,
               ⟨(some 100), .bin .eql (.tmp 99) (.const (.int .i64 0)), (some (98, true)), [], false, false⟩,
               ⟨(some 101), .pick (.tmp 98) (.tmp 100) (.const (.bool false)), none, [], false, false⟩,
               ⟨(some 102), .move (.tmp 101), none, [], false, false⟩,
               ⟨(some 103), .load true 4 (.tmp 7), (some (102, true)), [], false, false⟩,
               ⟨(some 104), .load true 4 (.tmp 12), (some (102, true)), [], false, false⟩,
               ⟨(some 105), .eqAgg false [(.int .i64), (.int .i64), (.int .i64), (.int .i64)] (.tmp 103) (.tmp 104), (some (102, true)), [], false, false⟩,
               ⟨(some 106), .pick (.tmp 102) (.tmp 105) (.const (.bool false)), none, [], false, false⟩,
               ⟨(some 6), .move (.tmp 106), none, [], false, false⟩])
            (.ret)))))))))))),
 [.tmp 6], .pure, 107⟩

/-- agraffe/agraffetop.TopDerivedOnce -/
def ef18 : EFun := ⟨
 .seq (.region false [⟨(some 3), .box (.tmp 0), none, [], false, false⟩,
    ⟨(some 4), .box (.tmp 1), none, [], false, false⟩,
    ⟨(some 6), .move (.const (.bool false)), none, [], false, false⟩])
 (.seq (.seq (.region false [⟨(some 17), .call 70 [], none, [], false, false⟩,
      ⟨(some 18), .un .not (.tmp 17), none, [], false, false⟩])
   (.cond (.tmp 18) (.seq (.region false [⟨(some 6), .move (.const (.bool false)), none, [], false, false⟩])
     (.ret))
    (.skip)))
  (.seq (.seq (.region false [⟨(some 19), .load true 25 (.tmp 3), none, [], false, false⟩,
       ⟨(some 20), .call 20 [(.tmp 19)], none, [], false, false⟩,
       ⟨(some 21), .un .not (.tmp 20), none, [], false, false⟩,
       ⟨(some 22), .move (.tmp 21), none, [], false, false⟩,
       ⟨(some 23), .fieldAddr 0 (.tmp 4), (some (22, false)), [], false, false⟩,
       ⟨(some 24), .load false 1 (.tmp 23), (some (22, false)), [], false, false⟩,
       ⟨(some 25), .len false (.tmp 24), (some (22, false)), [], false, false⟩,
       ⟨(some 26), .bin .gtr (.tmp 25) (.const (.int .i64 103)), (some (22, false)), [], false, false⟩,
       ⟨(some 27), .pick (.tmp 22) (.const (.bool true)) (.tmp 26), none, [], false, false⟩,
       ⟨(some 28), .move (.tmp 27), none, [], false, false⟩,
       ⟨(some 29), .fieldAddr 1 (.tmp 4), (some (28, false)), [], false, false⟩,
       ⟨(some 30), .load false 1 (.tmp 29), (some (28, false)), [], false, false⟩,
       ⟨(some 31), .len false (.tmp 30), (some (28, false)), [], false, false⟩,
       ⟨(some 32), .bin .gtr (.tmp 31) (.const (.int .i64 103)), (some (28, false)), [], false, false⟩,
       ⟨(some 33), .pick (.tmp 28) (.const (.bool true)) (.tmp 32), none, [], false, false⟩,
       ⟨(some 34), .move (.tmp 33), none, [], false, false⟩,
       ⟨(some 35), .load true 25 (.tmp 3), (some (34, false)), [], false, false⟩,
       ⟨(some 36), .call 51 [(.tmp 35)], (some (34, false)), [], false, false⟩,
       ⟨(some 37), .bin .neq (.tmp 36) (.const (.int .i64 0)), (some (34, false)), [], false, false⟩,
       ⟨(some 38), .pick (.tmp 34) (.const (.bool true)) (.tmp 37), none, [], false, false⟩,
       ⟨(some 39), .move (.tmp 38), none, [], false, false⟩,
       ⟨(some 40), .move (.tmp 2), (some (39, false)), [], false, false⟩,
       ⟨(some 41), .fieldAddr 2 (.tmp 4), (some (39, false)), [], false, false⟩,
       ⟨(some 42), .load false 1 (.tmp 41), (some (39, false)), [], false, false⟩,
       ⟨(some 43), .bin .lss (.tmp 40) (.tmp 42), (some (39, false)), [], false, false⟩,
       ⟨(some 44), .pick (.tmp 39) (.const (.bool true)) (.tmp 43), none, [], false, false⟩,
       ⟨(some 45), .move (.tmp 44), none, [], false, false⟩,
       ⟨(some 46), .move (.tmp 2), (some (45, false)), [], false, false⟩,
       ⟨(some 47), .fieldAddr 3 (.tmp 4), (some (45, false)), [], false, false⟩,
       ⟨(some 48), .load false 1 (.tmp 47), (some (45, false)), [], false, false⟩,
       ⟨(some 49), .bin .gtr (.tmp 46) (.tmp 48), (some (45, false)), [], false, false⟩,
       ⟨(some 50), .pick (.tmp 45) (.const (.bool true)) (.tmp 49), none, [], false, false⟩])
    (.cond (.tmp 50) (.seq (.region false [⟨(some 6), .move (.const (.bool true)), none, [], false, false⟩])
      (.ret))
     (.skip)))
   (.seq (.seq (.region false [⟨(some 51), .fieldAddr 0 (.tmp 4), none, [], false, false⟩,
        ⟨(some 52), .load false 1 (.tmp 51), none, [], false, false⟩,
        ⟨(some 53), .fieldAddr 2 (.tmp 4), none, [], false, false⟩,
        ⟨(some 54), .load false 1 (.tmp 53), none, [], false, false⟩,
        ⟨(some 55), .fieldAddr 3 (.tmp 4), none, [], false, false⟩,
        ⟨(some 56), .load false 1 (.tmp 55), none, [], false, false⟩,
        ⟨(some 57), .call 63 [(.tmp 52), (.tmp 54), (.tmp 56)], none, [], false, false⟩,
        ⟨(some 58), .bin .neq (.tmp 57) (.const (.int .i64 0)), none, [], false, false⟩,
        ⟨(some 59), .move (.tmp 58), none, [], false, false⟩,
        ⟨(some 60), .fieldAddr 1 (.tmp 4), (some (59, false)), [], false, false⟩,
        ⟨(some 61), .load false 1 (.tmp 60), (some (59, false)), [], false, false⟩,
        ⟨(some 62), .fieldAddr 2 (.tmp 4), (some (59, false)), [], false, false⟩,
        ⟨(some 63), .load false 1 (.tmp 62), (some (59, false)), [], false, false⟩,
        ⟨(some 64), .fieldAddr 3 (.tmp 4), (some (59, false)), [], false, false⟩,
        ⟨(some 65), .load false 1 (.tmp 64), (some (59, false)), [], false, false⟩,
        ⟨(some 66), .call 63 [(.tmp 61), (.tmp 63), (.tmp 65)], (some (59, false)), [], false, false⟩,
        ⟨(some 67), .bin .neq (.tmp 66) (.const (.int .i64 0)), (some (59, false)), [], false, false⟩,
        ⟨(some 68), .pick (.tmp 59) (.const (.bool true)) (.tmp 67), none, [], false, false⟩])
     (.cond (.tmp 68) (.seq (.region false [⟨(some 6), .move (.const (.bool true)), none, [], false, false⟩])
       (.ret))
      (.skip)))
    (.seq (.region false [⟨(some 70), .load true 25 (.tmp 3), none, [], false, false⟩,
        ⟨(some 71), .fieldAddr 0 (.tmp 4), none, [], false, false⟩,
        ⟨(some 72), .load false 1 (.tmp 71), none, [], false, false⟩,
        ⟨(some 73), .move (.tmp 2), none, [], false, false⟩,
        ⟨(some 74), .call 78 [(.tmp 70), (.tmp 72), (.tmp 73)], none, [], false, false⟩,
        ⟨(some 69), .move (.tmp 74), none, [], false, false⟩,
        ⟨(some 75), .extract (.tmp 69) 0, none, [], false, false⟩,
        ⟨(some 76), .extract (.tmp 69) 1, none, [], false, false⟩,
        ⟨(some 77), .extract (.tmp 69) 2, none, [], false, false⟩,
        ⟨(some 7), .push [(.int .i64 0), (.int .i64 0), (.int .i64 0), (.int .i64 0)], none, [], false, false⟩,
        ⟨none, .store 4 (.tmp 7) (.tmp 75), none, [], false, false⟩,
        ⟨(some 8), .move (.tmp 76), none, [], false, false⟩,
        ⟨(some 9), .move (.tmp 77), none, [], false, false⟩])
     (.seq (.region false [⟨(some 79), .load true 25 (.tmp 3), none, [], false, false⟩,
         ⟨(some 80), .fieldAddr 1 (.tmp 4), none, [], false, false⟩,
         ⟨(some 81), .load false 1 (.tmp 80), none, [], false, false⟩,
         ⟨(some 82), .move (.tmp 2), none, [], false, false⟩,
         ⟨(some 83), .call 78 [(.tmp 79), (.tmp 81), (.tmp 82)], none, [], false, false⟩,
         ⟨(some 78), .move (.tmp 83), none, [], false, false⟩,
         ⟨(some 84), .extract (.tmp 78) 0, none, [], false, false⟩,
         ⟨(some 85), .extract (.tmp 78) 1, none, [], false, false⟩,
         ⟨(some 86), .extract (.tmp 78) 2, none, [], false, false⟩,
         ⟨(some 10), .push [(.int .i64 0), (.int .i64 0), (.int .i64 0), (.int .i64 0)], none, [], false, false⟩,
         ⟨none, .store 4 (.tmp 10) (.tmp 84), none, [], false, false⟩,
         ⟨(some 11), .move (.tmp 85), none, [], false, false⟩,
         ⟨(some 12), .move (.tmp 86), none, [], false, false⟩])
      (.seq (.seq (.region false [⟨(some 87), .move (.tmp 9), none, [], false, false⟩,
           ⟨(some 88), .bin .neq (.tmp 87) (.const (.int .i64 0)), none, [], false, false⟩,
           ⟨(some 89), .move (.tmp 88), none, [], false, false⟩,
           ⟨(some 90), .move (.tmp 12), (some (89, false)), [], false, false⟩,
           ⟨(some 91), .bin .neq (.tmp 90) (.const (.int .i64 0)), (some (89, false)), [], false, false⟩,
           ⟨(some 92), .pick (.tmp 89) (.const (.bool true)) (.tmp 91), none, [], false, false⟩,
           ⟨(some 93), .move (.tmp 92), none, [], false, false⟩,
           ⟨(some 94), .load true 4 (.tmp 7), (some (93, false)), [], false, false⟩,
           ⟨(some 95), .load true 4 (.tmp 10), (some (93, false)), [], false, false⟩,
           ⟨(some 96), .eqAgg true [(.int .i64), (.int .i64), (.int .i64), (.int .i64)] (.tmp 94) (.tmp 95), (some (93, false)), [], false, false⟩,
           ⟨(some 97), .pick (.tmp 93) (.const (.bool true)) (.tmp 96), none, [], false, false⟩,
           ⟨(some 98), .move (.tmp 97), none, [], false, false⟩,
           ⟨(some 99), .move (.tmp 8), (some (98, false)), [], false, false⟩,
           ⟨(some 100), .len false (.tmp 99), (some (98, false)), [], false, false⟩,
           ⟨(some 101), .bin .eql (.tmp 100) (.const (.int .i64 0)), (some (98, false)), [], false, false⟩,
           ⟨(some 102), .pick (.tmp 98) (.const (.bool true)) (.tmp 101), none, [], false, false⟩,
           ⟨(some 103), .move (.tmp 102), none, [], false, false⟩,
           ⟨(some 104), .move (.tmp 11), (some (103, false)), [], false, false⟩,
           ⟨(some 105), .len false (.tmp 104), (some (103, false)), [], false, false⟩,
           ⟨(some 106), .bin .eql (.tmp 105) (.const (.int .i64 0)), (some (103, false)), [], false, false⟩,
           ⟨(some 107), .pick (.tmp 103) (.const (.bool true)) (.tmp 106), none, [], false, false⟩,
           ⟨(some 108), .move (.tmp 107), none, [], false, false⟩,
           ⟨(some 109), .move (.tmp 8), (some (108, false)), [], false, false⟩,
           ⟨(some 110), .indexAddr none 1 (.tmp 109) (.const (.int .i64 0)), (some (108, false)), [], false, false⟩,
           ⟨(some 111), .load false 1 (.tmp 110), (some (108, false)), [], false, false⟩,
           ⟨(some 112), .bin .neq (.tmp 111) (.const (.int .i64 48)), (some (108, false)), [], false, false⟩,
           ⟨(some 113), .pick (.tmp 108) (.const (.bool true)) (.tmp 112), none, [], false, false⟩,
           ⟨(some 114), .move (.tmp 113), none, [], false, false⟩,
           ⟨(some 115), .move (.tmp 11), (some (114, false)), [], false, false⟩,
           ⟨(some 116), .indexAddr none 1 (.tmp 115) (.const (.int .i64 0)), (some (114, false)), [], false, false⟩,
           ⟨(some 117), .load false 1 (.tmp 116), (some (114, false)), [], false, false⟩,
           ⟨(some 118), .bin .neq (.tmp 117) (.const (.int .i64 48)), (some (114, false)), [], false, false⟩,
           ⟨(some 119), .pick (.tmp 114) (.const (.bool true)) (.tmp 118), none, [], false, false⟩,
           ⟨(some 120), .move (.tmp 119), none, [], false, false⟩,
           ⟨(some 121), .move (.tmp 8), (some (120, false)), [], false, false⟩,
           ⟨(some 122), .move (.tmp 8), (some (120, false)), [], false, false⟩,
           ⟨(some 123), .len false (.tmp 122), (some (120, false)), [], false, false⟩,
           ⟨(some 124), .bin .sub (.tmp 123) (.const (.int .i64 1)), (some (120, false)), [], false, false⟩,
           ⟨(some 125), .indexAddr none 1 (.tmp 121) (.tmp 124), (some (120, false)), [], false, false⟩,
           ⟨(some 126), .load false 1 (.tmp 125), (some (120, false)), [], false, false⟩,
           ⟨(some 127), .move (.tmp 2), (some (120, false)), [], false, false⟩,
           ⟨(some 128), .bin .neq (.tmp 126) (.tmp 127), (some (120, false)), [], false, false⟩,
           ⟨(some 129), .pick (.tmp 120) (.const (.bool true)) (.tmp 128), none, [], false, false⟩,
           ⟨(some 130), .move (.tmp 129), none, [], false, false⟩,
           ⟨(some 131), .move (.tmp 11), (some (130, false)), [], false, false⟩,
           ⟨(some 132), .move (.tmp 11), (some (130, false)), [], false, false⟩,
           ⟨(some 133), .len false (.tmp 132), (some (130, false)), [], false, false⟩,
           ⟨(some 134), .bin .sub (.tmp 133) (.const (.int .i64 1)), (some (130, false)), [], false, false⟩,
           ⟨(some 135), .indexAddr none 1 (.tmp 131) (.tmp 134), (some (130, false)), [], false, false⟩,
           ⟨(some 136), .load false 1 (.tmp 135), (some (130, false)), [], false, false⟩,
           ⟨(some 137), .move (.tmp 2), (some (130, false)), [], false, false⟩,
           ⟨(some 138), .bin .neq (.tmp 136) (.tmp 137), (some (130, false)), [], false, false⟩,
           ⟨(some 139), .pick (.tmp 130) (.const (.bool true)) (.tmp 138), none, [], false, false⟩])
        (.cond (.tmp 139) (.seq (.region false [⟨(some 6), .move (.const (.bool false)), none, [], false, false⟩])
          (.ret))
         (.skip)))
       (.seq (.region false [⟨(some 141), .load true 4 (.tmp 7), none, [], false, false⟩,
           ⟨(some 142), .call 82 [(.tmp 141), (.const (.int .i64 440000))], none, [], false, false⟩,
           ⟨(some 140), .move (.tmp 142), none, [], false, false⟩,
           ⟨(some 143), .extract (.tmp 140) 0, none, [], false, false⟩,
           ⟨(some 144), .extract (.tmp 140) 1, none, [], false, false⟩,
           ⟨(some 13), .push [(.int .i64 0), (.int .i64 0)], none, [], false, false⟩,
           ⟨none, .store 2 (.tmp 13) (.tmp 143), none, [], false, false⟩,
           ⟨(some 14), .move (.tmp 144), none, [], false, false⟩])
        (.seq (.region false [⟨(some 146), .load true 25 (.tmp 3), none, [], false, false⟩,
            ⟨(some 147), .move (.tmp 2), none, [], false, false⟩,
            ⟨(some 148), .call 31 [(.tmp 146), (.const (.int .i64 440000)), (.tmp 147)], none, [], false, false⟩,
            ⟨(some 145), .move (.tmp 148), none, [], false, false⟩,
            ⟨(some 149), .extract (.tmp 145) 0, none, [], false, false⟩,
            ⟨(some 150), .extract (.tmp 145) 1, none, [], false, false⟩,
            ⟨(some 15), .push [(.int .i64 0), (.int .i64 0)], none, [], false, false⟩,
            ⟨none, .store 2 (.tmp 15) (.tmp 149), none, [], false, false⟩,
            ⟨(some 16), .move (.tmp 150), none, [], false, false⟩])
         (.seq (.region false [⟨(some 151), .move (.tmp 14), none, [], false, false⟩,
             ⟨(some 152), .bin .eql (.tmp 151) (.const (.int .i64 0)), none, [], false, false⟩,
             ⟨(some 153), .move (.tmp 152), none, [], false, false⟩,
             ⟨(some 154), .move (.tmp 16), (some (153, true)), [], false, false⟩,
             ⟨(some 155), .bin .eql (.tmp 154) (.const (.int .i64 0)), (some (153, true)), [], false, false⟩,
             ⟨(some 156), .pick (.tmp 153) (.tmp 155) (.const (.bool false)), none, [], false, false⟩,
             ⟨(some 157), .move (.tmp 156), none, [], false, false⟩,
             ⟨(some 158), .load true 2 (.tmp 13), (some (157, true)), [], false, false⟩,
             ⟨(some 159), .load true 2 (.tmp 15), (some (157, true)), [], false, false⟩,
             ⟨(some 160), .eqAgg false [(.int .i64), (.int .i64)] (.tmp 158) (.tmp 159), (some (157, true)), [], false, false⟩,
             ⟨(some 161), .pick (.tmp 157) (.tmp 160) (.const (.bool false)), none, [], false, false⟩,
             ⟨(some 6), .move (.tmp 161), none, [], false, false⟩])
          (.ret)))))))))),
 [.tmp 6], .pure, 162⟩

/-- agraffe/agraffelaw06.awake -/
def ef19 : EFun := ⟨
 .seq (.region false [⟨(some 0), .move (.const (.bool false)), none, [], false, false⟩])
 (.seq (.region false [⟨(some 7), .call 83 [], none, [], false, false⟩,
     ⟨(some 8), .call 21 [(.tmp 7), (.const (.int .i64 51))], none, [], false, false⟩,
     ⟨(some 6), .move (.tmp 8), none, [], false, false⟩,
     ⟨(some 9), .extract (.tmp 6) 0, none, [], false, false⟩,
     ⟨(some 10), .extract (.tmp 6) 1, none, [], false, false⟩,
     ⟨(some 1), .push [(.int .i64 0), (.int .i64 0), (.int .i64 0), (.int .i64 0)], none, [], false, false⟩,
     ⟨none, .store 4 (.tmp 1) (.tmp 9), none, [], false, false⟩,
     ⟨(some 2), .move (.tmp 10), none, [], false, false⟩])
  (.seq (.region false [⟨(some 12), .call 83 [], none, [], false, false⟩,
      ⟨(some 13), .build [(.int .i64 0), (.int .i64 0), (.int .i64 0), (.int .i64 0)] [(0, 1, (.const (.int .i64 39))), (1, 1, (.const (.int .i64 43))), (2, 1, (.const (.int .i64 5))), (3, 1, (.const (.int .i64 4)))], none, [], false, false⟩,
      ⟨(some 14), .call 28 [(.tmp 12), (.const (.int .i64 440000)), (.tmp 13)], none, [], false, false⟩,
      ⟨(some 11), .move (.tmp 14), none, [], false, false⟩,
      ⟨(some 15), .extract (.tmp 11) 0, none, [], false, false⟩,
      ⟨(some 16), .extract (.tmp 11) 1, none, [], false, false⟩,
      ⟨(some 3), .push [(.int .i64 0), (.int .i64 0)], none, [], false, false⟩,
      ⟨none, .store 2 (.tmp 3) (.tmp 15), none, [], false, false⟩,
      ⟨(some 4), .move (.tmp 16), none, [], false, false⟩])
   (.seq (.region false [⟨(some 17), .call 66 [], none, [], false, false⟩,
       ⟨(some 5), .move (.tmp 17), none, [], false, false⟩])
    (.seq (.region false [⟨(some 18), .move (.tmp 2), none, [], false, false⟩,
        ⟨(some 19), .bin .eql (.tmp 18) (.const (.int .i64 0)), none, [], false, false⟩,
        ⟨(some 20), .move (.tmp 19), none, [], false, false⟩,
        ⟨(some 21), .load true 4 (.tmp 1), (some (20, true)), [], false, false⟩,
        ⟨(some 22), .build [(.int .i64 0), (.int .i64 0), (.int .i64 0), (.int .i64 0)] [(0, 1, (.const (.int .i64 1))), (3, 1, (.const (.int .i64 4)))], (some (20, true)), [], false, false⟩,
        ⟨(some 23), .eqAgg false [(.int .i64), (.int .i64), (.int .i64), (.int .i64)] (.tmp 21) (.tmp 22), (some (20, true)), [], false, false⟩,
        ⟨(some 24), .pick (.tmp 20) (.tmp 23) (.const (.bool false)), none, [], false, false⟩,
        ⟨(some 25), .move (.tmp 24), none, [], false, false⟩,
        ⟨(some 26), .move (.tmp 4), (some (25, true)), [], false, false⟩,
        ⟨(some 27), .bin .eql (.tmp 26) (.const (.int .i64 0)), (some (25, true)), [], false, false⟩,
        ⟨(some 28), .pick (.tmp 25) (.tmp 27) (.const (.bool false)), none, [], false, false⟩,
        ⟨(some 29), .move (.tmp 28), none, [], false, false⟩,
        ⟨(some 30), .load true 2 (.tmp 3), (some (29, true)), [], false, false⟩,
        ⟨(some 31), .build [(.int .i64 0), (.int .i64 0)] [(0, 1, (.const (.int .i64 10382))), (1, 1, (.const (.int .i64 10384)))], (some (29, true)), [], false, false⟩,
        ⟨(some 32), .eqAgg false [(.int .i64), (.int .i64)] (.tmp 30) (.tmp 31), (some (29, true)), [], false, false⟩,
        ⟨(some 33), .pick (.tmp 29) (.tmp 32) (.const (.bool false)), none, [], false, false⟩,
        ⟨(some 34), .move (.tmp 33), none, [], false, false⟩,
        ⟨(some 35), .move (.tmp 5), (some (34, true)), [], false, false⟩,
        ⟨(some 36), .len false (.tmp 35), (some (34, true)), [], false, false⟩,
        ⟨(some 37), .bin .eql (.tmp 36) (.const (.int .i64 13)), (some (34, true)), [], false, false⟩,
        ⟨(some 38), .pick (.tmp 34) (.tmp 37) (.const (.bool false)), none, [], false, false⟩,
        ⟨(some 39), .move (.tmp 38), none, [], false, false⟩,
        ⟨(some 40), .move (.tmp 5), (some (39, true)), [], false, false⟩,
        ⟨(some 41), .indexAddr none 2 (.tmp 40) (.const (.int .i64 12)), (some (39, true)), [], false, false⟩,
        ⟨(some 42), .load true 2 (.tmp 41), (some (39, true)), [], false, false⟩,
        ⟨(some 43), .build [(.int .i64 0), (.int .i64 0)] [(0, 1, (.const (.int .i64 44))), (1, 1, (.const (.int .i64 32)))], (some (39, true)), [], false, false⟩,
        ⟨(some 44), .eqAgg false [(.int .i64), (.int .i64)] (.tmp 42) (.tmp 43), (some (39, true)), [], false, false⟩,
        ⟨(some 45), .pick (.tmp 39) (.tmp 44) (.const (.bool false)), none, [], false, false⟩,
        ⟨(some 0), .move (.tmp 45), none, [], false, false⟩])
     (.ret))))),
 [.tmp 0], .pure, 46⟩

/-- agraffe/agraffelaw06.Brief -/
def ef20 : EFun := ⟨
 .seq (.region false [⟨(some 1), .box (.tmp 0), none, [], false, false⟩,
    ⟨(some 2), .move (.const (.bool false)), none, [], false, false⟩])
 (.seq (.region false [⟨(some 3), .fieldAddr 0 (.tmp 1), none, [], false, false⟩,
     ⟨(some 4), .load false 1 (.tmp 3), none, [], false, false⟩,
     ⟨(some 5), .len true (.tmp 4), none, [], false, false⟩,
     ⟨(some 6), .bin .leq (.tmp 5) (.const (.int .i64 30)), none, [], false, false⟩,
     ⟨(some 2), .move (.tmp 6), none, [], false, false⟩])
  (.ret)),
 [.tmp 2], .pure, 7⟩

/-- agraffe/temper.PitchOf -/
def ef21 : EFun := ⟨
 .seq (.region false [⟨(some 2), .box (.tmp 0), none, [], false, false⟩,
    ⟨(some 4), .push [(.int .i64 0), (.int .i64 0), (.int .i64 0), (.int .i64 0)], none, [], false, false⟩,
    ⟨(some 5), .move (.const (.int .i64 0)), none, [], false, false⟩])
 (.seq (.region false [⟨(some 6), .load true 25 (.tmp 2), none, [], false, false⟩,
     ⟨(some 7), .move (.tmp 1), none, [], false, false⟩,
     ⟨(some 8), .call 22 [(.tmp 6), (.const (.int .i64 48)), (.tmp 7)], none, [], false, false⟩,
     ⟨(some 9), .extract (.tmp 8) 0, none, [], false, false⟩,
     ⟨(some 10), .extract (.tmp 8) 1, none, [], false, false⟩,
     ⟨none, .store 4 (.tmp 4) (.tmp 9), none, [], false, false⟩,
     ⟨(some 5), .move (.tmp 10), none, [], false, false⟩])
  (.ret)),
 [.cell 4 true 4, .tmp 5], .pure, 11⟩

/-- agraffe/temper.Interval -/
def ef22 : EFun := ⟨
 .seq (.region false [⟨(some 3), .box (.tmp 0), none, [], false, false⟩,
    ⟨(some 6), .push [(.int .i64 0), (.int .i64 0), (.int .i64 0), (.int .i64 0)], none, [], false, false⟩,
    ⟨(some 7), .move (.const (.int .i64 0)), none, [], false, false⟩])
 (.seq (.region true [⟨(some 11), .load true 25 (.tmp 3), none, [], false, false⟩,
     ⟨(some 12), .move (.tmp 1), none, [], false, false⟩,
     ⟨(some 13), .call 85 [(.tmp 12)], none, [], false, true⟩,
     ⟨(some 14), .move (.tmp 2), none, [], false, false⟩,
     ⟨(some 15), .call 85 [(.tmp 14)], none, [], false, true⟩,
     ⟨(some 16), .buildSlice 1 2 [(.bool false), (.bool false)] [(0, 1, (.tmp 13)), (1, 1, (.tmp 15))], none, [], false, false⟩,
     ⟨(some 17), .call 84 [(.tmp 11), (.tmp 16)], none, [], false, false⟩,
     ⟨(some 10), .move (.tmp 17), none, [], false, false⟩,
     ⟨(some 18), .extract (.tmp 10) 0, none, [], false, false⟩,
     ⟨(some 19), .extract (.tmp 10) 1, none, [], false, false⟩,
     ⟨(some 8), .move (.tmp 18), none, [], false, false⟩,
     ⟨(some 9), .move (.tmp 19), none, [], false, false⟩])
  (.seq (.seq (.region false [⟨(some 20), .move (.tmp 9), none, [], false, false⟩,
       ⟨(some 21), .bin .neq (.tmp 20) (.const (.int .i64 0)), none, [], false, false⟩])
    (.cond (.tmp 21) (.seq (.region false [⟨(some 22), .build [(.int .i64 0), (.int .i64 0), (.int .i64 0), (.int .i64 0)] [], none, [], false, false⟩,
         ⟨(some 23), .move (.tmp 9), none, [], false, false⟩,
         ⟨none, .store 4 (.tmp 6) (.tmp 22), none, [], false, false⟩,
         ⟨(some 7), .move (.tmp 23), none, [], false, false⟩])
      (.ret))
     (.skip)))
   (.seq (.region false [⟨(some 24), .move (.tmp 8), none, [], false, false⟩,
       ⟨(some 25), .move (.tmp 1), none, [], false, false⟩,
       ⟨(some 26), .move (.tmp 2), none, [], false, false⟩,
       ⟨(some 27), .call 86 [(.tmp 24), (.tmp 25), (.tmp 26)], none, [], false, false⟩,
       ⟨(some 28), .call 87 [(.tmp 27)], none, [], false, false⟩,
       ⟨none, .store 4 (.tmp 6) (.tmp 28), none, [], false, false⟩,
       ⟨(some 7), .move (.const (.int .i64 0)), none, [], false, false⟩])
    (.ret)))),
 [.cell 6 true 4, .tmp 7], .pure, 29⟩

/-- agraffe/agrafferef06.CheckTemperament -/
def ef23 : EFun := ⟨
 .seq (.region false [⟨(some 1), .box (.tmp 0), none, [], false, false⟩,
    ⟨(some 2), .move (.const (.int .i64 0)), none, [], false, false⟩])
 (.seq (.seq (.region false [⟨(some 7), .fieldAddr 0 (.tmp 1), none, [], false, false⟩,
      ⟨(some 8), .load false 1 (.tmp 7), none, [], false, false⟩,
      ⟨(some 9), .call 88 [(.tmp 8)], none, [], false, false⟩,
      ⟨(some 10), .un .not (.tmp 9), none, [], false, false⟩])
   (.cond (.tmp 10) (.seq (.region false [⟨(some 2), .move (.const (.int .i64 4)), none, [], false, false⟩])
     (.ret))
    (.skip)))
  (.seq (.region false [⟨(some 3), .move (.const (.int .i64 0)), none, [], false, false⟩,
      ⟨(some 4), .move (.const (.int .i64 0)), none, [], false, false⟩])
   (.seq (.seq (.region false [⟨(some 5), .move (.const (.int .i64 0)), none, [], false, false⟩])
     (.block 0 (.loop (some [1, 3, 4, 5]) (
       .seq (.seq (.region false [⟨(some 11), .move (.tmp 5), none, [], false, false⟩,
            ⟨(some 12), .bin .lss (.tmp 11) (.const (.int .i64 12)), none, [], false, false⟩])
         (.cond (.tmp 12) (.skip)
          (.exit 0)))
        (.seq (.block 1 (.seq (.seq (.region false [⟨(some 15), .move (.tmp 5), none, [], false, false⟩,
               ⟨(some 16), .fieldAddr 1 (.tmp 1), none, [], false, false⟩,
               ⟨(some 17), .indexAddr (some 12) 1 (.tmp 16) (.tmp 15), none, [], false, false⟩,
               ⟨(some 18), .load false 1 (.tmp 17), none, [], false, false⟩,
               ⟨(some 19), .call 60 [(.tmp 18), (.const (.int .i64 (-48))), (.const (.int .i64 48))], none, [], false, false⟩,
               ⟨(some 20), .un .not (.tmp 19), none, [], false, false⟩,
               ⟨(some 21), .move (.tmp 20), none, [], false, false⟩,
               ⟨(some 22), .move (.tmp 5), (some (21, false)), [], false, false⟩,
               ⟨(some 23), .fieldAddr 13 (.tmp 1), (some (21, false)), [], false, false⟩,
               ⟨(some 24), .indexAddr (some 12) 1 (.tmp 23) (.tmp 22), (some (21, false)), [], false, false⟩,
               ⟨(some 25), .load false 1 (.tmp 24), (some (21, false)), [], false, false⟩,
               ⟨(some 26), .call 60 [(.tmp 25), (.const (.int .i64 (-48))), (.const (.int .i64 48))], (some (21, false)), [], false, false⟩,
               ⟨(some 27), .un .not (.tmp 26), (some (21, false)), [], false, false⟩,
               ⟨(some 28), .pick (.tmp 21) (.const (.bool true)) (.tmp 27), none, [], false, false⟩])
            (.cond (.tmp 28) (.seq (.region false [⟨(some 2), .move (.const (.int .i64 2)), none, [], false, false⟩])
              (.ret))
             (.skip)))
           (.region true [⟨(some 29), .move (.tmp 3), none, [], false, false⟩,
              ⟨(some 30), .move (.tmp 5), none, [], false, false⟩,
              ⟨(some 31), .fieldAddr 1 (.tmp 1), none, [], false, false⟩,
              ⟨(some 32), .indexAddr (some 12) 1 (.tmp 31) (.tmp 30), none, [], false, false⟩,
              ⟨(some 33), .load false 1 (.tmp 32), none, [], false, false⟩,
              ⟨(some 34), .bin .add (.tmp 29) (.tmp 33), none, [], false, false⟩,
              ⟨(some 35), .move (.tmp 4), none, [], false, false⟩,
              ⟨(some 36), .move (.tmp 5), none, [], false, false⟩,
              ⟨(some 37), .fieldAddr 13 (.tmp 1), none, [], false, false⟩,
              ⟨(some 38), .indexAddr (some 12) 1 (.tmp 37) (.tmp 36), none, [], false, false⟩,
              ⟨(some 39), .load false 1 (.tmp 38), none, [], false, false⟩,
              ⟨(some 40), .bin .add (.tmp 35) (.tmp 39), none, [], false, false⟩,
              ⟨(some 3), .move (.tmp 34), none, [], false, false⟩,
              ⟨(some 4), .move (.tmp 40), none, [], false, false⟩])))
         (.region false [⟨(some 13), .move (.tmp 5), none, [], false, false⟩,
            ⟨(some 14), .bin .add (.tmp 13) (.const (.int .i64 1)), none, [], false, false⟩,
            ⟨(some 5), .move (.tmp 14), none, [], false, false⟩]))))))
    (.seq (.seq (.region false [⟨(some 41), .move (.tmp 3), none, [], false, false⟩,
         ⟨(some 42), .bin .neq (.tmp 41) (.const (.int .i64 12)), none, [], false, false⟩,
         ⟨(some 43), .move (.tmp 42), none, [], false, false⟩,
         ⟨(some 44), .move (.tmp 4), (some (43, false)), [], false, false⟩,
         ⟨(some 45), .bin .neq (.tmp 44) (.const (.int .i64 0)), (some (43, false)), [], false, false⟩,
         ⟨(some 46), .pick (.tmp 43) (.const (.bool true)) (.tmp 45), none, [], false, false⟩])
      (.cond (.tmp 46) (.seq (.region false [⟨(some 2), .move (.const (.int .i64 25)), none, [], false, false⟩])
        (.ret))
       (.skip)))
     (.seq (.region false [⟨(some 47), .load true 25 (.tmp 1), none, [], false, false⟩,
         ⟨(some 48), .call 89 [(.tmp 47)], none, [], false, false⟩,
         ⟨(some 6), .push [(.int .i64 0), (.int .i64 0), (.int .i64 0)], none, [], false, false⟩,
         ⟨none, .store 3 (.tmp 6) (.tmp 48), none, [], false, false⟩])
      (.seq (.seq (.region false [⟨(some 49), .indexAddr (some 3) 1 (.tmp 6) (.const (.int .i64 0)), none, [], false, false⟩,
           ⟨(some 50), .load false 1 (.tmp 49), none, [], false, false⟩,
           ⟨(some 51), .indexAddr (some 3) 1 (.tmp 6) (.const (.int .i64 1)), none, [], false, false⟩,
           ⟨(some 52), .load false 1 (.tmp 51), none, [], false, false⟩,
           ⟨(some 53), .indexAddr (some 3) 1 (.tmp 6) (.const (.int .i64 2)), none, [], false, false⟩,
           ⟨(some 54), .load false 1 (.tmp 53), none, [], false, false⟩,
           ⟨(some 55), .max [(.tmp 50), (.tmp 52), (.tmp 54)], none, [], false, false⟩,
           ⟨(some 56), .bin .gtr (.tmp 55) (.const (.int .i64 300)), none, [], false, false⟩])
        (.cond (.tmp 56) (.seq (.region false [⟨(some 2), .move (.const (.int .i64 8)), none, [], false, false⟩])
          (.ret))
         (.skip)))
       (.seq (.region false [⟨(some 2), .move (.const (.int .i64 0)), none, [], false, false⟩])
        (.ret)))))))),
 [.tmp 2], .pure, 57⟩

/-- agraffe/agrafferef06.IsNote -/
def ef24 : EFun := ⟨
 .seq (.region false [⟨(some 2), .move (.const (.bool false)), none, [], false, false⟩])
 (.seq (.region false [⟨(some 3), .move (.tmp 0), none, [], false, false⟩,
     ⟨(some 4), .call 60 [(.tmp 3), (.const (.int .i64 0)), (.const (.int .i64 87))], none, [], false, false⟩,
     ⟨(some 2), .move (.tmp 4), none, [], false, false⟩])
  (.ret)),
 [.tmp 2], .pure, 5⟩

/-- (agraffe/agrafferef06.Twelfths).Pitch -/
def ef26 : EFun := ⟨
 .seq (.region false [⟨(some 1), .box (.tmp 0), none, [], false, false⟩,
    ⟨(some 2), .push [(.int .i64 0), (.int .i64 0), (.int .i64 0), (.int .i64 0)], none, [], false, false⟩])
 (.seq (.region false [⟨(some 3), .indexAddr (some 3) 1 (.tmp 1) (.const (.int .i64 0)), none, [], false, false⟩,
     ⟨(some 4), .load false 1 (.tmp 3), none, [], false, false⟩,
     ⟨(some 5), .indexAddr (some 3) 1 (.tmp 1) (.const (.int .i64 1)), none, [], false, false⟩,
     ⟨(some 6), .load false 1 (.tmp 5), none, [], false, false⟩,
     ⟨(some 7), .indexAddr (some 3) 1 (.tmp 1) (.const (.int .i64 2)), none, [], false, false⟩,
     ⟨(some 8), .load false 1 (.tmp 7), none, [], false, false⟩,
     ⟨(some 9), .build [(.int .i64 0), (.int .i64 0), (.int .i64 0), (.int .i64 0)] [(0, 1, (.tmp 4)), (1, 1, (.tmp 6)), (2, 1, (.tmp 8)), (3, 1, (.const (.int .i64 12)))], none, [], false, false⟩,
     ⟨(some 10), .call 90 [(.tmp 9)], none, [], false, false⟩,
     ⟨none, .store 4 (.tmp 2) (.tmp 10), none, [], false, false⟩])
  (.ret)),
 [.cell 2 true 4], .pure, 11⟩

/-- agraffe/agrafferef06.Interval -/
def ef27 : EFun := ⟨
 .seq (.region false [⟨(some 3), .box (.tmp 0), none, [], false, false⟩,
    ⟨(some 6), .push [(.int .i64 0), (.int .i64 0), (.int .i64 0)], none, [], false, false⟩])
 (.seq (.region true [⟨(some 7), .load true 25 (.tmp 3), none, [], false, false⟩,
     ⟨(some 8), .move (.tmp 2), none, [], false, false⟩,
     ⟨(some 9), .call 92 [(.tmp 7), (.tmp 8)], none, [], false, true⟩,
     ⟨(some 10), .load true 25 (.tmp 3), none, [], false, false⟩,
     ⟨(some 11), .move (.tmp 1), none, [], false, false⟩,
     ⟨(some 12), .call 92 [(.tmp 10), (.tmp 11)], none, [], false, false⟩,
     ⟨(some 13), .call 91 [(.tmp 9), (.const (.int .i64 (-1))), (.tmp 12)], none, [], false, false⟩,
     ⟨none, .store 3 (.tmp 6) (.tmp 13), none, [], false, false⟩])
  (.ret)),
 [.cell 6 true 3], .pure, 14⟩

/-- agraffe/temper.Beats -/
def ef28 : EFun := ⟨
 .seq (.region false [⟨(some 3), .box (.tmp 0), none, [], false, false⟩,
    ⟨(some 5), .box (.tmp 2), none, [], false, false⟩,
    ⟨(some 6), .push [(.int .i64 0), (.int .i64 0)], none, [], false, false⟩,
    ⟨(some 7), .move (.const (.int .i64 0)), none, [], false, false⟩])
 (.seq (.region true [⟨(some 12), .load true 25 (.tmp 3), none, [], false, false⟩,
     ⟨(some 13), .move (.tmp 1), none, [], false, false⟩,
     ⟨(some 14), .call 93 [(.tmp 13)], none, [], false, true⟩,
     ⟨(some 15), .buildSlice 1 1 [(.bool false)] [(0, 1, (.tmp 14))], none, [], false, false⟩,
     ⟨(some 16), .call 84 [(.tmp 12), (.tmp 15)], none, [], false, false⟩,
     ⟨(some 11), .move (.tmp 16), none, [], false, false⟩,
     ⟨(some 17), .extract (.tmp 11) 0, none, [], false, false⟩,
     ⟨(some 18), .extract (.tmp 11) 1, none, [], false, false⟩,
     ⟨(some 8), .move (.tmp 17), none, [], false, false⟩,
     ⟨(some 9), .move (.tmp 18), none, [], false, false⟩])
  (.seq (.seq (.region false [⟨(some 19), .move (.tmp 9), none, [], false, false⟩,
       ⟨(some 20), .bin .neq (.tmp 19) (.const (.int .i64 0)), none, [], false, false⟩])
    (.cond (.tmp 20) (.seq (.region false [⟨(some 21), .build [(.int .i64 0), (.int .i64 0)] [], none, [], false, false⟩,
         ⟨(some 22), .move (.tmp 9), none, [], false, false⟩,
         ⟨none, .store 2 (.tmp 6) (.tmp 21), none, [], false, false⟩,
         ⟨(some 7), .move (.tmp 22), none, [], false, false⟩])
      (.ret))
     (.skip)))
   (.seq (.seq (.region false [⟨(some 23), .load true 4 (.tmp 5), none, [], false, false⟩,
        ⟨(some 24), .call 35 [(.tmp 23)], none, [], false, false⟩,
        ⟨(some 10), .move (.tmp 24), none, [], false, false⟩])
     (.seq (.region false [⟨(some 25), .move (.tmp 10), none, [], false, false⟩,
         ⟨(some 26), .bin .neq (.tmp 25) (.const (.int .i64 0)), none, [], false, false⟩])
      (.cond (.tmp 26) (.seq (.region false [⟨(some 27), .build [(.int .i64 0), (.int .i64 0)] [], none, [], false, false⟩,
           ⟨(some 28), .move (.tmp 10), none, [], false, false⟩,
           ⟨none, .store 2 (.tmp 6) (.tmp 27), none, [], false, false⟩,
           ⟨(some 7), .move (.tmp 28), none, [], false, false⟩])
        (.ret))
       (.skip))))
    (.seq (.region false [⟨(some 29), .move (.tmp 8), none, [], false, false⟩,
        ⟨(some 30), .move (.tmp 1), none, [], false, false⟩,
        ⟨(some 31), .load true 4 (.tmp 5), none, [], false, false⟩,
        ⟨(some 32), .call 94 [(.tmp 29), (.tmp 30), (.tmp 31)], none, [], false, false⟩,
        ⟨(some 33), .extract (.tmp 32) 0, none, [], false, false⟩,
        ⟨(some 34), .extract (.tmp 32) 1, none, [], false, false⟩,
        ⟨none, .store 2 (.tmp 6) (.tmp 33), none, [], false, false⟩,
        ⟨(some 7), .move (.tmp 34), none, [], false, false⟩])
     (.ret))))),
 [.cell 6 true 2, .tmp 7], .pure, 35⟩

/-- agraffe/temper.Frequency -/
def ef31 : EFun := ⟨
 .seq (.region false [⟨(some 3), .box (.tmp 0), none, [], false, false⟩,
    ⟨(some 6), .push [(.int .i64 0), (.int .i64 0)], none, [], false, false⟩,
    ⟨(some 7), .move (.const (.int .i64 0)), none, [], false, false⟩])
 (.seq (.region true [⟨(some 11), .load true 25 (.tmp 3), none, [], false, false⟩,
     ⟨(some 12), .move (.tmp 1), none, [], false, false⟩,
     ⟨(some 13), .call 93 [(.tmp 12)], none, [], false, true⟩,
     ⟨(some 14), .move (.tmp 2), none, [], false, false⟩,
     ⟨(some 15), .call 85 [(.tmp 14)], none, [], false, true⟩,
     ⟨(some 16), .buildSlice 1 2 [(.bool false), (.bool false)] [(0, 1, (.tmp 13)), (1, 1, (.tmp 15))], none, [], false, false⟩,
     ⟨(some 17), .call 84 [(.tmp 11), (.tmp 16)], none, [], false, false⟩,
     ⟨(some 10), .move (.tmp 17), none, [], false, false⟩,
     ⟨(some 18), .extract (.tmp 10) 0, none, [], false, false⟩,
     ⟨(some 19), .extract (.tmp 10) 1, none, [], false, false⟩,
     ⟨(some 8), .move (.tmp 18), none, [], false, false⟩,
     ⟨(some 9), .move (.tmp 19), none, [], false, false⟩])
  (.seq (.seq (.region false [⟨(some 20), .move (.tmp 9), none, [], false, false⟩,
       ⟨(some 21), .bin .neq (.tmp 20) (.const (.int .i64 0)), none, [], false, false⟩])
    (.cond (.tmp 21) (.seq (.region false [⟨(some 22), .build [(.int .i64 0), (.int .i64 0)] [], none, [], false, false⟩,
         ⟨(some 23), .move (.tmp 9), none, [], false, false⟩,
         ⟨none, .store 2 (.tmp 6) (.tmp 22), none, [], false, false⟩,
         ⟨(some 7), .move (.tmp 23), none, [], false, false⟩])
      (.ret))
     (.skip)))
   (.seq (.region false [⟨(some 24), .move (.tmp 8), none, [], false, false⟩,
       ⟨(some 25), .move (.tmp 1), none, [], false, false⟩,
       ⟨(some 26), .move (.tmp 2), none, [], false, false⟩,
       ⟨(some 27), .call 96 [(.tmp 24), (.tmp 25), (.tmp 26)], none, [], false, false⟩,
       ⟨(some 28), .extract (.tmp 27) 0, none, [], false, false⟩,
       ⟨(some 29), .extract (.tmp 27) 1, none, [], false, false⟩,
       ⟨none, .store 2 (.tmp 6) (.tmp 28), none, [], false, false⟩,
       ⟨(some 7), .move (.tmp 29), none, [], false, false⟩])
    (.ret)))),
 [.cell 6 true 2, .tmp 7], .pure, 30⟩

/-- agraffe/temper.CheckTest -/
def ef35 : EFun := ⟨
 .seq (.region false [⟨(some 1), .box (.tmp 0), none, [], false, false⟩,
    ⟨(some 2), .move (.const (.int .i64 0)), none, [], false, false⟩])
 (.seq (.seq (.region false [⟨(some 7), .fieldAddr 0 (.tmp 1), none, [], false, false⟩,
      ⟨(some 8), .load false 1 (.tmp 7), none, [], false, false⟩,
      ⟨(some 9), .call 85 [(.tmp 8)], none, [], false, false⟩,
      ⟨(some 10), .un .not (.tmp 9), none, [], false, false⟩,
      ⟨(some 11), .move (.tmp 10), none, [], false, false⟩,
      ⟨(some 12), .fieldAddr 1 (.tmp 1), (some (11, false)), [], false, false⟩,
      ⟨(some 13), .load false 1 (.tmp 12), (some (11, false)), [], false, false⟩,
      ⟨(some 14), .call 85 [(.tmp 13)], (some (11, false)), [], false, false⟩,
      ⟨(some 15), .un .not (.tmp 14), (some (11, false)), [], false, false⟩,
      ⟨(some 16), .pick (.tmp 11) (.const (.bool true)) (.tmp 15), none, [], false, false⟩,
      ⟨(some 17), .move (.tmp 16), none, [], false, false⟩,
      ⟨(some 18), .fieldAddr 2 (.tmp 1), (some (17, false)), [], false, false⟩,
      ⟨(some 19), .load false 1 (.tmp 18), (some (17, false)), [], false, false⟩,
      ⟨(some 20), .call 97 [(.tmp 19)], (some (17, false)), [], false, false⟩,
      ⟨(some 21), .un .not (.tmp 20), (some (17, false)), [], false, false⟩,
      ⟨(some 22), .pick (.tmp 17) (.const (.bool true)) (.tmp 21), none, [], false, false⟩,
      ⟨(some 23), .move (.tmp 22), none, [], false, false⟩,
      ⟨(some 24), .fieldAddr 3 (.tmp 1), (some (23, false)), [], false, false⟩,
      ⟨(some 25), .load false 1 (.tmp 24), (some (23, false)), [], false, false⟩,
      ⟨(some 26), .call 97 [(.tmp 25)], (some (23, false)), [], false, false⟩,
      ⟨(some 27), .un .not (.tmp 26), (some (23, false)), [], false, false⟩,
      ⟨(some 28), .pick (.tmp 23) (.const (.bool true)) (.tmp 27), none, [], false, false⟩])
   (.cond (.tmp 28) (.seq (.region false [⟨(some 2), .move (.const (.int .i64 2)), none, [], false, false⟩])
     (.ret))
    (.skip)))
  (.seq (.seq (.region false [⟨(some 29), .fieldAddr 1 (.tmp 1), none, [], false, false⟩,
       ⟨(some 30), .load false 1 (.tmp 29), none, [], false, false⟩,
       ⟨(some 31), .fieldAddr 0 (.tmp 1), none, [], false, false⟩,
       ⟨(some 32), .load false 1 (.tmp 31), none, [], false, false⟩,
       ⟨(some 33), .bin .leq (.tmp 30) (.tmp 32), none, [], false, false⟩])
    (.cond (.tmp 33) (.seq (.region false [⟨(some 2), .move (.const (.int .i64 9)), none, [], false, false⟩])
      (.ret))
     (.skip)))
   (.seq (.seq (.region false [⟨(some 34), .fieldAddr 2 (.tmp 1), none, [], false, false⟩,
        ⟨(some 35), .load false 1 (.tmp 34), none, [], false, false⟩,
        ⟨(some 36), .fieldAddr 3 (.tmp 1), none, [], false, false⟩,
        ⟨(some 37), .load false 1 (.tmp 36), none, [], false, false⟩,
        ⟨(some 38), .build [(.int .i64 0), (.int .i64 0)] [(0, 1, (.tmp 35)), (1, 1, (.tmp 37))], none, [], false, false⟩,
        ⟨(some 39), .move (.const (.int .i64 0)), none, [], false, false⟩])
     (.block 0 (.loop (some [38, 39]) (
       .seq (.region false [⟨(some 40), .bin .lss (.tmp 39) (.const (.int .i64 2)), none, [], false, false⟩])
        (.seq (.cond (.tmp 40) (.skip)
          (.exit 0))
         (.seq (.block 1 (.seq (.region false [⟨(some 41), .index 2 1 false (.tmp 38) (.tmp 39), none, [], false, false⟩,
               ⟨(some 4), .move (.tmp 41), none, [], false, false⟩])
            (.seq (.region false [⟨(some 43), .move (.tmp 4), none, [], false, false⟩,
                ⟨(some 44), .call 98 [(.tmp 43)], none, [], false, false⟩,
                ⟨(some 42), .move (.tmp 44), none, [], false, false⟩,
                ⟨(some 45), .extract (.tmp 42) 0, none, [], false, false⟩,
                ⟨(some 46), .extract (.tmp 42) 1, none, [], false, false⟩,
                ⟨(some 5), .push [(.int .i64 0), (.int .i64 0), (.int .i64 0)], none, [], false, false⟩,
                ⟨none, .store 3 (.tmp 5) (.tmp 45), none, [], false, false⟩,
                ⟨(some 6), .move (.tmp 46), none, [], false, false⟩])
             (.seq (.region false [⟨(some 47), .move (.tmp 6), none, [], false, false⟩,
                 ⟨(some 48), .un .not (.tmp 47), none, [], false, false⟩])
              (.cond (.tmp 48) (.seq (.region false [⟨(some 2), .move (.const (.int .i64 15)), none, [], false, false⟩])
                (.ret))
               (.skip))))))
          (.region false [⟨(some 49), .bin .add (.tmp 39) (.const (.int .i64 1)), none, [], false, false⟩,
             ⟨(some 39), .move (.tmp 49), none, [], false, false⟩])))))))
    (.seq (.region false [⟨(some 2), .move (.const (.int .i64 0)), none, [], false, false⟩])
     (.ret))))),
 [.tmp 2], .pure, 50⟩

/-- agraffe/agrafferef06.CheckTest -/
def ef36 : EFun := ⟨
 .seq (.region false [⟨(some 1), .box (.tmp 0), none, [], false, false⟩,
    ⟨(some 2), .move (.const (.int .i64 0)), none, [], false, false⟩])
 (.seq (.seq (.region false [⟨(some 7), .fieldAddr 0 (.tmp 1), none, [], false, false⟩,
      ⟨(some 8), .load false 1 (.tmp 7), none, [], false, false⟩,
      ⟨(some 9), .call 24 [(.tmp 8)], none, [], false, false⟩,
      ⟨(some 10), .un .not (.tmp 9), none, [], false, false⟩,
      ⟨(some 11), .move (.tmp 10), none, [], false, false⟩,
      ⟨(some 12), .fieldAddr 1 (.tmp 1), (some (11, false)), [], false, false⟩,
      ⟨(some 13), .load false 1 (.tmp 12), (some (11, false)), [], false, false⟩,
      ⟨(some 14), .call 24 [(.tmp 13)], (some (11, false)), [], false, false⟩,
      ⟨(some 15), .un .not (.tmp 14), (some (11, false)), [], false, false⟩,
      ⟨(some 16), .pick (.tmp 11) (.const (.bool true)) (.tmp 15), none, [], false, false⟩,
      ⟨(some 17), .move (.tmp 16), none, [], false, false⟩,
      ⟨(some 18), .fieldAddr 2 (.tmp 1), (some (17, false)), [], false, false⟩,
      ⟨(some 19), .load false 1 (.tmp 18), (some (17, false)), [], false, false⟩,
      ⟨(some 20), .call 60 [(.tmp 19), (.const (.int .i64 1)), (.const (.int .i64 16))], (some (17, false)), [], false, false⟩,
      ⟨(some 21), .un .not (.tmp 20), (some (17, false)), [], false, false⟩,
      ⟨(some 22), .pick (.tmp 17) (.const (.bool true)) (.tmp 21), none, [], false, false⟩,
      ⟨(some 23), .move (.tmp 22), none, [], false, false⟩,
      ⟨(some 24), .fieldAddr 3 (.tmp 1), (some (23, false)), [], false, false⟩,
      ⟨(some 25), .load false 1 (.tmp 24), (some (23, false)), [], false, false⟩,
      ⟨(some 26), .call 60 [(.tmp 25), (.const (.int .i64 1)), (.const (.int .i64 16))], (some (23, false)), [], false, false⟩,
      ⟨(some 27), .un .not (.tmp 26), (some (23, false)), [], false, false⟩,
      ⟨(some 28), .pick (.tmp 23) (.const (.bool true)) (.tmp 27), none, [], false, false⟩])
   (.cond (.tmp 28) (.seq (.region false [⟨(some 2), .move (.const (.int .i64 2)), none, [], false, false⟩])
     (.ret))
    (.skip)))
  (.seq (.seq (.region false [⟨(some 29), .fieldAddr 1 (.tmp 1), none, [], false, false⟩,
       ⟨(some 30), .load false 1 (.tmp 29), none, [], false, false⟩,
       ⟨(some 31), .fieldAddr 0 (.tmp 1), none, [], false, false⟩,
       ⟨(some 32), .load false 1 (.tmp 31), none, [], false, false⟩,
       ⟨(some 33), .bin .leq (.tmp 30) (.tmp 32), none, [], false, false⟩])
    (.cond (.tmp 33) (.seq (.region false [⟨(some 2), .move (.const (.int .i64 9)), none, [], false, false⟩])
      (.ret))
     (.skip)))
   (.seq (.region false [⟨(some 35), .fieldAddr 2 (.tmp 1), none, [], false, false⟩,
       ⟨(some 36), .load false 1 (.tmp 35), none, [], false, false⟩,
       ⟨(some 37), .call 99 [(.tmp 36)], none, [], false, false⟩,
       ⟨(some 34), .move (.tmp 37), none, [], false, false⟩,
       ⟨(some 38), .extract (.tmp 34) 0, none, [], false, false⟩,
       ⟨(some 39), .extract (.tmp 34) 1, none, [], false, false⟩,
       ⟨(some 3), .push [(.int .i64 0), (.int .i64 0), (.int .i64 0)], none, [], false, false⟩,
       ⟨none, .store 3 (.tmp 3) (.tmp 38), none, [], false, false⟩,
       ⟨(some 4), .move (.tmp 39), none, [], false, false⟩])
    (.seq (.region false [⟨(some 41), .fieldAddr 3 (.tmp 1), none, [], false, false⟩,
        ⟨(some 42), .load false 1 (.tmp 41), none, [], false, false⟩,
        ⟨(some 43), .call 99 [(.tmp 42)], none, [], false, false⟩,
        ⟨(some 40), .move (.tmp 43), none, [], false, false⟩,
        ⟨(some 44), .extract (.tmp 40) 0, none, [], false, false⟩,
        ⟨(some 45), .extract (.tmp 40) 1, none, [], false, false⟩,
        ⟨(some 5), .push [(.int .i64 0), (.int .i64 0), (.int .i64 0)], none, [], false, false⟩,
        ⟨none, .store 3 (.tmp 5) (.tmp 44), none, [], false, false⟩,
        ⟨(some 6), .move (.tmp 45), none, [], false, false⟩])
     (.seq (.seq (.region false [⟨(some 46), .move (.tmp 4), none, [], false, false⟩,
          ⟨(some 47), .un .not (.tmp 46), none, [], false, false⟩,
          ⟨(some 48), .move (.tmp 47), none, [], false, false⟩,
          ⟨(some 49), .move (.tmp 6), (some (48, false)), [], false, false⟩,
          ⟨(some 50), .un .not (.tmp 49), (some (48, false)), [], false, false⟩,
          ⟨(some 51), .pick (.tmp 48) (.const (.bool true)) (.tmp 50), none, [], false, false⟩])
       (.cond (.tmp 51) (.seq (.region false [⟨(some 2), .move (.const (.int .i64 15)), none, [], false, false⟩])
         (.ret))
        (.skip)))
      (.seq (.region false [⟨(some 2), .move (.const (.int .i64 0)), none, [], false, false⟩])
       (.ret))))))),
 [.tmp 2], .pure, 52⟩

/-- agraffe/temper.RatioOf -/
def ef37 : EFun := ⟨
 .seq (.region false [⟨(some 2), .move (.const (.int .i64 0)), none, [], false, false⟩,
    ⟨(some 3), .move (.const (.int .i64 0)), none, [], false, false⟩,
    ⟨(some 4), .move (.const (.int .i64 0)), none, [], false, false⟩])
 (.seq (.region false [⟨(some 8), .call 100 [], none, [], false, false⟩,
     ⟨(some 9), .move (.tmp 0), none, [], false, false⟩,
     ⟨(some 10), .mapGet (.int .i64) (.agg #[(.int .i64 0), (.int .i64 0)]) true (.tmp 8) (.tmp 9), none, [], false, false⟩,
     ⟨(some 7), .move (.tmp 10), none, [], false, false⟩,
     ⟨(some 11), .extract (.tmp 7) 0, none, [], false, false⟩,
     ⟨(some 12), .extract (.tmp 7) 1, none, [], false, false⟩,
     ⟨(some 5), .push [(.int .i64 0), (.int .i64 0)], none, [], false, false⟩,
     ⟨none, .store 2 (.tmp 5) (.tmp 11), none, [], false, false⟩,
     ⟨(some 6), .move (.tmp 12), none, [], false, false⟩])
  (.seq (.seq (.region false [⟨(some 13), .move (.tmp 6), none, [], false, false⟩,
       ⟨(some 14), .un .not (.tmp 13), none, [], false, false⟩])
    (.cond (.tmp 14) (.seq (.region false [⟨(some 2), .move (.const (.int .i64 0)), none, [], false, false⟩,
         ⟨(some 3), .move (.const (.int .i64 0)), none, [], false, false⟩,
         ⟨(some 4), .move (.const (.int .i64 12)), none, [], false, false⟩])
      (.ret))
     (.skip)))
   (.seq (.region true [⟨(some 15), .fieldAddr 0 (.tmp 5), none, [], false, false⟩,
       ⟨(some 16), .load false 1 (.tmp 15), none, [], false, false⟩,
       ⟨(some 17), .fieldAddr 1 (.tmp 5), none, [], false, false⟩,
       ⟨(some 18), .load false 1 (.tmp 17), none, [], false, false⟩,
       ⟨(some 2), .move (.tmp 16), none, [], false, false⟩,
       ⟨(some 3), .move (.tmp 18), none, [], false, false⟩,
       ⟨(some 4), .move (.const (.int .i64 0)), none, [], false, false⟩])
    (.ret)))),
 [.tmp 2, .tmp 3, .tmp 4], .pure, 19⟩

end Go.Abs.T
