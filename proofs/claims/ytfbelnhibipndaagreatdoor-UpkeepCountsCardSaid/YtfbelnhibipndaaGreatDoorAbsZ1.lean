/- The functions, compiled for the abstract evaluator. Written by wip/abs/Print.lean. -/
import Derived.Test.YtfbelnhibipndaaGreatDoorAbsZ0
set_option linter.unusedSimpArgs false
set_option linter.unusedVariables false
set_option maxRecDepth 100000
set_option maxHeartbeats 0
namespace Go.Abs.Z
open Go Go.Abs
/-- agraffe/agraffelaw07.UpkeepCounts -/
def ef4 : EFun := ⟨
 .seq (.region false [⟨(some 2), .box (.tmp 0), none, [], false, false⟩,
    ⟨(some 4), .move (.const (.bool false)), none, [], false, false⟩])
 (.seq (.seq (.region false [⟨(some 8), .call 8 [], none, [], false, false⟩,
      ⟨(some 9), .un .not (.tmp 8), none, [], false, false⟩])
   (.cond (.tmp 9) (.seq (.region false [⟨(some 4), .move (.const (.bool false)), none, [], false, false⟩])
     (.ret))
    (.skip)))
  (.seq (.seq (.region false [⟨(some 10), .fieldAddr 0 (.tmp 2), none, [], false, false⟩,
       ⟨(some 11), .load true 25 (.tmp 10), none, [], false, false⟩,
       ⟨(some 12), .call 9 [(.tmp 11)], none, [], false, false⟩,
       ⟨(some 13), .un .not (.tmp 12), none, [], false, false⟩,
       ⟨(some 14), .move (.tmp 13), none, [], false, false⟩,
       ⟨(some 15), .move (.tmp 1), (some (14, false)), [], false, false⟩,
       ⟨(some 16), .call 18 [(.tmp 15)], (some (14, false)), [], false, false⟩,
       ⟨(some 17), .call 10 [(.tmp 16), (.const (.int .i64 6))], (some (14, false)), [], false, false⟩,
       ⟨(some 18), .un .not (.tmp 17), (some (14, false)), [], false, false⟩,
       ⟨(some 19), .pick (.tmp 14) (.const (.bool true)) (.tmp 18), none, [], false, false⟩])
    (.cond (.tmp 19) (.seq (.region false [⟨(some 4), .move (.const (.bool true)), none, [], false, false⟩])
      (.ret))
     (.skip)))
   (.seq (.seq (.region false [⟨(some 20), .move (.tmp 1), none, [], false, false⟩,
        ⟨(some 21), .call 20 [(.tmp 20)], none, [], false, false⟩,
        ⟨(some 22), .call 19 [(.tmp 21)], none, [], false, false⟩,
        ⟨(some 23), .move (.tmp 1), none, [], false, false⟩,
        ⟨(some 24), .call 21 [(.tmp 23)], none, [], false, false⟩,
        ⟨(some 25), .bin .neq (.tmp 22) (.tmp 24), none, [], false, false⟩])
     (.cond (.tmp 25) (.seq (.region false [⟨(some 4), .move (.const (.bool false)), none, [], false, false⟩])
       (.ret))
      (.skip)))
    (.seq (.region true [⟨(some 27), .fieldAddr 0 (.tmp 2), none, [], false, false⟩,
        ⟨(some 28), .load true 25 (.tmp 27), none, [], false, false⟩,
        ⟨(some 29), .fieldAddr 25 (.tmp 2), none, [], false, false⟩,
        ⟨(some 30), .load false 1 (.tmp 29), none, [], false, false⟩,
        ⟨(some 31), .move (.tmp 1), none, [], false, false⟩,
        ⟨(some 32), .call 20 [(.tmp 31)], none, [], false, true⟩,
        ⟨(some 33), .call 22 [(.tmp 28), (.tmp 30), (.tmp 32)], none, [], false, false⟩,
        ⟨(some 26), .move (.tmp 33), none, [], false, false⟩,
        ⟨(some 34), .extract (.tmp 26) 0, none, [], false, false⟩,
        ⟨(some 35), .extract (.tmp 26) 1, none, [], false, false⟩,
        ⟨(some 5), .move (.tmp 34), none, [], false, false⟩,
        ⟨(some 6), .move (.tmp 35), none, [], false, false⟩])
     (.seq (.region false [⟨(some 36), .fieldAddr 0 (.tmp 2), none, [], false, false⟩,
         ⟨(some 37), .load true 25 (.tmp 36), none, [], false, false⟩,
         ⟨(some 38), .fieldAddr 25 (.tmp 2), none, [], false, false⟩,
         ⟨(some 39), .load false 1 (.tmp 38), none, [], false, false⟩,
         ⟨(some 40), .call 15 [(.tmp 37), (.tmp 39)], none, [], false, false⟩,
         ⟨(some 7), .move (.tmp 40), none, [], false, false⟩])
      (.seq (.seq (.region false [⟨(some 41), .move (.tmp 7), none, [], false, false⟩,
           ⟨(some 42), .bin .eql (.tmp 41) (.const (.int .i64 0)), none, [], false, false⟩])
        (.cond (.tmp 42) (.region false [⟨(some 43), .move (.tmp 1), none, [], false, false⟩,
            ⟨(some 44), .call 21 [(.tmp 43)], none, [], false, false⟩,
            ⟨(some 7), .move (.tmp 44), none, [], false, false⟩])
         (.skip)))
       (.seq (.seq (.region false [⟨(some 45), .move (.tmp 7), none, [], false, false⟩,
            ⟨(some 46), .bin .neq (.tmp 45) (.const (.int .i64 0)), none, [], false, false⟩])
         (.cond (.tmp 46) (.seq (.region false [⟨(some 47), .move (.tmp 6), none, [], false, false⟩,
              ⟨(some 48), .move (.tmp 7), none, [], false, false⟩,
              ⟨(some 49), .bin .eql (.tmp 47) (.tmp 48), none, [], false, false⟩,
              ⟨(some 50), .move (.tmp 49), none, [], false, false⟩,
              ⟨(some 51), .move (.tmp 5), (some (50, true)), [], false, false⟩,
              ⟨(some 52), .len false (.tmp 51), (some (50, true)), [], false, false⟩,
              ⟨(some 53), .bin .eql (.tmp 52) (.const (.int .i64 0)), (some (50, true)), [], false, false⟩,
              ⟨(some 54), .pick (.tmp 50) (.tmp 53) (.const (.bool false)), none, [], false, false⟩,
              ⟨(some 4), .move (.tmp 54), none, [], false, false⟩])
           (.ret))
          (.skip)))
        (.seq (.region false [⟨(some 55), .move (.tmp 6), none, [], false, false⟩,
            ⟨(some 56), .bin .eql (.tmp 55) (.const (.int .i64 0)), none, [], false, false⟩,
            ⟨(some 57), .move (.tmp 56), none, [], false, false⟩,
            ⟨(some 58), .move (.tmp 5), (some (57, true)), [], false, false⟩,
            ⟨(some 59), .fieldAddr 0 (.tmp 2), (some (57, true)), [], false, false⟩,
            ⟨(some 60), .load true 25 (.tmp 59), (some (57, true)), [], false, false⟩,
            ⟨(some 61), .fieldAddr 25 (.tmp 2), (some (57, true)), [], false, false⟩,
            ⟨(some 62), .load false 1 (.tmp 61), (some (57, true)), [], false, false⟩,
            ⟨(some 63), .move (.tmp 1), (some (57, true)), [], false, false⟩,
            ⟨(some 64), .call 24 [(.tmp 60), (.tmp 62), (.tmp 63)], (some (57, true)), [], false, false⟩,
            ⟨(some 65), .call 23 [(.tmp 58), (.tmp 64)], (some (57, true)), [], false, false⟩,
            ⟨(some 66), .pick (.tmp 57) (.tmp 65) (.const (.bool false)), none, [], false, false⟩,
            ⟨(some 4), .move (.tmp 66), none, [], false, false⟩])
         (.ret))))))))),
 [.tmp 4], .pure, 67⟩

/-- agraffe/agraffelaw07.awake -/
def ef8 : EFun := ⟨
 .seq (.region false [⟨(some 0), .move (.const (.bool false)), none, [], false, false⟩])
 (.seq (.region false [⟨(some 8), .call 44 [], none, [], false, false⟩,
     ⟨(some 9), .buildSlice 1 2 [(.int .i64 0), (.int .i64 0)] [(0, 1, (.const (.int .i64 0))), (1, 1, (.const (.int .i64 1)))], none, [], false, false⟩,
     ⟨(some 10), .call 40 [(.tmp 8), (.tmp 9)], none, [], false, false⟩,
     ⟨(some 7), .move (.tmp 10), none, [], false, false⟩,
     ⟨(some 11), .extract (.tmp 7) 0, none, [], false, false⟩,
     ⟨(some 12), .extract (.tmp 7) 1, none, [], false, false⟩,
     ⟨(some 1), .move (.tmp 11), none, [], false, false⟩,
     ⟨(some 2), .move (.tmp 12), none, [], false, false⟩])
  (.seq (.region false [⟨(some 14), .call 45 [(.const (.int .i64 10000)), (.const (.int .i64 200)), (.const (.int .i64 500))], none, [], false, false⟩,
      ⟨(some 13), .move (.tmp 14), none, [], false, false⟩,
      ⟨(some 15), .extract (.tmp 13) 0, none, [], false, false⟩,
      ⟨(some 16), .extract (.tmp 13) 1, none, [], false, false⟩,
      ⟨(some 3), .move (.tmp 15), none, [], false, false⟩,
      ⟨(some 4), .move (.tmp 16), none, [], false, false⟩])
   (.seq (.region false [⟨(some 18), .build [(.int .i64 0), (.int .i64 0), (.int .i64 0), (.int .i64 0)] [(0, 1, (.const (.int .i64 400))), (1, 1, (.const (.int .i64 10))), (2, 1, (.const (.int .i64 50))), (3, 1, (.const (.int .i64 400)))], none, [], false, false⟩,
       ⟨(some 19), .build [(.int .i64 0), (.int .i64 0)] [(1, 1, (.const (.int .i64 500)))], none, [], false, false⟩,
       ⟨(some 20), .buildSlice 2 1 [(.int .i64 0), (.int .i64 0)] [(0, 2, (.tmp 19))], none, [], false, false⟩,
       ⟨(some 21), .call 46 [(.tmp 18), (.tmp 20), (.const (.int .i64 2))], none, [], false, false⟩,
       ⟨(some 17), .move (.tmp 21), none, [], false, false⟩,
       ⟨(some 22), .extract (.tmp 17) 0, none, [], false, false⟩,
       ⟨(some 23), .extract (.tmp 17) 1, none, [], false, false⟩,
       ⟨(some 5), .move (.tmp 22), none, [], false, false⟩,
       ⟨(some 6), .move (.tmp 23), none, [], false, false⟩])
    (.seq (.region false [⟨(some 24), .move (.tmp 2), none, [], false, false⟩,
        ⟨(some 25), .bin .eql (.tmp 24) (.const (.int .i64 0)), none, [], false, false⟩,
        ⟨(some 26), .move (.tmp 25), none, [], false, false⟩,
        ⟨(some 27), .move (.tmp 1), (some (26, true)), [], false, false⟩,
        ⟨(some 28), .len false (.tmp 27), (some (26, true)), [], false, false⟩,
        ⟨(some 29), .bin .eql (.tmp 28) (.const (.int .i64 1)), (some (26, true)), [], false, false⟩,
        ⟨(some 30), .pick (.tmp 26) (.tmp 29) (.const (.bool false)), none, [], false, false⟩,
        ⟨(some 31), .move (.tmp 30), none, [], false, false⟩,
        ⟨(some 32), .move (.tmp 1), (some (31, true)), [], false, false⟩,
        ⟨(some 33), .indexAddr none 1 (.tmp 32) (.const (.int .i64 0)), (some (31, true)), [], false, false⟩,
        ⟨(some 34), .load false 1 (.tmp 33), (some (31, true)), [], false, false⟩,
        ⟨(some 35), .buildSlice 1 1 [(.int .i64 0)] [(0, 1, (.const (.int .i64 36)))], (some (31, true)), [], false, false⟩,
        ⟨(some 36), .call 23 [(.tmp 34), (.tmp 35)], (some (31, true)), [], false, false⟩,
        ⟨(some 37), .pick (.tmp 31) (.tmp 36) (.const (.bool false)), none, [], false, false⟩,
        ⟨(some 38), .move (.tmp 37), none, [], false, false⟩,
        ⟨(some 39), .move (.tmp 4), (some (38, true)), [], false, false⟩,
        ⟨(some 40), .bin .eql (.tmp 39) (.const (.int .i64 0)), (some (38, true)), [], false, false⟩,
        ⟨(some 41), .pick (.tmp 38) (.tmp 40) (.const (.bool false)), none, [], false, false⟩,
        ⟨(some 42), .move (.tmp 41), none, [], false, false⟩,
        ⟨(some 43), .move (.tmp 3), (some (42, true)), [], false, false⟩,
        ⟨(some 44), .bin .eql (.tmp 43) (.const (.int .i64 2)), (some (42, true)), [], false, false⟩,
        ⟨(some 45), .pick (.tmp 42) (.tmp 44) (.const (.bool false)), none, [], false, false⟩,
        ⟨(some 46), .move (.tmp 45), none, [], false, false⟩,
        ⟨(some 47), .move (.tmp 6), (some (46, true)), [], false, false⟩,
        ⟨(some 48), .bin .eql (.tmp 47) (.const (.int .i64 0)), (some (46, true)), [], false, false⟩,
        ⟨(some 49), .pick (.tmp 46) (.tmp 48) (.const (.bool false)), none, [], false, false⟩,
        ⟨(some 50), .move (.tmp 49), none, [], false, false⟩,
        ⟨(some 51), .move (.tmp 5), (some (50, true)), [], false, false⟩,
        ⟨(some 52), .bin .eql (.tmp 51) (.const (.int .i64 419000)), (some (50, true)), [], false, false⟩,
        ⟨(some 53), .pick (.tmp 50) (.tmp 52) (.const (.bool false)), none, [], false, false⟩,
        ⟨(some 0), .move (.tmp 53), none, [], false, false⟩])
     (.ret))))),
 [.tmp 0], .pure, 54⟩

/-- agraffe/agraffelaw06.Brief -/
def ef9 : EFun := ⟨
 .seq (.region false [⟨(some 1), .box (.tmp 0), none, [], false, false⟩,
    ⟨(some 2), .move (.const (.bool false)), none, [], false, false⟩])
 (.seq (.region false [⟨(some 3), .fieldAddr 0 (.tmp 1), none, [], false, false⟩,
     ⟨(some 4), .load false 1 (.tmp 3), none, [], false, false⟩,
     ⟨(some 5), .len true (.tmp 4), none, [], false, false⟩,
     ⟨(some 6), .bin .leq (.tmp 5) (.const (.int .i64 30)), none, [], false, false⟩,
     ⟨(some 2), .move (.tmp 6), none, [], false, false⟩])
  (.ret)),
 [.tmp 2], .pure, 7⟩

/-- agraffe/agraffelaw07.Few -/
def ef10 : EFun := ⟨
 .seq (.region false [⟨(some 4), .move (.const (.bool false)), none, [], false, false⟩])
 (.seq (.region false [⟨(some 5), .move (.tmp 0), none, [], false, false⟩,
     ⟨(some 6), .len false (.tmp 5), none, [], false, false⟩,
     ⟨(some 7), .move (.tmp 1), none, [], false, false⟩,
     ⟨(some 8), .bin .leq (.tmp 6) (.tmp 7), none, [], false, false⟩,
     ⟨(some 9), .move (.tmp 8), none, [], false, false⟩,
     ⟨(some 10), .move (.tmp 0), (some (9, false)), [], false, false⟩,
     ⟨(some 11), .len false (.tmp 10), (some (9, false)), [], false, false⟩,
     ⟨(some 12), .bin .gtr (.tmp 11) (.const (.int .i64 60)), (some (9, false)), [], false, false⟩,
     ⟨(some 13), .move (.tmp 12), (some (9, false)), [], false, false⟩,
     ⟨(some 14), .move (.tmp 0), (some (13, true)), [], false, false⟩,
     ⟨(some 15), .len false (.tmp 14), (some (13, true)), [], false, false⟩,
     ⟨(some 16), .bin .leq (.tmp 15) (.const (.int .i64 63)), (some (13, true)), [], false, false⟩,
     ⟨(some 17), .pick (.tmp 13) (.tmp 16) (.const (.bool false)), (some (9, false)), [], false, false⟩,
     ⟨(some 18), .pick (.tmp 9) (.const (.bool true)) (.tmp 17), none, [], false, false⟩,
     ⟨(some 4), .move (.tmp 18), none, [], false, false⟩])
  (.ret)),
 [.tmp 4], .pure, 19⟩

/-- agraffe/upkeep.CheckTests -/
def ef11 : EFun := ⟨
 .seq (.region false [⟨(some 2), .move (.const (.int .i64 0)), none, [], false, false⟩])
 (.seq (.seq (.region false [⟨(some 6), .move (.tmp 0), none, [], false, false⟩,
      ⟨(some 7), .len false (.tmp 6), none, [], false, false⟩,
      ⟨(some 8), .bin .gtr (.tmp 7) (.const (.int .i64 60)), none, [], false, false⟩])
   (.cond (.tmp 8) (.seq (.region false [⟨(some 2), .move (.const (.int .i64 8)), none, [], false, false⟩])
     (.ret))
    (.skip)))
  (.seq (.seq (.region false [⟨(some 9), .move (.tmp 0), none, [], false, false⟩,
       ⟨(some 10), .len false (.tmp 9), none, [], false, false⟩,
       ⟨(some 11), .move (.const (.int .i64 0)), none, [], false, false⟩])
    (.block 0 (.loop (some [0, 9, 10, 11]) (
      .seq (.region false [⟨(some 12), .bin .lss (.tmp 11) (.tmp 10), none, [], false, false⟩])
       (.seq (.cond (.tmp 12) (.skip)
         (.exit 0))
        (.seq (.block 1 (.seq (.region false [⟨(some 13), .move (.tmp 11), none, [], false, false⟩,
              ⟨(some 14), .indexAddr none 4 (.tmp 9) (.tmp 11), none, [], false, false⟩,
              ⟨(some 15), .load true 4 (.tmp 14), none, [], false, false⟩,
              ⟨(some 4), .push [(.int .i64 0), (.int .i64 0), (.int .i64 0), (.int .i64 0)], none, [], false, false⟩,
              ⟨(some 3), .move (.tmp 13), none, [], false, false⟩,
              ⟨none, .store 4 (.tmp 4) (.tmp 15), none, [], false, false⟩])
           (.seq (.seq (.region false [⟨(some 16), .load true 4 (.tmp 4), none, [], false, false⟩,
                ⟨(some 17), .call 47 [(.tmp 16)], none, [], false, false⟩,
                ⟨(some 5), .move (.tmp 17), none, [], false, false⟩])
             (.seq (.region false [⟨(some 18), .move (.tmp 5), none, [], false, false⟩,
                 ⟨(some 19), .bin .neq (.tmp 18) (.const (.int .i64 0)), none, [], false, false⟩])
              (.cond (.tmp 19) (.seq (.region false [⟨(some 20), .move (.tmp 5), none, [], false, false⟩,
                   ⟨(some 2), .move (.tmp 20), none, [], false, false⟩])
                (.ret))
               (.skip))))
            (.seq (.region true [⟨(some 21), .move (.tmp 0), none, [], false, false⟩,
                ⟨(some 22), .move (.tmp 3), none, [], false, false⟩,
                ⟨(some 23), .slice 4 (.tmp 21) none (some (.tmp 22)), none, [], false, false⟩,
                ⟨(some 24), .load true 4 (.tmp 4), none, [], false, false⟩,
                ⟨(some 25), .call 48 [(.tmp 23), (.tmp 24)], none, [], false, false⟩])
             (.cond (.tmp 25) (.seq (.region false [⟨(some 2), .move (.const (.int .i64 5)), none, [], false, false⟩])
               (.ret))
              (.skip))))))
         (.region false [⟨(some 26), .bin .add (.tmp 11) (.const (.int .i64 1)), none, [], false, false⟩,
            ⟨(some 11), .move (.tmp 26), none, [], false, false⟩])))))))
   (.seq (.region false [⟨(some 2), .move (.const (.int .i64 0)), none, [], false, false⟩])
    (.ret)))),
 [.tmp 2], .pure, 27⟩

/-- agraffe/agrafferef07.CheckTests -/
def ef13 : EFun := ⟨
 .seq (.region false [⟨(some 2), .move (.const (.int .i64 0)), none, [], false, false⟩])
 (.seq (.seq (.region false [⟨(some 6), .move (.tmp 0), none, [], false, false⟩,
      ⟨(some 7), .len false (.tmp 6), none, [], false, false⟩,
      ⟨(some 8), .bin .gtr (.tmp 7) (.const (.int .i64 60)), none, [], false, false⟩])
   (.cond (.tmp 8) (.seq (.region false [⟨(some 2), .move (.const (.int .i64 8)), none, [], false, false⟩])
     (.ret))
    (.skip)))
  (.seq (.seq (.region false [⟨(some 3), .move (.const (.int .i64 0)), none, [], false, false⟩])
    (.block 0 (.loop (some [0, 3]) (
      .seq (.seq (.region false [⟨(some 9), .move (.tmp 3), none, [], false, false⟩,
           ⟨(some 10), .move (.tmp 0), none, [], false, false⟩,
           ⟨(some 11), .len false (.tmp 10), none, [], false, false⟩,
           ⟨(some 12), .bin .lss (.tmp 9) (.tmp 11), none, [], false, false⟩])
        (.cond (.tmp 12) (.skip)
         (.exit 0)))
       (.seq (.block 1 (.seq (.seq (.region false [⟨(some 15), .move (.tmp 0), none, [], false, false⟩,
              ⟨(some 16), .move (.tmp 3), none, [], false, false⟩,
              ⟨(some 17), .indexAddr none 4 (.tmp 15) (.tmp 16), none, [], false, false⟩,
              ⟨(some 18), .load true 4 (.tmp 17), none, [], false, false⟩,
              ⟨(some 19), .call 49 [(.tmp 18)], none, [], false, false⟩,
              ⟨(some 4), .move (.tmp 19), none, [], false, false⟩])
           (.seq (.region false [⟨(some 20), .move (.tmp 4), none, [], false, false⟩,
               ⟨(some 21), .bin .neq (.tmp 20) (.const (.int .i64 0)), none, [], false, false⟩])
            (.cond (.tmp 21) (.seq (.region false [⟨(some 22), .move (.tmp 4), none, [], false, false⟩,
                 ⟨(some 2), .move (.tmp 22), none, [], false, false⟩])
              (.ret))
             (.skip))))
          (.seq (.region false [⟨(some 5), .move (.const (.int .i64 0)), none, [], false, false⟩])
           (.block 2 (.loop (some [0, 3, 5]) (
             .seq (.seq (.region false [⟨(some 23), .move (.tmp 5), none, [], false, false⟩,
                  ⟨(some 24), .move (.tmp 3), none, [], false, false⟩,
                  ⟨(some 25), .bin .lss (.tmp 23) (.tmp 24), none, [], false, false⟩])
               (.cond (.tmp 25) (.skip)
                (.exit 2)))
              (.seq (.block 3 (.seq (.region true [⟨(some 28), .move (.tmp 0), none, [], false, false⟩,
                    ⟨(some 29), .move (.tmp 5), none, [], false, false⟩,
                    ⟨(some 30), .indexAddr none 4 (.tmp 28) (.tmp 29), none, [], false, false⟩,
                    ⟨(some 31), .load true 4 (.tmp 30), none, [], false, false⟩,
                    ⟨(some 32), .move (.tmp 0), none, [], false, false⟩,
                    ⟨(some 33), .move (.tmp 3), none, [], false, false⟩,
                    ⟨(some 34), .indexAddr none 4 (.tmp 32) (.tmp 33), none, [], false, false⟩,
                    ⟨(some 35), .load true 4 (.tmp 34), none, [], false, false⟩,
                    ⟨(some 36), .eqAgg false [(.int .i64), (.int .i64), (.int .i64), (.int .i64)] (.tmp 31) (.tmp 35), none, [], false, false⟩])
                 (.cond (.tmp 36) (.seq (.region false [⟨(some 2), .move (.const (.int .i64 5)), none, [], false, false⟩])
                   (.ret))
                  (.skip))))
               (.region false [⟨(some 26), .move (.tmp 5), none, [], false, false⟩,
                  ⟨(some 27), .bin .add (.tmp 26) (.const (.int .i64 1)), none, [], false, false⟩,
                  ⟨(some 5), .move (.tmp 27), none, [], false, false⟩]))))))))
        (.region false [⟨(some 13), .move (.tmp 3), none, [], false, false⟩,
           ⟨(some 14), .bin .add (.tmp 13) (.const (.int .i64 1)), none, [], false, false⟩,
           ⟨(some 3), .move (.tmp 14), none, [], false, false⟩]))))))
   (.seq (.region false [⟨(some 2), .move (.const (.int .i64 0)), none, [], false, false⟩])
    (.ret)))),
 [.tmp 2], .pure, 37⟩

/-- agraffe/agrafferef07.Tuned -/
def ef15 : EFun := ⟨
 .seq (.region false [⟨(some 2), .box (.tmp 0), none, [], false, false⟩,
    ⟨(some 4), .move (.const (.int .i64 0)), none, [], false, false⟩])
 (.seq (.seq (.region false [⟨(some 6), .load true 25 (.tmp 2), none, [], false, false⟩,
      ⟨(some 7), .call 36 [(.tmp 6)], none, [], false, false⟩,
      ⟨(some 5), .move (.tmp 7), none, [], false, false⟩])
   (.seq (.region false [⟨(some 8), .move (.tmp 5), none, [], false, false⟩,
       ⟨(some 9), .bin .neq (.tmp 8) (.const (.int .i64 0)), none, [], false, false⟩])
    (.cond (.tmp 9) (.seq (.region false [⟨(some 10), .move (.tmp 5), none, [], false, false⟩,
         ⟨(some 4), .move (.tmp 10), none, [], false, false⟩])
      (.ret))
     (.skip))))
  (.seq (.seq (.region false [⟨(some 11), .move (.tmp 1), none, [], false, false⟩,
       ⟨(some 12), .call 52 [(.tmp 11)], none, [], false, false⟩,
       ⟨(some 13), .un .not (.tmp 12), none, [], false, false⟩])
    (.cond (.tmp 13) (.seq (.region false [⟨(some 4), .move (.const (.int .i64 2)), none, [], false, false⟩])
      (.ret))
     (.skip)))
   (.seq (.region false [⟨(some 4), .move (.const (.int .i64 0)), none, [], false, false⟩])
    (.ret)))),
 [.tmp 4], .pure, 14⟩

/-- agraffe/agrafferef07.TestsOf -/
def ef18 : EFun := ⟨
 .seq (.region false [⟨(some 2), .move (.const (.slice none 0 0)), none, [], false, false⟩])
 (.seq (.region false [⟨(some 3), .move (.const (.slice none 0 0)), none, [], false, false⟩])
  (.seq (.seq (.region false [⟨(some 4), .move (.const (.int .i64 0)), none, [], false, false⟩])
    (.block 0 (.loop (some [0, 3, 4]) (
      .seq (.seq (.region false [⟨(some 5), .move (.tmp 4), none, [], false, false⟩,
           ⟨(some 6), .move (.tmp 0), none, [], false, false⟩,
           ⟨(some 7), .len false (.tmp 6), none, [], false, false⟩,
           ⟨(some 8), .bin .lss (.tmp 5) (.tmp 7), none, [], false, false⟩])
        (.cond (.tmp 8) (.skip)
         (.exit 0)))
       (.seq (.block 1 (.region false [⟨(some 11), .move (.tmp 3), none, [], false, false⟩,
            ⟨(some 12), .move (.tmp 0), none, [], false, false⟩,
            ⟨(some 13), .move (.tmp 4), none, [], false, false⟩,
            ⟨(some 14), .indexAddr none 6 (.tmp 12) (.tmp 13), none, [], false, false⟩,
            ⟨(some 15), .fieldAddr 0 (.tmp 14), none, [], false, false⟩,
            ⟨(some 16), .load true 4 (.tmp 15), none, [], false, false⟩,
            ⟨(some 17), .buildSlice 4 1 [(.int .i64 0), (.int .i64 0), (.int .i64 0), (.int .i64 0)] [(0, 4, (.tmp 16))], none, [], false, false⟩,
            ⟨(some 18), .append 4 32 (.tmp 11) (.tmp 17), none, [], false, false⟩,
            ⟨(some 3), .move (.tmp 18), none, [], false, false⟩]))
        (.region false [⟨(some 9), .move (.tmp 4), none, [], false, false⟩,
           ⟨(some 10), .bin .add (.tmp 9) (.const (.int .i64 1)), none, [], false, false⟩,
           ⟨(some 4), .move (.tmp 10), none, [], false, false⟩]))))))
   (.seq (.region false [⟨(some 19), .move (.tmp 3), none, [], false, false⟩,
       ⟨(some 2), .move (.tmp 19), none, [], false, false⟩])
    (.ret)))),
 [.tmp 2], .pure, 20⟩

/-- agraffe/upkeep.CheckCounts -/
def ef19 : EFun := ⟨
 .seq (.region false [⟨(some 2), .move (.const (.int .i64 0)), none, [], false, false⟩])
 (.seq (.seq (.region false [⟨(some 7), .move (.tmp 0), none, [], false, false⟩,
      ⟨(some 8), .len false (.tmp 7), none, [], false, false⟩,
      ⟨(some 9), .bin .gtr (.tmp 8) (.const (.int .i64 60)), none, [], false, false⟩])
   (.cond (.tmp 9) (.seq (.region false [⟨(some 2), .move (.const (.int .i64 8)), none, [], false, false⟩])
     (.ret))
    (.skip)))
  (.seq (.region false [⟨(some 10), .makeMap, none, [], false, false⟩,
      ⟨(some 3), .move (.tmp 10), none, [], false, false⟩])
   (.seq (.seq (.region false [⟨(some 11), .move (.tmp 0), none, [], false, false⟩,
        ⟨(some 12), .len false (.tmp 11), none, [], false, false⟩,
        ⟨(some 13), .move (.const (.int .i64 0)), none, [], false, false⟩])
     (.block 0 (.loop (some [3, 11, 12, 13]) (
       .seq (.region false [⟨(some 14), .bin .lss (.tmp 13) (.tmp 12), none, [], false, false⟩])
        (.seq (.cond (.tmp 14) (.skip)
          (.exit 0))
         (.seq (.block 1 (.seq (.region false [⟨(some 15), .indexAddr none 6 (.tmp 11) (.tmp 13), none, [], false, false⟩,
               ⟨(some 16), .load true 6 (.tmp 15), none, [], false, false⟩,
               ⟨(some 5), .push [(.int .i64 0), (.int .i64 0), (.int .i64 0), (.int .i64 0), (.int .i64 0), (.int .i64 0)], none, [], false, false⟩,
               ⟨none, .store 6 (.tmp 5) (.tmp 16), none, [], false, false⟩])
            (.seq (.seq (.region false [⟨(some 17), .fieldAddr 0 (.tmp 5), none, [], false, false⟩,
                 ⟨(some 18), .load true 4 (.tmp 17), none, [], false, false⟩,
                 ⟨(some 19), .call 47 [(.tmp 18)], none, [], false, false⟩,
                 ⟨(some 6), .move (.tmp 19), none, [], false, false⟩])
              (.seq (.region false [⟨(some 20), .move (.tmp 6), none, [], false, false⟩,
                  ⟨(some 21), .bin .neq (.tmp 20) (.const (.int .i64 0)), none, [], false, false⟩])
               (.cond (.tmp 21) (.seq (.region false [⟨(some 22), .move (.tmp 6), none, [], false, false⟩,
                    ⟨(some 2), .move (.tmp 22), none, [], false, false⟩])
                 (.ret))
                (.skip))))
             (.seq (.block 2 (.seq (.region false [⟨(some 24), .move (.tmp 3), none, [], false, false⟩,
                   ⟨(some 25), .fieldAddr 0 (.tmp 5), none, [], false, false⟩,
                   ⟨(some 26), .load true 4 (.tmp 25), none, [], false, false⟩,
                   ⟨(some 27), .mapGet (.agg [(.int .i64), (.int .i64), (.int .i64), (.int .i64)]) (.bool false) false (.tmp 24) (.tmp 26), none, [], false, false⟩,
                   ⟨(some 23), .move (.tmp 27), none, [], false, false⟩])
                (.cond (.tmp 23) (.seq (.region false [⟨(some 2), .move (.const (.int .i64 5)), none, [], false, false⟩])
                  (.ret))
                 (.seq (.region false [⟨(some 29), .fieldAddr 4 (.tmp 5), none, [], false, false⟩,
                     ⟨(some 30), .fieldAddr 0 (.tmp 29), none, [], false, false⟩,
                     ⟨(some 31), .load false 1 (.tmp 30), none, [], false, false⟩,
                     ⟨(some 32), .call 54 [(.tmp 31), (.const (.int .i64 (-1000000000))), (.const (.int .i64 1000000000))], none, [], false, false⟩,
                     ⟨(some 33), .un .not (.tmp 32), none, [], false, false⟩,
                     ⟨(some 34), .move (.tmp 33), none, [], false, false⟩,
                     ⟨(some 35), .fieldAddr 4 (.tmp 5), (some (34, false)), [], false, false⟩,
                     ⟨(some 36), .fieldAddr 1 (.tmp 35), (some (34, false)), [], false, false⟩,
                     ⟨(some 37), .load false 1 (.tmp 36), (some (34, false)), [], false, false⟩,
                     ⟨(some 38), .call 54 [(.tmp 37), (.const (.int .i64 (-1000000000))), (.const (.int .i64 1000000000))], (some (34, false)), [], false, false⟩,
                     ⟨(some 39), .un .not (.tmp 38), (some (34, false)), [], false, false⟩,
                     ⟨(some 40), .pick (.tmp 34) (.const (.bool true)) (.tmp 39), none, [], false, false⟩,
                     ⟨(some 28), .move (.tmp 40), none, [], false, false⟩])
                  (.cond (.tmp 28) (.seq (.region false [⟨(some 2), .move (.const (.int .i64 2)), none, [], false, false⟩])
                    (.ret))
                   (.seq (.region false [⟨(some 42), .fieldAddr 4 (.tmp 5), none, [], false, false⟩,
                       ⟨(some 43), .fieldAddr 0 (.tmp 42), none, [], false, false⟩,
                       ⟨(some 44), .load false 1 (.tmp 43), none, [], false, false⟩,
                       ⟨(some 45), .fieldAddr 4 (.tmp 5), none, [], false, false⟩,
                       ⟨(some 46), .fieldAddr 1 (.tmp 45), none, [], false, false⟩,
                       ⟨(some 47), .load false 1 (.tmp 46), none, [], false, false⟩,
                       ⟨(some 48), .bin .gtr (.tmp 44) (.tmp 47), none, [], false, false⟩,
                       ⟨(some 41), .move (.tmp 48), none, [], false, false⟩])
                    (.cond (.tmp 41) (.seq (.region false [⟨(some 2), .move (.const (.int .i64 9)), none, [], false, false⟩])
                      (.ret))
                     (.skip))))))))
              (.region false [⟨(some 49), .move (.tmp 3), none, [], false, false⟩,
                 ⟨(some 50), .fieldAddr 0 (.tmp 5), none, [], false, false⟩,
                 ⟨(some 51), .load true 4 (.tmp 50), none, [], false, false⟩,
                 ⟨none, .mapSet (.agg [(.int .i64), (.int .i64), (.int .i64), (.int .i64)]) (.tmp 49) (.tmp 51) (.const (.bool true)), none, [], false, false⟩])))))
          (.region false [⟨(some 52), .bin .add (.tmp 13) (.const (.int .i64 1)), none, [], false, false⟩,
             ⟨(some 13), .move (.tmp 52), none, [], false, false⟩])))))))
    (.seq (.region false [⟨(some 2), .move (.const (.int .i64 0)), none, [], false, false⟩])
     (.ret))))),
 [.tmp 2], .pure, 53⟩

/-- agraffe/agraffelaw07.counts -/
def ef20 : EFun := ⟨
 .seq (.region false [⟨(some 2), .move (.const (.slice none 0 0)), none, [], false, false⟩])
 (.seq (.region false [⟨(some 3), .buildSlice 6 0 [] [], none, [], false, false⟩,
     ⟨(some 4), .move (.tmp 0), none, [], false, false⟩,
     ⟨(some 5), .append 6 48 (.tmp 3) (.tmp 4), none, [], false, false⟩,
     ⟨(some 2), .move (.tmp 5), none, [], false, false⟩])
  (.ret)),
 [.tmp 2], .pure, 6⟩

/-- agraffe/agrafferef07.CheckCounts -/
def ef21 : EFun := ⟨
 .seq (.region false [⟨(some 2), .move (.const (.int .i64 0)), none, [], false, false⟩])
 (.seq (.seq (.region false [⟨(some 6), .move (.tmp 0), none, [], false, false⟩,
      ⟨(some 7), .len false (.tmp 6), none, [], false, false⟩,
      ⟨(some 8), .bin .gtr (.tmp 7) (.const (.int .i64 60)), none, [], false, false⟩])
   (.cond (.tmp 8) (.seq (.region false [⟨(some 2), .move (.const (.int .i64 8)), none, [], false, false⟩])
     (.ret))
    (.skip)))
  (.seq (.seq (.region false [⟨(some 3), .move (.const (.int .i64 0)), none, [], false, false⟩])
    (.block 0 (.loop (some [0, 3]) (
      .seq (.seq (.region false [⟨(some 9), .move (.tmp 3), none, [], false, false⟩,
           ⟨(some 10), .move (.tmp 0), none, [], false, false⟩,
           ⟨(some 11), .len false (.tmp 10), none, [], false, false⟩,
           ⟨(some 12), .bin .lss (.tmp 9) (.tmp 11), none, [], false, false⟩])
        (.cond (.tmp 12) (.skip)
         (.exit 0)))
       (.seq (.block 1 (.seq (.seq (.region false [⟨(some 15), .move (.tmp 0), none, [], false, false⟩,
              ⟨(some 16), .move (.tmp 3), none, [], false, false⟩,
              ⟨(some 17), .bin .add (.tmp 16) (.const (.int .i64 1)), none, [], false, false⟩,
              ⟨(some 18), .slice 6 (.tmp 15) none (some (.tmp 17)), none, [], false, false⟩,
              ⟨(some 19), .call 18 [(.tmp 18)], none, [], false, false⟩,
              ⟨(some 20), .call 13 [(.tmp 19)], none, [], false, false⟩,
              ⟨(some 4), .move (.tmp 20), none, [], false, false⟩])
           (.seq (.region false [⟨(some 21), .move (.tmp 4), none, [], false, false⟩,
               ⟨(some 22), .bin .neq (.tmp 21) (.const (.int .i64 0)), none, [], false, false⟩])
            (.cond (.tmp 22) (.seq (.region false [⟨(some 23), .move (.tmp 4), none, [], false, false⟩,
                 ⟨(some 2), .move (.tmp 23), none, [], false, false⟩])
              (.ret))
             (.skip))))
          (.seq (.region false [⟨(some 24), .move (.tmp 0), none, [], false, false⟩,
              ⟨(some 25), .move (.tmp 3), none, [], false, false⟩,
              ⟨(some 26), .indexAddr none 6 (.tmp 24) (.tmp 25), none, [], false, false⟩,
              ⟨(some 27), .fieldAddr 4 (.tmp 26), none, [], false, false⟩,
              ⟨(some 28), .load true 2 (.tmp 27), none, [], false, false⟩,
              ⟨(some 5), .push [(.int .i64 0), (.int .i64 0)], none, [], false, false⟩,
              ⟨none, .store 2 (.tmp 5) (.tmp 28), none, [], false, false⟩])
           (.seq (.seq (.region false [⟨(some 29), .fieldAddr 0 (.tmp 5), none, [], false, false⟩,
                ⟨(some 30), .load false 1 (.tmp 29), none, [], false, false⟩,
                ⟨(some 31), .call 37 [(.tmp 30), (.const (.int .i64 (-1000000000))), (.const (.int .i64 1000000000))], none, [], false, false⟩,
                ⟨(some 32), .un .not (.tmp 31), none, [], false, false⟩,
                ⟨(some 33), .move (.tmp 32), none, [], false, false⟩,
                ⟨(some 34), .fieldAddr 1 (.tmp 5), (some (33, false)), [], false, false⟩,
                ⟨(some 35), .load false 1 (.tmp 34), (some (33, false)), [], false, false⟩,
                ⟨(some 36), .call 37 [(.tmp 35), (.const (.int .i64 (-1000000000))), (.const (.int .i64 1000000000))], (some (33, false)), [], false, false⟩,
                ⟨(some 37), .un .not (.tmp 36), (some (33, false)), [], false, false⟩,
                ⟨(some 38), .pick (.tmp 33) (.const (.bool true)) (.tmp 37), none, [], false, false⟩])
             (.cond (.tmp 38) (.seq (.region false [⟨(some 2), .move (.const (.int .i64 2)), none, [], false, false⟩])
               (.ret))
              (.skip)))
            (.seq (.region false [⟨(some 39), .fieldAddr 0 (.tmp 5), none, [], false, false⟩,
                ⟨(some 40), .load false 1 (.tmp 39), none, [], false, false⟩,
                ⟨(some 41), .fieldAddr 1 (.tmp 5), none, [], false, false⟩,
                ⟨(some 42), .load false 1 (.tmp 41), none, [], false, false⟩,
                ⟨(some 43), .bin .gtr (.tmp 40) (.tmp 42), none, [], false, false⟩])
             (.cond (.tmp 43) (.seq (.region false [⟨(some 2), .move (.const (.int .i64 9)), none, [], false, false⟩])
               (.ret))
              (.skip)))))))
        (.region false [⟨(some 13), .move (.tmp 3), none, [], false, false⟩,
           ⟨(some 14), .bin .add (.tmp 13) (.const (.int .i64 1)), none, [], false, false⟩,
           ⟨(some 3), .move (.tmp 14), none, [], false, false⟩]))))))
   (.seq (.region false [⟨(some 2), .move (.const (.int .i64 0)), none, [], false, false⟩])
    (.ret)))),
 [.tmp 2], .pure, 44⟩

/-- agraffe/upkeep.Failed -/
def ef22 : EFun := ⟨
 .seq (.region false [⟨(some 3), .box (.tmp 0), none, [], false, false⟩,
    ⟨(some 6), .move (.const (.slice none 0 0)), none, [], false, false⟩,
    ⟨(some 7), .move (.const (.int .i64 0)), none, [], false, false⟩])
 (.seq (.seq (.region false [⟨(some 15), .load true 25 (.tmp 3), none, [], false, false⟩,
      ⟨(some 16), .move (.tmp 1), none, [], false, false⟩,
      ⟨(some 17), .call 50 [(.tmp 15), (.tmp 16)], none, [], false, false⟩,
      ⟨(some 8), .move (.tmp 17), none, [], false, false⟩])
   (.seq (.region false [⟨(some 18), .move (.tmp 8), none, [], false, false⟩,
       ⟨(some 19), .bin .neq (.tmp 18) (.const (.int .i64 0)), none, [], false, false⟩])
    (.cond (.tmp 19) (.seq (.region false [⟨(some 20), .move (.tmp 8), none, [], false, false⟩,
         ⟨(some 6), .move (.const (.slice none 0 0)), none, [], false, false⟩,
         ⟨(some 7), .move (.tmp 20), none, [], false, false⟩])
      (.ret))
     (.skip))))
  (.seq (.seq (.region false [⟨(some 21), .move (.tmp 2), none, [], false, false⟩,
       ⟨(some 22), .call 19 [(.tmp 21)], none, [], false, false⟩,
       ⟨(some 9), .move (.tmp 22), none, [], false, false⟩])
    (.seq (.region false [⟨(some 23), .move (.tmp 9), none, [], false, false⟩,
        ⟨(some 24), .bin .neq (.tmp 23) (.const (.int .i64 0)), none, [], false, false⟩])
     (.cond (.tmp 24) (.seq (.region false [⟨(some 25), .move (.tmp 9), none, [], false, false⟩,
          ⟨(some 6), .move (.const (.slice none 0 0)), none, [], false, false⟩,
          ⟨(some 7), .move (.tmp 25), none, [], false, false⟩])
       (.ret))
      (.skip))))
   (.seq (.region false [⟨(some 10), .move (.const (.slice none 0 0)), none, [], false, false⟩])
    (.seq (.seq (.region false [⟨(some 26), .move (.tmp 2), none, [], false, false⟩,
         ⟨(some 27), .len false (.tmp 26), none, [], false, false⟩,
         ⟨(some 28), .move (.const (.int .i64 0)), none, [], false, false⟩])
      (.block 0 (.loop (some [1, 3, 10, 26, 27, 28]) (
        .seq (.region false [⟨(some 29), .bin .lss (.tmp 28) (.tmp 27), none, [], false, false⟩])
         (.seq (.cond (.tmp 29) (.skip)
           (.exit 0))
          (.seq (.block 1 (.seq (.region false [⟨(some 30), .move (.tmp 28), none, [], false, false⟩,
                ⟨(some 31), .indexAddr none 6 (.tmp 26) (.tmp 28), none, [], false, false⟩,
                ⟨(some 32), .load true 6 (.tmp 31), none, [], false, false⟩,
                ⟨(some 12), .push [(.int .i64 0), (.int .i64 0), (.int .i64 0), (.int .i64 0), (.int .i64 0), (.int .i64 0)], none, [], false, false⟩,
                ⟨(some 11), .move (.tmp 30), none, [], false, false⟩,
                ⟨none, .store 6 (.tmp 12) (.tmp 32), none, [], false, false⟩])
             (.seq (.region false [⟨(some 34), .load true 25 (.tmp 3), none, [], false, false⟩,
                 ⟨(some 35), .move (.tmp 1), none, [], false, false⟩,
                 ⟨(some 36), .fieldAddr 0 (.tmp 12), none, [], false, false⟩,
                 ⟨(some 37), .load true 4 (.tmp 36), none, [], false, false⟩,
                 ⟨(some 38), .call 51 [(.tmp 34), (.tmp 35), (.tmp 37)], none, [], false, false⟩,
                 ⟨(some 33), .move (.tmp 38), none, [], false, false⟩,
                 ⟨(some 39), .extract (.tmp 33) 0, none, [], false, false⟩,
                 ⟨(some 40), .extract (.tmp 33) 1, none, [], false, false⟩,
                 ⟨(some 13), .push [(.int .i64 0), (.int .i64 0)], none, [], false, false⟩,
                 ⟨none, .store 2 (.tmp 13) (.tmp 39), none, [], false, false⟩,
                 ⟨(some 14), .move (.tmp 40), none, [], false, false⟩])
              (.seq (.seq (.region false [⟨(some 41), .move (.tmp 14), none, [], false, false⟩,
                   ⟨(some 42), .bin .neq (.tmp 41) (.const (.int .i64 0)), none, [], false, false⟩])
                (.cond (.tmp 42) (.seq (.region false [⟨(some 43), .move (.tmp 14), none, [], false, false⟩,
                     ⟨(some 6), .move (.const (.slice none 0 0)), none, [], false, false⟩,
                     ⟨(some 7), .move (.tmp 43), none, [], false, false⟩])
                  (.ret))
                 (.skip)))
               (.seq (.region false [⟨(some 44), .fieldAddr 0 (.tmp 13), none, [], false, false⟩,
                   ⟨(some 45), .load false 1 (.tmp 44), none, [], false, false⟩,
                   ⟨(some 46), .fieldAddr 4 (.tmp 12), none, [], false, false⟩,
                   ⟨(some 47), .fieldAddr 0 (.tmp 46), none, [], false, false⟩,
                   ⟨(some 48), .load false 1 (.tmp 47), none, [], false, false⟩,
                   ⟨(some 49), .max [(.tmp 45), (.tmp 48)], none, [], false, false⟩,
                   ⟨(some 50), .fieldAddr 1 (.tmp 13), none, [], false, false⟩,
                   ⟨(some 51), .load false 1 (.tmp 50), none, [], false, false⟩,
                   ⟨(some 52), .fieldAddr 4 (.tmp 12), none, [], false, false⟩,
                   ⟨(some 53), .fieldAddr 1 (.tmp 52), none, [], false, false⟩,
                   ⟨(some 54), .load false 1 (.tmp 53), none, [], false, false⟩,
                   ⟨(some 55), .min [(.tmp 51), (.tmp 54)], none, [], false, false⟩,
                   ⟨(some 56), .bin .gtr (.tmp 49) (.tmp 55), none, [], false, false⟩])
                (.cond (.tmp 56) (.region false [⟨(some 57), .move (.tmp 10), none, [], false, false⟩,
                    ⟨(some 58), .move (.tmp 11), none, [], false, false⟩,
                    ⟨(some 59), .buildSlice 1 1 [(.int .i64 0)] [(0, 1, (.tmp 58))], none, [], false, false⟩,
                    ⟨(some 60), .append 1 8 (.tmp 57) (.tmp 59), none, [], false, false⟩,
                    ⟨(some 10), .move (.tmp 60), none, [], false, false⟩])
                 (.skip)))))))
           (.region false [⟨(some 61), .bin .add (.tmp 28) (.const (.int .i64 1)), none, [], false, false⟩,
              ⟨(some 28), .move (.tmp 61), none, [], false, false⟩])))))))
     (.seq (.region false [⟨(some 62), .move (.tmp 10), none, [], false, false⟩,
         ⟨(some 6), .move (.tmp 62), none, [], false, false⟩,
         ⟨(some 7), .move (.const (.int .i64 0)), none, [], false, false⟩])
      (.ret)))))),
 [.tmp 6, .tmp 7], .pure, 63⟩

/-- agraffe/agraffebase.Ints -/
def ef23 : EFun := ⟨
 .seq (.region false [⟨(some 4), .move (.const (.bool false)), none, [], false, false⟩])
 (.seq (.seq (.region false [⟨(some 6), .move (.tmp 0), none, [], false, false⟩,
      ⟨(some 7), .len false (.tmp 6), none, [], false, false⟩,
      ⟨(some 8), .move (.tmp 1), none, [], false, false⟩,
      ⟨(some 9), .len false (.tmp 8), none, [], false, false⟩,
      ⟨(some 10), .bin .neq (.tmp 7) (.tmp 9), none, [], false, false⟩])
   (.cond (.tmp 10) (.seq (.region false [⟨(some 4), .move (.const (.bool false)), none, [], false, false⟩])
     (.ret))
    (.skip)))
  (.seq (.seq (.region false [⟨(some 5), .move (.const (.int .i64 0)), none, [], false, false⟩])
    (.block 0 (.loop (some [0, 1, 5]) (
      .seq (.seq (.region false [⟨(some 11), .move (.tmp 5), none, [], false, false⟩,
           ⟨(some 12), .move (.tmp 0), none, [], false, false⟩,
           ⟨(some 13), .len false (.tmp 12), none, [], false, false⟩,
           ⟨(some 14), .bin .lss (.tmp 11) (.tmp 13), none, [], false, false⟩])
        (.cond (.tmp 14) (.skip)
         (.exit 0)))
       (.seq (.block 1 (.seq (.region true [⟨(some 17), .move (.tmp 0), none, [], false, false⟩,
             ⟨(some 18), .move (.tmp 5), none, [], false, false⟩,
             ⟨(some 19), .indexAddr none 1 (.tmp 17) (.tmp 18), none, [], false, false⟩,
             ⟨(some 20), .load false 1 (.tmp 19), none, [], false, false⟩,
             ⟨(some 21), .move (.tmp 1), none, [], false, false⟩,
             ⟨(some 22), .move (.tmp 5), none, [], false, false⟩,
             ⟨(some 23), .indexAddr none 1 (.tmp 21) (.tmp 22), none, [], false, false⟩,
             ⟨(some 24), .load false 1 (.tmp 23), none, [], false, false⟩,
             ⟨(some 25), .bin .neq (.tmp 20) (.tmp 24), none, [], false, false⟩])
          (.cond (.tmp 25) (.seq (.region false [⟨(some 4), .move (.const (.bool false)), none, [], false, false⟩])
            (.ret))
           (.skip))))
        (.region false [⟨(some 15), .move (.tmp 5), none, [], false, false⟩,
           ⟨(some 16), .bin .add (.tmp 15) (.const (.int .i64 1)), none, [], false, false⟩,
           ⟨(some 5), .move (.tmp 16), none, [], false, false⟩]))))))
   (.seq (.region false [⟨(some 4), .move (.const (.bool true)), none, [], false, false⟩])
    (.ret)))),
 [.tmp 4], .pure, 26⟩

/-- agraffe/agrafferef07.Failed -/
def ef24 : EFun := ⟨
 .seq (.region false [⟨(some 3), .box (.tmp 0), none, [], false, false⟩,
    ⟨(some 6), .move (.const (.slice none 0 0)), none, [], false, false⟩])
 (.seq (.region false [⟨(some 7), .move (.const (.slice none 0 0)), none, [], false, false⟩])
  (.seq (.seq (.region false [⟨(some 8), .move (.const (.int .i64 0)), none, [], false, false⟩])
    (.block 0 (.loop (some [1, 2, 3, 7, 8]) (
      .seq (.seq (.region false [⟨(some 10), .move (.tmp 8), none, [], false, false⟩,
           ⟨(some 11), .move (.tmp 2), none, [], false, false⟩,
           ⟨(some 12), .len false (.tmp 11), none, [], false, false⟩,
           ⟨(some 13), .bin .lss (.tmp 10) (.tmp 12), none, [], false, false⟩])
        (.cond (.tmp 13) (.skip)
         (.exit 0)))
       (.seq (.block 1 (.seq (.region true [⟨(some 16), .load true 25 (.tmp 3), none, [], false, false⟩,
             ⟨(some 17), .move (.tmp 1), none, [], false, false⟩,
             ⟨(some 18), .move (.tmp 2), none, [], false, false⟩,
             ⟨(some 19), .move (.tmp 8), none, [], false, false⟩,
             ⟨(some 20), .indexAddr none 6 (.tmp 18) (.tmp 19), none, [], false, false⟩,
             ⟨(some 21), .fieldAddr 0 (.tmp 20), none, [], false, false⟩,
             ⟨(some 22), .load true 4 (.tmp 21), none, [], false, false⟩,
             ⟨(some 23), .call 53 [(.tmp 16), (.tmp 17), (.tmp 22)], none, [], false, true⟩,
             ⟨(some 9), .push [(.int .i64 0), (.int .i64 0)], none, [], false, false⟩,
             ⟨none, .store 2 (.tmp 9) (.tmp 23), none, [], false, false⟩])
          (.seq (.region true [⟨(some 24), .fieldAddr 1 (.tmp 9), none, [], false, false⟩,
              ⟨(some 25), .load false 1 (.tmp 24), none, [], false, false⟩,
              ⟨(some 26), .move (.tmp 2), none, [], false, false⟩,
              ⟨(some 27), .move (.tmp 8), none, [], false, false⟩,
              ⟨(some 28), .indexAddr none 6 (.tmp 26) (.tmp 27), none, [], false, false⟩,
              ⟨(some 29), .fieldAddr 4 (.tmp 28), none, [], false, false⟩,
              ⟨(some 30), .fieldAddr 0 (.tmp 29), none, [], false, false⟩,
              ⟨(some 31), .load false 1 (.tmp 30), none, [], false, false⟩,
              ⟨(some 32), .bin .lss (.tmp 25) (.tmp 31), none, [], false, false⟩,
              ⟨(some 33), .move (.tmp 32), none, [], false, false⟩,
              ⟨(some 34), .move (.tmp 2), (some (33, false)), [], false, false⟩,
              ⟨(some 35), .move (.tmp 8), (some (33, false)), [], false, false⟩,
              ⟨(some 36), .indexAddr none 6 (.tmp 34) (.tmp 35), (some (33, false)), [], false, false⟩,
              ⟨(some 37), .fieldAddr 4 (.tmp 36), (some (33, false)), [], false, false⟩,
              ⟨(some 38), .fieldAddr 1 (.tmp 37), (some (33, false)), [], false, false⟩,
              ⟨(some 39), .load false 1 (.tmp 38), (some (33, false)), [], false, false⟩,
              ⟨(some 40), .fieldAddr 0 (.tmp 9), (some (33, false)), [], false, false⟩,
              ⟨(some 41), .load false 1 (.tmp 40), (some (33, false)), [], false, false⟩,
              ⟨(some 42), .bin .lss (.tmp 39) (.tmp 41), (some (33, false)), [], false, false⟩,
              ⟨(some 43), .pick (.tmp 33) (.const (.bool true)) (.tmp 42), none, [], false, false⟩])
           (.cond (.tmp 43) (.region false [⟨(some 44), .move (.tmp 7), none, [], false, false⟩,
               ⟨(some 45), .move (.tmp 8), none, [], false, false⟩,
               ⟨(some 46), .buildSlice 1 1 [(.int .i64 0)] [(0, 1, (.tmp 45))], none, [], false, false⟩,
               ⟨(some 47), .append 1 8 (.tmp 44) (.tmp 46), none, [], false, false⟩,
               ⟨(some 7), .move (.tmp 47), none, [], false, false⟩])
            (.skip)))))
        (.region false [⟨(some 14), .move (.tmp 8), none, [], false, false⟩,
           ⟨(some 15), .bin .add (.tmp 14) (.const (.int .i64 1)), none, [], false, false⟩,
           ⟨(some 8), .move (.tmp 15), none, [], false, false⟩]))))))
   (.seq (.region false [⟨(some 48), .move (.tmp 7), none, [], false, false⟩,
       ⟨(some 6), .move (.tmp 48), none, [], false, false⟩])
    (.ret)))),
 [.tmp 6], .pure, 49⟩

/-- agraffe/agrafferef06.CheckTemperament -/
def ef36 : EFun := ⟨
 .seq (.region false [⟨(some 1), .box (.tmp 0), none, [], false, false⟩,
    ⟨(some 2), .move (.const (.int .i64 0)), none, [], false, false⟩])
 (.seq (.seq (.region false [⟨(some 7), .fieldAddr 0 (.tmp 1), none, [], false, false⟩,
      ⟨(some 8), .load false 1 (.tmp 7), none, [], false, false⟩,
      ⟨(some 9), .call 68 [(.tmp 8)], none, [], false, false⟩,
      ⟨(some 10), .un .not (.tmp 9), none, [], false, false⟩])
   (.cond (.tmp 10) (.seq (.region false [⟨(some 2), .move (.const (.int .i64 4)), none, [], false, false⟩])
     (.ret))
    (.skip)))
  (.seq (.region false [⟨(some 3), .move (.const (.int .i64 0)), none, [], false, false⟩,
      ⟨(some 4), .move (.const (.int .i64 0)), none, [], false, false⟩])
   (.seq (.seq (.region false [⟨(some 5), .move (.const (.int .i64 0)), none, [], false, false⟩])
     (.block 0 (.loop (some [1, 3, 4, 5]) (
       .seq (.seq (.region false [⟨(some 11), .move (.tmp 5), none, [], false, false⟩,
            ⟨(some 12), .bin .lss (.tmp 11) (.const (.int .i64 12)), none, [], false, false⟩])
         (.cond (.tmp 12) (.skip)
          (.exit 0)))
        (.seq (.block 1 (.seq (.seq (.region false [⟨(some 15), .move (.tmp 5), none, [], false, false⟩,
               ⟨(some 16), .fieldAddr 1 (.tmp 1), none, [], false, false⟩,
               ⟨(some 17), .indexAddr (some 12) 1 (.tmp 16) (.tmp 15), none, [], false, false⟩,
               ⟨(some 18), .load false 1 (.tmp 17), none, [], false, false⟩,
               ⟨(some 19), .call 37 [(.tmp 18), (.const (.int .i64 (-48))), (.const (.int .i64 48))], none, [], false, false⟩,
               ⟨(some 20), .un .not (.tmp 19), none, [], false, false⟩,
               ⟨(some 21), .move (.tmp 20), none, [], false, false⟩,
               ⟨(some 22), .move (.tmp 5), (some (21, false)), [], false, false⟩,
               ⟨(some 23), .fieldAddr 13 (.tmp 1), (some (21, false)), [], false, false⟩,
               ⟨(some 24), .indexAddr (some 12) 1 (.tmp 23) (.tmp 22), (some (21, false)), [], false, false⟩,
               ⟨(some 25), .load false 1 (.tmp 24), (some (21, false)), [], false, false⟩,
               ⟨(some 26), .call 37 [(.tmp 25), (.const (.int .i64 (-48))), (.const (.int .i64 48))], (some (21, false)), [], false, false⟩,
               ⟨(some 27), .un .not (.tmp 26), (some (21, false)), [], false, false⟩,
               ⟨(some 28), .pick (.tmp 21) (.const (.bool true)) (.tmp 27), none, [], false, false⟩])
            (.cond (.tmp 28) (.seq (.region false [⟨(some 2), .move (.const (.int .i64 2)), none, [], false, false⟩])
              (.ret))
             (.skip)))
           (.region true [⟨(some 29), .move (.tmp 3), none, [], false, false⟩,
              ⟨(some 30), .move (.tmp 5), none, [], false, false⟩,
              ⟨(some 31), .fieldAddr 1 (.tmp 1), none, [], false, false⟩,
              ⟨(some 32), .indexAddr (some 12) 1 (.tmp 31) (.tmp 30), none, [], false, false⟩,
              ⟨(some 33), .load false 1 (.tmp 32), none, [], false, false⟩,
              ⟨(some 34), .bin .add (.tmp 29) (.tmp 33), none, [], false, false⟩,
              ⟨(some 35), .move (.tmp 4), none, [], false, false⟩,
              ⟨(some 36), .move (.tmp 5), none, [], false, false⟩,
              ⟨(some 37), .fieldAddr 13 (.tmp 1), none, [], false, false⟩,
              ⟨(some 38), .indexAddr (some 12) 1 (.tmp 37) (.tmp 36), none, [], false, false⟩,
              ⟨(some 39), .load false 1 (.tmp 38), none, [], false, false⟩,
              ⟨(some 40), .bin .add (.tmp 35) (.tmp 39), none, [], false, false⟩,
              ⟨(some 3), .move (.tmp 34), none, [], false, false⟩,
              ⟨(some 4), .move (.tmp 40), none, [], false, false⟩])))
         (.region false [⟨(some 13), .move (.tmp 5), none, [], false, false⟩,
            ⟨(some 14), .bin .add (.tmp 13) (.const (.int .i64 1)), none, [], false, false⟩,
            ⟨(some 5), .move (.tmp 14), none, [], false, false⟩]))))))
    (.seq (.seq (.region false [⟨(some 41), .move (.tmp 3), none, [], false, false⟩,
         ⟨(some 42), .bin .neq (.tmp 41) (.const (.int .i64 12)), none, [], false, false⟩,
         ⟨(some 43), .move (.tmp 42), none, [], false, false⟩,
         ⟨(some 44), .move (.tmp 4), (some (43, false)), [], false, false⟩,
         ⟨(some 45), .bin .neq (.tmp 44) (.const (.int .i64 0)), (some (43, false)), [], false, false⟩,
         ⟨(some 46), .pick (.tmp 43) (.const (.bool true)) (.tmp 45), none, [], false, false⟩])
      (.cond (.tmp 46) (.seq (.region false [⟨(some 2), .move (.const (.int .i64 25)), none, [], false, false⟩])
        (.ret))
       (.skip)))
     (.seq (.region false [⟨(some 47), .load true 25 (.tmp 1), none, [], false, false⟩,
         ⟨(some 48), .call 69 [(.tmp 47)], none, [], false, false⟩,
         ⟨(some 6), .push [(.int .i64 0), (.int .i64 0), (.int .i64 0)], none, [], false, false⟩,
         ⟨none, .store 3 (.tmp 6) (.tmp 48), none, [], false, false⟩])
      (.seq (.seq (.region false [⟨(some 49), .indexAddr (some 3) 1 (.tmp 6) (.const (.int .i64 0)), none, [], false, false⟩,
           ⟨(some 50), .load false 1 (.tmp 49), none, [], false, false⟩,
           ⟨(some 51), .indexAddr (some 3) 1 (.tmp 6) (.const (.int .i64 1)), none, [], false, false⟩,
           ⟨(some 52), .load false 1 (.tmp 51), none, [], false, false⟩,
           ⟨(some 53), .indexAddr (some 3) 1 (.tmp 6) (.const (.int .i64 2)), none, [], false, false⟩,
           ⟨(some 54), .load false 1 (.tmp 53), none, [], false, false⟩,
           ⟨(some 55), .max [(.tmp 50), (.tmp 52), (.tmp 54)], none, [], false, false⟩,
           ⟨(some 56), .bin .gtr (.tmp 55) (.const (.int .i64 300)), none, [], false, false⟩])
        (.cond (.tmp 56) (.seq (.region false [⟨(some 2), .move (.const (.int .i64 8)), none, [], false, false⟩])
          (.ret))
         (.skip)))
       (.seq (.region false [⟨(some 2), .move (.const (.int .i64 0)), none, [], false, false⟩])
        (.ret)))))))),
 [.tmp 2], .pure, 57⟩

/-- agraffe/agraffebase.Within -/
def ef37 : EFun := ⟨
 .seq (.region false [⟨(some 6), .move (.const (.bool false)), none, [], false, false⟩])
 (.seq (.region false [⟨(some 7), .move (.tmp 0), none, [], false, false⟩,
     ⟨(some 8), .move (.tmp 1), none, [], false, false⟩,
     ⟨(some 9), .bin .geq (.tmp 7) (.tmp 8), none, [], false, false⟩,
     ⟨(some 10), .move (.tmp 9), none, [], false, false⟩,
     ⟨(some 11), .move (.tmp 0), (some (10, true)), [], false, false⟩,
     ⟨(some 12), .move (.tmp 2), (some (10, true)), [], false, false⟩,
     ⟨(some 13), .bin .leq (.tmp 11) (.tmp 12), (some (10, true)), [], false, false⟩,
     ⟨(some 14), .pick (.tmp 10) (.tmp 13) (.const (.bool false)), none, [], false, false⟩,
     ⟨(some 6), .move (.tmp 14), none, [], false, false⟩])
  (.ret)),
 [.tmp 6], .pure, 15⟩

/-- agraffe/upkeep.Least -/
def ef40 : EFun := ⟨
 .seq (.region false [⟨(some 2), .box (.tmp 0), none, [], false, false⟩,
    ⟨(some 3), .box (.tmp 1), none, [], false, false⟩,
    ⟨(some 4), .move (.const (.slice none 0 0)), none, [], false, false⟩,
    ⟨(some 5), .move (.const (.int .i64 0)), none, [], false, false⟩])
 (.seq (.seq (.region false [⟨(some 11), .load false 1 (.tmp 2), none, [], false, false⟩,
      ⟨(some 12), .load false 1 (.tmp 3), none, [], false, false⟩,
      ⟨(some 13), .call 72 [(.tmp 11), (.tmp 12)], none, [], false, false⟩,
      ⟨(some 6), .move (.tmp 13), none, [], false, false⟩])
   (.seq (.region false [⟨(some 14), .move (.tmp 6), none, [], false, false⟩,
       ⟨(some 15), .bin .neq (.tmp 14) (.const (.int .i64 0)), none, [], false, false⟩])
    (.cond (.tmp 15) (.seq (.region false [⟨(some 16), .move (.tmp 6), none, [], false, false⟩,
         ⟨(some 4), .move (.const (.slice none 0 0)), none, [], false, false⟩,
         ⟨(some 5), .move (.tmp 16), none, [], false, false⟩])
      (.ret))
     (.skip))))
  (.seq (.region false [⟨(some 17), .load false 1 (.tmp 2), none, [], false, false⟩,
      ⟨(some 18), .call 73 [(.tmp 17)], none, [], false, false⟩,
      ⟨(some 7), .move (.tmp 18), none, [], false, false⟩])
   (.seq (.seq (.region false [⟨(some 19), .move (.tmp 7), none, [], false, false⟩,
        ⟨(some 20), .len false (.tmp 19), none, [], false, false⟩,
        ⟨(some 21), .bin .gtr (.tmp 20) (.const (.int .i64 12)), none, [], false, false⟩])
     (.cond (.tmp 21) (.seq (.region false [⟨(some 4), .move (.const (.slice none 0 0)), none, [], false, false⟩,
          ⟨(some 5), .move (.const (.int .i64 8)), none, [], false, false⟩])
       (.ret))
      (.skip)))
    (.seq (.seq (.region false [⟨(some 22), .move (.tmp 7), none, [], false, false⟩,
         ⟨(some 23), .len false (.tmp 22), none, [], false, false⟩,
         ⟨(some 24), .bin .add (.tmp 23) (.const (.int .i64 1)), none, [], false, false⟩,
         ⟨(some 25), .move (.const (.int .i64 0)), none, [], false, false⟩])
      (.block 0 (.loop (some [2, 3, 7, 24, 25]) (
        .seq (.region false [⟨(some 26), .bin .lss (.tmp 25) (.tmp 24), none, [], false, false⟩])
         (.seq (.cond (.tmp 26) (.skip)
           (.exit 0))
          (.seq (.block 1 (.seq (.region false [⟨(some 27), .move (.tmp 25), none, [], false, false⟩,
                ⟨(some 8), .move (.tmp 27), none, [], false, false⟩])
             (.seq (.region false [⟨(some 9), .push [(.slice none 0 0)], none, [], false, false⟩])
              (.seq (.seq (.region false [⟨(some 28), .move (.tmp 7), none, [], false, false⟩,
                   ⟨(some 29), .move (.tmp 8), none, [], false, false⟩,
                   ⟨(some 30), .call 75 [(.tmp 28), (.tmp 29)], none, [], false, false⟩])
                (.block 2 (.rangeF (.tmp 30) 40 0 true [2, 3, 9] [31]
                  (.region false [⟨(some 10), .move (.tmp 31), none, [], false, false⟩])
                  (.block 3 (.seq (.region false [⟨(some 32), .load false 1 (.tmp 2), none, [], false, false⟩,
                       ⟨(some 33), .load false 1 (.tmp 3), none, [], false, false⟩,
                       ⟨(some 34), .move (.tmp 10), none, [], false, false⟩,
                       ⟨(some 35), .call 74 [(.tmp 32), (.tmp 33), (.tmp 34)], none, [], false, false⟩,
                       ⟨(some 36), .bin .eql (.tmp 35) (.const (.int .i64 0)), none, [], false, false⟩])
                    (.cond (.tmp 36) (.region false [⟨(some 37), .load false 1 (.tmp 9), none, [], false, false⟩,
                        ⟨(some 38), .move (.tmp 10), none, [], false, false⟩,
                        ⟨(some 39), .buildSlice 1 1 [(.slice none 0 0)] [(0, 1, (.tmp 38))], none, [], false, false⟩,
                        ⟨(some 40), .append 1 24 (.tmp 37) (.tmp 39), none, [], false, false⟩,
                        ⟨none, .store 1 (.tmp 9) (.tmp 40), none, [], false, false⟩])
                     (.skip)))))))
               (.seq (.region false [⟨(some 41), .load false 1 (.tmp 9), none, [], false, false⟩,
                   ⟨(some 42), .len false (.tmp 41), none, [], false, false⟩,
                   ⟨(some 43), .bin .gtr (.tmp 42) (.const (.int .i64 0)), none, [], false, false⟩])
                (.cond (.tmp 43) (.seq (.region false [⟨(some 44), .load false 1 (.tmp 9), none, [], false, false⟩,
                     ⟨(some 4), .move (.tmp 44), none, [], false, false⟩,
                     ⟨(some 5), .move (.const (.int .i64 0)), none, [], false, false⟩])
                  (.ret))
                 (.skip)))))))
           (.region false [⟨(some 45), .bin .add (.tmp 25) (.const (.int .i64 1)), none, [], false, false⟩,
              ⟨(some 25), .move (.tmp 45), none, [], false, false⟩])))))))
     (.seq (.region false [⟨(some 4), .move (.const (.slice none 0 0)), none, [], false, false⟩,
         ⟨(some 5), .move (.const (.int .i64 12)), none, [], false, false⟩])
      (.ret)))))),
 [.tmp 4, .tmp 5], .pure, 46⟩

/-- agraffe/agraffelaw07.Three -/
def ef44 : EFun := ⟨
 .seq (.region false [⟨(some 0), .move (.const (.slice none 0 0)), none, [], false, false⟩])
 (.seq (.region false [⟨(some 1), .build [(.int .i64 0), (.int .i64 0), (.int .i64 0), (.int .i64 0)] [(0, 1, (.const (.int .i64 36))), (1, 1, (.const (.int .i64 43))), (2, 1, (.const (.int .i64 3))), (3, 1, (.const (.int .i64 2)))], none, [], false, false⟩,
     ⟨(some 2), .build [(.int .i64 0), (.int .i64 0), (.int .i64 0), (.int .i64 0)] [(0, 1, (.const (.int .i64 36))), (1, 1, (.const (.int .i64 40))), (2, 1, (.const (.int .i64 5))), (3, 1, (.const (.int .i64 4)))], none, [], false, false⟩,
     ⟨(some 3), .build [(.int .i64 0), (.int .i64 0), (.int .i64 0), (.int .i64 0)] [(0, 1, (.const (.int .i64 40))), (1, 1, (.const (.int .i64 43))), (2, 1, (.const (.int .i64 6))), (3, 1, (.const (.int .i64 5)))], none, [], false, false⟩,
     ⟨(some 4), .buildSlice 4 3 (List.replicate 12 (.int .i64 0)) [(0, 4, (.tmp 1)), (4, 4, (.tmp 2)), (8, 4, (.tmp 3))], none, [], false, false⟩,
     ⟨(some 0), .move (.tmp 4), none, [], false, false⟩])
  (.ret)),
 [.tmp 0], .pure, 5⟩

/-- agraffe/upkeep.Passes -/
def ef45 : EFun := ⟨
 .seq (.region false [⟨(some 6), .move (.const (.int .i64 0)), none, [], false, false⟩,
    ⟨(some 7), .move (.const (.int .i64 0)), none, [], false, false⟩])
 (.seq (.seq (.region false [⟨(some 10), .move (.tmp 0), none, [], false, false⟩,
      ⟨(some 11), .call 54 [(.tmp 10), (.const (.int .i64 0)), (.const (.int .i64 200000))], none, [], false, false⟩,
      ⟨(some 12), .un .not (.tmp 11), none, [], false, false⟩,
      ⟨(some 13), .move (.tmp 12), none, [], false, false⟩,
      ⟨(some 14), .move (.tmp 1), (some (13, false)), [], false, false⟩,
      ⟨(some 15), .call 54 [(.tmp 14), (.const (.int .i64 0)), (.const (.int .i64 999))], (some (13, false)), [], false, false⟩,
      ⟨(some 16), .un .not (.tmp 15), (some (13, false)), [], false, false⟩,
      ⟨(some 17), .pick (.tmp 13) (.const (.bool true)) (.tmp 16), none, [], false, false⟩,
      ⟨(some 18), .move (.tmp 17), none, [], false, false⟩,
      ⟨(some 19), .move (.tmp 2), (some (18, false)), [], false, false⟩,
      ⟨(some 20), .call 54 [(.tmp 19), (.const (.int .i64 0)), (.const (.int .i64 200000))], (some (18, false)), [], false, false⟩,
      ⟨(some 21), .un .not (.tmp 20), (some (18, false)), [], false, false⟩,
      ⟨(some 22), .pick (.tmp 18) (.const (.bool true)) (.tmp 21), none, [], false, false⟩])
   (.cond (.tmp 22) (.seq (.region false [⟨(some 6), .move (.const (.int .i64 0)), none, [], false, false⟩,
        ⟨(some 7), .move (.const (.int .i64 2)), none, [], false, false⟩])
     (.ret))
    (.skip)))
  (.seq (.region false [⟨(some 8), .move (.const (.int .i64 0)), none, [], false, false⟩])
   (.seq (.block 0 (.loop (some [0, 1, 2, 8]) (
      .seq (.seq (.region false [⟨(some 23), .move (.tmp 0), none, [], false, false⟩,
           ⟨(some 24), .move (.tmp 2), none, [], false, false⟩,
           ⟨(some 25), .bin .gtr (.tmp 23) (.tmp 24), none, [], false, false⟩])
        (.cond (.tmp 25) (.skip)
         (.exit 0)))
       (.seq (.block 1 (.seq (.region false [⟨(some 28), .move (.tmp 0), none, [], false, false⟩,
             ⟨(some 29), .move (.tmp 1), none, [], false, false⟩,
             ⟨(some 30), .bin .mul (.tmp 28) (.tmp 29), none, [], false, false⟩,
             ⟨(some 31), .bin .add (.tmp 30) (.const (.int .i64 1000)), none, [], false, false⟩,
             ⟨(some 32), .bin .sub (.tmp 31) (.const (.int .i64 1)), none, [], false, false⟩,
             ⟨(some 33), .bin .quo (.tmp 32) (.const (.int .i64 1000)), none, [], false, false⟩,
             ⟨(some 9), .move (.tmp 33), none, [], false, false⟩])
          (.seq (.seq (.region false [⟨(some 34), .move (.tmp 9), none, [], false, false⟩,
               ⟨(some 35), .move (.tmp 0), none, [], false, false⟩,
               ⟨(some 36), .bin .eql (.tmp 34) (.tmp 35), none, [], false, false⟩])
            (.cond (.tmp 36) (.seq (.region false [⟨(some 6), .move (.const (.int .i64 0)), none, [], false, false⟩,
                 ⟨(some 7), .move (.const (.int .i64 12)), none, [], false, false⟩])
              (.ret))
             (.skip)))
           (.region false [⟨(some 37), .move (.tmp 9), none, [], false, false⟩,
              ⟨(some 0), .move (.tmp 37), none, [], false, false⟩]))))
        (.region false [⟨(some 26), .move (.tmp 8), none, [], false, false⟩,
           ⟨(some 27), .bin .add (.tmp 26) (.const (.int .i64 1)), none, [], false, false⟩,
           ⟨(some 8), .move (.tmp 27), none, [], false, false⟩])))))
    (.seq (.region false [⟨(some 38), .move (.tmp 8), none, [], false, false⟩,
        ⟨(some 6), .move (.tmp 38), none, [], false, false⟩,
        ⟨(some 7), .move (.const (.int .i64 0)), none, [], false, false⟩])
     (.ret))))),
 [.tmp 6, .tmp 7], .pure, 39⟩

/-- agraffe/upkeep.Moisture -/
def ef46 : EFun := ⟨
 .seq (.region false [⟨(some 3), .box (.tmp 0), none, [], false, false⟩,
    ⟨(some 6), .move (.const (.int .i64 0)), none, [], false, false⟩,
    ⟨(some 7), .move (.const (.int .i64 0)), none, [], false, false⟩])
 (.seq (.seq (.region false [⟨(some 9), .load true 4 (.tmp 3), none, [], false, false⟩,
      ⟨(some 10), .move (.tmp 1), none, [], false, false⟩,
      ⟨(some 11), .move (.tmp 2), none, [], false, false⟩,
      ⟨(some 12), .call 80 [(.tmp 9), (.tmp 10), (.tmp 11), (.const (.int .i64 0))], none, [], false, false⟩,
      ⟨(some 8), .move (.tmp 12), none, [], false, false⟩])
   (.seq (.region false [⟨(some 13), .move (.tmp 8), none, [], false, false⟩,
       ⟨(some 14), .bin .neq (.tmp 13) (.const (.int .i64 0)), none, [], false, false⟩])
    (.cond (.tmp 14) (.seq (.region false [⟨(some 15), .move (.tmp 8), none, [], false, false⟩,
         ⟨(some 6), .move (.const (.int .i64 0)), none, [], false, false⟩,
         ⟨(some 7), .move (.tmp 15), none, [], false, false⟩])
      (.ret))
     (.skip))))
  (.seq (.region false [⟨(some 16), .load true 4 (.tmp 3), none, [], false, false⟩,
      ⟨(some 17), .move (.tmp 1), none, [], false, false⟩,
      ⟨(some 18), .move (.tmp 2), none, [], false, false⟩,
      ⟨(some 19), .call 81 [(.tmp 16), (.tmp 17), (.tmp 18)], none, [], false, false⟩,
      ⟨(some 6), .move (.tmp 19), none, [], false, false⟩,
      ⟨(some 7), .move (.const (.int .i64 0)), none, [], false, false⟩])
   (.ret))),
 [.tmp 6, .tmp 7], .pure, 20⟩

/-- agraffe/temper.CheckTest -/
def ef47 : EFun := ⟨
 .seq (.region false [⟨(some 1), .box (.tmp 0), none, [], false, false⟩,
    ⟨(some 2), .move (.const (.int .i64 0)), none, [], false, false⟩])
 (.seq (.seq (.region false [⟨(some 7), .fieldAddr 0 (.tmp 1), none, [], false, false⟩,
      ⟨(some 8), .load false 1 (.tmp 7), none, [], false, false⟩,
      ⟨(some 9), .call 82 [(.tmp 8)], none, [], false, false⟩,
      ⟨(some 10), .un .not (.tmp 9), none, [], false, false⟩,
      ⟨(some 11), .move (.tmp 10), none, [], false, false⟩,
      ⟨(some 12), .fieldAddr 1 (.tmp 1), (some (11, false)), [], false, false⟩,
      ⟨(some 13), .load false 1 (.tmp 12), (some (11, false)), [], false, false⟩,
      ⟨(some 14), .call 82 [(.tmp 13)], (some (11, false)), [], false, false⟩,
      ⟨(some 15), .un .not (.tmp 14), (some (11, false)), [], false, false⟩,
      ⟨(some 16), .pick (.tmp 11) (.const (.bool true)) (.tmp 15), none, [], false, false⟩,
      ⟨(some 17), .move (.tmp 16), none, [], false, false⟩,
      ⟨(some 18), .fieldAddr 2 (.tmp 1), (some (17, false)), [], false, false⟩,
      ⟨(some 19), .load false 1 (.tmp 18), (some (17, false)), [], false, false⟩,
      ⟨(some 20), .call 83 [(.tmp 19)], (some (17, false)), [], false, false⟩,
      ⟨(some 21), .un .not (.tmp 20), (some (17, false)), [], false, false⟩,
      ⟨(some 22), .pick (.tmp 17) (.const (.bool true)) (.tmp 21), none, [], false, false⟩,
      ⟨(some 23), .move (.tmp 22), none, [], false, false⟩,
      ⟨(some 24), .fieldAddr 3 (.tmp 1), (some (23, false)), [], false, false⟩,
      ⟨(some 25), .load false 1 (.tmp 24), (some (23, false)), [], false, false⟩,
      ⟨(some 26), .call 83 [(.tmp 25)], (some (23, false)), [], false, false⟩,
      ⟨(some 27), .un .not (.tmp 26), (some (23, false)), [], false, false⟩,
      ⟨(some 28), .pick (.tmp 23) (.const (.bool true)) (.tmp 27), none, [], false, false⟩])
   (.cond (.tmp 28) (.seq (.region false [⟨(some 2), .move (.const (.int .i64 2)), none, [], false, false⟩])
     (.ret))
    (.skip)))
  (.seq (.seq (.region false [⟨(some 29), .fieldAddr 1 (.tmp 1), none, [], false, false⟩,
       ⟨(some 30), .load false 1 (.tmp 29), none, [], false, false⟩,
       ⟨(some 31), .fieldAddr 0 (.tmp 1), none, [], false, false⟩,
       ⟨(some 32), .load false 1 (.tmp 31), none, [], false, false⟩,
       ⟨(some 33), .bin .leq (.tmp 30) (.tmp 32), none, [], false, false⟩])
    (.cond (.tmp 33) (.seq (.region false [⟨(some 2), .move (.const (.int .i64 9)), none, [], false, false⟩])
      (.ret))
     (.skip)))
   (.seq (.seq (.region false [⟨(some 34), .fieldAddr 2 (.tmp 1), none, [], false, false⟩,
        ⟨(some 35), .load false 1 (.tmp 34), none, [], false, false⟩,
        ⟨(some 36), .fieldAddr 3 (.tmp 1), none, [], false, false⟩,
        ⟨(some 37), .load false 1 (.tmp 36), none, [], false, false⟩,
        ⟨(some 38), .build [(.int .i64 0), (.int .i64 0)] [(0, 1, (.tmp 35)), (1, 1, (.tmp 37))], none, [], false, false⟩,
        ⟨(some 39), .move (.const (.int .i64 0)), none, [], false, false⟩])
     (.block 0 (.loop (some [38, 39]) (
       .seq (.region false [⟨(some 40), .bin .lss (.tmp 39) (.const (.int .i64 2)), none, [], false, false⟩])
        (.seq (.cond (.tmp 40) (.skip)
          (.exit 0))
         (.seq (.block 1 (.seq (.region false [⟨(some 41), .index 2 1 false (.tmp 38) (.tmp 39), none, [], false, false⟩,
               ⟨(some 4), .move (.tmp 41), none, [], false, false⟩])
            (.seq (.region false [⟨(some 43), .move (.tmp 4), none, [], false, false⟩,
                ⟨(some 44), .call 84 [(.tmp 43)], none, [], false, false⟩,
                ⟨(some 42), .move (.tmp 44), none, [], false, false⟩,
                ⟨(some 45), .extract (.tmp 42) 0, none, [], false, false⟩,
                ⟨(some 46), .extract (.tmp 42) 1, none, [], false, false⟩,
                ⟨(some 5), .push [(.int .i64 0), (.int .i64 0), (.int .i64 0)], none, [], false, false⟩,
                ⟨none, .store 3 (.tmp 5) (.tmp 45), none, [], false, false⟩,
                ⟨(some 6), .move (.tmp 46), none, [], false, false⟩])
             (.seq (.region false [⟨(some 47), .move (.tmp 6), none, [], false, false⟩,
                 ⟨(some 48), .un .not (.tmp 47), none, [], false, false⟩])
              (.cond (.tmp 48) (.seq (.region false [⟨(some 2), .move (.const (.int .i64 15)), none, [], false, false⟩])
                (.ret))
               (.skip))))))
          (.region false [⟨(some 49), .bin .add (.tmp 39) (.const (.int .i64 1)), none, [], false, false⟩,
             ⟨(some 39), .move (.tmp 49), none, [], false, false⟩])))))))
    (.seq (.region false [⟨(some 2), .move (.const (.int .i64 0)), none, [], false, false⟩])
     (.ret))))),
 [.tmp 2], .pure, 50⟩

/-- slices.Contains[[]agraffe/api.BeatTest,agraffe/api.BeatTest] -/
def ef48 : EFun := ⟨
 .seq (.region false [⟨(some 3), .box (.tmp 1), none, [], false, false⟩,
    ⟨(some 4), .move (.const (.bool false)), none, [], false, false⟩])
 (.seq (.region false [⟨(some 5), .move (.tmp 0), none, [], false, false⟩,
     ⟨(some 6), .load true 4 (.tmp 3), none, [], false, false⟩,
     ⟨(some 7), .call 85 [(.tmp 5), (.tmp 6)], none, [], false, false⟩,
     ⟨(some 8), .bin .geq (.tmp 7) (.const (.int .i64 0)), none, [], false, false⟩,
     ⟨(some 4), .move (.tmp 8), none, [], false, false⟩])
  (.ret)),
 [.tmp 4], .pure, 9⟩

/-- agraffe/agrafferef06.CheckTest -/
def ef49 : EFun := ⟨
 .seq (.region false [⟨(some 1), .box (.tmp 0), none, [], false, false⟩,
    ⟨(some 2), .move (.const (.int .i64 0)), none, [], false, false⟩])
 (.seq (.seq (.region false [⟨(some 7), .fieldAddr 0 (.tmp 1), none, [], false, false⟩,
      ⟨(some 8), .load false 1 (.tmp 7), none, [], false, false⟩,
      ⟨(some 9), .call 86 [(.tmp 8)], none, [], false, false⟩,
      ⟨(some 10), .un .not (.tmp 9), none, [], false, false⟩,
      ⟨(some 11), .move (.tmp 10), none, [], false, false⟩,
      ⟨(some 12), .fieldAddr 1 (.tmp 1), (some (11, false)), [], false, false⟩,
      ⟨(some 13), .load false 1 (.tmp 12), (some (11, false)), [], false, false⟩,
      ⟨(some 14), .call 86 [(.tmp 13)], (some (11, false)), [], false, false⟩,
      ⟨(some 15), .un .not (.tmp 14), (some (11, false)), [], false, false⟩,
      ⟨(some 16), .pick (.tmp 11) (.const (.bool true)) (.tmp 15), none, [], false, false⟩,
      ⟨(some 17), .move (.tmp 16), none, [], false, false⟩,
      ⟨(some 18), .fieldAddr 2 (.tmp 1), (some (17, false)), [], false, false⟩,
      ⟨(some 19), .load false 1 (.tmp 18), (some (17, false)), [], false, false⟩,
      ⟨(some 20), .call 37 [(.tmp 19), (.const (.int .i64 1)), (.const (.int .i64 16))], (some (17, false)), [], false, false⟩,
      ⟨(some 21), .un .not (.tmp 20), (some (17, false)), [], false, false⟩,
      ⟨(some 22), .pick (.tmp 17) (.const (.bool true)) (.tmp 21), none, [], false, false⟩,
      ⟨(some 23), .move (.tmp 22), none, [], false, false⟩,
      ⟨(some 24), .fieldAddr 3 (.tmp 1), (some (23, false)), [], false, false⟩,
      ⟨(some 25), .load false 1 (.tmp 24), (some (23, false)), [], false, false⟩,
      ⟨(some 26), .call 37 [(.tmp 25), (.const (.int .i64 1)), (.const (.int .i64 16))], (some (23, false)), [], false, false⟩,
      ⟨(some 27), .un .not (.tmp 26), (some (23, false)), [], false, false⟩,
      ⟨(some 28), .pick (.tmp 23) (.const (.bool true)) (.tmp 27), none, [], false, false⟩])
   (.cond (.tmp 28) (.seq (.region false [⟨(some 2), .move (.const (.int .i64 2)), none, [], false, false⟩])
     (.ret))
    (.skip)))
  (.seq (.seq (.region false [⟨(some 29), .fieldAddr 1 (.tmp 1), none, [], false, false⟩,
       ⟨(some 30), .load false 1 (.tmp 29), none, [], false, false⟩,
       ⟨(some 31), .fieldAddr 0 (.tmp 1), none, [], false, false⟩,
       ⟨(some 32), .load false 1 (.tmp 31), none, [], false, false⟩,
       ⟨(some 33), .bin .leq (.tmp 30) (.tmp 32), none, [], false, false⟩])
    (.cond (.tmp 33) (.seq (.region false [⟨(some 2), .move (.const (.int .i64 9)), none, [], false, false⟩])
      (.ret))
     (.skip)))
   (.seq (.region false [⟨(some 35), .fieldAddr 2 (.tmp 1), none, [], false, false⟩,
       ⟨(some 36), .load false 1 (.tmp 35), none, [], false, false⟩,
       ⟨(some 37), .call 87 [(.tmp 36)], none, [], false, false⟩,
       ⟨(some 34), .move (.tmp 37), none, [], false, false⟩,
       ⟨(some 38), .extract (.tmp 34) 0, none, [], false, false⟩,
       ⟨(some 39), .extract (.tmp 34) 1, none, [], false, false⟩,
       ⟨(some 3), .push [(.int .i64 0), (.int .i64 0), (.int .i64 0)], none, [], false, false⟩,
       ⟨none, .store 3 (.tmp 3) (.tmp 38), none, [], false, false⟩,
       ⟨(some 4), .move (.tmp 39), none, [], false, false⟩])
    (.seq (.region false [⟨(some 41), .fieldAddr 3 (.tmp 1), none, [], false, false⟩,
        ⟨(some 42), .load false 1 (.tmp 41), none, [], false, false⟩,
        ⟨(some 43), .call 87 [(.tmp 42)], none, [], false, false⟩,
        ⟨(some 40), .move (.tmp 43), none, [], false, false⟩,
        ⟨(some 44), .extract (.tmp 40) 0, none, [], false, false⟩,
        ⟨(some 45), .extract (.tmp 40) 1, none, [], false, false⟩,
        ⟨(some 5), .push [(.int .i64 0), (.int .i64 0), (.int .i64 0)], none, [], false, false⟩,
        ⟨none, .store 3 (.tmp 5) (.tmp 44), none, [], false, false⟩,
        ⟨(some 6), .move (.tmp 45), none, [], false, false⟩])
     (.seq (.seq (.region false [⟨(some 46), .move (.tmp 4), none, [], false, false⟩,
          ⟨(some 47), .un .not (.tmp 46), none, [], false, false⟩,
          ⟨(some 48), .move (.tmp 47), none, [], false, false⟩,
          ⟨(some 49), .move (.tmp 6), (some (48, false)), [], false, false⟩,
          ⟨(some 50), .un .not (.tmp 49), (some (48, false)), [], false, false⟩,
          ⟨(some 51), .pick (.tmp 48) (.const (.bool true)) (.tmp 50), none, [], false, false⟩])
       (.cond (.tmp 51) (.seq (.region false [⟨(some 2), .move (.const (.int .i64 15)), none, [], false, false⟩])
         (.ret))
        (.skip)))
      (.seq (.region false [⟨(some 2), .move (.const (.int .i64 0)), none, [], false, false⟩])
       (.ret))))))),
 [.tmp 2], .pure, 52⟩

/-- agraffe/upkeep.checkTuned -/
def ef50 : EFun := ⟨
 .seq (.region false [⟨(some 2), .box (.tmp 0), none, [], false, false⟩,
    ⟨(some 4), .move (.const (.int .i64 0)), none, [], false, false⟩])
 (.seq (.seq (.region false [⟨(some 6), .load true 25 (.tmp 2), none, [], false, false⟩,
      ⟨(some 7), .call 88 [(.tmp 6)], none, [], false, false⟩,
      ⟨(some 5), .move (.tmp 7), none, [], false, false⟩])
   (.seq (.region false [⟨(some 8), .move (.tmp 5), none, [], false, false⟩,
       ⟨(some 9), .bin .neq (.tmp 8) (.const (.int .i64 0)), none, [], false, false⟩])
    (.cond (.tmp 9) (.seq (.region false [⟨(some 10), .move (.tmp 5), none, [], false, false⟩,
         ⟨(some 4), .move (.tmp 10), none, [], false, false⟩])
      (.ret))
     (.skip))))
  (.seq (.seq (.region false [⟨(some 11), .move (.tmp 1), none, [], false, false⟩,
       ⟨(some 12), .call 54 [(.tmp 11), (.const (.int .i64 1)), (.const (.int .i64 1000000))], none, [], false, false⟩,
       ⟨(some 13), .un .not (.tmp 12), none, [], false, false⟩])
    (.cond (.tmp 13) (.seq (.region false [⟨(some 4), .move (.const (.int .i64 2)), none, [], false, false⟩])
      (.ret))
     (.skip)))
   (.seq (.region false [⟨(some 4), .move (.const (.int .i64 0)), none, [], false, false⟩])
    (.ret)))),
 [.tmp 4], .pure, 14⟩

/-- agraffe/temper.Beats -/
def ef51 : EFun := ⟨
 .seq (.region false [⟨(some 3), .box (.tmp 0), none, [], false, false⟩,
    ⟨(some 5), .box (.tmp 2), none, [], false, false⟩,
    ⟨(some 6), .push [(.int .i64 0), (.int .i64 0)], none, [], false, false⟩,
    ⟨(some 7), .move (.const (.int .i64 0)), none, [], false, false⟩])
 (.seq (.region true [⟨(some 12), .load true 25 (.tmp 3), none, [], false, false⟩,
     ⟨(some 13), .move (.tmp 1), none, [], false, false⟩,
     ⟨(some 14), .call 90 [(.tmp 13)], none, [], false, true⟩,
     ⟨(some 15), .buildSlice 1 1 [(.bool false)] [(0, 1, (.tmp 14))], none, [], false, false⟩,
     ⟨(some 16), .call 89 [(.tmp 12), (.tmp 15)], none, [], false, false⟩,
     ⟨(some 11), .move (.tmp 16), none, [], false, false⟩,
     ⟨(some 17), .extract (.tmp 11) 0, none, [], false, false⟩,
     ⟨(some 18), .extract (.tmp 11) 1, none, [], false, false⟩,
     ⟨(some 8), .move (.tmp 17), none, [], false, false⟩,
     ⟨(some 9), .move (.tmp 18), none, [], false, false⟩])
  (.seq (.seq (.region false [⟨(some 19), .move (.tmp 9), none, [], false, false⟩,
       ⟨(some 20), .bin .neq (.tmp 19) (.const (.int .i64 0)), none, [], false, false⟩])
    (.cond (.tmp 20) (.seq (.region false [⟨(some 21), .build [(.int .i64 0), (.int .i64 0)] [], none, [], false, false⟩,
         ⟨(some 22), .move (.tmp 9), none, [], false, false⟩,
         ⟨none, .store 2 (.tmp 6) (.tmp 21), none, [], false, false⟩,
         ⟨(some 7), .move (.tmp 22), none, [], false, false⟩])
      (.ret))
     (.skip)))
   (.seq (.seq (.region false [⟨(some 23), .load true 4 (.tmp 5), none, [], false, false⟩,
        ⟨(some 24), .call 47 [(.tmp 23)], none, [], false, false⟩,
        ⟨(some 10), .move (.tmp 24), none, [], false, false⟩])
     (.seq (.region false [⟨(some 25), .move (.tmp 10), none, [], false, false⟩,
         ⟨(some 26), .bin .neq (.tmp 25) (.const (.int .i64 0)), none, [], false, false⟩])
      (.cond (.tmp 26) (.seq (.region false [⟨(some 27), .build [(.int .i64 0), (.int .i64 0)] [], none, [], false, false⟩,
           ⟨(some 28), .move (.tmp 10), none, [], false, false⟩,
           ⟨none, .store 2 (.tmp 6) (.tmp 27), none, [], false, false⟩,
           ⟨(some 7), .move (.tmp 28), none, [], false, false⟩])
        (.ret))
       (.skip))))
    (.seq (.region false [⟨(some 29), .move (.tmp 8), none, [], false, false⟩,
        ⟨(some 30), .move (.tmp 1), none, [], false, false⟩,
        ⟨(some 31), .load true 4 (.tmp 5), none, [], false, false⟩,
        ⟨(some 32), .call 91 [(.tmp 29), (.tmp 30), (.tmp 31)], none, [], false, false⟩,
        ⟨(some 33), .extract (.tmp 32) 0, none, [], false, false⟩,
        ⟨(some 34), .extract (.tmp 32) 1, none, [], false, false⟩,
        ⟨none, .store 2 (.tmp 6) (.tmp 33), none, [], false, false⟩,
        ⟨(some 7), .move (.tmp 34), none, [], false, false⟩])
     (.ret))))),
 [.cell 6 true 2, .tmp 7], .pure, 35⟩

/-- agraffe/agrafferef06.IsFork -/
def ef52 : EFun := ⟨
 .seq (.region false [⟨(some 2), .move (.const (.bool false)), none, [], false, false⟩])
 (.seq (.region false [⟨(some 3), .move (.tmp 0), none, [], false, false⟩,
     ⟨(some 4), .call 37 [(.tmp 3), (.const (.int .i64 1)), (.const (.int .i64 1000000))], none, [], false, false⟩,
     ⟨(some 2), .move (.tmp 4), none, [], false, false⟩])
  (.ret)),
 [.tmp 2], .pure, 5⟩

/-- agraffe/agrafferef06.Beats -/
def ef53 : EFun := ⟨
 .seq (.region false [⟨(some 3), .box (.tmp 0), none, [], false, false⟩,
    ⟨(some 5), .box (.tmp 2), none, [], false, false⟩,
    ⟨(some 6), .push [(.int .i64 0), (.int .i64 0)], none, [], false, false⟩])
 (.seq (.region true [⟨(some 12), .load true 25 (.tmp 3), none, [], false, false⟩,
     ⟨(some 13), .fieldAddr 1 (.tmp 5), none, [], false, false⟩,
     ⟨(some 14), .load false 1 (.tmp 13), none, [], false, false⟩,
     ⟨(some 15), .call 93 [(.tmp 12), (.tmp 14)], none, [], false, true⟩,
     ⟨(some 16), .call 94 [(.tmp 15)], none, [], false, true⟩,
     ⟨(some 17), .move (.tmp 1), none, [], false, false⟩,
     ⟨(some 18), .fieldAddr 3 (.tmp 5), none, [], false, false⟩,
     ⟨(some 19), .load false 1 (.tmp 18), none, [], false, false⟩,
     ⟨(some 20), .bin .mul (.tmp 17) (.tmp 19), none, [], false, false⟩,
     ⟨(some 21), .call 92 [(.tmp 16), (.tmp 20)], none, [], false, true⟩,
     ⟨(some 11), .move (.tmp 21), none, [], false, false⟩,
     ⟨(some 22), .extract (.tmp 11) 0, none, [], false, false⟩,
     ⟨(some 23), .extract (.tmp 11) 1, none, [], false, false⟩,
     ⟨(some 7), .push [(.int .i64 0), (.int .i64 0)], none, [], false, false⟩,
     ⟨none, .store 2 (.tmp 7) (.tmp 22), none, [], false, false⟩,
     ⟨(some 8), .move (.tmp 23), none, [], false, false⟩])
  (.seq (.region true [⟨(some 25), .load true 25 (.tmp 3), none, [], false, false⟩,
      ⟨(some 26), .fieldAddr 0 (.tmp 5), none, [], false, false⟩,
      ⟨(some 27), .load false 1 (.tmp 26), none, [], false, false⟩,
      ⟨(some 28), .call 93 [(.tmp 25), (.tmp 27)], none, [], false, true⟩,
      ⟨(some 29), .call 94 [(.tmp 28)], none, [], false, true⟩,
      ⟨(some 30), .move (.tmp 1), none, [], false, false⟩,
      ⟨(some 31), .fieldAddr 2 (.tmp 5), none, [], false, false⟩,
      ⟨(some 32), .load false 1 (.tmp 31), none, [], false, false⟩,
      ⟨(some 33), .bin .mul (.tmp 30) (.tmp 32), none, [], false, false⟩,
      ⟨(some 34), .call 92 [(.tmp 29), (.tmp 33)], none, [], false, true⟩,
      ⟨(some 24), .move (.tmp 34), none, [], false, false⟩,
      ⟨(some 35), .extract (.tmp 24) 0, none, [], false, false⟩,
      ⟨(some 36), .extract (.tmp 24) 1, none, [], false, false⟩,
      ⟨(some 9), .push [(.int .i64 0), (.int .i64 0)], none, [], false, false⟩,
      ⟨none, .store 2 (.tmp 9) (.tmp 35), none, [], false, false⟩,
      ⟨(some 10), .move (.tmp 36), none, [], false, false⟩])
   (.seq (.region false [⟨(some 37), .fieldAddr 0 (.tmp 7), none, [], false, false⟩,
       ⟨(some 38), .load false 1 (.tmp 37), none, [], false, false⟩,
       ⟨(some 39), .fieldAddr 1 (.tmp 9), none, [], false, false⟩,
       ⟨(some 40), .load false 1 (.tmp 39), none, [], false, false⟩,
       ⟨(some 41), .bin .sub (.tmp 38) (.tmp 40), none, [], false, false⟩,
       ⟨(some 42), .fieldAddr 1 (.tmp 7), none, [], false, false⟩,
       ⟨(some 43), .load false 1 (.tmp 42), none, [], false, false⟩,
       ⟨(some 44), .fieldAddr 0 (.tmp 9), none, [], false, false⟩,
       ⟨(some 45), .load false 1 (.tmp 44), none, [], false, false⟩,
       ⟨(some 46), .bin .sub (.tmp 43) (.tmp 45), none, [], false, false⟩,
       ⟨(some 47), .build [(.int .i64 0), (.int .i64 0)] [(0, 1, (.tmp 41)), (1, 1, (.tmp 46))], none, [], false, false⟩,
       ⟨none, .store 2 (.tmp 6) (.tmp 47), none, [], false, false⟩])
    (.ret)))),
 [.cell 6 true 2], .pure, 48⟩

/-- agraffe/upkeep.within -/
def ef54 : EFun := ⟨
 .seq (.region false [⟨(some 6), .move (.const (.bool false)), none, [], false, false⟩])
 (.seq (.region false [⟨(some 7), .move (.tmp 0), none, [], false, false⟩,
     ⟨(some 8), .move (.tmp 1), none, [], false, false⟩,
     ⟨(some 9), .bin .geq (.tmp 7) (.tmp 8), none, [], false, false⟩,
     ⟨(some 10), .move (.tmp 9), none, [], false, false⟩,
     ⟨(some 11), .move (.tmp 0), (some (10, true)), [], false, false⟩,
     ⟨(some 12), .move (.tmp 2), (some (10, true)), [], false, false⟩,
     ⟨(some 13), .bin .leq (.tmp 11) (.tmp 12), (some (10, true)), [], false, false⟩,
     ⟨(some 14), .pick (.tmp 10) (.tmp 13) (.const (.bool false)), none, [], false, false⟩,
     ⟨(some 6), .move (.tmp 14), none, [], false, false⟩])
  (.ret)),
 [.tmp 6], .pure, 15⟩

/-- agraffe/upkeep.checkReading -/
def ef56 : EFun := ⟨
 .seq (.region false [⟨(some 1), .box (.tmp 0), none, [], false, false⟩,
    ⟨(some 2), .move (.const (.int .i64 0)), none, [], false, false⟩])
 (.seq (.seq (.region false [⟨(some 3), .fieldAddr 0 (.tmp 1), none, [], false, false⟩,
      ⟨(some 4), .load false 1 (.tmp 3), none, [], false, false⟩,
      ⟨(some 5), .call 97 [(.tmp 4)], none, [], false, false⟩,
      ⟨(some 6), .un .not (.tmp 5), none, [], false, false⟩,
      ⟨(some 7), .move (.tmp 6), none, [], false, false⟩,
      ⟨(some 8), .fieldAddr 1 (.tmp 1), (some (7, false)), [], false, false⟩,
      ⟨(some 9), .load false 1 (.tmp 8), (some (7, false)), [], false, false⟩,
      ⟨(some 10), .call 54 [(.tmp 9), (.const (.int .i64 0)), (.const (.int .i64 1000))], (some (7, false)), [], false, false⟩,
      ⟨(some 11), .un .not (.tmp 10), (some (7, false)), [], false, false⟩,
      ⟨(some 12), .pick (.tmp 7) (.const (.bool true)) (.tmp 11), none, [], false, false⟩])
   (.cond (.tmp 12) (.seq (.region false [⟨(some 2), .move (.const (.int .i64 2)), none, [], false, false⟩])
     (.ret))
    (.skip)))
  (.seq (.region false [⟨(some 2), .move (.const (.int .i64 0)), none, [], false, false⟩])
   (.ret))),
 [.tmp 2], .pure, 13⟩

/-- agraffe/agraffebase.IsName -/
def ef68 : EFun := ⟨
 .seq (.region false [⟨(some 2), .move (.const (.bool false)), none, [], false, false⟩])
 (.seq (.seq (.region false [⟨(some 4), .move (.tmp 0), none, [], false, false⟩,
      ⟨(some 5), .len true (.tmp 4), none, [], false, false⟩,
      ⟨(some 6), .bin .eql (.tmp 5) (.const (.int .i64 0)), none, [], false, false⟩,
      ⟨(some 7), .move (.tmp 6), none, [], false, false⟩,
      ⟨(some 8), .move (.tmp 0), (some (7, false)), [], false, false⟩,
      ⟨(some 9), .len true (.tmp 8), (some (7, false)), [], false, false⟩,
      ⟨(some 10), .bin .gtr (.tmp 9) (.const (.int .i64 12)), (some (7, false)), [], false, false⟩,
      ⟨(some 11), .pick (.tmp 7) (.const (.bool true)) (.tmp 10), none, [], false, false⟩,
      ⟨(some 12), .move (.tmp 11), none, [], false, false⟩,
      ⟨(some 13), .move (.tmp 0), (some (12, false)), [], false, false⟩,
      ⟨(some 14), .strIndex (.tmp 13) (.const (.int .i64 0)), (some (12, false)), [], false, false⟩,
      ⟨(some 15), .call 108 [(.tmp 14)], (some (12, false)), [], false, false⟩,
      ⟨(some 16), .un .not (.tmp 15), (some (12, false)), [], false, false⟩,
      ⟨(some 17), .pick (.tmp 12) (.const (.bool true)) (.tmp 16), none, [], false, false⟩])
   (.cond (.tmp 17) (.seq (.region false [⟨(some 2), .move (.const (.bool false)), none, [], false, false⟩])
     (.ret))
    (.skip)))
  (.seq (.seq (.region false [⟨(some 3), .move (.const (.int .i64 0)), none, [], false, false⟩])
    (.block 0 (.loop (some [0, 3]) (
      .seq (.seq (.region false [⟨(some 18), .move (.tmp 3), none, [], false, false⟩,
           ⟨(some 19), .move (.tmp 0), none, [], false, false⟩,
           ⟨(some 20), .len true (.tmp 19), none, [], false, false⟩,
           ⟨(some 21), .bin .lss (.tmp 18) (.tmp 20), none, [], false, false⟩])
        (.cond (.tmp 21) (.skip)
         (.exit 0)))
       (.seq (.block 1 (.seq (.region false [⟨(some 24), .move (.tmp 0), none, [], false, false⟩,
             ⟨(some 25), .move (.tmp 3), none, [], false, false⟩,
             ⟨(some 26), .strIndex (.tmp 24) (.tmp 25), none, [], false, false⟩,
             ⟨(some 27), .call 108 [(.tmp 26)], none, [], false, false⟩,
             ⟨(some 28), .un .not (.tmp 27), none, [], false, false⟩,
             ⟨(some 29), .move (.tmp 28), none, [], false, false⟩,
             ⟨(some 30), .move (.tmp 0), (some (29, true)), [], false, false⟩,
             ⟨(some 31), .move (.tmp 3), (some (29, true)), [], false, false⟩,
             ⟨(some 32), .strIndex (.tmp 30) (.tmp 31), (some (29, true)), [], false, false⟩,
             ⟨(some 33), .call 109 [(.tmp 32)], (some (29, true)), [], false, false⟩,
             ⟨(some 34), .un .not (.tmp 33), (some (29, true)), [], false, false⟩,
             ⟨(some 35), .pick (.tmp 29) (.tmp 34) (.const (.bool false)), none, [], false, false⟩,
             ⟨(some 36), .move (.tmp 35), none, [], false, false⟩,
             ⟨(some 37), .move (.tmp 0), (some (36, true)), [], false, false⟩,
             ⟨(some 38), .move (.tmp 3), (some (36, true)), [], false, false⟩,
             ⟨(some 39), .strIndex (.tmp 37) (.tmp 38), (some (36, true)), [], false, false⟩,
             ⟨(some 40), .bin .neq (.tmp 39) (.const (.int .u8 45)), (some (36, true)), [], false, false⟩,
             ⟨(some 41), .pick (.tmp 36) (.tmp 40) (.const (.bool false)), none, [], false, false⟩])
          (.cond (.tmp 41) (.seq (.region false [⟨(some 2), .move (.const (.bool false)), none, [], false, false⟩])
            (.ret))
           (.skip))))
        (.region false [⟨(some 22), .move (.tmp 3), none, [], false, false⟩,
           ⟨(some 23), .bin .add (.tmp 22) (.const (.int .i64 1)), none, [], false, false⟩,
           ⟨(some 3), .move (.tmp 23), none, [], false, false⟩]))))))
   (.seq (.region false [⟨(some 2), .move (.const (.bool true)), none, [], false, false⟩])
    (.ret)))),
 [.tmp 2], .pure, 42⟩

/-- agraffe/agrafferef06.Spread -/
def ef69 : EFun := ⟨
 .seq (.region false [⟨(some 1), .box (.tmp 0), none, [], false, false⟩,
    ⟨(some 2), .push [(.int .i64 0), (.int .i64 0), (.int .i64 0)], none, [], false, false⟩])
 (.seq (.region true [⟨(some 8), .load true 25 (.tmp 1), none, [], false, false⟩,
     ⟨(some 9), .call 110 [(.tmp 8), (.const (.int .i64 0))], none, [], false, true⟩,
     ⟨(some 10), .load true 25 (.tmp 1), none, [], false, false⟩,
     ⟨(some 11), .call 110 [(.tmp 10), (.const (.int .i64 0))], none, [], false, true⟩,
     ⟨(some 3), .push [(.int .i64 0), (.int .i64 0), (.int .i64 0)], none, [], false, false⟩,
     ⟨(some 4), .push [(.int .i64 0), (.int .i64 0), (.int .i64 0)], none, [], false, false⟩,
     ⟨none, .store 3 (.tmp 3) (.tmp 9), none, [], false, false⟩,
     ⟨none, .store 3 (.tmp 4) (.tmp 11), none, [], false, false⟩])
  (.seq (.seq (.region false [⟨(some 5), .move (.const (.int .i64 1)), none, [], false, false⟩])
    (.block 0 (.loop (some [1, 2, 3, 4, 5]) (
      .seq (.seq (.region false [⟨(some 12), .move (.tmp 5), none, [], false, false⟩,
           ⟨(some 13), .bin .lss (.tmp 12) (.const (.int .i64 12)), none, [], false, false⟩])
        (.cond (.tmp 13) (.skip)
         (.exit 0)))
       (.seq (.block 1 (.seq (.region false [⟨(some 16), .load true 25 (.tmp 1), none, [], false, false⟩,
             ⟨(some 17), .move (.tmp 5), none, [], false, false⟩,
             ⟨(some 18), .call 110 [(.tmp 16), (.tmp 17)], none, [], false, false⟩,
             ⟨(some 6), .push [(.int .i64 0), (.int .i64 0), (.int .i64 0)], none, [], false, false⟩,
             ⟨none, .store 3 (.tmp 6) (.tmp 18), none, [], false, false⟩])
          (.seq (.region false [⟨(some 7), .move (.const (.int .i64 0)), none, [], false, false⟩])
           (.block 2 (.loop (some [1, 2, 3, 4, 5, 6, 7]) (
             .seq (.seq (.region false [⟨(some 19), .move (.tmp 7), none, [], false, false⟩,
                  ⟨(some 20), .bin .lss (.tmp 19) (.const (.int .i64 3)), none, [], false, false⟩])
               (.cond (.tmp 20) (.skip)
                (.exit 2)))
              (.seq (.block 3 (.region true [⟨(some 23), .move (.tmp 7), none, [], false, false⟩,
                   ⟨(some 24), .move (.tmp 7), none, [], false, false⟩,
                   ⟨(some 25), .move (.tmp 7), none, [], false, false⟩,
                   ⟨(some 26), .indexAddr (some 3) 1 (.tmp 3) (.tmp 25), none, [], false, false⟩,
                   ⟨(some 27), .load false 1 (.tmp 26), none, [], false, false⟩,
                   ⟨(some 28), .move (.tmp 7), none, [], false, false⟩,
                   ⟨(some 29), .indexAddr (some 3) 1 (.tmp 6) (.tmp 28), none, [], false, false⟩,
                   ⟨(some 30), .load false 1 (.tmp 29), none, [], false, false⟩,
                   ⟨(some 31), .min [(.tmp 27), (.tmp 30)], none, [], false, false⟩,
                   ⟨(some 32), .move (.tmp 7), none, [], false, false⟩,
                   ⟨(some 33), .indexAddr (some 3) 1 (.tmp 4) (.tmp 32), none, [], false, false⟩,
                   ⟨(some 34), .load false 1 (.tmp 33), none, [], true, false⟩,
                   ⟨(some 35), .move (.tmp 7), none, [], false, false⟩,
                   ⟨(some 36), .indexAddr (some 3) 1 (.tmp 6) (.tmp 35), none, [], false, false⟩,
                   ⟨(some 37), .load false 1 (.tmp 36), none, [], true, false⟩,
                   ⟨(some 38), .max [(.tmp 34), (.tmp 37)], none, [], false, false⟩,
                   ⟨(some 39), .indexAddr (some 3) 1 (.tmp 3) (.tmp 23), none, [], false, false⟩,
                   ⟨none, .store 1 (.tmp 39) (.tmp 31), none, [11, 14], false, false⟩,
                   ⟨(some 40), .indexAddr (some 3) 1 (.tmp 4) (.tmp 24), none, [], false, false⟩,
                   ⟨none, .store 1 (.tmp 40) (.tmp 38), none, [], false, false⟩]))
               (.region false [⟨(some 21), .move (.tmp 7), none, [], false, false⟩,
                  ⟨(some 22), .bin .add (.tmp 21) (.const (.int .i64 1)), none, [], false, false⟩,
                  ⟨(some 7), .move (.tmp 22), none, [], false, false⟩]))))))))
        (.region false [⟨(some 14), .move (.tmp 5), none, [], false, false⟩,
           ⟨(some 15), .bin .add (.tmp 14) (.const (.int .i64 1)), none, [], false, false⟩,
           ⟨(some 5), .move (.tmp 15), none, [], false, false⟩]))))))
   (.seq (.region false [⟨(some 41), .indexAddr (some 3) 1 (.tmp 4) (.const (.int .i64 0)), none, [], false, false⟩,
       ⟨(some 42), .load false 1 (.tmp 41), none, [], false, false⟩,
       ⟨(some 43), .indexAddr (some 3) 1 (.tmp 3) (.const (.int .i64 0)), none, [], false, false⟩,
       ⟨(some 44), .load false 1 (.tmp 43), none, [], false, false⟩,
       ⟨(some 45), .bin .sub (.tmp 42) (.tmp 44), none, [], false, false⟩,
       ⟨(some 46), .indexAddr (some 3) 1 (.tmp 4) (.const (.int .i64 1)), none, [], false, false⟩,
       ⟨(some 47), .load false 1 (.tmp 46), none, [], false, false⟩,
       ⟨(some 48), .indexAddr (some 3) 1 (.tmp 3) (.const (.int .i64 1)), none, [], false, false⟩,
       ⟨(some 49), .load false 1 (.tmp 48), none, [], false, false⟩,
       ⟨(some 50), .bin .sub (.tmp 47) (.tmp 49), none, [], false, false⟩,
       ⟨(some 51), .indexAddr (some 3) 1 (.tmp 4) (.const (.int .i64 2)), none, [], false, false⟩,
       ⟨(some 52), .load false 1 (.tmp 51), none, [], false, false⟩,
       ⟨(some 53), .indexAddr (some 3) 1 (.tmp 3) (.const (.int .i64 2)), none, [], false, false⟩,
       ⟨(some 54), .load false 1 (.tmp 53), none, [], false, false⟩,
       ⟨(some 55), .bin .sub (.tmp 52) (.tmp 54), none, [], false, false⟩,
       ⟨(some 56), .build [(.int .i64 0), (.int .i64 0), (.int .i64 0)] [(0, 1, (.tmp 45)), (1, 1, (.tmp 50)), (2, 1, (.tmp 55))], none, [], false, false⟩,
       ⟨none, .store 3 (.tmp 2) (.tmp 56), none, [], false, false⟩])
    (.ret)))),
 [.cell 2 true 3], .pure, 57⟩

/-- agraffe/upkeep.checkFailed -/
def ef72 : EFun := ⟨
 .seq (.region false [⟨(some 2), .box (.tmp 0), none, [], false, false⟩,
    ⟨(some 4), .move (.const (.int .i64 0)), none, [], false, false⟩])
 (.seq (.seq (.region false [⟨(some 6), .load false 1 (.tmp 2), none, [], false, false⟩,
      ⟨(some 7), .call 11 [(.tmp 6)], none, [], false, false⟩,
      ⟨(some 5), .move (.tmp 7), none, [], false, false⟩])
   (.seq (.region false [⟨(some 8), .move (.tmp 5), none, [], false, false⟩,
       ⟨(some 9), .bin .neq (.tmp 8) (.const (.int .i64 0)), none, [], false, false⟩])
    (.cond (.tmp 9) (.seq (.region false [⟨(some 10), .move (.tmp 5), none, [], false, false⟩,
         ⟨(some 4), .move (.tmp 10), none, [], false, false⟩])
      (.ret))
     (.skip))))
  (.seq (.seq (.region false [⟨(some 11), .move (.tmp 1), none, [], false, false⟩,
       ⟨(some 12), .makeFunc (.func 113) [(.tmp 2)], none, [], false, false⟩,
       ⟨(some 13), .call 112 [(.tmp 11), (.tmp 12)], none, [], false, false⟩])
    (.cond (.tmp 13) (.seq (.region false [⟨(some 4), .move (.const (.int .i64 6)), none, [], false, false⟩])
      (.ret))
     (.skip)))
   (.seq (.seq (.region false [⟨(some 14), .move (.tmp 1), none, [], false, false⟩,
        ⟨(some 15), .call 114 [(.tmp 14)], none, [], false, false⟩,
        ⟨(some 16), .un .not (.tmp 15), none, [], false, false⟩])
     (.cond (.tmp 16) (.seq (.region false [⟨(some 4), .move (.const (.int .i64 9)), none, [], false, false⟩])
       (.ret))
      (.skip)))
    (.seq (.region false [⟨(some 4), .move (.const (.int .i64 0)), none, [], false, false⟩])
     (.ret))))),
 [.tmp 4], .pure, 17⟩

/-- agraffe/upkeep.notes -/
def ef73 : EFun := ⟨
 .seq (.region false [⟨(some 2), .move (.const (.slice none 0 0)), none, [], false, false⟩])
 (.seq (.region false [⟨(some 3), .move (.const (.slice none 0 0)), none, [], false, false⟩])
  (.seq (.seq (.region false [⟨(some 6), .move (.tmp 0), none, [], false, false⟩,
       ⟨(some 7), .len false (.tmp 6), none, [], false, false⟩,
       ⟨(some 8), .move (.const (.int .i64 0)), none, [], false, false⟩])
    (.block 0 (.loop (some [3, 6, 7, 8]) (
      .seq (.region false [⟨(some 9), .bin .lss (.tmp 8) (.tmp 7), none, [], false, false⟩])
       (.seq (.cond (.tmp 9) (.skip)
         (.exit 0))
        (.seq (.block 1 (.seq (.region false [⟨(some 10), .indexAddr none 4 (.tmp 6) (.tmp 8), none, [], false, false⟩,
              ⟨(some 11), .load true 4 (.tmp 10), none, [], false, false⟩,
              ⟨(some 5), .push [(.int .i64 0), (.int .i64 0), (.int .i64 0), (.int .i64 0)], none, [], false, false⟩,
              ⟨none, .store 4 (.tmp 5) (.tmp 11), none, [], false, false⟩])
           (.region false [⟨(some 12), .move (.tmp 3), none, [], false, false⟩,
              ⟨(some 13), .fieldAddr 0 (.tmp 5), none, [], false, false⟩,
              ⟨(some 14), .load false 1 (.tmp 13), none, [], false, false⟩,
              ⟨(some 15), .fieldAddr 1 (.tmp 5), none, [], false, false⟩,
              ⟨(some 16), .load false 1 (.tmp 15), none, [], false, false⟩,
              ⟨(some 17), .buildSlice 1 2 [(.int .i64 0), (.int .i64 0)] [(0, 1, (.tmp 14)), (1, 1, (.tmp 16))], none, [], false, false⟩,
              ⟨(some 18), .append 1 8 (.tmp 12) (.tmp 17), none, [], false, false⟩,
              ⟨(some 3), .move (.tmp 18), none, [], false, false⟩])))
         (.region false [⟨(some 19), .bin .add (.tmp 8) (.const (.int .i64 1)), none, [], false, false⟩,
            ⟨(some 8), .move (.tmp 19), none, [], false, false⟩])))))))
   (.seq (.region false [⟨(some 20), .move (.tmp 3), none, [], false, false⟩,
       ⟨(some 21), .call 115 [(.tmp 20)], none, [], false, false⟩])
    (.seq (.region false [⟨(some 22), .move (.tmp 3), none, [], false, false⟩,
        ⟨(some 23), .call 116 [(.tmp 22)], none, [], false, false⟩,
        ⟨(some 2), .move (.tmp 23), none, [], false, false⟩])
     (.ret))))),
 [.tmp 2], .pure, 24⟩

/-- agraffe/upkeep.explains -/
def ef74 : EFun := ⟨
 .seq (.region false [⟨(some 6), .move (.const (.int .i64 0)), none, [], false, false⟩])
 (.seq (.region false [⟨(some 7), .move (.const (.bool false)), none, [], false, false⟩])
  (.seq (.seq (.region false [⟨(some 14), .move (.tmp 0), none, [], false, false⟩,
       ⟨(some 15), .len false (.tmp 14), none, [], false, false⟩,
       ⟨(some 16), .move (.const (.int .i64 0)), none, [], false, false⟩])
    (.block 0 (.loop (some [1, 2, 7, 14, 15, 16]) (
      .seq (.region false [⟨(some 17), .bin .lss (.tmp 16) (.tmp 15), none, [], false, false⟩])
       (.seq (.cond (.tmp 17) (.skip)
         (.exit 0))
        (.seq (.block 1 (.seq (.region false [⟨(some 18), .move (.tmp 16), none, [], false, false⟩,
              ⟨(some 19), .indexAddr none 4 (.tmp 14) (.tmp 16), none, [], false, false⟩,
              ⟨(some 20), .load true 4 (.tmp 19), none, [], false, false⟩,
              ⟨(some 9), .push [(.int .i64 0), (.int .i64 0), (.int .i64 0), (.int .i64 0)], none, [], false, false⟩,
              ⟨(some 8), .move (.tmp 18), none, [], false, false⟩,
              ⟨none, .store 4 (.tmp 9) (.tmp 20), none, [], false, false⟩])
           (.seq (.region true [⟨(some 21), .move (.tmp 2), none, [], false, false⟩,
               ⟨(some 22), .fieldAddr 0 (.tmp 9), none, [], false, false⟩,
               ⟨(some 23), .load false 1 (.tmp 22), none, [], false, false⟩,
               ⟨(some 24), .call 117 [(.tmp 21), (.tmp 23)], none, [], false, true⟩,
               ⟨(some 25), .move (.tmp 2), none, [], false, false⟩,
               ⟨(some 26), .fieldAddr 1 (.tmp 9), none, [], false, false⟩,
               ⟨(some 27), .load false 1 (.tmp 26), none, [], false, false⟩,
               ⟨(some 28), .call 117 [(.tmp 25), (.tmp 27)], none, [], false, false⟩,
               ⟨(some 10), .move (.tmp 24), none, [], false, false⟩,
               ⟨(some 11), .move (.tmp 28), none, [], false, false⟩])
            (.seq (.region false [⟨(some 30), .move (.tmp 1), none, [], false, false⟩,
                ⟨(some 31), .move (.tmp 8), none, [], false, false⟩,
                ⟨(some 32), .call 118 [(.tmp 30), (.tmp 31)], none, [], false, false⟩,
                ⟨(some 29), .move (.tmp 32), none, [], false, false⟩,
                ⟨(some 33), .extract (.tmp 29) 0, none, [], false, false⟩,
                ⟨(some 34), .extract (.tmp 29) 1, none, [], false, false⟩,
                ⟨(some 12), .move (.tmp 33), none, [], false, false⟩,
                ⟨(some 13), .move (.tmp 34), none, [], false, false⟩])
             (.seq (.region false [⟨(some 35), .move (.tmp 13), none, [], false, false⟩,
                 ⟨(some 36), .un .not (.tmp 35), none, [], false, false⟩])
              (.cond (.tmp 36) (.region false [⟨(some 37), .move (.tmp 7), none, [], false, false⟩,
                  ⟨(some 38), .move (.tmp 37), none, [], false, false⟩,
                  ⟨(some 39), .move (.tmp 10), (some (38, false)), [], false, false⟩,
                  ⟨(some 40), .move (.tmp 11), (some (38, false)), [], false, false⟩,
                  ⟨(some 41), .eqBool true (.tmp 39) (.tmp 40), (some (38, false)), [], false, false⟩,
                  ⟨(some 42), .pick (.tmp 38) (.const (.bool true)) (.tmp 41), none, [], false, false⟩,
                  ⟨(some 7), .move (.tmp 42), none, [], false, false⟩])
               (.seq (.region false [⟨(some 43), .move (.tmp 10), none, [], false, false⟩,
                   ⟨(some 44), .un .not (.tmp 43), none, [], false, false⟩,
                   ⟨(some 45), .move (.tmp 44), none, [], false, false⟩,
                   ⟨(some 46), .move (.tmp 11), (some (45, true)), [], false, false⟩,
                   ⟨(some 47), .un .not (.tmp 46), (some (45, true)), [], false, false⟩,
                   ⟨(some 48), .pick (.tmp 45) (.tmp 47) (.const (.bool false)), none, [], false, false⟩])
                (.cond (.tmp 48) (.seq (.region false [⟨(some 6), .move (.const (.int .i64 14)), none, [], false, false⟩])
                  (.ret))
                 (.skip)))))))))
         (.region false [⟨(some 49), .bin .add (.tmp 16) (.const (.int .i64 1)), none, [], false, false⟩,
            ⟨(some 16), .move (.tmp 49), none, [], false, false⟩])))))))
   (.seq (.seq (.region false [⟨(some 50), .move (.tmp 7), none, [], false, false⟩])
     (.cond (.tmp 50) (.seq (.region false [⟨(some 6), .move (.const (.int .i64 13)), none, [], false, false⟩])
       (.ret))
      (.skip)))
    (.seq (.region false [⟨(some 6), .move (.const (.int .i64 0)), none, [], false, false⟩])
     (.ret))))),
 [.tmp 6], .pure, 51⟩

/-- agraffe/upkeep.subsets -/
def ef75 : EFun := ⟨
 .seq (.region false [⟨(some 2), .box (.tmp 0), none, [], false, false⟩,
    ⟨(some 3), .box (.tmp 1), none, [], false, false⟩,
    ⟨(some 4), .move (.const .nilFunc), none, [], false, false⟩])
 (.seq (.region false [⟨(some 5), .makeFunc (.func 119) [(.tmp 3), (.tmp 2)], none, [], false, false⟩,
     ⟨(some 4), .move (.tmp 5), none, [], false, false⟩])
  (.ret)),
 [.tmp 4], .pure, 6⟩

/-- agraffe/upkeep.checkAll -/
def ef80 : EFun := ⟨
 .seq (.region false [⟨(some 4), .box (.tmp 0), none, [], false, false⟩,
    ⟨(some 8), .move (.const (.int .i64 0)), none, [], false, false⟩])
 (.seq (.seq (.region false [⟨(some 11), .load true 4 (.tmp 4), none, [], false, false⟩,
      ⟨(some 12), .call 124 [(.tmp 11)], none, [], false, false⟩,
      ⟨(some 9), .move (.tmp 12), none, [], false, false⟩])
   (.seq (.region false [⟨(some 13), .move (.tmp 9), none, [], false, false⟩,
       ⟨(some 14), .bin .neq (.tmp 13) (.const (.int .i64 0)), none, [], false, false⟩])
    (.cond (.tmp 14) (.seq (.region false [⟨(some 15), .move (.tmp 9), none, [], false, false⟩,
         ⟨(some 8), .move (.tmp 15), none, [], false, false⟩])
      (.ret))
     (.skip))))
  (.seq (.seq (.region false [⟨(some 16), .move (.tmp 1), none, [], false, false⟩,
       ⟨(some 17), .call 125 [(.tmp 16)], none, [], false, false⟩,
       ⟨(some 10), .move (.tmp 17), none, [], false, false⟩])
    (.seq (.region false [⟨(some 18), .move (.tmp 10), none, [], false, false⟩,
        ⟨(some 19), .bin .neq (.tmp 18) (.const (.int .i64 0)), none, [], false, false⟩])
     (.cond (.tmp 19) (.seq (.region false [⟨(some 20), .move (.tmp 10), none, [], false, false⟩,
          ⟨(some 8), .move (.tmp 20), none, [], false, false⟩])
       (.ret))
      (.skip))))
   (.seq (.seq (.region false [⟨(some 21), .move (.tmp 2), none, [], false, false⟩,
        ⟨(some 22), .move (.tmp 3), none, [], false, false⟩,
        ⟨(some 23), .call 54 [(.tmp 21), (.tmp 22), (.const (.int .i64 4000))], none, [], false, false⟩,
        ⟨(some 24), .un .not (.tmp 23), none, [], false, false⟩])
     (.cond (.tmp 24) (.seq (.region false [⟨(some 8), .move (.const (.int .i64 2)), none, [], false, false⟩])
       (.ret))
      (.skip)))
    (.seq (.region false [⟨(some 8), .move (.const (.int .i64 0)), none, [], false, false⟩])
     (.ret))))),
 [.tmp 8], .pure, 25⟩

/-- agraffe/upkeep.moisture -/
def ef81 : EFun := ⟨
 .seq (.region false [⟨(some 3), .box (.tmp 0), none, [], false, false⟩,
    ⟨(some 5), .box (.tmp 2), none, [], false, false⟩,
    ⟨(some 6), .push [(.int .i64 0)], none, [], false, false⟩])
 (.seq (.seq (.region false [⟨(some 9), .load true 4 (.tmp 3), none, [], false, false⟩,
      ⟨(some 10), .move (.tmp 1), none, [], false, false⟩,
      ⟨(some 11), .call 126 [(.tmp 9), (.tmp 10)], none, [], false, false⟩])
   (.block 0 (.rangeF (.tmp 11) 81 0 false [5, 6] [12, 13]
     (.seq (.region false [⟨(some 7), .move (.tmp 12), none, [], false, false⟩])
      (.region false [⟨(some 8), .move (.tmp 13), none, [], false, false⟩]))
     (.block 1 (.seq (.region false [⟨(some 14), .move (.tmp 7), none, [], false, false⟩,
          ⟨(some 15), .load false 1 (.tmp 5), none, [], false, false⟩,
          ⟨(some 16), .bin .eql (.tmp 14) (.tmp 15), none, [], false, false⟩])
       (.cond (.tmp 16) (.seq (.region false [⟨(some 17), .move (.tmp 8), none, [], false, false⟩,
            ⟨none, .store 1 (.tmp 6) (.tmp 17), none, [], false, false⟩])
         (.ret))
        (.skip)))))))
  (.seq (.region false [⟨none, .store 1 (.tmp 6) (.const (.int .i64 0)), none, [], false, false⟩])
   (.ret))),
 [.cell 6 false 1], .pure, 18⟩

/-- agraffe/temper.isNote -/
def ef82 : EFun := ⟨
 .seq (.region false [⟨(some 2), .move (.const (.bool false)), none, [], false, false⟩])
 (.seq (.region false [⟨(some 3), .move (.tmp 0), none, [], false, false⟩,
     ⟨(some 4), .bin .geq (.tmp 3) (.const (.int .i64 0)), none, [], false, false⟩,
     ⟨(some 5), .move (.tmp 4), none, [], false, false⟩,
     ⟨(some 6), .move (.tmp 0), (some (5, true)), [], false, false⟩,
     ⟨(some 7), .bin .leq (.tmp 6) (.const (.int .i64 87)), (some (5, true)), [], false, false⟩,
     ⟨(some 8), .pick (.tmp 5) (.tmp 7) (.const (.bool false)), none, [], false, false⟩,
     ⟨(some 2), .move (.tmp 8), none, [], false, false⟩])
  (.ret)),
 [.tmp 2], .pure, 9⟩

/-- agraffe/temper.isPartial -/
def ef83 : EFun := ⟨
 .seq (.region false [⟨(some 2), .move (.const (.bool false)), none, [], false, false⟩])
 (.seq (.region false [⟨(some 3), .move (.tmp 0), none, [], false, false⟩,
     ⟨(some 4), .bin .geq (.tmp 3) (.const (.int .i64 1)), none, [], false, false⟩,
     ⟨(some 5), .move (.tmp 4), none, [], false, false⟩,
     ⟨(some 6), .move (.tmp 0), (some (5, true)), [], false, false⟩,
     ⟨(some 7), .bin .leq (.tmp 6) (.const (.int .i64 16)), (some (5, true)), [], false, false⟩,
     ⟨(some 8), .pick (.tmp 5) (.tmp 7) (.const (.bool false)), none, [], false, false⟩,
     ⟨(some 2), .move (.tmp 8), none, [], false, false⟩])
  (.ret)),
 [.tmp 2], .pure, 9⟩

/-- agraffe/temper.factors -/
def ef84 : EFun := ⟨
 .seq (.region false [⟨(some 2), .push [(.int .i64 0), (.int .i64 0), (.int .i64 0)], none, [], false, false⟩,
    ⟨(some 3), .move (.const (.bool false)), none, [], false, false⟩])
 (.seq (.region false [⟨(some 4), .push [(.int .i64 0), (.int .i64 0), (.int .i64 0)], none, [], false, false⟩])
  (.seq (.seq (.region false [⟨(some 7), .build [(.int .i64 0), (.int .i64 0), (.int .i64 0)] [(0, 1, (.const (.int .i64 2))), (1, 1, (.const (.int .i64 3))), (2, 1, (.const (.int .i64 5)))], none, [], false, false⟩,
       ⟨(some 8), .move (.const (.int .i64 0)), none, [], false, false⟩])
    (.block 0 (.loop (some [0, 2, 4, 7, 8]) (
      .seq (.region false [⟨(some 9), .bin .lss (.tmp 8) (.const (.int .i64 3)), none, [], false, false⟩])
       (.seq (.cond (.tmp 9) (.skip)
         (.exit 0))
        (.seq (.block 1 (.seq (.region false [⟨(some 10), .move (.tmp 8), none, [], false, false⟩,
              ⟨(some 11), .index 3 1 false (.tmp 7) (.tmp 8), none, [], false, false⟩,
              ⟨(some 5), .move (.tmp 10), none, [], false, false⟩,
              ⟨(some 6), .move (.tmp 11), none, [], false, false⟩])
           (.block 2 (.loop (some [0, 2, 4, 5, 6, 7, 8]) (
             .seq (.seq (.region false [⟨(some 12), .move (.tmp 0), none, [], false, false⟩,
                  ⟨(some 13), .move (.tmp 6), none, [], false, false⟩,
                  ⟨(some 14), .bin .rem (.tmp 12) (.tmp 13), none, [], false, false⟩,
                  ⟨(some 15), .bin .eql (.tmp 14) (.const (.int .i64 0)), none, [], false, false⟩])
               (.cond (.tmp 15) (.skip)
                (.exit 2)))
              (.seq (.block 3 (.region false [⟨(some 19), .move (.tmp 5), none, [], false, false⟩,
                   ⟨(some 20), .indexAddr (some 3) 1 (.tmp 4) (.tmp 19), none, [], false, false⟩,
                   ⟨(some 21), .load false 1 (.tmp 20), none, [], false, false⟩,
                   ⟨(some 22), .bin .add (.tmp 21) (.const (.int .i64 12)), none, [], false, false⟩,
                   ⟨(some 23), .indexAddr (some 3) 1 (.tmp 4) (.tmp 19), none, [], false, false⟩,
                   ⟨none, .store 1 (.tmp 23) (.tmp 22), none, [], false, false⟩]))
               (.region false [⟨(some 16), .move (.tmp 0), none, [], false, false⟩,
                  ⟨(some 17), .move (.tmp 6), none, [], false, false⟩,
                  ⟨(some 18), .bin .quo (.tmp 16) (.tmp 17), none, [], false, false⟩,
                  ⟨(some 0), .move (.tmp 18), none, [], false, false⟩])))))))
         (.region false [⟨(some 24), .bin .add (.tmp 8) (.const (.int .i64 1)), none, [], false, false⟩,
            ⟨(some 8), .move (.tmp 24), none, [], false, false⟩])))))))
   (.seq (.region false [⟨(some 25), .load true 3 (.tmp 4), none, [], false, false⟩,
       ⟨(some 26), .move (.tmp 0), none, [], false, false⟩,
       ⟨(some 27), .bin .eql (.tmp 26) (.const (.int .i64 1)), none, [], false, false⟩,
       ⟨none, .store 3 (.tmp 2) (.tmp 25), none, [], false, false⟩,
       ⟨(some 3), .move (.tmp 27), none, [], false, false⟩])
    (.ret)))),
 [.cell 2 true 3, .tmp 3], .pure, 28⟩

/-- slices.Index[[]agraffe/api.BeatTest,agraffe/api.BeatTest] -/
def ef85 : EFun := ⟨
 .seq (.region false [⟨(some 3), .box (.tmp 1), none, [], false, false⟩,
    ⟨(some 4), .move (.const (.int .i64 0)), none, [], false, false⟩])
 (.seq (.seq (.region false [⟨(some 6), .move (.tmp 0), none, [], false, false⟩,
      ⟨(some 7), .len false (.tmp 6), none, [], false, false⟩,
      ⟨(some 8), .move (.const (.int .i64 0)), none, [], false, false⟩])
   (.block 0 (.loop (some [0, 3, 7, 8]) (
     .seq (.region false [⟨(some 9), .bin .lss (.tmp 8) (.tmp 7), none, [], false, false⟩])
      (.seq (.cond (.tmp 9) (.skip)
        (.exit 0))
       (.seq (.block 1 (.seq (.region false [⟨(some 10), .move (.tmp 8), none, [], false, false⟩,
             ⟨(some 5), .move (.tmp 10), none, [], false, false⟩])
          (.seq (.region true [⟨(some 11), .load true 4 (.tmp 3), none, [], false, false⟩,
              ⟨(some 12), .move (.tmp 0), none, [], false, false⟩,
              ⟨(some 13), .move (.tmp 5), none, [], false, false⟩,
              ⟨(some 14), .indexAddr none 4 (.tmp 12) (.tmp 13), none, [], false, false⟩,
              ⟨(some 15), .load true 4 (.tmp 14), none, [], false, false⟩,
              ⟨(some 16), .eqAgg false [(.int .i64), (.int .i64), (.int .i64), (.int .i64)] (.tmp 11) (.tmp 15), none, [], false, false⟩])
           (.cond (.tmp 16) (.seq (.region false [⟨(some 17), .move (.tmp 5), none, [], false, false⟩,
                ⟨(some 4), .move (.tmp 17), none, [], false, false⟩])
             (.ret))
            (.skip)))))
        (.region false [⟨(some 18), .bin .add (.tmp 8) (.const (.int .i64 1)), none, [], false, false⟩,
           ⟨(some 8), .move (.tmp 18), none, [], false, false⟩])))))))
  (.seq (.region false [⟨(some 4), .move (.const (.int .i64 (-1))), none, [], false, false⟩])
   (.ret))),
 [.tmp 4], .pure, 19⟩

/-- agraffe/agrafferef06.IsNote -/
def ef86 : EFun := ⟨
 .seq (.region false [⟨(some 2), .move (.const (.bool false)), none, [], false, false⟩])
 (.seq (.region false [⟨(some 3), .move (.tmp 0), none, [], false, false⟩,
     ⟨(some 4), .call 37 [(.tmp 3), (.const (.int .i64 0)), (.const (.int .i64 87))], none, [], false, false⟩,
     ⟨(some 2), .move (.tmp 4), none, [], false, false⟩])
  (.ret)),
 [.tmp 2], .pure, 5⟩

/-- agraffe/agrafferef06.powers -/
def ef87 : EFun := ⟨
 .seq (.region false [⟨(some 2), .push [(.int .i64 0), (.int .i64 0), (.int .i64 0)], none, [], false, false⟩,
    ⟨(some 3), .move (.const (.bool false)), none, [], false, false⟩])
 (.seq (.region false [⟨(some 4), .push [(.int .i64 0), (.int .i64 0), (.int .i64 0)], none, [], false, false⟩])
  (.seq (.seq (.region false [⟨(some 5), .move (.const (.int .i64 0)), none, [], false, false⟩])
    (.block 0 (.loop (some [0, 2, 4, 5]) (
      .seq (.seq (.region false [⟨(some 7), .move (.tmp 5), none, [], false, false⟩,
           ⟨(some 8), .bin .lss (.tmp 7) (.const (.int .i64 3)), none, [], false, false⟩])
        (.cond (.tmp 8) (.skip)
         (.exit 0)))
       (.seq (.block 1 (.seq (.region false [⟨(some 11), .build [(.int .i64 0), (.int .i64 0), (.int .i64 0)] [(0, 1, (.const (.int .i64 2))), (1, 1, (.const (.int .i64 3))), (2, 1, (.const (.int .i64 5)))], none, [], false, false⟩,
             ⟨(some 12), .move (.tmp 5), none, [], false, false⟩,
             ⟨(some 13), .index 3 1 false (.tmp 11) (.tmp 12), none, [], false, false⟩,
             ⟨(some 6), .move (.tmp 13), none, [], false, false⟩])
          (.block 2 (.loop (some [0, 2, 4, 5, 6]) (
            .seq (.seq (.region false [⟨(some 14), .move (.tmp 0), none, [], false, false⟩,
                 ⟨(some 15), .move (.tmp 6), none, [], false, false⟩,
                 ⟨(some 16), .bin .rem (.tmp 14) (.tmp 15), none, [], false, false⟩,
                 ⟨(some 17), .bin .eql (.tmp 16) (.const (.int .i64 0)), none, [], false, false⟩])
              (.cond (.tmp 17) (.skip)
               (.exit 2)))
             (.block 3 (.region true [⟨(some 18), .move (.tmp 5), none, [], false, false⟩,
                 ⟨(some 19), .move (.tmp 0), none, [], false, false⟩,
                 ⟨(some 20), .move (.tmp 6), none, [], false, false⟩,
                 ⟨(some 21), .bin .quo (.tmp 19) (.tmp 20), none, [], false, false⟩,
                 ⟨(some 22), .move (.tmp 5), none, [], false, false⟩,
                 ⟨(some 23), .indexAddr (some 3) 1 (.tmp 4) (.tmp 22), none, [], false, false⟩,
                 ⟨(some 24), .load false 1 (.tmp 23), none, [], false, false⟩,
                 ⟨(some 25), .bin .add (.tmp 24) (.const (.int .i64 12)), none, [], false, false⟩,
                 ⟨(some 0), .move (.tmp 21), none, [], false, false⟩,
                 ⟨(some 26), .indexAddr (some 3) 1 (.tmp 4) (.tmp 18), none, [], false, false⟩,
                 ⟨none, .store 1 (.tmp 26) (.tmp 25), none, [], false, false⟩])))))))
        (.region false [⟨(some 9), .move (.tmp 5), none, [], false, false⟩,
           ⟨(some 10), .bin .add (.tmp 9) (.const (.int .i64 1)), none, [], false, false⟩,
           ⟨(some 5), .move (.tmp 10), none, [], false, false⟩]))))))
   (.seq (.region false [⟨(some 27), .load true 3 (.tmp 4), none, [], false, false⟩,
       ⟨(some 28), .move (.tmp 0), none, [], false, false⟩,
       ⟨(some 29), .bin .eql (.tmp 28) (.const (.int .i64 1)), none, [], false, false⟩,
       ⟨none, .store 3 (.tmp 2) (.tmp 27), none, [], false, false⟩,
       ⟨(some 3), .move (.tmp 29), none, [], false, false⟩])
    (.ret)))),
 [.cell 2 true 3, .tmp 3], .pure, 30⟩

/-- agraffe/temper.CheckTemperament -/
def ef88 : EFun := ⟨
 .seq (.region false [⟨(some 1), .box (.tmp 0), none, [], false, false⟩,
    ⟨(some 2), .move (.const (.int .i64 0)), none, [], false, false⟩])
 (.seq (.region false [⟨(some 3), .move (.func 127), none, [], false, false⟩])
  (.seq (.block 0 (.seq (.region false [⟨(some 5), .fieldAddr 0 (.tmp 1), none, [], false, false⟩,
        ⟨(some 6), .load false 1 (.tmp 5), none, [], false, false⟩,
        ⟨(some 7), .call 128 [(.tmp 6)], none, [], false, false⟩,
        ⟨(some 8), .un .not (.tmp 7), none, [], false, false⟩,
        ⟨(some 4), .move (.tmp 8), none, [], false, false⟩])
     (.cond (.tmp 4) (.seq (.region false [⟨(some 2), .move (.const (.int .i64 4)), none, [], false, false⟩])
       (.ret))
      (.seq (.region false [⟨(some 10), .fieldAddr 1 (.tmp 1), none, [], false, false⟩,
          ⟨(some 11), .arrSlice 12 1 (.tmp 10) none none, none, [], false, false⟩,
          ⟨(some 12), .move (.tmp 3), none, [], false, false⟩,
          ⟨(some 13), .call 112 [(.tmp 11), (.tmp 12)], none, [], false, false⟩,
          ⟨(some 14), .move (.tmp 13), none, [], false, false⟩,
          ⟨(some 15), .fieldAddr 13 (.tmp 1), (some (14, false)), [], false, false⟩,
          ⟨(some 16), .arrSlice 12 1 (.tmp 15) none none, (some (14, false)), [], false, false⟩,
          ⟨(some 17), .move (.tmp 3), (some (14, false)), [], false, false⟩,
          ⟨(some 18), .call 112 [(.tmp 16), (.tmp 17)], (some (14, false)), [], false, false⟩,
          ⟨(some 19), .pick (.tmp 14) (.const (.bool true)) (.tmp 18), none, [], false, false⟩,
          ⟨(some 9), .move (.tmp 19), none, [], false, false⟩])
       (.cond (.tmp 9) (.seq (.region false [⟨(some 2), .move (.const (.int .i64 2)), none, [], false, false⟩])
         (.ret))
        (.seq (.region false [⟨(some 21), .fieldAddr 1 (.tmp 1), none, [], false, false⟩,
            ⟨(some 22), .arrSlice 12 1 (.tmp 21) none none, none, [], false, false⟩,
            ⟨(some 23), .call 129 [(.tmp 22)], none, [], false, false⟩,
            ⟨(some 24), .bin .neq (.tmp 23) (.const (.int .i64 12)), none, [], false, false⟩,
            ⟨(some 25), .move (.tmp 24), none, [], false, false⟩,
            ⟨(some 26), .fieldAddr 13 (.tmp 1), (some (25, false)), [], false, false⟩,
            ⟨(some 27), .arrSlice 12 1 (.tmp 26) none none, (some (25, false)), [], false, false⟩,
            ⟨(some 28), .call 129 [(.tmp 27)], (some (25, false)), [], false, false⟩,
            ⟨(some 29), .bin .neq (.tmp 28) (.const (.int .i64 0)), (some (25, false)), [], false, false⟩,
            ⟨(some 30), .pick (.tmp 25) (.const (.bool true)) (.tmp 29), none, [], false, false⟩,
            ⟨(some 20), .move (.tmp 30), none, [], false, false⟩])
         (.cond (.tmp 20) (.seq (.region false [⟨(some 2), .move (.const (.int .i64 25)), none, [], false, false⟩])
           (.ret))
          (.seq (.region false [⟨(some 32), .load true 25 (.tmp 1), none, [], false, false⟩,
              ⟨(some 33), .call 130 [(.tmp 32)], none, [], false, false⟩,
              ⟨(some 34), .call 131 [(.tmp 33)], none, [], false, false⟩,
              ⟨(some 35), .bin .gtr (.tmp 34) (.const (.int .i64 300)), none, [], false, false⟩,
              ⟨(some 31), .move (.tmp 35), none, [], false, false⟩])
           (.cond (.tmp 31) (.seq (.region false [⟨(some 2), .move (.const (.int .i64 8)), none, [], false, false⟩])
             (.ret))
            (.skip))))))))))
   (.seq (.region false [⟨(some 2), .move (.const (.int .i64 0)), none, [], false, false⟩])
    (.ret)))),
 [.tmp 2], .pure, 36⟩

/-- agraffe/temper.begin -/
def ef89 : EFun := ⟨
 .seq (.region false [⟨(some 2), .box (.tmp 0), none, [], false, false⟩,
    ⟨(some 4), .move (.const (.pointer none)), none, [], false, false⟩,
    ⟨(some 5), .move (.const (.int .i64 0)), none, [], false, false⟩])
 (.seq (.seq (.region false [⟨(some 7), .load true 25 (.tmp 2), none, [], false, false⟩,
      ⟨(some 8), .call 88 [(.tmp 7)], none, [], false, false⟩,
      ⟨(some 6), .move (.tmp 8), none, [], false, false⟩])
   (.seq (.region false [⟨(some 9), .move (.tmp 6), none, [], false, false⟩,
       ⟨(some 10), .bin .neq (.tmp 9) (.const (.int .i64 0)), none, [], false, false⟩])
    (.cond (.tmp 10) (.seq (.region false [⟨(some 11), .move (.tmp 6), none, [], false, false⟩,
         ⟨(some 4), .move (.const (.pointer none)), none, [], false, false⟩,
         ⟨(some 5), .move (.tmp 11), none, [], false, false⟩])
      (.ret))
     (.skip))))
  (.seq (.seq (.region false [⟨(some 12), .move (.tmp 1), none, [], false, false⟩,
       ⟨(some 13), .call 132 [(.tmp 12), (.const (.bool false))], none, [], false, false⟩])
    (.cond (.tmp 13) (.seq (.region false [⟨(some 4), .move (.const (.pointer none)), none, [], false, false⟩,
         ⟨(some 5), .move (.const (.int .i64 2)), none, [], false, false⟩])
      (.ret))
     (.skip)))
   (.seq (.region false [⟨(some 14), .load true 25 (.tmp 2), none, [], false, false⟩,
       ⟨(some 15), .call 130 [(.tmp 14)], none, [], false, false⟩,
       ⟨(some 4), .move (.tmp 15), none, [], false, false⟩,
       ⟨(some 5), .move (.const (.int .i64 0)), none, [], false, false⟩])
    (.ret)))),
 [.tmp 4, .tmp 5], .pure, 16⟩

/-- agraffe/temper.isFork -/
def ef90 : EFun := ⟨
 .seq (.region false [⟨(some 2), .move (.const (.bool false)), none, [], false, false⟩])
 (.seq (.region false [⟨(some 3), .move (.tmp 0), none, [], false, false⟩,
     ⟨(some 4), .bin .geq (.tmp 3) (.const (.int .i64 1)), none, [], false, false⟩,
     ⟨(some 5), .move (.tmp 4), none, [], false, false⟩,
     ⟨(some 6), .move (.tmp 0), (some (5, true)), [], false, false⟩,
     ⟨(some 7), .bin .leq (.tmp 6) (.const (.int .i64 1000000)), (some (5, true)), [], false, false⟩,
     ⟨(some 8), .pick (.tmp 5) (.tmp 7) (.const (.bool false)), none, [], false, false⟩,
     ⟨(some 2), .move (.tmp 8), none, [], false, false⟩])
  (.ret)),
 [.tmp 2], .pure, 9⟩

/-- (*agraffe/temper.circle).beats -/
def ef91 : EFun := ⟨
 .seq (.region false [⟨(some 5), .box (.tmp 2), none, [], false, false⟩,
    ⟨(some 6), .push [(.int .i64 0), (.int .i64 0)], none, [], false, false⟩,
    ⟨(some 7), .move (.const (.int .i64 0)), none, [], false, false⟩])
 (.seq (.region false [⟨(some 12), .move (.tmp 0), none, [], false, false⟩,
     ⟨(some 13), .move (.tmp 1), none, [], false, false⟩,
     ⟨(some 14), .fieldAddr 3 (.tmp 5), none, [], false, false⟩,
     ⟨(some 15), .load false 1 (.tmp 14), none, [], false, false⟩,
     ⟨(some 16), .bin .mul (.tmp 13) (.tmp 15), none, [], false, false⟩,
     ⟨(some 17), .fieldAddr 1 (.tmp 5), none, [], false, false⟩,
     ⟨(some 18), .load false 1 (.tmp 17), none, [], false, false⟩,
     ⟨(some 19), .call 111 [(.tmp 12), (.tmp 16), (.tmp 18)], none, [], false, false⟩,
     ⟨(some 11), .move (.tmp 19), none, [], false, false⟩,
     ⟨(some 20), .extract (.tmp 11) 0, none, [], false, false⟩,
     ⟨(some 21), .extract (.tmp 11) 1, none, [], false, false⟩,
     ⟨(some 8), .push [(.int .i64 0), (.int .i64 0)], none, [], false, false⟩,
     ⟨none, .store 2 (.tmp 8) (.tmp 20), none, [], false, false⟩,
     ⟨(some 9), .move (.tmp 21), none, [], false, false⟩])
  (.seq (.seq (.region false [⟨(some 22), .move (.tmp 9), none, [], false, false⟩,
       ⟨(some 23), .bin .neq (.tmp 22) (.const (.int .i64 0)), none, [], false, false⟩])
    (.cond (.tmp 23) (.seq (.region false [⟨(some 24), .build [(.int .i64 0), (.int .i64 0)] [], none, [], false, false⟩,
         ⟨(some 25), .move (.tmp 9), none, [], false, false⟩,
         ⟨none, .store 2 (.tmp 6) (.tmp 24), none, [], false, false⟩,
         ⟨(some 7), .move (.tmp 25), none, [], false, false⟩])
      (.ret))
     (.skip)))
   (.seq (.region false [⟨(some 27), .move (.tmp 0), none, [], false, false⟩,
       ⟨(some 28), .move (.tmp 1), none, [], false, false⟩,
       ⟨(some 29), .fieldAddr 2 (.tmp 5), none, [], false, false⟩,
       ⟨(some 30), .load false 1 (.tmp 29), none, [], false, false⟩,
       ⟨(some 31), .bin .mul (.tmp 28) (.tmp 30), none, [], false, false⟩,
       ⟨(some 32), .fieldAddr 0 (.tmp 5), none, [], false, false⟩,
       ⟨(some 33), .load false 1 (.tmp 32), none, [], false, false⟩,
       ⟨(some 34), .call 111 [(.tmp 27), (.tmp 31), (.tmp 33)], none, [], false, false⟩,
       ⟨(some 26), .move (.tmp 34), none, [], false, false⟩,
       ⟨(some 35), .extract (.tmp 26) 0, none, [], false, false⟩,
       ⟨(some 36), .extract (.tmp 26) 1, none, [], false, false⟩,
       ⟨(some 10), .push [(.int .i64 0), (.int .i64 0)], none, [], false, false⟩,
       ⟨none, .store 2 (.tmp 10) (.tmp 35), none, [], false, false⟩,
       ⟨(some 9), .move (.tmp 36), none, [], false, false⟩])
    (.seq (.seq (.region false [⟨(some 37), .move (.tmp 9), none, [], false, false⟩,
         ⟨(some 38), .bin .neq (.tmp 37) (.const (.int .i64 0)), none, [], false, false⟩])
      (.cond (.tmp 38) (.seq (.region false [⟨(some 39), .build [(.int .i64 0), (.int .i64 0)] [], none, [], false, false⟩,
           ⟨(some 40), .move (.tmp 9), none, [], false, false⟩,
           ⟨none, .store 2 (.tmp 6) (.tmp 39), none, [], false, false⟩,
           ⟨(some 7), .move (.tmp 40), none, [], false, false⟩])
        (.ret))
       (.skip)))
     (.seq (.region false [⟨(some 41), .fieldAddr 0 (.tmp 8), none, [], false, false⟩,
         ⟨(some 42), .load false 1 (.tmp 41), none, [], false, false⟩,
         ⟨(some 43), .fieldAddr 1 (.tmp 10), none, [], false, false⟩,
         ⟨(some 44), .load false 1 (.tmp 43), none, [], false, false⟩,
         ⟨(some 45), .bin .sub (.tmp 42) (.tmp 44), none, [], false, false⟩,
         ⟨(some 46), .fieldAddr 1 (.tmp 8), none, [], false, false⟩,
         ⟨(some 47), .load false 1 (.tmp 46), none, [], false, false⟩,
         ⟨(some 48), .fieldAddr 0 (.tmp 10), none, [], false, false⟩,
         ⟨(some 49), .load false 1 (.tmp 48), none, [], false, false⟩,
         ⟨(some 50), .bin .sub (.tmp 47) (.tmp 49), none, [], false, false⟩,
         ⟨(some 51), .build [(.int .i64 0), (.int .i64 0)] [(0, 1, (.tmp 45)), (1, 1, (.tmp 50))], none, [], false, false⟩,
         ⟨none, .store 2 (.tmp 6) (.tmp 51), none, [], false, false⟩,
         ⟨(some 7), .move (.const (.int .i64 0)), none, [], false, false⟩])
      (.ret)))))),
 [.cell 6 true 2, .tmp 7], .pure, 52⟩

/-- agraffe/agrafferef01.Enclose -/
def ef92 : EFun := ⟨
 .seq (.region false [⟨(some 2), .box (.tmp 0), none, [], false, false⟩,
    ⟨(some 4), .push [(.int .i64 0), (.int .i64 0)], none, [], false, false⟩,
    ⟨(some 5), .move (.const (.int .i64 0)), none, [], false, false⟩])
 (.seq (.region false [⟨(some 13), .fieldAddr 0 (.tmp 2), none, [], false, false⟩,
     ⟨(some 14), .load false 1 (.tmp 13), none, [], false, false⟩,
     ⟨(some 15), .fieldAddr 1 (.tmp 2), none, [], false, false⟩,
     ⟨(some 16), .load false 1 (.tmp 15), none, [], false, false⟩,
     ⟨(some 17), .fieldAddr 2 (.tmp 2), none, [], false, false⟩,
     ⟨(some 18), .load false 1 (.tmp 17), none, [], false, false⟩,
     ⟨(some 19), .call 133 [(.tmp 14), (.tmp 16), (.tmp 18)], none, [], false, false⟩,
     ⟨(some 12), .move (.tmp 19), none, [], false, false⟩,
     ⟨(some 20), .extract (.tmp 12) 0, none, [], false, false⟩,
     ⟨(some 21), .extract (.tmp 12) 1, none, [], false, false⟩,
     ⟨(some 6), .move (.tmp 20), none, [], false, false⟩,
     ⟨(some 7), .move (.tmp 21), none, [], false, false⟩])
  (.seq (.region true [⟨(some 22), .move (.tmp 6), none, [], false, false⟩,
      ⟨(some 23), .move (.tmp 1), none, [], false, false⟩,
      ⟨(some 24), .call 136 [(.tmp 23)], none, [], false, true⟩,
      ⟨(some 25), .fieldAddr 3 (.tmp 2), none, [], false, false⟩,
      ⟨(some 26), .load false 1 (.tmp 25), none, [], false, false⟩,
      ⟨(some 27), .call 135 [(.tmp 24), (.tmp 26)], none, [], false, false⟩,
      ⟨(some 28), .call 134 [(.tmp 22), (.tmp 27)], none, [], false, false⟩,
      ⟨(some 6), .move (.tmp 28), none, [], false, false⟩])
   (.seq (.region false [⟨(some 8), .move (.const (.int .i64 0)), none, [], false, false⟩,
       ⟨(some 9), .move (.const (.int .i64 1000000000000001)), none, [], false, false⟩])
    (.seq (.block 0 (.loop (some [2, 4, 6, 7, 8, 9]) (
       .seq (.seq (.region false [⟨(some 29), .move (.tmp 8), none, [], false, false⟩,
            ⟨(some 30), .move (.tmp 9), none, [], false, false⟩,
            ⟨(some 31), .bin .lss (.tmp 29) (.tmp 30), none, [], false, false⟩])
         (.cond (.tmp 31) (.skip)
          (.exit 0)))
        (.block 1 (.seq (.region false [⟨(some 32), .move (.tmp 9), none, [], false, false⟩,
             ⟨(some 33), .move (.tmp 9), none, [], false, false⟩,
             ⟨(some 34), .move (.tmp 8), none, [], false, false⟩,
             ⟨(some 35), .bin .sub (.tmp 33) (.tmp 34), none, [], false, false⟩,
             ⟨(some 36), .bin .quo (.tmp 35) (.const (.int .i64 2)), none, [], false, false⟩,
             ⟨(some 37), .bin .sub (.tmp 32) (.tmp 36), none, [], false, false⟩,
             ⟨(some 10), .move (.tmp 37), none, [], false, false⟩])
          (.seq (.region true [⟨(some 38), .move (.tmp 10), none, [], false, false⟩,
              ⟨(some 39), .call 136 [(.tmp 38)], none, [], false, true⟩,
              ⟨(some 40), .fieldAddr 3 (.tmp 2), none, [], false, false⟩,
              ⟨(some 41), .load false 1 (.tmp 40), none, [], false, false⟩,
              ⟨(some 42), .call 135 [(.tmp 39), (.tmp 41)], none, [], false, false⟩,
              ⟨(some 43), .move (.tmp 7), none, [], false, false⟩,
              ⟨(some 44), .call 134 [(.tmp 42), (.tmp 43)], none, [], false, false⟩,
              ⟨(some 45), .move (.tmp 6), none, [], false, false⟩,
              ⟨(some 46), .call 137 [(.tmp 44), (.tmp 45)], none, [], false, false⟩,
              ⟨(some 47), .bin .leq (.tmp 46) (.const (.int .i64 0)), none, [], false, false⟩])
           (.cond (.tmp 47) (.region false [⟨(some 48), .move (.tmp 10), none, [], false, false⟩,
               ⟨(some 8), .move (.tmp 48), none, [], false, false⟩])
            (.region false [⟨(some 49), .move (.tmp 10), none, [], false, false⟩,
               ⟨(some 50), .bin .sub (.tmp 49) (.const (.int .i64 1)), none, [], false, false⟩,
               ⟨(some 9), .move (.tmp 50), none, [], false, false⟩]))))))))
     (.seq (.region false [⟨(some 51), .move (.tmp 8), none, [], false, false⟩,
         ⟨(some 11), .move (.tmp 51), none, [], false, false⟩])
      (.seq (.seq (.region true [⟨(some 52), .move (.tmp 8), none, [], false, false⟩,
           ⟨(some 53), .call 136 [(.tmp 52)], none, [], false, true⟩,
           ⟨(some 54), .fieldAddr 3 (.tmp 2), none, [], false, false⟩,
           ⟨(some 55), .load false 1 (.tmp 54), none, [], false, false⟩,
           ⟨(some 56), .call 135 [(.tmp 53), (.tmp 55)], none, [], false, false⟩,
           ⟨(some 57), .move (.tmp 7), none, [], false, false⟩,
           ⟨(some 58), .call 134 [(.tmp 56), (.tmp 57)], none, [], false, false⟩,
           ⟨(some 59), .move (.tmp 6), none, [], false, false⟩,
           ⟨(some 60), .call 137 [(.tmp 58), (.tmp 59)], none, [], false, false⟩,
           ⟨(some 61), .bin .neq (.tmp 60) (.const (.int .i64 0)), none, [], false, false⟩])
        (.cond (.tmp 61) (.region false [⟨(some 62), .move (.tmp 8), none, [], false, false⟩,
            ⟨(some 63), .bin .add (.tmp 62) (.const (.int .i64 1)), none, [], false, false⟩,
            ⟨(some 11), .move (.tmp 63), none, [], false, false⟩])
         (.skip)))
       (.seq (.seq (.region false [⟨(some 64), .move (.tmp 11), none, [], false, false⟩,
            ⟨(some 65), .bin .gtr (.tmp 64) (.const (.int .i64 1000000000000000)), none, [], false, false⟩])
         (.cond (.tmp 65) (.seq (.region false [⟨(some 66), .build [(.int .i64 0), (.int .i64 0)] [], none, [], false, false⟩,
              ⟨none, .store 2 (.tmp 4) (.tmp 66), none, [], false, false⟩,
              ⟨(some 5), .move (.const (.int .i64 8)), none, [], false, false⟩])
           (.ret))
          (.skip)))
        (.seq (.region false [⟨(some 67), .move (.tmp 8), none, [], false, false⟩,
            ⟨(some 68), .move (.tmp 11), none, [], false, false⟩,
            ⟨(some 69), .build [(.int .i64 0), (.int .i64 0)] [(0, 1, (.tmp 67)), (1, 1, (.tmp 68))], none, [], false, false⟩,
            ⟨none, .store 2 (.tmp 4) (.tmp 69), none, [], false, false⟩,
            ⟨(some 5), .move (.const (.int .i64 0)), none, [], false, false⟩])
         (.ret))))))))),
 [.cell 4 true 2, .tmp 5], .pure, 70⟩

/-- agraffe/agrafferef06.PitchOf -/
def ef93 : EFun := ⟨
 .seq (.region false [⟨(some 2), .box (.tmp 0), none, [], false, false⟩,
    ⟨(some 4), .push [(.int .i64 0), (.int .i64 0), (.int .i64 0)], none, [], false, false⟩])
 (.seq (.region false [⟨(some 5), .load true 25 (.tmp 2), none, [], false, false⟩,
     ⟨(some 6), .move (.tmp 1), none, [], false, false⟩,
     ⟨(some 7), .call 138 [(.tmp 5), (.const (.int .i64 48)), (.tmp 6)], none, [], false, false⟩,
     ⟨none, .store 3 (.tmp 4) (.tmp 7), none, [], false, false⟩])
  (.ret)),
 [.cell 4 true 3], .pure, 8⟩

/-- (agraffe/agrafferef06.Twelfths).Pitch -/
def ef94 : EFun := ⟨
 .seq (.region false [⟨(some 1), .box (.tmp 0), none, [], false, false⟩,
    ⟨(some 2), .push [(.int .i64 0), (.int .i64 0), (.int .i64 0), (.int .i64 0)], none, [], false, false⟩])
 (.seq (.region false [⟨(some 3), .indexAddr (some 3) 1 (.tmp 1) (.const (.int .i64 0)), none, [], false, false⟩,
     ⟨(some 4), .load false 1 (.tmp 3), none, [], false, false⟩,
     ⟨(some 5), .indexAddr (some 3) 1 (.tmp 1) (.const (.int .i64 1)), none, [], false, false⟩,
     ⟨(some 6), .load false 1 (.tmp 5), none, [], false, false⟩,
     ⟨(some 7), .indexAddr (some 3) 1 (.tmp 1) (.const (.int .i64 2)), none, [], false, false⟩,
     ⟨(some 8), .load false 1 (.tmp 7), none, [], false, false⟩,
     ⟨(some 9), .build [(.int .i64 0), (.int .i64 0), (.int .i64 0), (.int .i64 0)] [(0, 1, (.tmp 4)), (1, 1, (.tmp 6)), (2, 1, (.tmp 8)), (3, 1, (.const (.int .i64 12)))], none, [], false, false⟩,
     ⟨(some 10), .call 139 [(.tmp 9)], none, [], false, false⟩,
     ⟨none, .store 4 (.tmp 2) (.tmp 10), none, [], false, false⟩])
  (.ret)),
 [.cell 2 true 4], .pure, 11⟩

/-- agraffe/upkeep.isDay -/
def ef97 : EFun := ⟨
 .seq (.region false [⟨(some 2), .move (.const (.bool false)), none, [], false, false⟩])
 (.seq (.region false [⟨(some 3), .move (.tmp 0), none, [], false, false⟩,
     ⟨(some 4), .call 54 [(.tmp 3), (.const (.int .i64 0)), (.const (.int .i64 100000))], none, [], false, false⟩,
     ⟨(some 2), .move (.tmp 4), none, [], false, false⟩])
  (.ret)),
 [.tmp 2], .pure, 5⟩

/-- agraffe/agraffebase.Abs -/
def ef101 : EFun := ⟨
 .seq (.region false [⟨(some 2), .move (.const (.int .i64 0)), none, [], false, false⟩])
 (.seq (.seq (.region false [⟨(some 3), .move (.tmp 0), none, [], false, false⟩,
      ⟨(some 4), .bin .lss (.tmp 3) (.const (.int .i64 0)), none, [], false, false⟩])
   (.cond (.tmp 4) (.seq (.region false [⟨(some 5), .move (.tmp 0), none, [], false, false⟩,
        ⟨(some 6), .un .neg (.tmp 5), none, [], false, false⟩,
        ⟨(some 2), .move (.tmp 6), none, [], false, false⟩])
     (.ret))
    (.skip)))
  (.seq (.region false [⟨(some 7), .move (.tmp 0), none, [], false, false⟩,
      ⟨(some 2), .move (.tmp 7), none, [], false, false⟩])
   (.ret))),
 [.tmp 2], .pure, 8⟩

end Go.Abs.Z
