/- The functions, compiled for the abstract evaluator. Written by wip/abs/Print.lean. -/
import Derived.Test.YtfbelnhibipndaaAbsU0
set_option linter.unusedSimpArgs false
set_option linter.unusedVariables false
set_option maxRecDepth 100000
set_option maxHeartbeats 0
namespace Go.Abs.U
open Go Go.Abs
/-- agraffe/agraffelaw07.UpkeepWrong -/
def ef12 : EFun := ⟨
 .seq (.region false [⟨(some 4), .move (.const (.bool false)), none, [], false, false⟩])
 (.seq (.seq (.region false [⟨(some 16), .call 14 [], none, [], false, false⟩,
      ⟨(some 17), .un .not (.tmp 16), none, [], false, false⟩])
   (.cond (.tmp 17) (.seq (.region false [⟨(some 4), .move (.const (.bool false)), none, [], false, false⟩])
     (.ret))
    (.skip)))
  (.seq (.seq (.region false [⟨(some 18), .move (.tmp 0), none, [], false, false⟩,
       ⟨(some 19), .len false (.tmp 18), none, [], false, false⟩,
       ⟨(some 20), .bin .gtr (.tmp 19) (.const (.int .i64 10)), none, [], false, false⟩,
       ⟨(some 21), .move (.tmp 20), none, [], false, false⟩,
       ⟨(some 22), .move (.tmp 0), (some (21, false)), [], false, false⟩,
       ⟨(some 23), .call 41 [(.tmp 22)], (some (21, false)), [], false, false⟩,
       ⟨(some 24), .call 59 [(.tmp 23)], (some (21, false)), [], false, false⟩,
       ⟨(some 25), .bin .neq (.tmp 24) (.const (.int .i64 0)), (some (21, false)), [], false, false⟩,
       ⟨(some 26), .pick (.tmp 21) (.const (.bool true)) (.tmp 25), none, [], false, false⟩])
    (.cond (.tmp 26) (.seq (.region false [⟨(some 4), .move (.const (.bool true)), none, [], false, false⟩])
      (.ret))
     (.skip)))
   (.seq (.region false [⟨(some 28), .move (.tmp 0), none, [], false, false⟩,
       ⟨(some 29), .call 41 [(.tmp 28)], none, [], false, false⟩,
       ⟨(some 30), .call 54 [(.tmp 29)], none, [], false, false⟩,
       ⟨(some 27), .move (.tmp 30), none, [], false, false⟩,
       ⟨(some 31), .extract (.tmp 27) 0, none, [], false, false⟩,
       ⟨(some 32), .extract (.tmp 27) 1, none, [], false, false⟩,
       ⟨(some 33), .extract (.tmp 27) 2, none, [], false, false⟩,
       ⟨(some 6), .push [(.int .i64 0), (.int .i64 0)], none, [], false, false⟩,
       ⟨(some 5), .move (.tmp 31), none, [], false, false⟩,
       ⟨none, .store 2 (.tmp 6) (.tmp 32), none, [], false, false⟩,
       ⟨(some 7), .move (.tmp 33), none, [], false, false⟩])
    (.seq (.seq (.region false [⟨(some 34), .move (.tmp 7), none, [], false, false⟩,
         ⟨(some 35), .bin .neq (.tmp 34) (.const (.int .i64 0)), none, [], false, false⟩])
      (.cond (.tmp 35) (.seq (.region false [⟨(some 4), .move (.const (.bool false)), none, [], false, false⟩])
        (.ret))
       (.skip)))
     (.seq (.region false [⟨(some 37), .move (.tmp 0), none, [], false, false⟩,
         ⟨(some 38), .call 41 [(.tmp 37)], none, [], false, false⟩,
         ⟨(some 39), .move (.tmp 1), none, [], false, false⟩,
         ⟨(some 40), .call 53 [(.tmp 38), (.tmp 39)], none, [], false, false⟩,
         ⟨(some 36), .move (.tmp 40), none, [], false, false⟩,
         ⟨(some 41), .extract (.tmp 36) 0, none, [], false, false⟩,
         ⟨(some 42), .extract (.tmp 36) 1, none, [], false, false⟩,
         ⟨(some 8), .move (.tmp 41), none, [], false, false⟩,
         ⟨(some 9), .move (.tmp 42), none, [], false, false⟩])
      (.seq (.seq (.region false [⟨(some 43), .move (.tmp 5), none, [], false, false⟩,
           ⟨(some 44), .un .not (.tmp 43), none, [], false, false⟩,
           ⟨(some 45), .move (.tmp 44), none, [], false, false⟩,
           ⟨(some 46), .move (.tmp 9), (some (45, false)), [], false, false⟩,
           ⟨(some 47), .bin .neq (.tmp 46) (.const (.int .i64 0)), (some (45, false)), [], false, false⟩,
           ⟨(some 48), .pick (.tmp 45) (.const (.bool true)) (.tmp 47), none, [], false, false⟩])
        (.cond (.tmp 48) (.seq (.region false [⟨(some 4), .move (.const (.bool true)), none, [], false, false⟩])
          (.ret))
         (.skip)))
       (.seq (.region false [⟨(some 50), .move (.tmp 0), none, [], false, false⟩,
           ⟨(some 51), .call 41 [(.tmp 50)], none, [], false, false⟩,
           ⟨(some 52), .move (.tmp 8), none, [], false, false⟩,
           ⟨(some 53), .call 60 [(.tmp 51), (.tmp 52)], none, [], false, false⟩,
           ⟨(some 49), .move (.tmp 53), none, [], false, false⟩,
           ⟨(some 54), .extract (.tmp 49) 0, none, [], false, false⟩,
           ⟨(some 55), .extract (.tmp 49) 1, none, [], false, false⟩,
           ⟨(some 10), .move (.tmp 54), none, [], false, false⟩,
           ⟨(some 11), .move (.tmp 55), none, [], false, false⟩])
        (.seq (.seq (.region false [⟨(some 56), .move (.tmp 11), none, [], false, false⟩,
             ⟨(some 57), .bin .neq (.tmp 56) (.const (.int .i64 0)), none, [], false, false⟩,
             ⟨(some 58), .move (.tmp 57), none, [], false, false⟩,
             ⟨(some 59), .move (.tmp 10), (some (58, false)), [], false, false⟩,
             ⟨(some 60), .move (.tmp 1), (some (58, false)), [], false, false⟩,
             ⟨(some 61), .buildSlice 1 1 [(.int .i64 0)] [(0, 1, (.tmp 60))], (some (58, false)), [], false, false⟩,
             ⟨(some 62), .call 47 [(.tmp 59), (.tmp 61)], (some (58, false)), [], false, false⟩,
             ⟨(some 63), .un .not (.tmp 62), (some (58, false)), [], false, false⟩,
             ⟨(some 64), .pick (.tmp 58) (.const (.bool true)) (.tmp 63), none, [], false, false⟩])
          (.cond (.tmp 64) (.seq (.region false [⟨(some 4), .move (.const (.bool false)), none, [], false, false⟩])
            (.ret))
           (.skip)))
         (.seq (.region false [⟨(some 66), .move (.tmp 0), none, [], false, false⟩,
             ⟨(some 67), .call 41 [(.tmp 66)], none, [], false, false⟩,
             ⟨(some 68), .move (.tmp 8), none, [], false, false⟩,
             ⟨(some 69), .call 61 [(.tmp 67), (.tmp 68)], none, [], false, false⟩,
             ⟨(some 65), .move (.tmp 69), none, [], false, false⟩,
             ⟨(some 70), .extract (.tmp 65) 0, none, [], false, false⟩,
             ⟨(some 71), .extract (.tmp 65) 1, none, [], false, false⟩,
             ⟨(some 12), .move (.tmp 70), none, [], false, false⟩,
             ⟨(some 13), .move (.tmp 71), none, [], false, false⟩])
          (.seq (.seq (.region false [⟨(some 72), .move (.tmp 13), none, [], false, false⟩,
               ⟨(some 73), .bin .neq (.tmp 72) (.const (.int .i64 0)), none, [], false, false⟩])
            (.cond (.tmp 73) (.seq (.region false [⟨(some 75), .move (.tmp 0), none, [], false, false⟩,
                 ⟨(some 76), .call 41 [(.tmp 75)], none, [], false, false⟩,
                 ⟨(some 77), .call 52 [(.tmp 76)], none, [], false, false⟩,
                 ⟨(some 74), .move (.tmp 77), none, [], false, false⟩,
                 ⟨(some 78), .extract (.tmp 74) 0, none, [], false, false⟩,
                 ⟨(some 79), .extract (.tmp 74) 1, none, [], false, false⟩,
                 ⟨(some 14), .move (.tmp 78), none, [], false, false⟩,
                 ⟨(some 15), .move (.tmp 79), none, [], false, false⟩])
              (.seq (.region false [⟨(some 80), .move (.tmp 13), none, [], false, false⟩,
                  ⟨(some 81), .bin .eql (.tmp 80) (.const (.int .i64 8)), none, [], false, false⟩,
                  ⟨(some 82), .move (.tmp 81), none, [], false, false⟩,
                  ⟨(some 83), .move (.tmp 15), (some (82, true)), [], false, false⟩,
                  ⟨(some 84), .bin .eql (.tmp 83) (.const (.int .i64 0)), (some (82, true)), [], false, false⟩,
                  ⟨(some 85), .pick (.tmp 82) (.tmp 84) (.const (.bool false)), none, [], false, false⟩,
                  ⟨(some 86), .move (.tmp 85), none, [], false, false⟩,
                  ⟨(some 87), .move (.tmp 14), (some (86, true)), [], false, false⟩,
                  ⟨(some 88), .len false (.tmp 87), (some (86, true)), [], false, false⟩,
                  ⟨(some 89), .bin .gtr (.tmp 88) (.const (.int .i64 12)), (some (86, true)), [], false, false⟩,
                  ⟨(some 90), .pick (.tmp 86) (.tmp 89) (.const (.bool false)), none, [], false, false⟩,
                  ⟨(some 4), .move (.tmp 90), none, [], false, false⟩])
               (.ret)))
             (.skip)))
           (.seq (.region false [⟨(some 91), .move (.tmp 12), none, [], false, false⟩,
               ⟨(some 92), .len false (.tmp 91), none, [], false, false⟩,
               ⟨(some 93), .bin .eql (.tmp 92) (.const (.int .i64 1)), none, [], false, false⟩,
               ⟨(some 94), .move (.tmp 93), none, [], false, false⟩,
               ⟨(some 95), .move (.tmp 12), (some (94, true)), [], false, false⟩,
               ⟨(some 96), .indexAddr none 1 (.tmp 95) (.const (.int .i64 0)), (some (94, true)), [], false, false⟩,
               ⟨(some 97), .load false 1 (.tmp 96), (some (94, true)), [], false, false⟩,
               ⟨(some 98), .move (.tmp 1), (some (94, true)), [], false, false⟩,
               ⟨(some 99), .buildSlice 1 1 [(.int .i64 0)] [(0, 1, (.tmp 98))], (some (94, true)), [], false, false⟩,
               ⟨(some 100), .call 47 [(.tmp 97), (.tmp 99)], (some (94, true)), [], false, false⟩,
               ⟨(some 101), .pick (.tmp 94) (.tmp 100) (.const (.bool false)), none, [], false, false⟩,
               ⟨(some 4), .move (.tmp 101), none, [], false, false⟩])
            (.ret)))))))))))),
 [.tmp 4], .pure, 102⟩

/-- agraffe/agraffelaw07.awake -/
def ef14 : EFun := ⟨
 .seq (.region false [⟨(some 0), .move (.const (.bool false)), none, [], false, false⟩])
 (.seq (.region false [⟨(some 8), .call 64 [], none, [], false, false⟩,
     ⟨(some 9), .buildSlice 1 2 [(.int .i64 0), (.int .i64 0)] [(0, 1, (.const (.int .i64 0))), (1, 1, (.const (.int .i64 1)))], none, [], false, false⟩,
     ⟨(some 10), .call 61 [(.tmp 8), (.tmp 9)], none, [], false, false⟩,
     ⟨(some 7), .move (.tmp 10), none, [], false, false⟩,
     ⟨(some 11), .extract (.tmp 7) 0, none, [], false, false⟩,
     ⟨(some 12), .extract (.tmp 7) 1, none, [], false, false⟩,
     ⟨(some 1), .move (.tmp 11), none, [], false, false⟩,
     ⟨(some 2), .move (.tmp 12), none, [], false, false⟩])
  (.seq (.region false [⟨(some 14), .call 15 [(.const (.int .i64 10000)), (.const (.int .i64 200)), (.const (.int .i64 500))], none, [], false, false⟩,
      ⟨(some 13), .move (.tmp 14), none, [], false, false⟩,
      ⟨(some 15), .extract (.tmp 13) 0, none, [], false, false⟩,
      ⟨(some 16), .extract (.tmp 13) 1, none, [], false, false⟩,
      ⟨(some 3), .move (.tmp 15), none, [], false, false⟩,
      ⟨(some 4), .move (.tmp 16), none, [], false, false⟩])
   (.seq (.region false [⟨(some 18), .build [(.int .i64 0), (.int .i64 0), (.int .i64 0), (.int .i64 0)] [(0, 1, (.const (.int .i64 400))), (1, 1, (.const (.int .i64 10))), (2, 1, (.const (.int .i64 50))), (3, 1, (.const (.int .i64 400)))], none, [], false, false⟩,
       ⟨(some 19), .build [(.int .i64 0), (.int .i64 0)] [(1, 1, (.const (.int .i64 500)))], none, [], false, false⟩,
       ⟨(some 20), .buildSlice 2 1 [(.int .i64 0), (.int .i64 0)] [(0, 2, (.tmp 19))], none, [], false, false⟩,
       ⟨(some 21), .call 25 [(.tmp 18), (.tmp 20), (.const (.int .i64 2))], none, [], false, false⟩,
       ⟨(some 17), .move (.tmp 21), none, [], false, false⟩,
       ⟨(some 22), .extract (.tmp 17) 0, none, [], false, false⟩,
       ⟨(some 23), .extract (.tmp 17) 1, none, [], false, false⟩,
       ⟨(some 5), .move (.tmp 22), none, [], false, false⟩,
       ⟨(some 6), .move (.tmp 23), none, [], false, false⟩])
    (.seq (.region false [⟨(some 24), .move (.tmp 2), none, [], false, false⟩,
        ⟨(some 25), .bin .eql (.tmp 24) (.const (.int .i64 0)), none, [], false, false⟩,
        ⟨(some 26), .move (.tmp 25), none, [], false, false⟩,
        ⟨(some 27), .move (.tmp 1), (some (26, true)), [], false, false⟩,
        ⟨(some 28), .len false (.tmp 27), (some (26, true)), [], false, false⟩,
        ⟨(some 29), .bin .eql (.tmp 28) (.const (.int .i64 1)), (some (26, true)), [], false, false⟩,
        ⟨(some 30), .pick (.tmp 26) (.tmp 29) (.const (.bool false)), none, [], false, false⟩,
        ⟨(some 31), .move (.tmp 30), none, [], false, false⟩,
        ⟨(some 32), .move (.tmp 1), (some (31, true)), [], false, false⟩,
        ⟨(some 33), .indexAddr none 1 (.tmp 32) (.const (.int .i64 0)), (some (31, true)), [], false, false⟩,
        ⟨(some 34), .load false 1 (.tmp 33), (some (31, true)), [], false, false⟩,
        ⟨(some 35), .buildSlice 1 1 [(.int .i64 0)] [(0, 1, (.const (.int .i64 36)))], (some (31, true)), [], false, false⟩,
        ⟨(some 36), .call 47 [(.tmp 34), (.tmp 35)], (some (31, true)), [], false, false⟩,
        ⟨(some 37), .pick (.tmp 31) (.tmp 36) (.const (.bool false)), none, [], false, false⟩,
        ⟨(some 38), .move (.tmp 37), none, [], false, false⟩,
        ⟨(some 39), .move (.tmp 4), (some (38, true)), [], false, false⟩,
        ⟨(some 40), .bin .eql (.tmp 39) (.const (.int .i64 0)), (some (38, true)), [], false, false⟩,
        ⟨(some 41), .pick (.tmp 38) (.tmp 40) (.const (.bool false)), none, [], false, false⟩,
        ⟨(some 42), .move (.tmp 41), none, [], false, false⟩,
        ⟨(some 43), .move (.tmp 3), (some (42, true)), [], false, false⟩,
        ⟨(some 44), .bin .eql (.tmp 43) (.const (.int .i64 2)), (some (42, true)), [], false, false⟩,
        ⟨(some 45), .pick (.tmp 42) (.tmp 44) (.const (.bool false)), none, [], false, false⟩,
        ⟨(some 46), .move (.tmp 45), none, [], false, false⟩,
        ⟨(some 47), .move (.tmp 6), (some (46, true)), [], false, false⟩,
        ⟨(some 48), .bin .eql (.tmp 47) (.const (.int .i64 0)), (some (46, true)), [], false, false⟩,
        ⟨(some 49), .pick (.tmp 46) (.tmp 48) (.const (.bool false)), none, [], false, false⟩,
        ⟨(some 50), .move (.tmp 49), none, [], false, false⟩,
        ⟨(some 51), .move (.tmp 5), (some (50, true)), [], false, false⟩,
        ⟨(some 52), .bin .eql (.tmp 51) (.const (.int .i64 419000)), (some (50, true)), [], false, false⟩,
        ⟨(some 53), .pick (.tmp 50) (.tmp 52) (.const (.bool false)), none, [], false, false⟩,
        ⟨(some 0), .move (.tmp 53), none, [], false, false⟩])
     (.ret))))),
 [.tmp 0], .pure, 54⟩

/-- agraffe/upkeep.Passes -/
def ef15 : EFun := ⟨
 .seq (.region false [⟨(some 6), .move (.const (.int .i64 0)), none, [], false, false⟩,
    ⟨(some 7), .move (.const (.int .i64 0)), none, [], false, false⟩])
 (.seq (.seq (.region false [⟨(some 10), .move (.tmp 0), none, [], false, false⟩,
      ⟨(some 11), .call 65 [(.tmp 10), (.const (.int .i64 0)), (.const (.int .i64 200000))], none, [], false, false⟩,
      ⟨(some 12), .un .not (.tmp 11), none, [], false, false⟩,
      ⟨(some 13), .move (.tmp 12), none, [], false, false⟩,
      ⟨(some 14), .move (.tmp 1), (some (13, false)), [], false, false⟩,
      ⟨(some 15), .call 65 [(.tmp 14), (.const (.int .i64 0)), (.const (.int .i64 999))], (some (13, false)), [], false, false⟩,
      ⟨(some 16), .un .not (.tmp 15), (some (13, false)), [], false, false⟩,
      ⟨(some 17), .pick (.tmp 13) (.const (.bool true)) (.tmp 16), none, [], false, false⟩,
      ⟨(some 18), .move (.tmp 17), none, [], false, false⟩,
      ⟨(some 19), .move (.tmp 2), (some (18, false)), [], false, false⟩,
      ⟨(some 20), .call 65 [(.tmp 19), (.const (.int .i64 0)), (.const (.int .i64 200000))], (some (18, false)), [], false, false⟩,
      ⟨(some 21), .un .not (.tmp 20), (some (18, false)), [], false, false⟩,
      ⟨(some 22), .pick (.tmp 18) (.const (.bool true)) (.tmp 21), none, [], false, false⟩])
   (.cond (.tmp 22) (.seq (.region false [⟨(some 6), .move (.const (.int .i64 0)), none, [], false, false⟩,
        ⟨(some 7), .move (.const (.int .i64 2)), none, [], false, false⟩])
     (.ret))
    (.skip)))
  (.seq (.region false [⟨(some 8), .move (.const (.int .i64 0)), none, [], false, false⟩])
   (.seq (.block 0 (.loop (some [0, 1, 2, 8]) (
      .seq (.seq (.region false [⟨(some 23), .move (.tmp 0), none, [], false, false⟩,
           ⟨(some 24), .move (.tmp 2), none, [], false, false⟩,
           ⟨(some 25), .bin .gtr (.tmp 23) (.tmp 24), none, [], false, false⟩])
        (.cond (.tmp 25) (.skip)
         (.exit 0)))
       (.seq (.block 1 (.seq (.region false [⟨(some 28), .move (.tmp 0), none, [], false, false⟩,
             ⟨(some 29), .move (.tmp 1), none, [], false, false⟩,
             ⟨(some 30), .bin .mul (.tmp 28) (.tmp 29), none, [], false, false⟩,
             ⟨(some 31), .bin .add (.tmp 30) (.const (.int .i64 1000)), none, [], false, false⟩,
             ⟨(some 32), .bin .sub (.tmp 31) (.const (.int .i64 1)), none, [], false, false⟩,
             ⟨(some 33), .bin .quo (.tmp 32) (.const (.int .i64 1000)), none, [], false, false⟩,
             ⟨(some 9), .move (.tmp 33), none, [], false, false⟩])
          (.seq (.seq (.region false [⟨(some 34), .move (.tmp 9), none, [], false, false⟩,
               ⟨(some 35), .move (.tmp 0), none, [], false, false⟩,
               ⟨(some 36), .bin .eql (.tmp 34) (.tmp 35), none, [], false, false⟩])
            (.cond (.tmp 36) (.seq (.region false [⟨(some 6), .move (.const (.int .i64 0)), none, [], false, false⟩,
                 ⟨(some 7), .move (.const (.int .i64 12)), none, [], false, false⟩])
              (.ret))
             (.skip)))
           (.region false [⟨(some 37), .move (.tmp 9), none, [], false, false⟩,
              ⟨(some 0), .move (.tmp 37), none, [], false, false⟩]))))
        (.region false [⟨(some 26), .move (.tmp 8), none, [], false, false⟩,
           ⟨(some 27), .bin .add (.tmp 26) (.const (.int .i64 1)), none, [], false, false⟩,
           ⟨(some 8), .move (.tmp 27), none, [], false, false⟩])))))
    (.seq (.region false [⟨(some 38), .move (.tmp 8), none, [], false, false⟩,
        ⟨(some 6), .move (.tmp 38), none, [], false, false⟩,
        ⟨(some 7), .move (.const (.int .i64 0)), none, [], false, false⟩])
     (.ret))))),
 [.tmp 6, .tmp 7], .pure, 39⟩

/-- agraffe/upkeep.CheckClimate -/
def ef19 : EFun := ⟨
 .seq (.region false [⟨(some 2), .move (.const (.int .i64 0)), none, [], false, false⟩])
 (.seq (.block 0 (.seq (.region false [⟨(some 7), .move (.tmp 0), none, [], false, false⟩,
       ⟨(some 8), .len false (.tmp 7), none, [], false, false⟩,
       ⟨(some 9), .bin .eql (.tmp 8) (.const (.int .i64 0)), none, [], false, false⟩,
       ⟨(some 6), .move (.tmp 9), none, [], false, false⟩])
    (.cond (.tmp 6) (.seq (.region false [⟨(some 2), .move (.const (.int .i64 12)), none, [], false, false⟩])
      (.ret))
     (.seq (.region false [⟨(some 11), .move (.tmp 0), none, [], false, false⟩,
         ⟨(some 12), .len false (.tmp 11), none, [], false, false⟩,
         ⟨(some 13), .bin .gtr (.tmp 12) (.const (.int .i64 200)), none, [], false, false⟩,
         ⟨(some 10), .move (.tmp 13), none, [], false, false⟩])
      (.cond (.tmp 10) (.seq (.region false [⟨(some 2), .move (.const (.int .i64 8)), none, [], false, false⟩])
        (.ret))
       (.skip))))))
  (.seq (.seq (.region false [⟨(some 14), .move (.tmp 0), none, [], false, false⟩,
       ⟨(some 15), .len false (.tmp 14), none, [], false, false⟩,
       ⟨(some 16), .move (.const (.int .i64 0)), none, [], false, false⟩])
    (.block 1 (.loop (some [0, 14, 15, 16]) (
      .seq (.region false [⟨(some 17), .bin .lss (.tmp 16) (.tmp 15), none, [], false, false⟩])
       (.seq (.cond (.tmp 17) (.skip)
         (.exit 1))
        (.seq (.block 2 (.seq (.region false [⟨(some 18), .move (.tmp 16), none, [], false, false⟩,
              ⟨(some 19), .indexAddr none 2 (.tmp 14) (.tmp 16), none, [], false, false⟩,
              ⟨(some 20), .load true 2 (.tmp 19), none, [], false, false⟩,
              ⟨(some 4), .push [(.int .i64 0), (.int .i64 0)], none, [], false, false⟩,
              ⟨(some 3), .move (.tmp 18), none, [], false, false⟩,
              ⟨none, .store 2 (.tmp 4) (.tmp 20), none, [], false, false⟩])
           (.seq (.seq (.region false [⟨(some 21), .load true 2 (.tmp 4), none, [], false, false⟩,
                ⟨(some 22), .call 68 [(.tmp 21)], none, [], false, false⟩,
                ⟨(some 5), .move (.tmp 22), none, [], false, false⟩])
             (.seq (.region false [⟨(some 23), .move (.tmp 5), none, [], false, false⟩,
                 ⟨(some 24), .bin .neq (.tmp 23) (.const (.int .i64 0)), none, [], false, false⟩])
              (.cond (.tmp 24) (.seq (.region false [⟨(some 25), .move (.tmp 5), none, [], false, false⟩,
                   ⟨(some 2), .move (.tmp 25), none, [], false, false⟩])
                (.ret))
               (.skip))))
            (.seq (.region true [⟨(some 26), .move (.tmp 3), none, [], false, false⟩,
                ⟨(some 27), .bin .gtr (.tmp 26) (.const (.int .i64 0)), none, [], false, false⟩,
                ⟨(some 28), .move (.tmp 27), none, [], false, false⟩,
                ⟨(some 29), .fieldAddr 0 (.tmp 4), (some (28, true)), [], false, false⟩,
                ⟨(some 30), .load false 1 (.tmp 29), (some (28, true)), [], false, false⟩,
                ⟨(some 31), .move (.tmp 0), (some (28, true)), [], false, false⟩,
                ⟨(some 32), .move (.tmp 3), (some (28, true)), [], false, false⟩,
                ⟨(some 33), .bin .sub (.tmp 32) (.const (.int .i64 1)), (some (28, true)), [], false, false⟩,
                ⟨(some 34), .indexAddr none 2 (.tmp 31) (.tmp 33), (some (28, true)), [], false, false⟩,
                ⟨(some 35), .fieldAddr 0 (.tmp 34), (some (28, true)), [], false, false⟩,
                ⟨(some 36), .load false 1 (.tmp 35), (some (28, true)), [], false, false⟩,
                ⟨(some 37), .bin .leq (.tmp 30) (.tmp 36), (some (28, true)), [], false, false⟩,
                ⟨(some 38), .pick (.tmp 28) (.tmp 37) (.const (.bool false)), none, [], false, false⟩])
             (.cond (.tmp 38) (.seq (.region false [⟨(some 2), .move (.const (.int .i64 9)), none, [], false, false⟩])
               (.ret))
              (.skip))))))
         (.region false [⟨(some 39), .bin .add (.tmp 16) (.const (.int .i64 1)), none, [], false, false⟩,
            ⟨(some 16), .move (.tmp 39), none, [], false, false⟩])))))))
   (.seq (.region false [⟨(some 2), .move (.const (.int .i64 0)), none, [], false, false⟩])
    (.ret)))),
 [.tmp 2], .pure, 40⟩

/-- agraffe/upkeep.Moisture -/
def ef25 : EFun := ⟨
 .seq (.region false [⟨(some 3), .box (.tmp 0), none, [], false, false⟩,
    ⟨(some 6), .move (.const (.int .i64 0)), none, [], false, false⟩,
    ⟨(some 7), .move (.const (.int .i64 0)), none, [], false, false⟩])
 (.seq (.seq (.region false [⟨(some 9), .load true 4 (.tmp 3), none, [], false, false⟩,
      ⟨(some 10), .move (.tmp 1), none, [], false, false⟩,
      ⟨(some 11), .move (.tmp 2), none, [], false, false⟩,
      ⟨(some 12), .call 72 [(.tmp 9), (.tmp 10), (.tmp 11), (.const (.int .i64 0))], none, [], false, false⟩,
      ⟨(some 8), .move (.tmp 12), none, [], false, false⟩])
   (.seq (.region false [⟨(some 13), .move (.tmp 8), none, [], false, false⟩,
       ⟨(some 14), .bin .neq (.tmp 13) (.const (.int .i64 0)), none, [], false, false⟩])
    (.cond (.tmp 14) (.seq (.region false [⟨(some 15), .move (.tmp 8), none, [], false, false⟩,
         ⟨(some 6), .move (.const (.int .i64 0)), none, [], false, false⟩,
         ⟨(some 7), .move (.tmp 15), none, [], false, false⟩])
      (.ret))
     (.skip))))
  (.seq (.region false [⟨(some 16), .load true 4 (.tmp 3), none, [], false, false⟩,
      ⟨(some 17), .move (.tmp 1), none, [], false, false⟩,
      ⟨(some 18), .move (.tmp 2), none, [], false, false⟩,
      ⟨(some 19), .call 73 [(.tmp 16), (.tmp 17), (.tmp 18)], none, [], false, false⟩,
      ⟨(some 6), .move (.tmp 19), none, [], false, false⟩,
      ⟨(some 7), .move (.const (.int .i64 0)), none, [], false, false⟩])
   (.ret))),
 [.tmp 6, .tmp 7], .pure, 20⟩

/-- agraffe/upkeep.CheckDrift -/
def ef29 : EFun := ⟨
 .seq (.region false [⟨(some 1), .box (.tmp 0), none, [], false, false⟩,
    ⟨(some 2), .move (.const (.int .i64 0)), none, [], false, false⟩])
 (.seq (.seq (.region false [⟨(some 3), .fieldAddr 0 (.tmp 1), none, [], false, false⟩,
      ⟨(some 4), .load false 1 (.tmp 3), none, [], false, false⟩,
      ⟨(some 5), .call 65 [(.tmp 4), (.const (.int .i64 0)), (.const (.int .i64 1000))], none, [], false, false⟩,
      ⟨(some 6), .un .not (.tmp 5), none, [], false, false⟩,
      ⟨(some 7), .move (.tmp 6), none, [], false, false⟩,
      ⟨(some 8), .fieldAddr 1 (.tmp 1), (some (7, false)), [], false, false⟩,
      ⟨(some 9), .load false 1 (.tmp 8), (some (7, false)), [], false, false⟩,
      ⟨(some 10), .call 65 [(.tmp 9), (.const (.int .i64 1)), (.const (.int .i64 365))], (some (7, false)), [], false, false⟩,
      ⟨(some 11), .un .not (.tmp 10), (some (7, false)), [], false, false⟩,
      ⟨(some 12), .pick (.tmp 7) (.const (.bool true)) (.tmp 11), none, [], false, false⟩,
      ⟨(some 13), .move (.tmp 12), none, [], false, false⟩,
      ⟨(some 14), .fieldAddr 2 (.tmp 1), (some (13, false)), [], false, false⟩,
      ⟨(some 15), .load false 1 (.tmp 14), (some (13, false)), [], false, false⟩,
      ⟨(some 16), .call 65 [(.tmp 15), (.const (.int .i64 0)), (.const (.int .i64 1000))], (some (13, false)), [], false, false⟩,
      ⟨(some 17), .un .not (.tmp 16), (some (13, false)), [], false, false⟩,
      ⟨(some 18), .pick (.tmp 13) (.const (.bool true)) (.tmp 17), none, [], false, false⟩,
      ⟨(some 19), .move (.tmp 18), none, [], false, false⟩,
      ⟨(some 20), .fieldAddr 3 (.tmp 1), (some (19, false)), [], false, false⟩,
      ⟨(some 21), .load false 1 (.tmp 20), (some (19, false)), [], false, false⟩,
      ⟨(some 22), .call 65 [(.tmp 21), (.const (.int .i64 0)), (.const (.int .i64 1000000))], (some (19, false)), [], false, false⟩,
      ⟨(some 23), .un .not (.tmp 22), (some (19, false)), [], false, false⟩,
      ⟨(some 24), .pick (.tmp 19) (.const (.bool true)) (.tmp 23), none, [], false, false⟩])
   (.cond (.tmp 24) (.seq (.region false [⟨(some 2), .move (.const (.int .i64 2)), none, [], false, false⟩])
     (.ret))
    (.skip)))
  (.seq (.region false [⟨(some 2), .move (.const (.int .i64 0)), none, [], false, false⟩])
   (.ret))),
 [.tmp 2], .pure, 25⟩

/-- agraffe/agraffelaw07.tests -/
def ef41 : EFun := ⟨
 .seq (.region false [⟨(some 2), .move (.const (.slice none 0 0)), none, [], false, false⟩])
 (.seq (.region false [⟨(some 3), .buildSlice 4 0 [] [], none, [], false, false⟩,
     ⟨(some 4), .move (.tmp 0), none, [], false, false⟩,
     ⟨(some 5), .append 4 32 (.tmp 3) (.tmp 4), none, [], false, false⟩,
     ⟨(some 2), .move (.tmp 5), none, [], false, false⟩])
  (.ret)),
 [.tmp 2], .pure, 6⟩

/-- agraffe/agraffebase.Ints -/
def ef47 : EFun := ⟨
 .seq (.region false [⟨(some 4), .move (.const (.bool false)), none, [], false, false⟩])
 (.seq (.seq (.region false [⟨(some 6), .move (.tmp 0), none, [], false, false⟩,
      ⟨(some 7), .len false (.tmp 6), none, [], false, false⟩,
      ⟨(some 8), .move (.tmp 1), none, [], false, false⟩,
      ⟨(some 9), .len false (.tmp 8), none, [], false, false⟩,
      ⟨(some 10), .bin .neq (.tmp 7) (.tmp 9), none, [], false, false⟩])
   (.cond (.tmp 10) (.seq (.region false [⟨(some 4), .move (.const (.bool false)), none, [], false, false⟩])
     (.ret))
    (.skip)))
  (.seq (.seq (.region false [⟨(some 5), .move (.const (.int .i64 0)), none, [], false, false⟩])
    (.block 0 (.loop (some [0, 1, 5]) (
      .seq (.seq (.region false [⟨(some 11), .move (.tmp 5), none, [], false, false⟩,
           ⟨(some 12), .move (.tmp 0), none, [], false, false⟩,
           ⟨(some 13), .len false (.tmp 12), none, [], false, false⟩,
           ⟨(some 14), .bin .lss (.tmp 11) (.tmp 13), none, [], false, false⟩])
        (.cond (.tmp 14) (.skip)
         (.exit 0)))
       (.seq (.block 1 (.seq (.region true [⟨(some 17), .move (.tmp 0), none, [], false, false⟩,
             ⟨(some 18), .move (.tmp 5), none, [], false, false⟩,
             ⟨(some 19), .indexAddr none 1 (.tmp 17) (.tmp 18), none, [], false, false⟩,
             ⟨(some 20), .load false 1 (.tmp 19), none, [], false, false⟩,
             ⟨(some 21), .move (.tmp 1), none, [], false, false⟩,
             ⟨(some 22), .move (.tmp 5), none, [], false, false⟩,
             ⟨(some 23), .indexAddr none 1 (.tmp 21) (.tmp 22), none, [], false, false⟩,
             ⟨(some 24), .load false 1 (.tmp 23), none, [], false, false⟩,
             ⟨(some 25), .bin .neq (.tmp 20) (.tmp 24), none, [], false, false⟩])
          (.cond (.tmp 25) (.seq (.region false [⟨(some 4), .move (.const (.bool false)), none, [], false, false⟩])
            (.ret))
           (.skip))))
        (.region false [⟨(some 15), .move (.tmp 5), none, [], false, false⟩,
           ⟨(some 16), .bin .add (.tmp 15) (.const (.int .i64 1)), none, [], false, false⟩,
           ⟨(some 5), .move (.tmp 16), none, [], false, false⟩]))))))
   (.seq (.region false [⟨(some 4), .move (.const (.bool true)), none, [], false, false⟩])
    (.ret)))),
 [.tmp 4], .pure, 26⟩

/-- agraffe/upkeep.Notes -/
def ef52 : EFun := ⟨
 .seq (.region false [⟨(some 2), .move (.const (.slice none 0 0)), none, [], false, false⟩,
    ⟨(some 3), .move (.const (.int .i64 0)), none, [], false, false⟩])
 (.seq (.seq (.region false [⟨(some 5), .move (.tmp 0), none, [], false, false⟩,
      ⟨(some 6), .call 59 [(.tmp 5)], none, [], false, false⟩,
      ⟨(some 4), .move (.tmp 6), none, [], false, false⟩])
   (.seq (.region false [⟨(some 7), .move (.tmp 4), none, [], false, false⟩,
       ⟨(some 8), .bin .neq (.tmp 7) (.const (.int .i64 0)), none, [], false, false⟩])
    (.cond (.tmp 8) (.seq (.region false [⟨(some 9), .move (.tmp 4), none, [], false, false⟩,
         ⟨(some 2), .move (.const (.slice none 0 0)), none, [], false, false⟩,
         ⟨(some 3), .move (.tmp 9), none, [], false, false⟩])
      (.ret))
     (.skip))))
  (.seq (.region false [⟨(some 10), .move (.tmp 0), none, [], false, false⟩,
      ⟨(some 11), .call 85 [(.tmp 10)], none, [], false, false⟩,
      ⟨(some 2), .move (.tmp 11), none, [], false, false⟩,
      ⟨(some 3), .move (.const (.int .i64 0)), none, [], false, false⟩])
   (.ret))),
 [.tmp 2, .tmp 3], .pure, 12⟩

/-- agraffe/upkeep.Signature -/
def ef53 : EFun := ⟨
 .seq (.region false [⟨(some 4), .move (.const (.slice none 0 0)), none, [], false, false⟩,
    ⟨(some 5), .move (.const (.int .i64 0)), none, [], false, false⟩])
 (.seq (.seq (.region false [⟨(some 8), .move (.tmp 0), none, [], false, false⟩,
      ⟨(some 9), .call 59 [(.tmp 8)], none, [], false, false⟩,
      ⟨(some 6), .move (.tmp 9), none, [], false, false⟩])
   (.seq (.region false [⟨(some 10), .move (.tmp 6), none, [], false, false⟩,
       ⟨(some 11), .bin .neq (.tmp 10) (.const (.int .i64 0)), none, [], false, false⟩])
    (.cond (.tmp 11) (.seq (.region false [⟨(some 12), .move (.tmp 6), none, [], false, false⟩,
         ⟨(some 4), .move (.const (.slice none 0 0)), none, [], false, false⟩,
         ⟨(some 5), .move (.tmp 12), none, [], false, false⟩])
      (.ret))
     (.skip))))
  (.seq (.seq (.region false [⟨(some 13), .move (.tmp 1), none, [], false, false⟩,
       ⟨(some 14), .call 78 [(.tmp 13)], none, [], false, false⟩,
       ⟨(some 15), .un .not (.tmp 14), none, [], false, false⟩])
    (.cond (.tmp 15) (.seq (.region false [⟨(some 4), .move (.const (.slice none 0 0)), none, [], false, false⟩,
         ⟨(some 5), .move (.const (.int .i64 2)), none, [], false, false⟩])
      (.ret))
     (.skip)))
   (.seq (.region false [⟨(some 16), .move (.tmp 0), none, [], false, false⟩,
       ⟨(some 17), .move (.tmp 1), none, [], false, false⟩,
       ⟨(some 18), .call 86 [(.tmp 16), (.tmp 17)], none, [], false, false⟩,
       ⟨(some 7), .move (.tmp 18), none, [], false, false⟩])
    (.seq (.seq (.region false [⟨(some 19), .move (.tmp 7), none, [], false, false⟩,
         ⟨(some 20), .len false (.tmp 19), none, [], false, false⟩,
         ⟨(some 21), .bin .eql (.tmp 20) (.const (.int .i64 0)), none, [], false, false⟩])
      (.cond (.tmp 21) (.seq (.region false [⟨(some 4), .move (.const (.slice none 0 0)), none, [], false, false⟩,
           ⟨(some 5), .move (.const (.int .i64 6)), none, [], false, false⟩])
        (.ret))
       (.skip)))
     (.seq (.region false [⟨(some 22), .move (.tmp 7), none, [], false, false⟩,
         ⟨(some 4), .move (.tmp 22), none, [], false, false⟩,
         ⟨(some 5), .move (.const (.int .i64 0)), none, [], false, false⟩])
      (.ret)))))),
 [.tmp 4, .tmp 5], .pure, 23⟩

/-- agraffe/upkeep.SinglesOut -/
def ef54 : EFun := ⟨
 .seq (.region false [⟨(some 2), .move (.const (.bool false)), none, [], false, false⟩,
    ⟨(some 3), .push [(.int .i64 0), (.int .i64 0)], none, [], false, false⟩,
    ⟨(some 4), .move (.const (.int .i64 0)), none, [], false, false⟩])
 (.seq (.seq (.region false [⟨(some 8), .move (.tmp 0), none, [], false, false⟩,
      ⟨(some 9), .call 59 [(.tmp 8)], none, [], false, false⟩,
      ⟨(some 5), .move (.tmp 9), none, [], false, false⟩])
   (.seq (.region false [⟨(some 10), .move (.tmp 5), none, [], false, false⟩,
       ⟨(some 11), .bin .neq (.tmp 10) (.const (.int .i64 0)), none, [], false, false⟩])
    (.cond (.tmp 11) (.seq (.region false [⟨(some 12), .build [(.int .i64 0), (.int .i64 0)] [], none, [], false, false⟩,
         ⟨(some 13), .move (.tmp 5), none, [], false, false⟩,
         ⟨(some 2), .move (.const (.bool false)), none, [], false, false⟩,
         ⟨none, .store 2 (.tmp 3) (.tmp 12), none, [], false, false⟩,
         ⟨(some 4), .move (.tmp 13), none, [], false, false⟩])
      (.ret))
     (.skip))))
  (.seq (.region false [⟨(some 15), .move (.tmp 0), none, [], false, false⟩,
      ⟨(some 16), .call 87 [(.tmp 15)], none, [], false, false⟩,
      ⟨(some 14), .move (.tmp 16), none, [], false, false⟩,
      ⟨(some 17), .extract (.tmp 14) 0, none, [], false, false⟩,
      ⟨(some 18), .extract (.tmp 14) 1, none, [], false, false⟩,
      ⟨(some 6), .push [(.int .i64 0), (.int .i64 0)], none, [], false, false⟩,
      ⟨none, .store 2 (.tmp 6) (.tmp 17), none, [], false, false⟩,
      ⟨(some 7), .move (.tmp 18), none, [], false, false⟩])
   (.seq (.region true [⟨(some 19), .move (.tmp 7), none, [], false, false⟩,
       ⟨(some 20), .un .not (.tmp 19), none, [], false, false⟩,
       ⟨(some 21), .load true 2 (.tmp 6), none, [], false, false⟩,
       ⟨(some 2), .move (.tmp 20), none, [], false, false⟩,
       ⟨none, .store 2 (.tmp 3) (.tmp 21), none, [], false, false⟩,
       ⟨(some 4), .move (.const (.int .i64 0)), none, [], false, false⟩])
    (.ret)))),
 [.tmp 2, .cell 3 true 2, .tmp 4], .pure, 22⟩

/-- agraffe/upkeep.CheckTests -/
def ef59 : EFun := ⟨
 .seq (.region false [⟨(some 2), .move (.const (.int .i64 0)), none, [], false, false⟩])
 (.seq (.seq (.region false [⟨(some 6), .move (.tmp 0), none, [], false, false⟩,
      ⟨(some 7), .len false (.tmp 6), none, [], false, false⟩,
      ⟨(some 8), .bin .gtr (.tmp 7) (.const (.int .i64 60)), none, [], false, false⟩])
   (.cond (.tmp 8) (.seq (.region false [⟨(some 2), .move (.const (.int .i64 8)), none, [], false, false⟩])
     (.ret))
    (.skip)))
  (.seq (.seq (.region false [⟨(some 9), .move (.tmp 0), none, [], false, false⟩,
       ⟨(some 10), .len false (.tmp 9), none, [], false, false⟩,
       ⟨(some 11), .move (.const (.int .i64 0)), none, [], false, false⟩])
    (.block 0 (.loop (some [0, 9, 10, 11]) (
      .seq (.region false [⟨(some 12), .bin .lss (.tmp 11) (.tmp 10), none, [], false, false⟩])
       (.seq (.cond (.tmp 12) (.skip)
         (.exit 0))
        (.seq (.block 1 (.seq (.region false [⟨(some 13), .move (.tmp 11), none, [], false, false⟩,
              ⟨(some 14), .indexAddr none 4 (.tmp 9) (.tmp 11), none, [], false, false⟩,
              ⟨(some 15), .load true 4 (.tmp 14), none, [], false, false⟩,
              ⟨(some 4), .push [(.int .i64 0), (.int .i64 0), (.int .i64 0), (.int .i64 0)], none, [], false, false⟩,
              ⟨(some 3), .move (.tmp 13), none, [], false, false⟩,
              ⟨none, .store 4 (.tmp 4) (.tmp 15), none, [], false, false⟩])
           (.seq (.seq (.region false [⟨(some 16), .load true 4 (.tmp 4), none, [], false, false⟩,
                ⟨(some 17), .call 89 [(.tmp 16)], none, [], false, false⟩,
                ⟨(some 5), .move (.tmp 17), none, [], false, false⟩])
             (.seq (.region false [⟨(some 18), .move (.tmp 5), none, [], false, false⟩,
                 ⟨(some 19), .bin .neq (.tmp 18) (.const (.int .i64 0)), none, [], false, false⟩])
              (.cond (.tmp 19) (.seq (.region false [⟨(some 20), .move (.tmp 5), none, [], false, false⟩,
                   ⟨(some 2), .move (.tmp 20), none, [], false, false⟩])
                (.ret))
               (.skip))))
            (.seq (.region true [⟨(some 21), .move (.tmp 0), none, [], false, false⟩,
                ⟨(some 22), .move (.tmp 3), none, [], false, false⟩,
                ⟨(some 23), .slice 4 (.tmp 21) none (some (.tmp 22)), none, [], false, false⟩,
                ⟨(some 24), .load true 4 (.tmp 4), none, [], false, false⟩,
                ⟨(some 25), .call 90 [(.tmp 23), (.tmp 24)], none, [], false, false⟩])
             (.cond (.tmp 25) (.seq (.region false [⟨(some 2), .move (.const (.int .i64 5)), none, [], false, false⟩])
               (.ret))
              (.skip))))))
         (.region false [⟨(some 26), .bin .add (.tmp 11) (.const (.int .i64 1)), none, [], false, false⟩,
            ⟨(some 11), .move (.tmp 26), none, [], false, false⟩])))))))
   (.seq (.region false [⟨(some 2), .move (.const (.int .i64 0)), none, [], false, false⟩])
    (.ret)))),
 [.tmp 2], .pure, 27⟩

/-- agraffe/upkeep.Suspects -/
def ef60 : EFun := ⟨
 .seq (.region false [⟨(some 4), .move (.const (.slice none 0 0)), none, [], false, false⟩,
    ⟨(some 5), .move (.const (.int .i64 0)), none, [], false, false⟩])
 (.seq (.seq (.region false [⟨(some 10), .move (.tmp 0), none, [], false, false⟩,
      ⟨(some 11), .move (.tmp 1), none, [], false, false⟩,
      ⟨(some 12), .call 91 [(.tmp 10), (.tmp 11)], none, [], false, false⟩,
      ⟨(some 6), .move (.tmp 12), none, [], false, false⟩])
   (.seq (.region false [⟨(some 13), .move (.tmp 6), none, [], false, false⟩,
       ⟨(some 14), .bin .neq (.tmp 13) (.const (.int .i64 0)), none, [], false, false⟩])
    (.cond (.tmp 14) (.seq (.region false [⟨(some 15), .move (.tmp 6), none, [], false, false⟩,
         ⟨(some 4), .move (.const (.slice none 0 0)), none, [], false, false⟩,
         ⟨(some 5), .move (.tmp 15), none, [], false, false⟩])
      (.ret))
     (.skip))))
  (.seq (.region false [⟨(some 7), .move (.const (.slice none 0 0)), none, [], false, false⟩])
   (.seq (.seq (.region false [⟨(some 16), .move (.tmp 0), none, [], false, false⟩,
        ⟨(some 17), .call 85 [(.tmp 16)], none, [], false, false⟩,
        ⟨(some 18), .len false (.tmp 17), none, [], false, false⟩,
        ⟨(some 19), .move (.const (.int .i64 0)), none, [], false, false⟩])
     (.block 0 (.loop (some [0, 1, 7, 17, 18, 19]) (
       .seq (.region false [⟨(some 20), .bin .lss (.tmp 19) (.tmp 18), none, [], false, false⟩])
        (.seq (.cond (.tmp 20) (.skip)
          (.exit 0))
         (.seq (.block 1 (.seq (.region false [⟨(some 21), .indexAddr none 1 (.tmp 17) (.tmp 19), none, [], false, false⟩,
               ⟨(some 22), .load false 1 (.tmp 21), none, [], false, false⟩,
               ⟨(some 9), .move (.tmp 22), none, [], false, false⟩])
            (.seq (.region false [⟨(some 23), .move (.tmp 0), none, [], false, false⟩,
                ⟨(some 24), .move (.tmp 1), none, [], false, false⟩,
                ⟨(some 25), .move (.tmp 9), none, [], false, false⟩,
                ⟨(some 26), .buildSlice 1 1 [(.int .i64 0)] [(0, 1, (.tmp 25))], none, [], false, false⟩,
                ⟨(some 27), .call 92 [(.tmp 23), (.tmp 24), (.tmp 26)], none, [], false, false⟩,
                ⟨(some 28), .bin .eql (.tmp 27) (.const (.int .i64 0)), none, [], false, false⟩])
             (.cond (.tmp 28) (.region false [⟨(some 29), .move (.tmp 7), none, [], false, false⟩,
                 ⟨(some 30), .move (.tmp 9), none, [], false, false⟩,
                 ⟨(some 31), .buildSlice 1 1 [(.int .i64 0)] [(0, 1, (.tmp 30))], none, [], false, false⟩,
                 ⟨(some 32), .append 1 8 (.tmp 29) (.tmp 31), none, [], false, false⟩,
                 ⟨(some 7), .move (.tmp 32), none, [], false, false⟩])
              (.skip)))))
          (.region false [⟨(some 33), .bin .add (.tmp 19) (.const (.int .i64 1)), none, [], false, false⟩,
             ⟨(some 19), .move (.tmp 33), none, [], false, false⟩])))))))
    (.seq (.region false [⟨(some 34), .move (.tmp 7), none, [], false, false⟩,
        ⟨(some 4), .move (.tmp 34), none, [], false, false⟩,
        ⟨(some 5), .move (.const (.int .i64 0)), none, [], false, false⟩])
     (.ret))))),
 [.tmp 4, .tmp 5], .pure, 35⟩

end Go.Abs.U
