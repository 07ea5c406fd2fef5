/- The functions, compiled for the abstract evaluator. Written by wip/abs/Print.lean. -/
import Derived.Test.YtjalhpdmdiimoaaDoorAbsN0
set_option linter.unusedSimpArgs false
set_option linter.unusedVariables false
set_option maxRecDepth 100000
set_option maxHeartbeats 0
namespace Go.Abs.N
open Go Go.Abs
/-- agraffe/agraffelaw01.NumberSystems -/
def ef6 : EFun := ⟨
 .seq (.region false [⟨(some 4), .move (.const (.bool false)), none, [], false, false⟩])
 (.seq (.seq (.region false [⟨(some 15), .call 18 [], none, [], false, false⟩,
      ⟨(some 16), .un .not (.tmp 15), none, [], false, false⟩])
   (.cond (.tmp 16) (.seq (.region false [⟨(some 4), .move (.const (.bool false)), none, [], false, false⟩])
     (.ret))
    (.skip)))
  (.seq (.seq (.region false [⟨(some 17), .move (.tmp 1), none, [], false, false⟩,
       ⟨(some 18), .len false (.tmp 17), none, [], false, false⟩,
       ⟨(some 19), .bin .gtr (.tmp 18) (.const (.int .i64 30)), none, [], false, false⟩,
       ⟨(some 20), .move (.tmp 19), none, [], false, false⟩,
       ⟨(some 21), .move (.tmp 1), (some (20, true)), [], false, false⟩,
       ⟨(some 22), .len false (.tmp 21), (some (20, true)), [], false, false⟩,
       ⟨(some 23), .bin .leq (.tmp 22) (.const (.int .i64 200)), (some (20, true)), [], false, false⟩,
       ⟨(some 24), .pick (.tmp 20) (.tmp 23) (.const (.bool false)), none, [], false, false⟩,
       ⟨(some 25), .move (.tmp 24), none, [], false, false⟩,
       ⟨(some 26), .move (.tmp 1), (some (25, false)), [], false, false⟩,
       ⟨(some 27), .len false (.tmp 26), (some (25, false)), [], false, false⟩,
       ⟨(some 28), .bin .gtr (.tmp 27) (.const (.int .i64 210)), (some (25, false)), [], false, false⟩,
       ⟨(some 29), .pick (.tmp 25) (.const (.bool true)) (.tmp 28), none, [], false, false⟩])
    (.cond (.tmp 29) (.seq (.region false [⟨(some 4), .move (.const (.bool true)), none, [], false, false⟩])
      (.ret))
     (.skip)))
   (.seq (.region false [⟨(some 30), .move (.tmp 0), none, [], false, false⟩,
       ⟨(some 31), .move (.tmp 1), none, [], false, false⟩,
       ⟨(some 32), .call 34 [(.tmp 30), (.tmp 31)], none, [], false, false⟩,
       ⟨(some 5), .move (.tmp 32), none, [], false, false⟩])
    (.seq (.region false [⟨(some 34), .move (.tmp 0), none, [], false, false⟩,
        ⟨(some 35), .move (.tmp 1), none, [], false, false⟩,
        ⟨(some 36), .call 35 [(.tmp 34), (.tmp 35)], none, [], false, false⟩,
        ⟨(some 33), .move (.tmp 36), none, [], false, false⟩,
        ⟨(some 37), .extract (.tmp 33) 0, none, [], false, false⟩,
        ⟨(some 38), .extract (.tmp 33) 1, none, [], false, false⟩,
        ⟨(some 39), .extract (.tmp 33) 2, none, [], false, false⟩,
        ⟨(some 6), .move (.tmp 37), none, [], false, false⟩,
        ⟨(some 7), .move (.tmp 38), none, [], false, false⟩,
        ⟨(some 8), .move (.tmp 39), none, [], false, false⟩])
     (.seq (.seq (.region false [⟨(some 40), .move (.tmp 0), none, [], false, false⟩,
          ⟨(some 41), .move (.tmp 1), none, [], false, false⟩,
          ⟨(some 42), .call 36 [(.tmp 40), (.tmp 41)], none, [], false, false⟩,
          ⟨(some 43), .move (.tmp 5), none, [], false, false⟩,
          ⟨(some 44), .bin .neq (.tmp 42) (.tmp 43), none, [], false, false⟩])
       (.cond (.tmp 44) (.seq (.region false [⟨(some 4), .move (.const (.bool false)), none, [], false, false⟩])
         (.ret))
        (.skip)))
      (.seq (.seq (.region false [⟨(some 45), .move (.tmp 5), none, [], false, false⟩,
           ⟨(some 46), .bin .neq (.tmp 45) (.const (.int .i64 0)), none, [], false, false⟩])
        (.cond (.tmp 46) (.seq (.region false [⟨(some 47), .move (.tmp 8), none, [], false, false⟩,
             ⟨(some 48), .move (.tmp 5), none, [], false, false⟩,
             ⟨(some 49), .bin .eql (.tmp 47) (.tmp 48), none, [], false, false⟩,
             ⟨(some 50), .move (.tmp 49), none, [], false, false⟩,
             ⟨(some 51), .move (.tmp 6), (some (50, true)), [], false, false⟩,
             ⟨(some 52), .len false (.tmp 51), (some (50, true)), [], false, false⟩,
             ⟨(some 53), .bin .eql (.tmp 52) (.const (.int .i64 0)), (some (50, true)), [], false, false⟩,
             ⟨(some 54), .pick (.tmp 50) (.tmp 53) (.const (.bool false)), none, [], false, false⟩,
             ⟨(some 55), .move (.tmp 54), none, [], false, false⟩,
             ⟨(some 56), .move (.tmp 7), (some (55, true)), [], false, false⟩,
             ⟨(some 57), .len false (.tmp 56), (some (55, true)), [], false, false⟩,
             ⟨(some 58), .bin .eql (.tmp 57) (.const (.int .i64 0)), (some (55, true)), [], false, false⟩,
             ⟨(some 59), .pick (.tmp 55) (.tmp 58) (.const (.bool false)), none, [], false, false⟩,
             ⟨(some 4), .move (.tmp 59), none, [], false, false⟩])
          (.ret))
         (.skip)))
       (.seq (.region false [⟨(some 61), .move (.tmp 0), none, [], false, false⟩,
           ⟨(some 62), .move (.tmp 1), none, [], false, false⟩,
           ⟨(some 63), .call 37 [(.tmp 61), (.tmp 62)], none, [], false, false⟩,
           ⟨(some 60), .move (.tmp 63), none, [], false, false⟩,
           ⟨(some 64), .extract (.tmp 60) 0, none, [], false, false⟩,
           ⟨(some 65), .extract (.tmp 60) 1, none, [], false, false⟩,
           ⟨(some 9), .move (.tmp 64), none, [], false, false⟩,
           ⟨(some 10), .move (.tmp 65), none, [], false, false⟩])
        (.seq (.seq (.region false [⟨(some 66), .move (.tmp 10), none, [], false, false⟩])
          (.cond (.tmp 66) (.seq (.region false [⟨(some 67), .move (.tmp 8), none, [], false, false⟩,
               ⟨(some 68), .bin .eql (.tmp 67) (.const (.int .i64 0)), none, [], false, false⟩,
               ⟨(some 69), .move (.tmp 68), none, [], false, false⟩,
               ⟨(some 70), .move (.tmp 6), (some (69, true)), [], false, false⟩,
               ⟨(some 71), .move (.tmp 9), (some (69, true)), [], false, false⟩,
               ⟨(some 72), .call 38 [(.tmp 70), (.tmp 71)], (some (69, true)), [], false, false⟩,
               ⟨(some 73), .pick (.tmp 69) (.tmp 72) (.const (.bool false)), none, [], false, false⟩,
               ⟨(some 74), .move (.tmp 73), none, [], false, false⟩,
               ⟨(some 75), .move (.tmp 7), (some (74, true)), [], false, false⟩,
               ⟨(some 76), .len false (.tmp 75), (some (74, true)), [], false, false⟩,
               ⟨(some 77), .bin .eql (.tmp 76) (.const (.int .i64 0)), (some (74, true)), [], false, false⟩,
               ⟨(some 78), .pick (.tmp 74) (.tmp 77) (.const (.bool false)), none, [], false, false⟩,
               ⟨(some 4), .move (.tmp 78), none, [], false, false⟩])
            (.ret))
           (.skip)))
         (.seq (.seq (.region false [⟨(some 79), .move (.tmp 8), none, [], false, false⟩,
              ⟨(some 80), .bin .neq (.tmp 79) (.const (.int .i64 21)), none, [], false, false⟩,
              ⟨(some 81), .move (.tmp 80), none, [], false, false⟩,
              ⟨(some 82), .move (.tmp 6), (some (81, false)), [], false, false⟩,
              ⟨(some 83), .len false (.tmp 82), (some (81, false)), [], false, false⟩,
              ⟨(some 84), .bin .neq (.tmp 83) (.const (.int .i64 0)), (some (81, false)), [], false, false⟩,
              ⟨(some 85), .pick (.tmp 81) (.const (.bool true)) (.tmp 84), none, [], false, false⟩,
              ⟨(some 86), .move (.tmp 85), none, [], false, false⟩,
              ⟨(some 87), .move (.tmp 7), (some (86, false)), [], false, false⟩,
              ⟨(some 88), .len false (.tmp 87), (some (86, false)), [], false, false⟩,
              ⟨(some 89), .move (.tmp 0), (some (86, false)), [], false, false⟩,
              ⟨(some 90), .bin .gtr (.tmp 88) (.tmp 89), (some (86, false)), [], false, false⟩,
              ⟨(some 91), .pick (.tmp 86) (.const (.bool true)) (.tmp 90), none, [], false, false⟩])
           (.cond (.tmp 91) (.seq (.region false [⟨(some 4), .move (.const (.bool false)), none, [], false, false⟩])
             (.ret))
            (.skip)))
          (.seq (.region false [⟨(some 93), .move (.tmp 1), none, [], false, false⟩,
              ⟨(some 94), .move (.tmp 7), none, [], false, false⟩,
              ⟨(some 95), .call 39 [(.tmp 93), (.tmp 94)], none, [], false, false⟩,
              ⟨(some 92), .move (.tmp 95), none, [], false, false⟩,
              ⟨(some 96), .extract (.tmp 92) 0, none, [], false, false⟩,
              ⟨(some 97), .extract (.tmp 92) 1, none, [], false, false⟩,
              ⟨(some 11), .move (.tmp 96), none, [], false, false⟩,
              ⟨(some 12), .move (.tmp 97), none, [], false, false⟩])
           (.seq (.region false [⟨(some 99), .move (.tmp 0), none, [], false, false⟩,
               ⟨(some 100), .move (.tmp 1), none, [], false, false⟩,
               ⟨(some 101), .move (.tmp 7), none, [], false, false⟩,
               ⟨(some 102), .call 41 [(.tmp 101)], none, [], false, false⟩,
               ⟨(some 103), .call 40 [(.tmp 99), (.tmp 100), (.tmp 102)], none, [], false, false⟩,
               ⟨(some 98), .move (.tmp 103), none, [], false, false⟩,
               ⟨(some 104), .extract (.tmp 98) 0, none, [], false, false⟩,
               ⟨(some 105), .extract (.tmp 98) 1, none, [], false, false⟩,
               ⟨(some 13), .move (.tmp 104), none, [], false, false⟩,
               ⟨(some 14), .move (.tmp 105), none, [], false, false⟩])
            (.seq (.region false [⟨(some 106), .move (.tmp 12), none, [], false, false⟩,
                ⟨(some 107), .bin .eql (.tmp 106) (.const (.int .i64 0)), none, [], false, false⟩,
                ⟨(some 108), .move (.tmp 107), none, [], false, false⟩,
                ⟨(some 109), .move (.tmp 14), (some (108, true)), [], false, false⟩,
                ⟨(some 110), .bin .eql (.tmp 109) (.const (.int .i64 0)), (some (108, true)), [], false, false⟩,
                ⟨(some 111), .pick (.tmp 108) (.tmp 110) (.const (.bool false)), none, [], false, false⟩,
                ⟨(some 4), .move (.tmp 111), none, [], false, false⟩])
             (.ret))))))))))))),
 [.tmp 4], .pure, 112⟩

/-- agraffe/agraffelaw01.awake -/
def ef18 : EFun := ⟨
 .seq (.region false [⟨(some 0), .move (.const (.bool false)), none, [], false, false⟩])
 (.seq (.region false [⟨(some 9), .call 76 [], none, [], false, false⟩,
     ⟨(some 10), .call 20 [(.tmp 9), (.const (.int .i64 1000))], none, [], false, false⟩,
     ⟨(some 8), .move (.tmp 10), none, [], false, false⟩,
     ⟨(some 11), .extract (.tmp 8) 0, none, [], false, false⟩,
     ⟨(some 12), .extract (.tmp 8) 1, none, [], false, false⟩,
     ⟨(some 1), .push [(.int .i64 0), (.int .i64 0)], none, [], false, false⟩,
     ⟨none, .store 2 (.tmp 1) (.tmp 11), none, [], false, false⟩,
     ⟨(some 2), .move (.tmp 12), none, [], false, false⟩])
  (.seq (.region false [⟨(some 14), .build [(.int .i64 0), (.int .i64 0), (.int .i64 0)] [(0, 1, (.const (.int .i64 0))), (1, 1, (.const (.int .i64 1))), (2, 1, (.const (.int .i64 2)))], none, [], false, false⟩,
      ⟨(some 15), .build [(.int .i64 0), (.int .i64 0), (.int .i64 0)] [(0, 1, (.const (.int .i64 1))), (1, 1, (.const (.int .i64 2))), (2, 1, (.const (.int .i64 (-3))))], none, [], false, false⟩,
      ⟨(some 16), .build [(.int .i64 0), (.int .i64 0), (.int .i64 0)] [(0, 1, (.const (.int .i64 2))), (1, 1, (.const (.int .i64 0))), (2, 1, (.const (.int .i64 4)))], none, [], false, false⟩,
      ⟨(some 17), .buildSlice 3 3 (List.replicate 9 (.int .i64 0)) [(0, 3, (.tmp 14)), (3, 3, (.tmp 15)), (6, 3, (.tmp 16))], none, [], false, false⟩,
      ⟨(some 18), .call 35 [(.const (.int .i64 3)), (.tmp 17)], none, [], false, false⟩,
      ⟨(some 13), .move (.tmp 18), none, [], false, false⟩,
      ⟨(some 19), .extract (.tmp 13) 0, none, [], false, false⟩,
      ⟨(some 20), .extract (.tmp 13) 1, none, [], false, false⟩,
      ⟨(some 21), .extract (.tmp 13) 2, none, [], false, false⟩,
      ⟨(some 3), .move (.tmp 19), none, [], false, false⟩,
      ⟨(some 4), .move (.tmp 20), none, [], false, false⟩,
      ⟨(some 5), .move (.tmp 21), none, [], false, false⟩])
   (.seq (.region false [⟨(some 23), .build [(.int .i64 0), (.int .i64 0)] [], none, [], false, false⟩,
       ⟨(some 24), .build [(.int .i64 0), (.int .i64 0)] [(0, 1, (.const (.int .i64 1))), (1, 1, (.const (.int .i64 1)))], none, [], false, false⟩,
       ⟨(some 25), .build [(.int .i64 0), (.int .i64 0)] [(0, 1, (.const (.int .i64 2)))], none, [], false, false⟩,
       ⟨(some 26), .buildSlice 2 3 [(.int .i64 0), (.int .i64 0), (.int .i64 0), (.int .i64 0), (.int .i64 0), (.int .i64 0)] [(0, 2, (.tmp 23)), (2, 2, (.tmp 24)), (4, 2, (.tmp 25))], none, [], false, false⟩,
       ⟨(some 27), .call 25 [(.tmp 26)], none, [], false, false⟩,
       ⟨(some 22), .move (.tmp 27), none, [], false, false⟩,
       ⟨(some 28), .extract (.tmp 22) 0, none, [], false, false⟩,
       ⟨(some 29), .extract (.tmp 22) 1, none, [], false, false⟩,
       ⟨(some 6), .push (List.replicate 9 (.int .i64 0)), none, [], false, false⟩,
       ⟨none, .store 9 (.tmp 6) (.tmp 28), none, [], false, false⟩,
       ⟨(some 7), .move (.tmp 29), none, [], false, false⟩])
    (.seq (.region false [⟨(some 30), .move (.tmp 2), none, [], false, false⟩,
        ⟨(some 31), .bin .eql (.tmp 30) (.const (.int .i64 0)), none, [], false, false⟩,
        ⟨(some 32), .move (.tmp 31), none, [], false, false⟩,
        ⟨(some 33), .load true 2 (.tmp 1), (some (32, true)), [], false, false⟩,
        ⟨(some 34), .build [(.int .i64 0), (.int .i64 0)] [(0, 1, (.const (.int .i64 1013))), (1, 1, (.const (.int .i64 1014)))], (some (32, true)), [], false, false⟩,
        ⟨(some 35), .eqAgg false [(.int .i64), (.int .i64)] (.tmp 33) (.tmp 34), (some (32, true)), [], false, false⟩,
        ⟨(some 36), .pick (.tmp 32) (.tmp 35) (.const (.bool false)), none, [], false, false⟩,
        ⟨(some 37), .move (.tmp 36), none, [], false, false⟩,
        ⟨(some 38), .move (.tmp 5), (some (37, true)), [], false, false⟩,
        ⟨(some 39), .bin .eql (.tmp 38) (.const (.int .i64 0)), (some (37, true)), [], false, false⟩,
        ⟨(some 40), .pick (.tmp 37) (.tmp 39) (.const (.bool false)), none, [], false, false⟩,
        ⟨(some 41), .move (.tmp 40), none, [], false, false⟩,
        ⟨(some 42), .move (.tmp 3), (some (41, true)), [], false, false⟩,
        ⟨(some 43), .buildSlice 1 3 [(.int .i64 0), (.int .i64 0), (.int .i64 0)] [(0, 1, (.const (.int .i64 0))), (1, 1, (.const (.int .i64 0))), (2, 1, (.const (.int .i64 (-3))))], (some (41, true)), [], false, false⟩,
        ⟨(some 44), .call 38 [(.tmp 42), (.tmp 43)], (some (41, true)), [], false, false⟩,
        ⟨(some 45), .pick (.tmp 41) (.tmp 44) (.const (.bool false)), none, [], false, false⟩,
        ⟨(some 46), .move (.tmp 45), none, [], false, false⟩,
        ⟨(some 47), .move (.tmp 7), (some (46, true)), [], false, false⟩,
        ⟨(some 48), .bin .eql (.tmp 47) (.const (.int .i64 0)), (some (46, true)), [], false, false⟩,
        ⟨(some 49), .pick (.tmp 46) (.tmp 48) (.const (.bool false)), none, [], false, false⟩,
        ⟨(some 50), .move (.tmp 49), none, [], false, false⟩,
        ⟨(some 51), .fieldAddr 4 (.tmp 6), (some (50, true)), [], false, false⟩,
        ⟨(some 52), .load true 2 (.tmp 51), (some (50, true)), [], false, false⟩,
        ⟨(some 53), .build [(.int .i64 0), (.int .i64 0)] [(0, 1, (.const (.int .i64 1))), (1, 1, (.const (.int .i64 2)))], (some (50, true)), [], false, false⟩,
        ⟨(some 54), .eqAgg false [(.int .i64), (.int .i64)] (.tmp 52) (.tmp 53), (some (50, true)), [], false, false⟩,
        ⟨(some 55), .pick (.tmp 50) (.tmp 54) (.const (.bool false)), none, [], false, false⟩,
        ⟨(some 0), .move (.tmp 55), none, [], false, false⟩])
     (.ret))))),
 [.tmp 0], .pure, 56⟩

/-- agraffe/number.Enclose -/
def ef20 : EFun := ⟨
 .seq (.region false [⟨(some 2), .box (.tmp 0), none, [], false, false⟩,
    ⟨(some 4), .push [(.int .i64 0), (.int .i64 0)], none, [], false, false⟩,
    ⟨(some 5), .move (.const (.int .i64 0)), none, [], false, false⟩])
 (.seq (.seq (.region false [⟨(some 13), .load true 4 (.tmp 2), none, [], false, false⟩,
      ⟨(some 14), .call 51 [(.tmp 13)], none, [], false, false⟩,
      ⟨(some 6), .move (.tmp 14), none, [], false, false⟩])
   (.seq (.region false [⟨(some 15), .move (.tmp 6), none, [], false, false⟩,
       ⟨(some 16), .bin .neq (.tmp 15) (.const (.int .i64 0)), none, [], false, false⟩])
    (.cond (.tmp 16) (.seq (.region false [⟨(some 17), .build [(.int .i64 0), (.int .i64 0)] [], none, [], false, false⟩,
         ⟨(some 18), .move (.tmp 6), none, [], false, false⟩,
         ⟨none, .store 2 (.tmp 4) (.tmp 17), none, [], false, false⟩,
         ⟨(some 5), .move (.tmp 18), none, [], false, false⟩])
      (.ret))
     (.skip))))
  (.seq (.seq (.region false [⟨(some 19), .move (.tmp 1), none, [], false, false⟩,
       ⟨(some 20), .call 77 [(.tmp 19), (.const (.int .i64 1)), (.const (.int .i64 1000000000))], none, [], false, false⟩,
       ⟨(some 21), .un .not (.tmp 20), none, [], false, false⟩])
    (.cond (.tmp 21) (.seq (.region false [⟨(some 22), .build [(.int .i64 0), (.int .i64 0)] [], none, [], false, false⟩,
         ⟨none, .store 2 (.tmp 4) (.tmp 22), none, [], false, false⟩,
         ⟨(some 5), .move (.const (.int .i64 2)), none, [], false, false⟩])
      (.ret))
     (.skip)))
   (.seq (.region false [⟨(some 23), .load true 4 (.tmp 2), none, [], false, false⟩,
       ⟨(some 24), .call 78 [(.tmp 23)], none, [], false, false⟩,
       ⟨none, .store 4 (.tmp 2) (.tmp 24), none, [], false, false⟩])
    (.seq (.region false [⟨(some 25), .load true 4 (.tmp 2), none, [], false, false⟩,
        ⟨(some 26), .call 80 [(.tmp 25)], none, [], false, false⟩,
        ⟨(some 27), .call 79 [(.tmp 26)], none, [], false, false⟩,
        ⟨(some 7), .push [(.slice none 0 0), (.slice none 0 0)], none, [], false, false⟩,
        ⟨none, .store 2 (.tmp 7) (.tmp 27), none, [], false, false⟩])
     (.seq (.region false [⟨(some 28), .move (.tmp 1), none, [], false, false⟩,
         ⟨(some 29), .conv .u64 (.tmp 28), none, [], false, false⟩,
         ⟨(some 30), .fieldAddr 3 (.tmp 2), none, [], false, false⟩,
         ⟨(some 31), .load false 1 (.tmp 30), none, [], false, false⟩,
         ⟨(some 32), .fieldAddr 0 (.tmp 7), none, [], false, false⟩,
         ⟨(some 33), .load false 1 (.tmp 32), none, [], false, false⟩,
         ⟨(some 34), .call 81 [(.tmp 29), (.tmp 31), (.tmp 33)], none, [], false, false⟩,
         ⟨(some 35), .fieldAddr 0 (.tmp 7), none, [], false, false⟩,
         ⟨none, .store 1 (.tmp 35) (.tmp 34), none, [], false, false⟩])
      (.seq (.region false [⟨(some 36), .makeFunc (.func 82) [(.tmp 2), (.tmp 7)], none, [], false, false⟩,
          ⟨(some 8), .move (.tmp 36), none, [], false, false⟩])
       (.seq (.region false [⟨(some 9), .move (.const (.int .i64 0)), none, [], false, false⟩,
           ⟨(some 10), .move (.const (.int .i64 1000000000000001)), none, [], false, false⟩])
        (.seq (.block 0 (.loop (some [4, 8, 9, 10]) (
           .seq (.seq (.region false [⟨(some 37), .move (.tmp 9), none, [], false, false⟩,
                ⟨(some 38), .move (.tmp 10), none, [], false, false⟩,
                ⟨(some 39), .bin .lss (.tmp 37) (.tmp 38), none, [], false, false⟩])
             (.cond (.tmp 39) (.skip)
              (.exit 0)))
            (.block 1 (.seq (.region false [⟨(some 40), .move (.tmp 10), none, [], false, false⟩,
                 ⟨(some 41), .move (.tmp 10), none, [], false, false⟩,
                 ⟨(some 42), .move (.tmp 9), none, [], false, false⟩,
                 ⟨(some 43), .bin .sub (.tmp 41) (.tmp 42), none, [], false, false⟩,
                 ⟨(some 44), .bin .quo (.tmp 43) (.const (.int .i64 2)), none, [], false, false⟩,
                 ⟨(some 45), .bin .sub (.tmp 40) (.tmp 44), none, [], false, false⟩,
                 ⟨(some 11), .move (.tmp 45), none, [], false, false⟩])
              (.seq (.region false [⟨(some 46), .move (.tmp 8), none, [], false, false⟩,
                  ⟨(some 47), .move (.tmp 11), none, [], false, false⟩,
                  ⟨(some 48), .callVal (.tmp 46) [(.tmp 47)], none, [], false, false⟩,
                  ⟨(some 49), .bin .leq (.tmp 48) (.const (.int .i64 0)), none, [], false, false⟩])
               (.cond (.tmp 49) (.region false [⟨(some 50), .move (.tmp 11), none, [], false, false⟩,
                   ⟨(some 9), .move (.tmp 50), none, [], false, false⟩])
                (.region false [⟨(some 51), .move (.tmp 11), none, [], false, false⟩,
                   ⟨(some 52), .bin .sub (.tmp 51) (.const (.int .i64 1)), none, [], false, false⟩,
                   ⟨(some 10), .move (.tmp 52), none, [], false, false⟩]))))))))
         (.seq (.region false [⟨(some 53), .move (.tmp 9), none, [], false, false⟩,
             ⟨(some 54), .move (.tmp 9), none, [], false, false⟩,
             ⟨(some 55), .build [(.int .i64 0), (.int .i64 0)] [(0, 1, (.tmp 53)), (1, 1, (.tmp 54))], none, [], false, false⟩,
             ⟨(some 12), .push [(.int .i64 0), (.int .i64 0)], none, [], false, false⟩,
             ⟨none, .store 2 (.tmp 12) (.tmp 55), none, [], false, false⟩])
          (.seq (.seq (.region false [⟨(some 56), .move (.tmp 9), none, [], false, false⟩,
               ⟨(some 57), .bin .eql (.tmp 56) (.const (.int .i64 0)), none, [], false, false⟩,
               ⟨(some 58), .move (.tmp 57), none, [], false, false⟩,
               ⟨(some 59), .move (.tmp 8), (some (58, false)), [], false, false⟩,
               ⟨(some 60), .move (.tmp 9), (some (58, false)), [], false, false⟩,
               ⟨(some 61), .callVal (.tmp 59) [(.tmp 60)], (some (58, false)), [], false, false⟩,
               ⟨(some 62), .bin .neq (.tmp 61) (.const (.int .i64 0)), (some (58, false)), [], false, false⟩,
               ⟨(some 63), .pick (.tmp 58) (.const (.bool true)) (.tmp 62), none, [], false, false⟩])
            (.cond (.tmp 63) (.region false [⟨(some 64), .fieldAddr 1 (.tmp 12), none, [], false, false⟩,
                ⟨(some 65), .load false 1 (.tmp 64), none, [], false, false⟩,
                ⟨(some 66), .bin .add (.tmp 65) (.const (.int .i64 1)), none, [], false, false⟩,
                ⟨(some 67), .fieldAddr 1 (.tmp 12), none, [], false, false⟩,
                ⟨none, .store 1 (.tmp 67) (.tmp 66), none, [], false, false⟩])
             (.skip)))
           (.seq (.region false [⟨(some 68), .load true 2 (.tmp 12), none, [], false, false⟩,
               ⟨(some 69), .call 84 [(.tmp 68)], none, [], false, false⟩,
               ⟨(some 70), .extract (.tmp 69) 0, none, [], false, false⟩,
               ⟨(some 71), .extract (.tmp 69) 1, none, [], false, false⟩,
               ⟨none, .store 2 (.tmp 4) (.tmp 70), none, [], false, false⟩,
               ⟨(some 5), .move (.tmp 71), none, [], false, false⟩])
            (.ret)))))))))))),
 [.cell 4 true 2, .tmp 5], .pure, 72⟩

/-- agraffe/agraffebase.Within -/
def ef22 : EFun := ⟨
 .seq (.region false [⟨(some 6), .move (.const (.bool false)), none, [], false, false⟩])
 (.seq (.region false [⟨(some 7), .move (.tmp 0), none, [], false, false⟩,
     ⟨(some 8), .move (.tmp 1), none, [], false, false⟩,
     ⟨(some 9), .bin .geq (.tmp 7) (.tmp 8), none, [], false, false⟩,
     ⟨(some 10), .move (.tmp 9), none, [], false, false⟩,
     ⟨(some 11), .move (.tmp 0), (some (10, true)), [], false, false⟩,
     ⟨(some 12), .move (.tmp 2), (some (10, true)), [], false, false⟩,
     ⟨(some 13), .bin .leq (.tmp 11) (.tmp 12), (some (10, true)), [], false, false⟩,
     ⟨(some 14), .pick (.tmp 10) (.tmp 13) (.const (.bool false)), none, [], false, false⟩,
     ⟨(some 6), .move (.tmp 14), none, [], false, false⟩])
  (.ret)),
 [.tmp 6], .pure, 15⟩

/-- agraffe/number.Line -/
def ef25 : EFun := ⟨
 .seq (.region false [⟨(some 2), .push (List.replicate 9 (.int .i64 0)), none, [], false, false⟩,
    ⟨(some 3), .move (.const (.int .i64 0)), none, [], false, false⟩])
 (.seq (.seq (.region false [⟨(some 12), .move (.tmp 0), none, [], false, false⟩,
      ⟨(some 13), .call 91 [(.tmp 12)], none, [], false, false⟩,
      ⟨(some 4), .move (.tmp 13), none, [], false, false⟩])
   (.seq (.region false [⟨(some 14), .move (.tmp 4), none, [], false, false⟩,
       ⟨(some 15), .bin .neq (.tmp 14) (.const (.int .i64 0)), none, [], false, false⟩])
    (.cond (.tmp 15) (.seq (.region false [⟨(some 16), .build (List.replicate 9 (.int .i64 0)) [], none, [], false, false⟩,
         ⟨(some 17), .move (.tmp 4), none, [], false, false⟩,
         ⟨none, .store 9 (.tmp 2) (.tmp 16), none, [], false, false⟩,
         ⟨(some 3), .move (.tmp 17), none, [], false, false⟩])
      (.ret))
     (.skip))))
  (.seq (.region false [⟨(some 18), .move (.tmp 0), none, [], false, false⟩,
      ⟨(some 19), .call 92 [(.tmp 18), (.const (.int .i64 0)), (.const (.int .i64 1)), (.const (.int .i64 2))], none, [], false, false⟩,
      ⟨(some 5), .push [(.int .i64 0), (.int .i64 0), (.int .i64 0), (.int .i64 0), (.int .i64 0)], none, [], false, false⟩,
      ⟨none, .store 5 (.tmp 5) (.tmp 19), none, [], false, false⟩])
   (.seq (.seq (.region false [⟨(some 20), .move (.tmp 0), none, [], false, false⟩,
        ⟨(some 21), .len false (.tmp 20), none, [], false, false⟩,
        ⟨(some 22), .move (.const (.int .i64 0)), none, [], false, false⟩])
     (.block 0 (.loop (some [0, 2, 5, 21, 22]) (
       .seq (.region false [⟨(some 23), .bin .lss (.tmp 22) (.tmp 21), none, [], false, false⟩])
        (.seq (.cond (.tmp 23) (.skip)
          (.exit 0))
         (.seq (.block 1 (.seq (.region false [⟨(some 24), .move (.tmp 22), none, [], false, false⟩,
               ⟨(some 6), .move (.tmp 24), none, [], false, false⟩])
            (.seq (.region false [⟨(some 25), .move (.tmp 6), none, [], false, false⟩,
                ⟨(some 26), .bin .add (.tmp 25) (.const (.int .i64 1)), none, [], false, false⟩,
                ⟨(some 7), .move (.tmp 26), none, [], false, false⟩])
             (.block 2 (.loop (some [0, 2, 5, 6, 7, 21, 22]) (
               .seq (.seq (.region false [⟨(some 27), .move (.tmp 7), none, [], false, false⟩,
                    ⟨(some 28), .move (.tmp 0), none, [], false, false⟩,
                    ⟨(some 29), .len false (.tmp 28), none, [], false, false⟩,
                    ⟨(some 30), .bin .lss (.tmp 27) (.tmp 29), none, [], false, false⟩])
                 (.cond (.tmp 30) (.skip)
                  (.exit 2)))
                (.seq (.block 3 (.seq (.region false [⟨(some 33), .move (.tmp 7), none, [], false, false⟩,
                      ⟨(some 34), .bin .add (.tmp 33) (.const (.int .i64 1)), none, [], false, false⟩,
                      ⟨(some 8), .move (.tmp 34), none, [], false, false⟩])
                   (.block 4 (.loop (some [0, 2, 5, 6, 7, 8, 21, 22]) (
                     .seq (.seq (.region false [⟨(some 35), .move (.tmp 8), none, [], false, false⟩,
                          ⟨(some 36), .move (.tmp 0), none, [], false, false⟩,
                          ⟨(some 37), .len false (.tmp 36), none, [], false, false⟩,
                          ⟨(some 38), .bin .lss (.tmp 35) (.tmp 37), none, [], false, false⟩])
                       (.cond (.tmp 38) (.skip)
                        (.exit 4)))
                      (.seq (.block 5 (.seq (.region false [⟨(some 41), .move (.tmp 0), none, [], false, false⟩,
                            ⟨(some 42), .move (.tmp 6), none, [], false, false⟩,
                            ⟨(some 43), .move (.tmp 7), none, [], false, false⟩,
                            ⟨(some 44), .move (.tmp 8), none, [], false, false⟩,
                            ⟨(some 45), .call 92 [(.tmp 41), (.tmp 42), (.tmp 43), (.tmp 44)], none, [], false, false⟩,
                            ⟨(some 9), .push [(.int .i64 0), (.int .i64 0), (.int .i64 0), (.int .i64 0), (.int .i64 0)], none, [], false, false⟩,
                            ⟨none, .store 5 (.tmp 9) (.tmp 45), none, [], false, false⟩])
                         (.seq (.region false [⟨(some 46), .load true 5 (.tmp 5), none, [], false, false⟩,
                             ⟨(some 47), .load true 5 (.tmp 9), none, [], false, false⟩,
                             ⟨(some 48), .call 93 [(.tmp 46), (.tmp 47)], none, [], false, false⟩])
                          (.cond (.tmp 48) (.region false [⟨(some 49), .load true 5 (.tmp 9), none, [], false, false⟩,
                              ⟨none, .store 5 (.tmp 5) (.tmp 49), none, [], false, false⟩])
                           (.skip)))))
                       (.region false [⟨(some 39), .move (.tmp 8), none, [], false, false⟩,
                          ⟨(some 40), .bin .add (.tmp 39) (.const (.int .i64 1)), none, [], false, false⟩,
                          ⟨(some 8), .move (.tmp 40), none, [], false, false⟩])))))))
                 (.region false [⟨(some 31), .move (.tmp 7), none, [], false, false⟩,
                    ⟨(some 32), .bin .add (.tmp 31) (.const (.int .i64 1)), none, [], false, false⟩,
                    ⟨(some 7), .move (.tmp 32), none, [], false, false⟩]))))))))
          (.region false [⟨(some 50), .bin .add (.tmp 22) (.const (.int .i64 1)), none, [], false, false⟩,
             ⟨(some 22), .move (.tmp 50), none, [], false, false⟩])))))))
    (.seq (.region true [⟨(some 51), .move (.tmp 0), none, [], false, false⟩,
        ⟨(some 52), .fieldAddr 0 (.tmp 5), none, [], false, false⟩,
        ⟨(some 53), .indexAddr (some 3) 1 (.tmp 52) (.const (.int .i64 0)), none, [], false, false⟩,
        ⟨(some 54), .load false 1 (.tmp 53), none, [], false, false⟩,
        ⟨(some 55), .indexAddr none 2 (.tmp 51) (.tmp 54), none, [], false, false⟩,
        ⟨(some 56), .load true 2 (.tmp 55), none, [], false, false⟩,
        ⟨(some 57), .move (.tmp 0), none, [], false, false⟩,
        ⟨(some 58), .fieldAddr 0 (.tmp 5), none, [], false, false⟩,
        ⟨(some 59), .indexAddr (some 3) 1 (.tmp 58) (.const (.int .i64 2)), none, [], false, false⟩,
        ⟨(some 60), .load false 1 (.tmp 59), none, [], true, false⟩,
        ⟨(some 61), .indexAddr none 2 (.tmp 57) (.tmp 60), none, [], false, false⟩,
        ⟨(some 62), .load true 2 (.tmp 61), none, [], true, false⟩,
        ⟨(some 10), .push [(.int .i64 0), (.int .i64 0)], none, [], false, false⟩,
        ⟨(some 11), .push [(.int .i64 0), (.int .i64 0)], none, [], false, false⟩,
        ⟨none, .store 2 (.tmp 10) (.tmp 56), none, [9, 11], false, false⟩,
        ⟨none, .store 2 (.tmp 11) (.tmp 62), none, [], false, false⟩])
     (.seq (.region true [⟨(some 63), .fieldAddr 4 (.tmp 5), none, [], false, false⟩,
         ⟨(some 64), .load false 1 (.tmp 63), none, [], false, false⟩,
         ⟨(some 65), .bin .mul (.const (.int .i64 2)) (.tmp 64), none, [], false, false⟩,
         ⟨(some 66), .fieldAddr 1 (.tmp 10), none, [], false, false⟩,
         ⟨(some 67), .load false 1 (.tmp 66), none, [], false, false⟩,
         ⟨(some 68), .bin .mul (.tmp 65) (.tmp 67), none, [], false, false⟩,
         ⟨(some 69), .fieldAddr 1 (.tmp 11), none, [], false, false⟩,
         ⟨(some 70), .load false 1 (.tmp 69), none, [], false, false⟩,
         ⟨(some 71), .fieldAddr 1 (.tmp 10), none, [], false, false⟩,
         ⟨(some 72), .load false 1 (.tmp 71), none, [], false, false⟩,
         ⟨(some 73), .bin .sub (.tmp 70) (.tmp 72), none, [], false, false⟩,
         ⟨(some 74), .bin .mul (.const (.int .i64 2)) (.tmp 73), none, [], false, false⟩,
         ⟨(some 75), .fieldAddr 0 (.tmp 10), none, [], false, false⟩,
         ⟨(some 76), .load false 1 (.tmp 75), none, [], false, false⟩,
         ⟨(some 77), .bin .mul (.tmp 74) (.tmp 76), none, [], false, false⟩,
         ⟨(some 78), .bin .sub (.tmp 68) (.tmp 77), none, [], false, false⟩,
         ⟨(some 79), .fieldAddr 3 (.tmp 5), none, [], false, false⟩,
         ⟨(some 80), .load false 1 (.tmp 79), none, [], false, false⟩,
         ⟨(some 81), .bin .sub (.tmp 78) (.tmp 80), none, [], false, false⟩,
         ⟨(some 82), .fieldAddr 4 (.tmp 5), none, [], false, false⟩,
         ⟨(some 83), .load false 1 (.tmp 82), none, [], false, false⟩,
         ⟨(some 84), .bin .mul (.const (.int .i64 2)) (.tmp 83), none, [], false, false⟩,
         ⟨(some 85), .call 94 [(.tmp 81), (.tmp 84)], none, [], false, true⟩,
         ⟨(some 86), .fieldAddr 1 (.tmp 11), none, [], false, false⟩,
         ⟨(some 87), .load false 1 (.tmp 86), none, [], false, false⟩,
         ⟨(some 88), .fieldAddr 1 (.tmp 10), none, [], false, false⟩,
         ⟨(some 89), .load false 1 (.tmp 88), none, [], false, false⟩,
         ⟨(some 90), .bin .sub (.tmp 87) (.tmp 89), none, [], false, false⟩,
         ⟨(some 91), .fieldAddr 4 (.tmp 5), none, [], false, false⟩,
         ⟨(some 92), .load false 1 (.tmp 91), none, [], false, false⟩,
         ⟨(some 93), .call 94 [(.tmp 90), (.tmp 92)], none, [], false, true⟩,
         ⟨(some 94), .load true 5 (.tmp 5), none, [], false, false⟩,
         ⟨(some 95), .call 95 [(.tmp 94)], none, [], false, true⟩,
         ⟨(some 96), .fieldAddr 4 (.tmp 5), none, [], false, false⟩,
         ⟨(some 97), .load false 1 (.tmp 96), none, [], false, false⟩,
         ⟨(some 98), .bin .mul (.const (.int .i64 2)) (.tmp 97), none, [], false, false⟩,
         ⟨(some 99), .call 94 [(.tmp 95), (.tmp 98)], none, [], false, true⟩,
         ⟨(some 100), .fieldAddr 0 (.tmp 5), none, [], false, false⟩,
         ⟨(some 101), .load true 3 (.tmp 100), none, [], false, false⟩,
         ⟨(some 102), .build (List.replicate 9 (.int .i64 0)) [(0, 2, (.tmp 85)), (2, 2, (.tmp 93)), (4, 2, (.tmp 99)), (6, 3, (.tmp 101))], none, [], false, false⟩,
         ⟨none, .store 9 (.tmp 2) (.tmp 102), none, [], false, false⟩,
         ⟨(some 3), .move (.const (.int .i64 0)), none, [], false, false⟩])
      (.ret)))))),
 [.cell 2 true 9, .tmp 3], .pure, 103⟩

/-- agraffe/number.CheckRange -/
def ef29 : EFun := ⟨
 .seq (.region false [⟨(some 1), .box (.tmp 0), none, [], false, false⟩,
    ⟨(some 2), .move (.const (.int .i64 0)), none, [], false, false⟩])
 (.seq (.block 0 (.seq (.region false [⟨(some 4), .fieldAddr 0 (.tmp 1), none, [], false, false⟩,
       ⟨(some 5), .load false 1 (.tmp 4), none, [], false, false⟩,
       ⟨(some 6), .call 77 [(.tmp 5), (.const (.int .i64 (-1000000000000000))), (.const (.int .i64 1000000000000000))], none, [], false, false⟩,
       ⟨(some 7), .un .not (.tmp 6), none, [], false, false⟩,
       ⟨(some 8), .move (.tmp 7), none, [], false, false⟩,
       ⟨(some 9), .fieldAddr 1 (.tmp 1), (some (8, false)), [], false, false⟩,
       ⟨(some 10), .load false 1 (.tmp 9), (some (8, false)), [], false, false⟩,
       ⟨(some 11), .call 77 [(.tmp 10), (.const (.int .i64 (-1000000000000000))), (.const (.int .i64 1000000000000000))], (some (8, false)), [], false, false⟩,
       ⟨(some 12), .un .not (.tmp 11), (some (8, false)), [], false, false⟩,
       ⟨(some 13), .pick (.tmp 8) (.const (.bool true)) (.tmp 12), none, [], false, false⟩,
       ⟨(some 3), .move (.tmp 13), none, [], false, false⟩])
    (.cond (.tmp 3) (.seq (.region false [⟨(some 2), .move (.const (.int .i64 2)), none, [], false, false⟩])
      (.ret))
     (.seq (.region false [⟨(some 15), .fieldAddr 0 (.tmp 1), none, [], false, false⟩,
         ⟨(some 16), .load false 1 (.tmp 15), none, [], false, false⟩,
         ⟨(some 17), .fieldAddr 1 (.tmp 1), none, [], false, false⟩,
         ⟨(some 18), .load false 1 (.tmp 17), none, [], false, false⟩,
         ⟨(some 19), .bin .gtr (.tmp 16) (.tmp 18), none, [], false, false⟩,
         ⟨(some 14), .move (.tmp 19), none, [], false, false⟩])
      (.cond (.tmp 14) (.seq (.region false [⟨(some 2), .move (.const (.int .i64 9)), none, [], false, false⟩])
        (.ret))
       (.skip))))))
  (.seq (.region false [⟨(some 2), .move (.const (.int .i64 0)), none, [], false, false⟩])
   (.ret))),
 [.tmp 2], .pure, 20⟩

/-- agraffe/agrafferef01.CheckSystem -/
def ef34 : EFun := ⟨
 .seq (.region false [⟨(some 4), .move (.const (.int .i64 0)), none, [], false, false⟩])
 (.seq (.seq (.region false [⟨(some 6), .move (.tmp 0), none, [], false, false⟩,
      ⟨(some 7), .call 22 [(.tmp 6), (.const (.int .i64 1)), (.const (.int .i64 60))], none, [], false, false⟩,
      ⟨(some 8), .un .not (.tmp 7), none, [], false, false⟩])
   (.cond (.tmp 8) (.seq (.region false [⟨(some 4), .move (.const (.int .i64 2)), none, [], false, false⟩])
     (.ret))
    (.skip)))
  (.seq (.seq (.region false [⟨(some 9), .move (.tmp 1), none, [], false, false⟩,
       ⟨(some 10), .len false (.tmp 9), none, [], false, false⟩,
       ⟨(some 11), .bin .gtr (.tmp 10) (.const (.int .i64 200)), none, [], false, false⟩])
    (.cond (.tmp 11) (.seq (.region false [⟨(some 4), .move (.const (.int .i64 8)), none, [], false, false⟩])
      (.ret))
     (.skip)))
   (.seq (.seq (.region false [⟨(some 5), .move (.const (.int .i64 0)), none, [], false, false⟩])
     (.block 0 (.loop (some [0, 1, 5]) (
       .seq (.seq (.region false [⟨(some 12), .move (.tmp 5), none, [], false, false⟩,
            ⟨(some 13), .move (.tmp 1), none, [], false, false⟩,
            ⟨(some 14), .len false (.tmp 13), none, [], false, false⟩,
            ⟨(some 15), .bin .lss (.tmp 12) (.tmp 14), none, [], false, false⟩])
         (.cond (.tmp 15) (.skip)
          (.exit 0)))
        (.seq (.block 1 (.seq (.seq (.region false [⟨(some 18), .move (.tmp 1), none, [], false, false⟩,
               ⟨(some 19), .move (.tmp 5), none, [], false, false⟩,
               ⟨(some 20), .indexAddr none 3 (.tmp 18) (.tmp 19), none, [], false, false⟩,
               ⟨(some 21), .fieldAddr 0 (.tmp 20), none, [], false, false⟩,
               ⟨(some 22), .load false 1 (.tmp 21), none, [], false, false⟩,
               ⟨(some 23), .move (.tmp 0), none, [], false, false⟩,
               ⟨(some 24), .bin .sub (.tmp 23) (.const (.int .i64 1)), none, [], false, false⟩,
               ⟨(some 25), .call 22 [(.tmp 22), (.const (.int .i64 0)), (.tmp 24)], none, [], false, false⟩,
               ⟨(some 26), .un .not (.tmp 25), none, [], false, false⟩,
               ⟨(some 27), .move (.tmp 26), none, [], false, false⟩,
               ⟨(some 28), .move (.tmp 1), (some (27, false)), [], false, false⟩,
               ⟨(some 29), .move (.tmp 5), (some (27, false)), [], false, false⟩,
               ⟨(some 30), .indexAddr none 3 (.tmp 28) (.tmp 29), (some (27, false)), [], false, false⟩,
               ⟨(some 31), .fieldAddr 1 (.tmp 30), (some (27, false)), [], false, false⟩,
               ⟨(some 32), .load false 1 (.tmp 31), (some (27, false)), [], false, false⟩,
               ⟨(some 33), .move (.tmp 0), (some (27, false)), [], false, false⟩,
               ⟨(some 34), .bin .sub (.tmp 33) (.const (.int .i64 1)), (some (27, false)), [], false, false⟩,
               ⟨(some 35), .call 22 [(.tmp 32), (.const (.int .i64 0)), (.tmp 34)], (some (27, false)), [], false, false⟩,
               ⟨(some 36), .un .not (.tmp 35), (some (27, false)), [], false, false⟩,
               ⟨(some 37), .pick (.tmp 27) (.const (.bool true)) (.tmp 36), none, [], false, false⟩])
            (.cond (.tmp 37) (.seq (.region false [⟨(some 4), .move (.const (.int .i64 6)), none, [], false, false⟩])
              (.ret))
             (.skip)))
           (.seq (.region false [⟨(some 38), .move (.tmp 1), none, [], false, false⟩,
               ⟨(some 39), .move (.tmp 5), none, [], false, false⟩,
               ⟨(some 40), .indexAddr none 3 (.tmp 38) (.tmp 39), none, [], false, false⟩,
               ⟨(some 41), .fieldAddr 2 (.tmp 40), none, [], false, false⟩,
               ⟨(some 42), .load false 1 (.tmp 41), none, [], false, false⟩,
               ⟨(some 43), .call 22 [(.tmp 42), (.const (.int .i64 (-1000000000))), (.const (.int .i64 1000000000))], none, [], false, false⟩,
               ⟨(some 44), .un .not (.tmp 43), none, [], false, false⟩])
            (.cond (.tmp 44) (.seq (.region false [⟨(some 4), .move (.const (.int .i64 2)), none, [], false, false⟩])
              (.ret))
             (.skip)))))
         (.region false [⟨(some 16), .move (.tmp 5), none, [], false, false⟩,
            ⟨(some 17), .bin .add (.tmp 16) (.const (.int .i64 1)), none, [], false, false⟩,
            ⟨(some 5), .move (.tmp 17), none, [], false, false⟩]))))))
    (.seq (.region false [⟨(some 4), .move (.const (.int .i64 0)), none, [], false, false⟩])
     (.ret))))),
 [.tmp 4], .pure, 45⟩

/-- agraffe/number.Solve -/
def ef35 : EFun := ⟨
 .seq (.region false [⟨(some 4), .move (.const (.slice none 0 0)), none, [], false, false⟩,
    ⟨(some 5), .move (.const (.slice none 0 0)), none, [], false, false⟩,
    ⟨(some 6), .move (.const (.int .i64 0)), none, [], false, false⟩])
 (.seq (.seq (.region false [⟨(some 13), .move (.tmp 0), none, [], false, false⟩,
      ⟨(some 14), .move (.tmp 1), none, [], false, false⟩,
      ⟨(some 15), .call 36 [(.tmp 13), (.tmp 14)], none, [], false, false⟩,
      ⟨(some 7), .move (.tmp 15), none, [], false, false⟩])
   (.seq (.region false [⟨(some 16), .move (.tmp 7), none, [], false, false⟩,
       ⟨(some 17), .bin .neq (.tmp 16) (.const (.int .i64 0)), none, [], false, false⟩])
    (.cond (.tmp 17) (.seq (.region false [⟨(some 18), .move (.tmp 7), none, [], false, false⟩,
         ⟨(some 4), .move (.const (.slice none 0 0)), none, [], false, false⟩,
         ⟨(some 5), .move (.const (.slice none 0 0)), none, [], false, false⟩,
         ⟨(some 6), .move (.tmp 18), none, [], false, false⟩])
      (.ret))
     (.skip))))
  (.seq (.region true [⟨(some 19), .move (.tmp 0), none, [], false, false⟩,
      ⟨(some 20), .makeSlice 1 8 [(.int .i64 0)] (.tmp 19) (.tmp 19), none, [], false, false⟩,
      ⟨(some 21), .move (.tmp 0), none, [], false, false⟩,
      ⟨(some 22), .makeSlice 1 8 [(.int .i64 0)] (.tmp 21) (.tmp 21), none, [], false, false⟩,
      ⟨(some 8), .move (.tmp 20), none, [], false, false⟩,
      ⟨(some 9), .move (.tmp 22), none, [], false, false⟩])
   (.seq (.region false [⟨(some 10), .move (.const (.int .i64 0)), none, [], false, false⟩])
    (.seq (.seq (.region false [⟨(some 23), .move (.tmp 0), none, [], false, false⟩,
         ⟨(some 24), .move (.const (.int .i64 0)), none, [], false, false⟩])
      (.block 0 (.loop (some [0, 1, 8, 9, 10, 23, 24]) (
        .seq (.region false [⟨(some 25), .bin .lss (.tmp 24) (.tmp 23), none, [], false, false⟩])
         (.seq (.cond (.tmp 25) (.skip)
           (.exit 0))
          (.seq (.block 1 (.seq (.region false [⟨(some 26), .move (.tmp 1), none, [], false, false⟩,
                ⟨(some 27), .move (.tmp 8), none, [], false, false⟩,
                ⟨(some 28), .move (.tmp 9), none, [], false, false⟩,
                ⟨(some 29), .call 97 [(.tmp 26), (.tmp 27), (.tmp 28)], none, [], false, false⟩,
                ⟨(some 10), .move (.tmp 29), none, [], false, false⟩])
             (.seq (.region false [⟨(some 30), .move (.tmp 10), none, [], false, false⟩,
                 ⟨(some 31), .bin .lss (.tmp 30) (.const (.int .i64 0)), none, [], false, false⟩])
              (.cond (.tmp 31) (.seq (.region false [⟨(some 32), .move (.tmp 8), none, [], false, false⟩,
                   ⟨(some 4), .move (.tmp 32), none, [], false, false⟩,
                   ⟨(some 5), .move (.const (.slice none 0 0)), none, [], false, false⟩,
                   ⟨(some 6), .move (.const (.int .i64 0)), none, [], false, false⟩])
                (.ret))
               (.skip)))))
           (.region false [⟨(some 33), .bin .add (.tmp 24) (.const (.int .i64 1)), none, [], false, false⟩,
              ⟨(some 24), .move (.tmp 33), none, [], false, false⟩])))))))
     (.seq (.seq (.region false [⟨(some 34), .move (.tmp 0), none, [], false, false⟩,
          ⟨(some 35), .move (.const (.int .i64 0)), none, [], false, false⟩])
       (.block 2 (.loop (some [1, 9, 10, 34, 35]) (
         .seq (.region false [⟨(some 36), .bin .lss (.tmp 35) (.tmp 34), none, [], false, false⟩])
          (.seq (.cond (.tmp 36) (.skip)
            (.exit 2))
           (.seq (.block 3 (.region false [⟨(some 37), .move (.tmp 1), none, [], false, false⟩,
                ⟨(some 38), .move (.tmp 9), none, [], false, false⟩,
                ⟨(some 39), .move (.tmp 10), none, [], false, false⟩,
                ⟨(some 40), .indexAddr none 1 (.tmp 38) (.tmp 39), none, [], false, false⟩,
                ⟨(some 41), .load false 1 (.tmp 40), none, [], false, false⟩,
                ⟨(some 42), .indexAddr none 3 (.tmp 37) (.tmp 41), none, [], false, false⟩,
                ⟨(some 43), .fieldAddr 0 (.tmp 42), none, [], false, false⟩,
                ⟨(some 44), .load false 1 (.tmp 43), none, [], false, false⟩,
                ⟨(some 10), .move (.tmp 44), none, [], false, false⟩]))
            (.region false [⟨(some 45), .bin .add (.tmp 35) (.const (.int .i64 1)), none, [], false, false⟩,
               ⟨(some 35), .move (.tmp 45), none, [], false, false⟩])))))))
      (.seq (.region false [⟨(some 11), .move (.const (.slice none 0 0)), none, [], false, false⟩])
       (.seq (.seq (.region false [⟨(some 46), .move (.tmp 10), none, [], false, false⟩,
            ⟨(some 12), .move (.tmp 46), none, [], false, false⟩])
         (.block 4 (.loop (some [1, 9, 10, 11, 12]) (
           .seq (.seq (.region false [⟨(some 47), .move (.tmp 11), none, [], false, false⟩,
                ⟨(some 48), .len false (.tmp 47), none, [], false, false⟩,
                ⟨(some 49), .bin .eql (.tmp 48) (.const (.int .i64 0)), none, [], false, false⟩,
                ⟨(some 50), .move (.tmp 49), none, [], false, false⟩,
                ⟨(some 51), .move (.tmp 12), (some (50, false)), [], false, false⟩,
                ⟨(some 52), .move (.tmp 10), (some (50, false)), [], false, false⟩,
                ⟨(some 53), .bin .neq (.tmp 51) (.tmp 52), (some (50, false)), [], false, false⟩,
                ⟨(some 54), .pick (.tmp 50) (.const (.bool true)) (.tmp 53), none, [], false, false⟩])
             (.cond (.tmp 54) (.skip)
              (.exit 4)))
            (.seq (.block 5 (.region false [⟨(some 63), .move (.tmp 11), none, [], false, false⟩,
                 ⟨(some 64), .move (.tmp 9), none, [], false, false⟩,
                 ⟨(some 65), .move (.tmp 12), none, [], false, false⟩,
                 ⟨(some 66), .indexAddr none 1 (.tmp 64) (.tmp 65), none, [], false, false⟩,
                 ⟨(some 67), .load false 1 (.tmp 66), none, [], false, false⟩,
                 ⟨(some 68), .buildSlice 1 1 [(.int .i64 0)] [(0, 1, (.tmp 67))], none, [], false, false⟩,
                 ⟨(some 69), .append 1 8 (.tmp 63) (.tmp 68), none, [], false, false⟩,
                 ⟨(some 11), .move (.tmp 69), none, [], false, false⟩]))
             (.region false [⟨(some 55), .move (.tmp 1), none, [], false, false⟩,
                ⟨(some 56), .move (.tmp 9), none, [], false, false⟩,
                ⟨(some 57), .move (.tmp 12), none, [], false, false⟩,
                ⟨(some 58), .indexAddr none 1 (.tmp 56) (.tmp 57), none, [], false, false⟩,
                ⟨(some 59), .load false 1 (.tmp 58), none, [], false, false⟩,
                ⟨(some 60), .indexAddr none 3 (.tmp 55) (.tmp 59), none, [], false, false⟩,
                ⟨(some 61), .fieldAddr 0 (.tmp 60), none, [], false, false⟩,
                ⟨(some 62), .load false 1 (.tmp 61), none, [], false, false⟩,
                ⟨(some 12), .move (.tmp 62), none, [], false, false⟩]))))))
        (.seq (.region false [⟨(some 70), .move (.tmp 11), none, [], false, false⟩,
            ⟨(some 71), .call 98 [(.tmp 70)], none, [], false, false⟩])
         (.seq (.region false [⟨(some 72), .move (.tmp 11), none, [], false, false⟩,
             ⟨(some 4), .move (.const (.slice none 0 0)), none, [], false, false⟩,
             ⟨(some 5), .move (.tmp 72), none, [], false, false⟩,
             ⟨(some 6), .move (.const (.int .i64 21)), none, [], false, false⟩])
          (.ret)))))))))),
 [.tmp 4, .tmp 5, .tmp 6], .pure, 73⟩

/-- agraffe/number.CheckSystem -/
def ef36 : EFun := ⟨
 .seq (.region false [⟨(some 4), .move (.const (.int .i64 0)), none, [], false, false⟩])
 (.seq (.block 0 (.seq (.region false [⟨(some 8), .move (.tmp 0), none, [], false, false⟩,
       ⟨(some 9), .call 77 [(.tmp 8), (.const (.int .i64 1)), (.const (.int .i64 60))], none, [], false, false⟩,
       ⟨(some 10), .un .not (.tmp 9), none, [], false, false⟩,
       ⟨(some 7), .move (.tmp 10), none, [], false, false⟩])
    (.cond (.tmp 7) (.seq (.region false [⟨(some 4), .move (.const (.int .i64 2)), none, [], false, false⟩])
      (.ret))
     (.seq (.region false [⟨(some 12), .move (.tmp 1), none, [], false, false⟩,
         ⟨(some 13), .len false (.tmp 12), none, [], false, false⟩,
         ⟨(some 14), .bin .gtr (.tmp 13) (.const (.int .i64 200)), none, [], false, false⟩,
         ⟨(some 11), .move (.tmp 14), none, [], false, false⟩])
      (.cond (.tmp 11) (.seq (.region false [⟨(some 4), .move (.const (.int .i64 8)), none, [], false, false⟩])
        (.ret))
       (.skip))))))
  (.seq (.seq (.region false [⟨(some 15), .move (.tmp 1), none, [], false, false⟩,
       ⟨(some 16), .len false (.tmp 15), none, [], false, false⟩,
       ⟨(some 17), .move (.const (.int .i64 0)), none, [], false, false⟩])
    (.block 1 (.loop (some [0, 15, 16, 17]) (
      .seq (.region false [⟨(some 18), .bin .lss (.tmp 17) (.tmp 16), none, [], false, false⟩])
       (.seq (.cond (.tmp 18) (.skip)
         (.exit 1))
        (.seq (.block 2 (.seq (.region false [⟨(some 19), .indexAddr none 3 (.tmp 15) (.tmp 17), none, [], false, false⟩,
              ⟨(some 20), .load true 3 (.tmp 19), none, [], false, false⟩,
              ⟨(some 6), .push [(.int .i64 0), (.int .i64 0), (.int .i64 0)], none, [], false, false⟩,
              ⟨none, .store 3 (.tmp 6) (.tmp 20), none, [], false, false⟩])
           (.block 3 (.seq (.region false [⟨(some 22), .fieldAddr 0 (.tmp 6), none, [], false, false⟩,
                ⟨(some 23), .load false 1 (.tmp 22), none, [], false, false⟩,
                ⟨(some 24), .move (.tmp 0), none, [], false, false⟩,
                ⟨(some 25), .bin .sub (.tmp 24) (.const (.int .i64 1)), none, [], false, false⟩,
                ⟨(some 26), .call 77 [(.tmp 23), (.const (.int .i64 0)), (.tmp 25)], none, [], false, false⟩,
                ⟨(some 27), .un .not (.tmp 26), none, [], false, false⟩,
                ⟨(some 28), .move (.tmp 27), none, [], false, false⟩,
                ⟨(some 29), .fieldAddr 1 (.tmp 6), (some (28, false)), [], false, false⟩,
                ⟨(some 30), .load false 1 (.tmp 29), (some (28, false)), [], false, false⟩,
                ⟨(some 31), .move (.tmp 0), (some (28, false)), [], false, false⟩,
                ⟨(some 32), .bin .sub (.tmp 31) (.const (.int .i64 1)), (some (28, false)), [], false, false⟩,
                ⟨(some 33), .call 77 [(.tmp 30), (.const (.int .i64 0)), (.tmp 32)], (some (28, false)), [], false, false⟩,
                ⟨(some 34), .un .not (.tmp 33), (some (28, false)), [], false, false⟩,
                ⟨(some 35), .pick (.tmp 28) (.const (.bool true)) (.tmp 34), none, [], false, false⟩,
                ⟨(some 21), .move (.tmp 35), none, [], false, false⟩])
             (.cond (.tmp 21) (.seq (.region false [⟨(some 4), .move (.const (.int .i64 6)), none, [], false, false⟩])
               (.ret))
              (.seq (.region false [⟨(some 37), .fieldAddr 2 (.tmp 6), none, [], false, false⟩,
                  ⟨(some 38), .load false 1 (.tmp 37), none, [], false, false⟩,
                  ⟨(some 39), .call 77 [(.tmp 38), (.const (.int .i64 (-1000000000))), (.const (.int .i64 1000000000))], none, [], false, false⟩,
                  ⟨(some 40), .un .not (.tmp 39), none, [], false, false⟩,
                  ⟨(some 36), .move (.tmp 40), none, [], false, false⟩])
               (.cond (.tmp 36) (.seq (.region false [⟨(some 4), .move (.const (.int .i64 2)), none, [], false, false⟩])
                 (.ret))
                (.skip))))))))
         (.region false [⟨(some 41), .bin .add (.tmp 17) (.const (.int .i64 1)), none, [], false, false⟩,
            ⟨(some 17), .move (.tmp 41), none, [], false, false⟩])))))))
   (.seq (.region false [⟨(some 4), .move (.const (.int .i64 0)), none, [], false, false⟩])
    (.ret)))),
 [.tmp 4], .pure, 42⟩

/-- agraffe/agrafferef01.Solve -/
def ef37 : EFun := ⟨
 .seq (.region false [⟨(some 4), .move (.const (.slice none 0 0)), none, [], false, false⟩,
    ⟨(some 5), .move (.const (.bool false)), none, [], false, false⟩])
 (.seq (.region false [⟨(some 11), .move (.tmp 0), none, [], false, false⟩,
     ⟨(some 12), .makeSlice 1 8 [(.int .i64 0)] (.tmp 11) (.tmp 11), none, [], false, false⟩,
     ⟨(some 6), .move (.tmp 12), none, [], false, false⟩])
  (.seq (.seq (.region false [⟨(some 7), .move (.const (.int .i64 0)), none, [], false, false⟩])
    (.block 0 (.loop (some [0, 1, 6, 7]) (
      .seq (.seq (.region false [⟨(some 13), .move (.tmp 7), none, [], false, false⟩,
           ⟨(some 14), .move (.tmp 0), none, [], false, false⟩,
           ⟨(some 15), .bin .leq (.tmp 13) (.tmp 14), none, [], false, false⟩])
        (.cond (.tmp 15) (.skip)
         (.exit 0)))
       (.seq (.block 1 (.seq (.region false [⟨(some 8), .move (.const (.bool false)), none, [], false, false⟩])
          (.seq (.seq (.region false [⟨(some 9), .move (.const (.int .i64 0)), none, [], false, false⟩])
            (.block 2 (.loop (some [0, 1, 6, 7, 8, 9]) (
              .seq (.seq (.region false [⟨(some 18), .move (.tmp 9), none, [], false, false⟩,
                   ⟨(some 19), .move (.tmp 1), none, [], false, false⟩,
                   ⟨(some 20), .len false (.tmp 19), none, [], false, false⟩,
                   ⟨(some 21), .bin .lss (.tmp 18) (.tmp 20), none, [], false, false⟩])
                (.cond (.tmp 21) (.skip)
                 (.exit 2)))
               (.seq (.block 3 (.seq (.region true [⟨(some 24), .move (.tmp 6), none, [], false, false⟩,
                     ⟨(some 25), .move (.tmp 1), none, [], false, false⟩,
                     ⟨(some 26), .move (.tmp 9), none, [], false, false⟩,
                     ⟨(some 27), .indexAddr none 3 (.tmp 25) (.tmp 26), none, [], false, false⟩,
                     ⟨(some 28), .fieldAddr 0 (.tmp 27), none, [], false, false⟩,
                     ⟨(some 29), .load false 1 (.tmp 28), none, [], false, false⟩,
                     ⟨(some 30), .indexAddr none 1 (.tmp 24) (.tmp 29), none, [], false, false⟩,
                     ⟨(some 31), .load false 1 (.tmp 30), none, [], false, false⟩,
                     ⟨(some 32), .move (.tmp 1), none, [], false, false⟩,
                     ⟨(some 33), .move (.tmp 9), none, [], false, false⟩,
                     ⟨(some 34), .indexAddr none 3 (.tmp 32) (.tmp 33), none, [], false, false⟩,
                     ⟨(some 35), .fieldAddr 2 (.tmp 34), none, [], false, false⟩,
                     ⟨(some 36), .load false 1 (.tmp 35), none, [], false, false⟩,
                     ⟨(some 37), .bin .add (.tmp 31) (.tmp 36), none, [], false, false⟩,
                     ⟨(some 10), .move (.tmp 37), none, [], false, false⟩])
                  (.seq (.region false [⟨(some 38), .move (.tmp 6), none, [], false, false⟩,
                      ⟨(some 39), .move (.tmp 1), none, [], false, false⟩,
                      ⟨(some 40), .move (.tmp 9), none, [], false, false⟩,
                      ⟨(some 41), .indexAddr none 3 (.tmp 39) (.tmp 40), none, [], false, false⟩,
                      ⟨(some 42), .fieldAddr 1 (.tmp 41), none, [], false, false⟩,
                      ⟨(some 43), .load false 1 (.tmp 42), none, [], false, false⟩,
                      ⟨(some 44), .indexAddr none 1 (.tmp 38) (.tmp 43), none, [], false, false⟩,
                      ⟨(some 45), .load false 1 (.tmp 44), none, [], false, false⟩,
                      ⟨(some 46), .move (.tmp 10), none, [], false, false⟩,
                      ⟨(some 47), .bin .gtr (.tmp 45) (.tmp 46), none, [], false, false⟩])
                   (.cond (.tmp 47) (.region false [⟨(some 48), .move (.tmp 6), none, [], false, false⟩,
                       ⟨(some 49), .move (.tmp 1), none, [], false, false⟩,
                       ⟨(some 50), .move (.tmp 9), none, [], false, false⟩,
                       ⟨(some 51), .indexAddr none 3 (.tmp 49) (.tmp 50), none, [], false, false⟩,
                       ⟨(some 52), .fieldAddr 1 (.tmp 51), none, [], false, false⟩,
                       ⟨(some 53), .load false 1 (.tmp 52), none, [], false, false⟩,
                       ⟨(some 54), .move (.tmp 10), none, [], false, false⟩,
                       ⟨(some 55), .indexAddr none 1 (.tmp 48) (.tmp 53), none, [], false, false⟩,
                       ⟨none, .store 1 (.tmp 55) (.tmp 54), none, [], false, false⟩,
                       ⟨(some 8), .move (.const (.bool true)), none, [], false, false⟩])
                    (.skip)))))
                (.region false [⟨(some 22), .move (.tmp 9), none, [], false, false⟩,
                   ⟨(some 23), .bin .add (.tmp 22) (.const (.int .i64 1)), none, [], false, false⟩,
                   ⟨(some 9), .move (.tmp 23), none, [], false, false⟩]))))))
           (.seq (.region false [⟨(some 56), .move (.tmp 8), none, [], false, false⟩,
               ⟨(some 57), .un .not (.tmp 56), none, [], false, false⟩])
            (.cond (.tmp 57) (.seq (.region false [⟨(some 58), .move (.tmp 6), none, [], false, false⟩,
                 ⟨(some 4), .move (.tmp 58), none, [], false, false⟩,
                 ⟨(some 5), .move (.const (.bool true)), none, [], false, false⟩])
              (.ret))
             (.skip))))))
        (.region false [⟨(some 16), .move (.tmp 7), none, [], false, false⟩,
           ⟨(some 17), .bin .add (.tmp 16) (.const (.int .i64 1)), none, [], false, false⟩,
           ⟨(some 7), .move (.tmp 17), none, [], false, false⟩]))))))
   (.seq (.region false [⟨(some 4), .move (.const (.slice none 0 0)), none, [], false, false⟩,
       ⟨(some 5), .move (.const (.bool false)), none, [], false, false⟩])
    (.ret)))),
 [.tmp 4, .tmp 5], .pure, 59⟩

/-- agraffe/agraffebase.Ints -/
def ef38 : EFun := ⟨
 .seq (.region false [⟨(some 4), .move (.const (.bool false)), none, [], false, false⟩])
 (.seq (.seq (.region false [⟨(some 6), .move (.tmp 0), none, [], false, false⟩,
      ⟨(some 7), .len false (.tmp 6), none, [], false, false⟩,
      ⟨(some 8), .move (.tmp 1), none, [], false, false⟩,
      ⟨(some 9), .len false (.tmp 8), none, [], false, false⟩,
      ⟨(some 10), .bin .neq (.tmp 7) (.tmp 9), none, [], false, false⟩])
   (.cond (.tmp 10) (.seq (.region false [⟨(some 4), .move (.const (.bool false)), none, [], false, false⟩])
     (.ret))
    (.skip)))
  (.seq (.seq (.region false [⟨(some 5), .move (.const (.int .i64 0)), none, [], false, false⟩])
    (.block 0 (.loop (some [0, 1, 5]) (
      .seq (.seq (.region false [⟨(some 11), .move (.tmp 5), none, [], false, false⟩,
           ⟨(some 12), .move (.tmp 0), none, [], false, false⟩,
           ⟨(some 13), .len false (.tmp 12), none, [], false, false⟩,
           ⟨(some 14), .bin .lss (.tmp 11) (.tmp 13), none, [], false, false⟩])
        (.cond (.tmp 14) (.skip)
         (.exit 0)))
       (.seq (.block 1 (.seq (.region true [⟨(some 17), .move (.tmp 0), none, [], false, false⟩,
             ⟨(some 18), .move (.tmp 5), none, [], false, false⟩,
             ⟨(some 19), .indexAddr none 1 (.tmp 17) (.tmp 18), none, [], false, false⟩,
             ⟨(some 20), .load false 1 (.tmp 19), none, [], false, false⟩,
             ⟨(some 21), .move (.tmp 1), none, [], false, false⟩,
             ⟨(some 22), .move (.tmp 5), none, [], false, false⟩,
             ⟨(some 23), .indexAddr none 1 (.tmp 21) (.tmp 22), none, [], false, false⟩,
             ⟨(some 24), .load false 1 (.tmp 23), none, [], false, false⟩,
             ⟨(some 25), .bin .neq (.tmp 20) (.tmp 24), none, [], false, false⟩])
          (.cond (.tmp 25) (.seq (.region false [⟨(some 4), .move (.const (.bool false)), none, [], false, false⟩])
            (.ret))
           (.skip))))
        (.region false [⟨(some 15), .move (.tmp 5), none, [], false, false⟩,
           ⟨(some 16), .bin .add (.tmp 15) (.const (.int .i64 1)), none, [], false, false⟩,
           ⟨(some 5), .move (.tmp 16), none, [], false, false⟩]))))))
   (.seq (.region false [⟨(some 4), .move (.const (.bool true)), none, [], false, false⟩])
    (.ret)))),
 [.tmp 4], .pure, 26⟩

/-- agraffe/agrafferef01.CheckCircle -/
def ef39 : EFun := ⟨
 .seq (.region false [⟨(some 4), .move (.const (.int .i64 0)), none, [], false, false⟩,
    ⟨(some 5), .move (.const (.int .i64 0)), none, [], false, false⟩])
 (.seq (.seq (.region false [⟨(some 9), .move (.tmp 1), none, [], false, false⟩,
      ⟨(some 10), .len false (.tmp 9), none, [], false, false⟩,
      ⟨(some 11), .call 22 [(.tmp 10), (.const (.int .i64 1)), (.const (.int .i64 60))], none, [], false, false⟩,
      ⟨(some 12), .un .not (.tmp 11), none, [], false, false⟩])
   (.cond (.tmp 12) (.seq (.region false [⟨(some 4), .move (.const (.int .i64 0)), none, [], false, false⟩,
        ⟨(some 5), .move (.const (.int .i64 10)), none, [], false, false⟩])
     (.ret))
    (.skip)))
  (.seq (.seq (.region false [⟨(some 6), .move (.const (.int .i64 0)), none, [], false, false⟩])
    (.block 0 (.loop (some [0, 1, 6]) (
      .seq (.seq (.region false [⟨(some 13), .move (.tmp 6), none, [], false, false⟩,
           ⟨(some 14), .move (.tmp 1), none, [], false, false⟩,
           ⟨(some 15), .len false (.tmp 14), none, [], false, false⟩,
           ⟨(some 16), .bin .lss (.tmp 13) (.tmp 15), none, [], false, false⟩])
        (.cond (.tmp 16) (.skip)
         (.exit 0)))
       (.seq (.block 1 (.seq (.region false [⟨(some 19), .move (.tmp 1), none, [], false, false⟩,
             ⟨(some 20), .move (.tmp 6), none, [], false, false⟩,
             ⟨(some 21), .indexAddr none 1 (.tmp 19) (.tmp 20), none, [], false, false⟩,
             ⟨(some 22), .load false 1 (.tmp 21), none, [], false, false⟩,
             ⟨(some 23), .move (.tmp 0), none, [], false, false⟩,
             ⟨(some 24), .len false (.tmp 23), none, [], false, false⟩,
             ⟨(some 25), .bin .sub (.tmp 24) (.const (.int .i64 1)), none, [], false, false⟩,
             ⟨(some 26), .call 22 [(.tmp 22), (.const (.int .i64 0)), (.tmp 25)], none, [], false, false⟩,
             ⟨(some 27), .un .not (.tmp 26), none, [], false, false⟩])
          (.cond (.tmp 27) (.seq (.region false [⟨(some 4), .move (.const (.int .i64 0)), none, [], false, false⟩,
               ⟨(some 5), .move (.const (.int .i64 6)), none, [], false, false⟩])
            (.ret))
           (.skip))))
        (.region false [⟨(some 17), .move (.tmp 6), none, [], false, false⟩,
           ⟨(some 18), .bin .add (.tmp 17) (.const (.int .i64 1)), none, [], false, false⟩,
           ⟨(some 6), .move (.tmp 18), none, [], false, false⟩]))))))
   (.seq (.region false [⟨(some 7), .move (.const (.int .i64 0)), none, [], false, false⟩])
    (.seq (.seq (.region false [⟨(some 8), .move (.const (.int .i64 0)), none, [], false, false⟩])
      (.block 2 (.loop (some [0, 1, 7, 8]) (
        .seq (.seq (.region false [⟨(some 28), .move (.tmp 8), none, [], false, false⟩,
             ⟨(some 29), .move (.tmp 1), none, [], false, false⟩,
             ⟨(some 30), .len false (.tmp 29), none, [], false, false⟩,
             ⟨(some 31), .bin .lss (.tmp 28) (.tmp 30), none, [], false, false⟩])
          (.cond (.tmp 31) (.skip)
           (.exit 2)))
         (.seq (.block 3 (.seq (.seq (.region true [⟨(some 34), .move (.tmp 0), none, [], false, false⟩,
                ⟨(some 35), .move (.tmp 1), none, [], false, false⟩,
                ⟨(some 36), .move (.tmp 8), none, [], false, false⟩,
                ⟨(some 37), .indexAddr none 1 (.tmp 35) (.tmp 36), none, [], false, false⟩,
                ⟨(some 38), .load false 1 (.tmp 37), none, [], false, false⟩,
                ⟨(some 39), .indexAddr none 3 (.tmp 34) (.tmp 38), none, [], false, false⟩,
                ⟨(some 40), .fieldAddr 0 (.tmp 39), none, [], false, false⟩,
                ⟨(some 41), .load false 1 (.tmp 40), none, [], false, false⟩,
                ⟨(some 42), .move (.tmp 0), none, [], false, false⟩,
                ⟨(some 43), .move (.tmp 1), none, [], false, false⟩,
                ⟨(some 44), .move (.tmp 8), none, [], false, false⟩,
                ⟨(some 45), .bin .sub (.tmp 44) (.const (.int .i64 1)), none, [], false, false⟩,
                ⟨(some 46), .move (.tmp 1), none, [], false, false⟩,
                ⟨(some 47), .len false (.tmp 46), none, [], false, false⟩,
                ⟨(some 48), .call 99 [(.tmp 45), (.tmp 47)], none, [], false, true⟩,
                ⟨(some 49), .indexAddr none 1 (.tmp 43) (.tmp 48), none, [], false, false⟩,
                ⟨(some 50), .load false 1 (.tmp 49), none, [], false, false⟩,
                ⟨(some 51), .indexAddr none 3 (.tmp 42) (.tmp 50), none, [], false, false⟩,
                ⟨(some 52), .fieldAddr 1 (.tmp 51), none, [], false, false⟩,
                ⟨(some 53), .load false 1 (.tmp 52), none, [], false, false⟩,
                ⟨(some 54), .bin .neq (.tmp 41) (.tmp 53), none, [], false, false⟩])
             (.cond (.tmp 54) (.seq (.region false [⟨(some 4), .move (.const (.int .i64 0)), none, [], false, false⟩,
                  ⟨(some 5), .move (.const (.int .i64 25)), none, [], false, false⟩])
               (.ret))
              (.skip)))
            (.region false [⟨(some 55), .move (.tmp 7), none, [], false, false⟩,
               ⟨(some 56), .move (.tmp 0), none, [], false, false⟩,
               ⟨(some 57), .move (.tmp 1), none, [], false, false⟩,
               ⟨(some 58), .move (.tmp 8), none, [], false, false⟩,
               ⟨(some 59), .indexAddr none 1 (.tmp 57) (.tmp 58), none, [], false, false⟩,
               ⟨(some 60), .load false 1 (.tmp 59), none, [], false, false⟩,
               ⟨(some 61), .indexAddr none 3 (.tmp 56) (.tmp 60), none, [], false, false⟩,
               ⟨(some 62), .fieldAddr 2 (.tmp 61), none, [], false, false⟩,
               ⟨(some 63), .load false 1 (.tmp 62), none, [], false, false⟩,
               ⟨(some 64), .bin .add (.tmp 55) (.tmp 63), none, [], false, false⟩,
               ⟨(some 7), .move (.tmp 64), none, [], false, false⟩])))
          (.region false [⟨(some 32), .move (.tmp 8), none, [], false, false⟩,
             ⟨(some 33), .bin .add (.tmp 32) (.const (.int .i64 1)), none, [], false, false⟩,
             ⟨(some 8), .move (.tmp 33), none, [], false, false⟩]))))))
     (.seq (.seq (.region false [⟨(some 65), .move (.tmp 7), none, [], false, false⟩,
          ⟨(some 66), .bin .geq (.tmp 65) (.const (.int .i64 0)), none, [], false, false⟩])
       (.cond (.tmp 66) (.seq (.region false [⟨(some 4), .move (.const (.int .i64 0)), none, [], false, false⟩,
            ⟨(some 5), .move (.const (.int .i64 22)), none, [], false, false⟩])
         (.ret))
        (.skip)))
      (.seq (.region false [⟨(some 67), .move (.tmp 7), none, [], false, false⟩,
          ⟨(some 4), .move (.tmp 67), none, [], false, false⟩,
          ⟨(some 5), .move (.const (.int .i64 0)), none, [], false, false⟩])
       (.ret))))))),
 [.tmp 4, .tmp 5], .pure, 68⟩

/-- agraffe/number.CheckCircle -/
def ef40 : EFun := ⟨
 .seq (.region false [⟨(some 6), .move (.const (.int .i64 0)), none, [], false, false⟩,
    ⟨(some 7), .move (.const (.int .i64 0)), none, [], false, false⟩])
 (.seq (.seq (.region false [⟨(some 15), .move (.tmp 0), none, [], false, false⟩,
      ⟨(some 16), .move (.tmp 1), none, [], false, false⟩,
      ⟨(some 17), .call 36 [(.tmp 15), (.tmp 16)], none, [], false, false⟩,
      ⟨(some 8), .move (.tmp 17), none, [], false, false⟩])
   (.seq (.region false [⟨(some 18), .move (.tmp 8), none, [], false, false⟩,
       ⟨(some 19), .bin .neq (.tmp 18) (.const (.int .i64 0)), none, [], false, false⟩])
    (.cond (.tmp 19) (.seq (.region false [⟨(some 20), .move (.tmp 8), none, [], false, false⟩,
         ⟨(some 6), .move (.const (.int .i64 0)), none, [], false, false⟩,
         ⟨(some 7), .move (.tmp 20), none, [], false, false⟩])
      (.ret))
     (.skip))))
  (.seq (.seq (.region false [⟨(some 21), .move (.tmp 2), none, [], false, false⟩,
       ⟨(some 22), .len false (.tmp 21), none, [], false, false⟩,
       ⟨(some 23), .call 77 [(.tmp 22), (.const (.int .i64 1)), (.const (.int .i64 60))], none, [], false, false⟩,
       ⟨(some 24), .un .not (.tmp 23), none, [], false, false⟩])
    (.cond (.tmp 24) (.seq (.region false [⟨(some 6), .move (.const (.int .i64 0)), none, [], false, false⟩,
         ⟨(some 7), .move (.const (.int .i64 10)), none, [], false, false⟩])
      (.ret))
     (.skip)))
   (.seq (.seq (.region false [⟨(some 25), .move (.tmp 2), none, [], false, false⟩,
        ⟨(some 26), .len false (.tmp 25), none, [], false, false⟩,
        ⟨(some 27), .move (.const (.int .i64 0)), none, [], false, false⟩])
     (.block 0 (.loop (some [1, 2, 25, 26, 27]) (
       .seq (.region false [⟨(some 28), .bin .lss (.tmp 27) (.tmp 26), none, [], false, false⟩])
        (.seq (.cond (.tmp 28) (.skip)
          (.exit 0))
         (.seq (.block 1 (.seq (.region false [⟨(some 29), .indexAddr none 1 (.tmp 25) (.tmp 27), none, [], false, false⟩,
               ⟨(some 30), .load false 1 (.tmp 29), none, [], false, false⟩,
               ⟨(some 10), .move (.tmp 30), none, [], false, false⟩])
            (.seq (.region false [⟨(some 31), .move (.tmp 10), none, [], false, false⟩,
                ⟨(some 32), .move (.tmp 1), none, [], false, false⟩,
                ⟨(some 33), .len false (.tmp 32), none, [], false, false⟩,
                ⟨(some 34), .bin .sub (.tmp 33) (.const (.int .i64 1)), none, [], false, false⟩,
                ⟨(some 35), .call 77 [(.tmp 31), (.const (.int .i64 0)), (.tmp 34)], none, [], false, false⟩,
                ⟨(some 36), .un .not (.tmp 35), none, [], false, false⟩])
             (.cond (.tmp 36) (.seq (.region false [⟨(some 6), .move (.const (.int .i64 0)), none, [], false, false⟩,
                  ⟨(some 7), .move (.const (.int .i64 6)), none, [], false, false⟩])
               (.ret))
              (.skip)))))
          (.region false [⟨(some 37), .bin .add (.tmp 27) (.const (.int .i64 1)), none, [], false, false⟩,
             ⟨(some 27), .move (.tmp 37), none, [], false, false⟩])))))))
    (.seq (.region true [⟨(some 38), .move (.tmp 2), none, [], false, false⟩,
        ⟨(some 39), .move (.tmp 2), none, [], false, false⟩,
        ⟨(some 40), .len false (.tmp 39), none, [], false, false⟩,
        ⟨(some 41), .bin .sub (.tmp 40) (.const (.int .i64 1)), none, [], false, false⟩,
        ⟨(some 42), .indexAddr none 1 (.tmp 38) (.tmp 41), none, [], false, false⟩,
        ⟨(some 43), .load false 1 (.tmp 42), none, [], false, false⟩,
        ⟨(some 11), .move (.const (.int .i64 0)), none, [], false, false⟩,
        ⟨(some 12), .move (.tmp 43), none, [], false, false⟩])
     (.seq (.seq (.region false [⟨(some 44), .move (.tmp 2), none, [], false, false⟩,
          ⟨(some 45), .len false (.tmp 44), none, [], false, false⟩,
          ⟨(some 46), .move (.const (.int .i64 0)), none, [], false, false⟩])
       (.block 2 (.loop (some [1, 11, 12, 44, 45, 46]) (
         .seq (.region false [⟨(some 47), .bin .lss (.tmp 46) (.tmp 45), none, [], false, false⟩])
          (.seq (.cond (.tmp 47) (.skip)
            (.exit 2))
           (.seq (.block 3 (.seq (.region false [⟨(some 48), .indexAddr none 1 (.tmp 44) (.tmp 46), none, [], false, false⟩,
                 ⟨(some 49), .load false 1 (.tmp 48), none, [], false, false⟩,
                 ⟨(some 14), .move (.tmp 49), none, [], false, false⟩])
              (.seq (.seq (.region true [⟨(some 50), .move (.tmp 1), none, [], false, false⟩,
                   ⟨(some 51), .move (.tmp 14), none, [], false, false⟩,
                   ⟨(some 52), .indexAddr none 3 (.tmp 50) (.tmp 51), none, [], false, false⟩,
                   ⟨(some 53), .fieldAddr 0 (.tmp 52), none, [], false, false⟩,
                   ⟨(some 54), .load false 1 (.tmp 53), none, [], false, false⟩,
                   ⟨(some 55), .move (.tmp 1), none, [], false, false⟩,
                   ⟨(some 56), .move (.tmp 12), none, [], false, false⟩,
                   ⟨(some 57), .indexAddr none 3 (.tmp 55) (.tmp 56), none, [], false, false⟩,
                   ⟨(some 58), .fieldAddr 1 (.tmp 57), none, [], false, false⟩,
                   ⟨(some 59), .load false 1 (.tmp 58), none, [], false, false⟩,
                   ⟨(some 60), .bin .neq (.tmp 54) (.tmp 59), none, [], false, false⟩])
                (.cond (.tmp 60) (.seq (.region false [⟨(some 6), .move (.const (.int .i64 0)), none, [], false, false⟩,
                     ⟨(some 7), .move (.const (.int .i64 25)), none, [], false, false⟩])
                  (.ret))
                 (.skip)))
               (.region false [⟨(some 61), .move (.tmp 11), none, [], false, false⟩,
                  ⟨(some 62), .move (.tmp 1), none, [], false, false⟩,
                  ⟨(some 63), .move (.tmp 14), none, [], false, false⟩,
                  ⟨(some 64), .indexAddr none 3 (.tmp 62) (.tmp 63), none, [], false, false⟩,
                  ⟨(some 65), .fieldAddr 2 (.tmp 64), none, [], false, false⟩,
                  ⟨(some 66), .load false 1 (.tmp 65), none, [], false, false⟩,
                  ⟨(some 67), .bin .add (.tmp 61) (.tmp 66), none, [], false, false⟩,
                  ⟨(some 68), .move (.tmp 14), none, [], false, false⟩,
                  ⟨(some 11), .move (.tmp 67), none, [], false, false⟩,
                  ⟨(some 12), .move (.tmp 68), none, [], false, false⟩]))))
            (.region false [⟨(some 69), .bin .add (.tmp 46) (.const (.int .i64 1)), none, [], false, false⟩,
               ⟨(some 46), .move (.tmp 69), none, [], false, false⟩])))))))
      (.seq (.seq (.region false [⟨(some 70), .move (.tmp 11), none, [], false, false⟩,
           ⟨(some 71), .bin .geq (.tmp 70) (.const (.int .i64 0)), none, [], false, false⟩])
        (.cond (.tmp 71) (.seq (.region false [⟨(some 6), .move (.const (.int .i64 0)), none, [], false, false⟩,
             ⟨(some 7), .move (.const (.int .i64 22)), none, [], false, false⟩])
          (.ret))
         (.skip)))
       (.seq (.region false [⟨(some 72), .move (.tmp 11), none, [], false, false⟩,
           ⟨(some 6), .move (.tmp 72), none, [], false, false⟩,
           ⟨(some 7), .move (.const (.int .i64 0)), none, [], false, false⟩])
        (.ret)))))))),
 [.tmp 6, .tmp 7], .pure, 73⟩

/-- agraffe/agraffebase.CopyInts -/
def ef41 : EFun := ⟨
 .seq (.region false [⟨(some 2), .move (.const (.slice none 0 0)), none, [], false, false⟩])
 (.seq (.region false [⟨(some 3), .buildSlice 1 0 [] [], none, [], false, false⟩,
     ⟨(some 4), .move (.tmp 0), none, [], false, false⟩,
     ⟨(some 5), .append 1 8 (.tmp 3) (.tmp 4), none, [], false, false⟩,
     ⟨(some 2), .move (.tmp 5), none, [], false, false⟩])
  (.ret)),
 [.tmp 2], .pure, 6⟩

/-- agraffe/number.CheckPitch -/
def ef51 : EFun := ⟨
 .seq (.region false [⟨(some 1), .box (.tmp 0), none, [], false, false⟩,
    ⟨(some 2), .move (.const (.int .i64 0)), none, [], false, false⟩])
 (.seq (.seq (.region false [⟨(some 5), .load true 4 (.tmp 1), none, [], false, false⟩,
      ⟨(some 6), .call 80 [(.tmp 5)], none, [], false, false⟩,
      ⟨(some 7), .move (.const (.int .i64 0)), none, [], false, false⟩])
   (.block 0 (.loop (some [1, 6, 7]) (
     .seq (.region false [⟨(some 8), .bin .lss (.tmp 7) (.const (.int .i64 3)), none, [], false, false⟩])
      (.seq (.cond (.tmp 8) (.skip)
        (.exit 0))
       (.seq (.block 1 (.seq (.region false [⟨(some 9), .index 3 1 false (.tmp 6) (.tmp 7), none, [], false, false⟩,
             ⟨(some 4), .move (.tmp 9), none, [], false, false⟩])
          (.seq (.region false [⟨(some 10), .move (.tmp 4), none, [], false, false⟩,
              ⟨(some 11), .call 77 [(.tmp 10), (.const (.int .i64 (-400))), (.const (.int .i64 400))], none, [], false, false⟩,
              ⟨(some 12), .un .not (.tmp 11), none, [], false, false⟩])
           (.cond (.tmp 12) (.seq (.region false [⟨(some 2), .move (.const (.int .i64 2)), none, [], false, false⟩])
             (.ret))
            (.skip)))))
        (.region false [⟨(some 13), .bin .add (.tmp 7) (.const (.int .i64 1)), none, [], false, false⟩,
           ⟨(some 7), .move (.tmp 13), none, [], false, false⟩])))))))
  (.seq (.seq (.region false [⟨(some 14), .fieldAddr 3 (.tmp 1), none, [], false, false⟩,
       ⟨(some 15), .load false 1 (.tmp 14), none, [], false, false⟩,
       ⟨(some 16), .call 77 [(.tmp 15), (.const (.int .i64 1)), (.const (.int .i64 12))], none, [], false, false⟩,
       ⟨(some 17), .un .not (.tmp 16), none, [], false, false⟩])
    (.cond (.tmp 17) (.seq (.region false [⟨(some 2), .move (.const (.int .i64 2)), none, [], false, false⟩])
      (.ret))
     (.skip)))
   (.seq (.region false [⟨(some 2), .move (.const (.int .i64 0)), none, [], false, false⟩])
    (.ret)))),
 [.tmp 2], .pure, 18⟩

end Go.Abs.N
