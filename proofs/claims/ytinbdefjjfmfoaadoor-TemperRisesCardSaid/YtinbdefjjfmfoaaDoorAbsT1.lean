/- The functions, compiled for the abstract evaluator. Written by wip/abs/Print.lean. -/
import Derived.Test.YtinbdefjjfmfoaaDoorAbsT0
set_option linter.unusedSimpArgs false
set_option linter.unusedVariables false
set_option maxRecDepth 100000
set_option maxHeartbeats 0
namespace Go.Abs.T
open Go Go.Abs
/-- agraffe/agraffelaw06.TemperNotes -/
def ef3 : EFun := ⟨
 .seq (.region false [⟨(some 3), .box (.tmp 0), none, [], false, false⟩,
    ⟨(some 6), .move (.const (.bool false)), none, [], false, false⟩])
 (.seq (.seq (.region false [⟨(some 12), .call 19 [], none, [], false, false⟩,
      ⟨(some 13), .un .not (.tmp 12), none, [], false, false⟩])
   (.cond (.tmp 13) (.seq (.region false [⟨(some 6), .move (.const (.bool false)), none, [], false, false⟩])
     (.ret))
    (.skip)))
  (.seq (.seq (.region false [⟨(some 14), .load true 25 (.tmp 3), none, [], false, false⟩,
       ⟨(some 15), .call 20 [(.tmp 14)], none, [], false, false⟩,
       ⟨(some 16), .un .not (.tmp 15), none, [], false, false⟩])
    (.cond (.tmp 16) (.seq (.region false [⟨(some 6), .move (.const (.bool true)), none, [], false, false⟩])
      (.ret))
     (.skip)))
   (.seq (.region false [⟨(some 18), .load true 25 (.tmp 3), none, [], false, false⟩,
       ⟨(some 19), .move (.tmp 1), none, [], false, false⟩,
       ⟨(some 20), .call 21 [(.tmp 18), (.tmp 19)], none, [], false, false⟩,
       ⟨(some 17), .move (.tmp 20), none, [], false, false⟩,
       ⟨(some 21), .extract (.tmp 17) 0, none, [], false, false⟩,
       ⟨(some 22), .extract (.tmp 17) 1, none, [], false, false⟩,
       ⟨(some 7), .push [(.int .i64 0), (.int .i64 0), (.int .i64 0), (.int .i64 0)], none, [], false, false⟩,
       ⟨none, .store 4 (.tmp 7) (.tmp 21), none, [], false, false⟩,
       ⟨(some 8), .move (.tmp 22), none, [], false, false⟩])
    (.seq (.region false [⟨(some 24), .load true 25 (.tmp 3), none, [], false, false⟩,
        ⟨(some 25), .move (.tmp 1), none, [], false, false⟩,
        ⟨(some 26), .move (.tmp 2), none, [], false, false⟩,
        ⟨(some 27), .call 22 [(.tmp 24), (.tmp 25), (.tmp 26)], none, [], false, false⟩,
        ⟨(some 23), .move (.tmp 27), none, [], false, false⟩,
        ⟨(some 28), .extract (.tmp 23) 0, none, [], false, false⟩,
        ⟨(some 29), .extract (.tmp 23) 1, none, [], false, false⟩,
        ⟨(some 9), .push [(.int .i64 0), (.int .i64 0), (.int .i64 0), (.int .i64 0)], none, [], false, false⟩,
        ⟨none, .store 4 (.tmp 9) (.tmp 28), none, [], false, false⟩,
        ⟨(some 10), .move (.tmp 29), none, [], false, false⟩])
     (.seq (.seq (.region false [⟨(some 30), .load true 25 (.tmp 3), none, [], false, false⟩,
          ⟨(some 31), .call 23 [(.tmp 30)], none, [], false, false⟩,
          ⟨(some 11), .move (.tmp 31), none, [], false, false⟩])
       (.seq (.region false [⟨(some 32), .move (.tmp 11), none, [], false, false⟩,
           ⟨(some 33), .bin .neq (.tmp 32) (.const (.int .i64 0)), none, [], false, false⟩])
        (.cond (.tmp 33) (.seq (.region false [⟨(some 34), .move (.tmp 8), none, [], false, false⟩,
             ⟨(some 35), .move (.tmp 11), none, [], false, false⟩,
             ⟨(some 36), .bin .eql (.tmp 34) (.tmp 35), none, [], false, false⟩,
             ⟨(some 37), .move (.tmp 36), none, [], false, false⟩,
             ⟨(some 38), .move (.tmp 10), (some (37, true)), [], false, false⟩,
             ⟨(some 39), .move (.tmp 11), (some (37, true)), [], false, false⟩,
             ⟨(some 40), .bin .eql (.tmp 38) (.tmp 39), (some (37, true)), [], false, false⟩,
             ⟨(some 41), .pick (.tmp 37) (.tmp 40) (.const (.bool false)), none, [], false, false⟩,
             ⟨(some 42), .move (.tmp 41), none, [], false, false⟩,
             ⟨(some 43), .load true 4 (.tmp 7), (some (42, true)), [], false, false⟩,
             ⟨(some 44), .build [(.int .i64 0), (.int .i64 0), (.int .i64 0), (.int .i64 0)] [], (some (42, true)), [], false, false⟩,
             ⟨(some 45), .eqAgg false [(.int .i64), (.int .i64), (.int .i64), (.int .i64)] (.tmp 43) (.tmp 44), (some (42, true)), [], false, false⟩,
             ⟨(some 46), .pick (.tmp 42) (.tmp 45) (.const (.bool false)), none, [], false, false⟩,
             ⟨(some 47), .move (.tmp 46), none, [], false, false⟩,
             ⟨(some 48), .load true 4 (.tmp 9), (some (47, true)), [], false, false⟩,
             ⟨(some 49), .build [(.int .i64 0), (.int .i64 0), (.int .i64 0), (.int .i64 0)] [], (some (47, true)), [], false, false⟩,
             ⟨(some 50), .eqAgg false [(.int .i64), (.int .i64), (.int .i64), (.int .i64)] (.tmp 48) (.tmp 49), (some (47, true)), [], false, false⟩,
             ⟨(some 51), .pick (.tmp 47) (.tmp 50) (.const (.bool false)), none, [], false, false⟩,
             ⟨(some 6), .move (.tmp 51), none, [], false, false⟩])
          (.ret))
         (.skip))))
      (.seq (.seq (.region true [⟨(some 52), .move (.tmp 1), none, [], false, false⟩,
           ⟨(some 53), .call 24 [(.tmp 52)], none, [], false, false⟩,
           ⟨(some 54), .move (.tmp 53), none, [], false, false⟩,
           ⟨(some 55), .move (.tmp 8), (some (54, true)), [], false, false⟩,
           ⟨(some 56), .bin .neq (.tmp 55) (.const (.int .i64 0)), (some (54, true)), [], false, false⟩,
           ⟨(some 57), .move (.tmp 56), (some (54, true)), [], false, false⟩,
           ⟨(some 58), .load true 4 (.tmp 7), (some (57, false)), [], false, false⟩,
           ⟨(some 59), .load true 25 (.tmp 3), (some (57, false)), [], false, false⟩,
           ⟨(some 60), .move (.tmp 1), (some (57, false)), [], false, false⟩,
           ⟨(some 61), .call 25 [(.tmp 59), (.tmp 60)], (some (57, false)), [], false, true⟩,
           ⟨(some 62), .call 26 [(.tmp 61)], (some (57, false)), [], false, true⟩,
           ⟨(some 63), .eqAgg true [(.int .i64), (.int .i64), (.int .i64), (.int .i64)] (.tmp 58) (.tmp 62), (some (57, false)), [], false, false⟩,
           ⟨(some 64), .pick (.tmp 57) (.const (.bool true)) (.tmp 63), (some (54, true)), [], false, false⟩,
           ⟨(some 65), .pick (.tmp 54) (.tmp 64) (.const (.bool false)), none, [], false, false⟩,
           ⟨(some 66), .move (.tmp 65), none, [], false, false⟩,
           ⟨(some 67), .move (.tmp 1), (some (66, false)), [], false, false⟩,
           ⟨(some 68), .call 24 [(.tmp 67)], (some (66, false)), [], false, false⟩,
           ⟨(some 69), .un .not (.tmp 68), (some (66, false)), [], false, false⟩,
           ⟨(some 70), .move (.tmp 69), (some (66, false)), [], false, false⟩,
           ⟨(some 71), .move (.tmp 8), (some (70, true)), [], false, false⟩,
           ⟨(some 72), .bin .neq (.tmp 71) (.const (.int .i64 2)), (some (70, true)), [], false, false⟩,
           ⟨(some 73), .move (.tmp 72), (some (70, true)), [], false, false⟩,
           ⟨(some 74), .load true 4 (.tmp 7), (some (73, false)), [], false, false⟩,
           ⟨(some 75), .build [(.int .i64 0), (.int .i64 0), (.int .i64 0), (.int .i64 0)] [], (some (73, false)), [], false, false⟩,
           ⟨(some 76), .eqAgg true [(.int .i64), (.int .i64), (.int .i64), (.int .i64)] (.tmp 74) (.tmp 75), (some (73, false)), [], false, false⟩,
           ⟨(some 77), .pick (.tmp 73) (.const (.bool true)) (.tmp 76), (some (70, true)), [], false, false⟩,
           ⟨(some 78), .pick (.tmp 70) (.tmp 77) (.const (.bool false)), (some (66, false)), [], false, false⟩,
           ⟨(some 79), .pick (.tmp 66) (.const (.bool true)) (.tmp 78), none, [], false, false⟩])
        (.cond (.tmp 79) (.seq (.region false [⟨(some 6), .move (.const (.bool false)), none, [], false, false⟩])
          (.ret))
         (.skip)))
       (.seq (.seq (.region false [⟨(some 80), .move (.tmp 1), none, [], false, false⟩,
            ⟨(some 81), .call 24 [(.tmp 80)], none, [], false, false⟩,
            ⟨(some 82), .un .not (.tmp 81), none, [], false, false⟩,
            ⟨(some 83), .move (.tmp 82), none, [], false, false⟩,
            ⟨(some 84), .move (.tmp 2), (some (83, false)), [], false, false⟩,
            ⟨(some 85), .call 24 [(.tmp 84)], (some (83, false)), [], false, false⟩,
            ⟨(some 86), .un .not (.tmp 85), (some (83, false)), [], false, false⟩,
            ⟨(some 87), .pick (.tmp 83) (.const (.bool true)) (.tmp 86), none, [], false, false⟩])
         (.cond (.tmp 87) (.seq (.region false [⟨(some 88), .move (.tmp 10), none, [], false, false⟩,
              ⟨(some 89), .bin .eql (.tmp 88) (.const (.int .i64 2)), none, [], false, false⟩,
              ⟨(some 90), .move (.tmp 89), none, [], false, false⟩,
              ⟨(some 91), .load true 4 (.tmp 9), (some (90, true)), [], false, false⟩,
              ⟨(some 92), .build [(.int .i64 0), (.int .i64 0), (.int .i64 0), (.int .i64 0)] [], (some (90, true)), [], false, false⟩,
              ⟨(some 93), .eqAgg false [(.int .i64), (.int .i64), (.int .i64), (.int .i64)] (.tmp 91) (.tmp 92), (some (90, true)), [], false, false⟩,
              ⟨(some 94), .pick (.tmp 90) (.tmp 93) (.const (.bool false)), none, [], false, false⟩,
              ⟨(some 6), .move (.tmp 94), none, [], false, false⟩])
           (.ret))
          (.skip)))
        (.seq (.region true [⟨(some 95), .move (.tmp 10), none, [], false, false⟩,
            ⟨(some 96), .bin .eql (.tmp 95) (.const (.int .i64 0)), none, [], false, false⟩,
            ⟨(some 97), .move (.tmp 96), none, [], false, false⟩,
            ⟨(some 98), .load true 4 (.tmp 9), (some (97, true)), [], false, false⟩,
            ⟨(some 99), .load true 25 (.tmp 3), (some (97, true)), [], false, false⟩,
            ⟨(some 100), .move (.tmp 1), (some (97, true)), [], false, false⟩,
            ⟨(some 101), .move (.tmp 2), (some (97, true)), [], false, false⟩,
            ⟨(some 102), .call 27 [(.tmp 99), (.tmp 100), (.tmp 101)], (some (97, true)), [], false, true⟩,
            ⟨(some 103), .call 26 [(.tmp 102)], (some (97, true)), [], false, true⟩,
            ⟨(some 104), .eqAgg false [(.int .i64), (.int .i64), (.int .i64), (.int .i64)] (.tmp 98) (.tmp 103), (some (97, true)), [], false, false⟩,
            ⟨(some 105), .pick (.tmp 97) (.tmp 104) (.const (.bool false)), none, [], false, false⟩,
            ⟨(some 6), .move (.tmp 105), none, [], false, false⟩])
         (.ret))))))))),
 [.tmp 6], .pure, 106⟩

/-- agraffe/agraffelaw06.TemperBeats -/
def ef4 : EFun := ⟨
 .seq (.region false [⟨(some 3), .box (.tmp 0), none, [], false, false⟩,
    ⟨(some 5), .box (.tmp 2), none, [], false, false⟩,
    ⟨(some 6), .move (.const (.bool false)), none, [], false, false⟩])
 (.seq (.seq (.region false [⟨(some 10), .call 19 [], none, [], false, false⟩,
      ⟨(some 11), .un .not (.tmp 10), none, [], false, false⟩])
   (.cond (.tmp 11) (.seq (.region false [⟨(some 6), .move (.const (.bool false)), none, [], false, false⟩])
     (.ret))
    (.skip)))
  (.seq (.seq (.region false [⟨(some 12), .load true 25 (.tmp 3), none, [], false, false⟩,
       ⟨(some 13), .call 20 [(.tmp 12)], none, [], false, false⟩,
       ⟨(some 14), .un .not (.tmp 13), none, [], false, false⟩])
    (.cond (.tmp 14) (.seq (.region false [⟨(some 6), .move (.const (.bool true)), none, [], false, false⟩])
      (.ret))
     (.skip)))
   (.seq (.region false [⟨(some 16), .load true 25 (.tmp 3), none, [], false, false⟩,
       ⟨(some 17), .move (.tmp 1), none, [], false, false⟩,
       ⟨(some 18), .load true 4 (.tmp 5), none, [], false, false⟩,
       ⟨(some 19), .call 28 [(.tmp 16), (.tmp 17), (.tmp 18)], none, [], false, false⟩,
       ⟨(some 15), .move (.tmp 19), none, [], false, false⟩,
       ⟨(some 20), .extract (.tmp 15) 0, none, [], false, false⟩,
       ⟨(some 21), .extract (.tmp 15) 1, none, [], false, false⟩,
       ⟨(some 7), .push [(.int .i64 0), (.int .i64 0)], none, [], false, false⟩,
       ⟨none, .store 2 (.tmp 7) (.tmp 20), none, [], false, false⟩,
       ⟨(some 8), .move (.tmp 21), none, [], false, false⟩])
    (.seq (.seq (.region false [⟨(some 22), .load true 25 (.tmp 3), none, [], false, false⟩,
         ⟨(some 23), .move (.tmp 1), none, [], false, false⟩,
         ⟨(some 24), .load true 4 (.tmp 5), none, [], false, false⟩,
         ⟨(some 25), .call 29 [(.tmp 22), (.tmp 23), (.tmp 24)], none, [], false, false⟩,
         ⟨(some 9), .move (.tmp 25), none, [], false, false⟩])
      (.seq (.region false [⟨(some 26), .move (.tmp 9), none, [], false, false⟩,
          ⟨(some 27), .bin .neq (.tmp 26) (.const (.int .i64 0)), none, [], false, false⟩])
       (.cond (.tmp 27) (.seq (.region false [⟨(some 28), .move (.tmp 8), none, [], false, false⟩,
            ⟨(some 29), .move (.tmp 9), none, [], false, false⟩,
            ⟨(some 30), .bin .eql (.tmp 28) (.tmp 29), none, [], false, false⟩,
            ⟨(some 31), .move (.tmp 30), none, [], false, false⟩,
            ⟨(some 32), .load true 2 (.tmp 7), (some (31, true)), [], false, false⟩,
            ⟨(some 33), .build [(.int .i64 0), (.int .i64 0)] [], (some (31, true)), [], false, false⟩,
            ⟨(some 34), .eqAgg false [(.int .i64), (.int .i64)] (.tmp 32) (.tmp 33), (some (31, true)), [], false, false⟩,
            ⟨(some 35), .pick (.tmp 31) (.tmp 34) (.const (.bool false)), none, [], false, false⟩,
            ⟨(some 6), .move (.tmp 35), none, [], false, false⟩])
         (.ret))
        (.skip))))
     (.seq (.region true [⟨(some 36), .move (.tmp 8), none, [], false, false⟩,
         ⟨(some 37), .bin .eql (.tmp 36) (.const (.int .i64 0)), none, [], false, false⟩,
         ⟨(some 38), .move (.tmp 37), none, [], false, false⟩,
         ⟨(some 39), .load true 2 (.tmp 7), (some (38, true)), [], false, false⟩,
         ⟨(some 40), .load true 25 (.tmp 3), (some (38, true)), [], false, false⟩,
         ⟨(some 41), .move (.tmp 1), (some (38, true)), [], false, false⟩,
         ⟨(some 42), .load true 4 (.tmp 5), (some (38, true)), [], false, false⟩,
         ⟨(some 43), .call 30 [(.tmp 40), (.tmp 41), (.tmp 42)], (some (38, true)), [], false, true⟩,
         ⟨(some 44), .eqAgg false [(.int .i64), (.int .i64)] (.tmp 39) (.tmp 43), (some (38, true)), [], false, false⟩,
         ⟨(some 45), .pick (.tmp 38) (.tmp 44) (.const (.bool false)), none, [], false, false⟩,
         ⟨(some 6), .move (.tmp 45), none, [], false, false⟩])
      (.ret)))))),
 [.tmp 6], .pure, 46⟩

/-- agraffe/agraffelaw06.TemperFrequencies -/
def ef5 : EFun := ⟨
 .seq (.region false [⟨(some 3), .box (.tmp 0), none, [], false, false⟩,
    ⟨(some 6), .move (.const (.bool false)), none, [], false, false⟩])
 (.seq (.seq (.region false [⟨(some 12), .call 19 [], none, [], false, false⟩,
      ⟨(some 13), .un .not (.tmp 12), none, [], false, false⟩])
   (.cond (.tmp 13) (.seq (.region false [⟨(some 6), .move (.const (.bool false)), none, [], false, false⟩])
     (.ret))
    (.skip)))
  (.seq (.seq (.region false [⟨(some 14), .load true 25 (.tmp 3), none, [], false, false⟩,
       ⟨(some 15), .call 20 [(.tmp 14)], none, [], false, false⟩,
       ⟨(some 16), .un .not (.tmp 15), none, [], false, false⟩])
    (.cond (.tmp 16) (.seq (.region false [⟨(some 6), .move (.const (.bool true)), none, [], false, false⟩])
      (.ret))
     (.skip)))
   (.seq (.region false [⟨(some 18), .load true 25 (.tmp 3), none, [], false, false⟩,
       ⟨(some 19), .move (.tmp 1), none, [], false, false⟩,
       ⟨(some 20), .move (.tmp 2), none, [], false, false⟩,
       ⟨(some 21), .call 31 [(.tmp 18), (.tmp 19), (.tmp 20)], none, [], false, false⟩,
       ⟨(some 17), .move (.tmp 21), none, [], false, false⟩,
       ⟨(some 22), .extract (.tmp 17) 0, none, [], false, false⟩,
       ⟨(some 23), .extract (.tmp 17) 1, none, [], false, false⟩,
       ⟨(some 7), .push [(.int .i64 0), (.int .i64 0)], none, [], false, false⟩,
       ⟨none, .store 2 (.tmp 7) (.tmp 22), none, [], false, false⟩,
       ⟨(some 8), .move (.tmp 23), none, [], false, false⟩])
    (.seq (.region false [⟨(some 25), .load true 25 (.tmp 3), none, [], false, false⟩,
        ⟨(some 26), .move (.tmp 1), none, [], false, false⟩,
        ⟨(some 27), .call 32 [(.tmp 25), (.tmp 26)], none, [], false, false⟩,
        ⟨(some 24), .move (.tmp 27), none, [], false, false⟩,
        ⟨(some 28), .extract (.tmp 24) 0, none, [], false, false⟩,
        ⟨(some 29), .extract (.tmp 24) 1, none, [], false, false⟩,
        ⟨(some 9), .move (.tmp 28), none, [], false, false⟩,
        ⟨(some 10), .move (.tmp 29), none, [], false, false⟩])
     (.seq (.region false [⟨(some 30), .load true 25 (.tmp 3), none, [], false, false⟩,
         ⟨(some 31), .call 23 [(.tmp 30)], none, [], false, false⟩,
         ⟨(some 11), .move (.tmp 31), none, [], false, false⟩])
      (.seq (.seq (.region false [⟨(some 32), .move (.tmp 11), none, [], false, false⟩,
           ⟨(some 33), .bin .eql (.tmp 32) (.const (.int .i64 0)), none, [], false, false⟩,
           ⟨(some 34), .move (.tmp 33), none, [], false, false⟩,
           ⟨(some 35), .move (.tmp 1), (some (34, true)), [], false, false⟩,
           ⟨(some 36), .call 33 [(.tmp 35)], (some (34, true)), [], false, false⟩,
           ⟨(some 37), .un .not (.tmp 36), (some (34, true)), [], false, false⟩,
           ⟨(some 38), .pick (.tmp 34) (.tmp 37) (.const (.bool false)), none, [], false, false⟩])
        (.cond (.tmp 38) (.region false [⟨(some 11), .move (.const (.int .i64 2)), none, [], false, false⟩])
         (.skip)))
       (.seq (.seq (.region false [⟨(some 39), .move (.tmp 11), none, [], false, false⟩,
            ⟨(some 40), .bin .neq (.tmp 39) (.const (.int .i64 0)), none, [], false, false⟩])
         (.cond (.tmp 40) (.seq (.region false [⟨(some 41), .move (.tmp 8), none, [], false, false⟩,
              ⟨(some 42), .move (.tmp 11), none, [], false, false⟩,
              ⟨(some 43), .bin .eql (.tmp 41) (.tmp 42), none, [], false, false⟩,
              ⟨(some 44), .move (.tmp 43), none, [], false, false⟩,
              ⟨(some 45), .move (.tmp 10), (some (44, true)), [], false, false⟩,
              ⟨(some 46), .move (.tmp 11), (some (44, true)), [], false, false⟩,
              ⟨(some 47), .bin .eql (.tmp 45) (.tmp 46), (some (44, true)), [], false, false⟩,
              ⟨(some 48), .pick (.tmp 44) (.tmp 47) (.const (.bool false)), none, [], false, false⟩,
              ⟨(some 49), .move (.tmp 48), none, [], false, false⟩,
              ⟨(some 50), .load true 2 (.tmp 7), (some (49, true)), [], false, false⟩,
              ⟨(some 51), .build [(.int .i64 0), (.int .i64 0)] [], (some (49, true)), [], false, false⟩,
              ⟨(some 52), .eqAgg false [(.int .i64), (.int .i64)] (.tmp 50) (.tmp 51), (some (49, true)), [], false, false⟩,
              ⟨(some 53), .pick (.tmp 49) (.tmp 52) (.const (.bool false)), none, [], false, false⟩,
              ⟨(some 54), .move (.tmp 53), none, [], false, false⟩,
              ⟨(some 55), .move (.tmp 9), (some (54, true)), [], false, false⟩,
              ⟨(some 56), .len false (.tmp 55), (some (54, true)), [], false, false⟩,
              ⟨(some 57), .bin .eql (.tmp 56) (.const (.int .i64 0)), (some (54, true)), [], false, false⟩,
              ⟨(some 58), .pick (.tmp 54) (.tmp 57) (.const (.bool false)), none, [], false, false⟩,
              ⟨(some 6), .move (.tmp 58), none, [], false, false⟩])
           (.ret))
          (.skip)))
        (.seq (.seq (.region false [⟨(some 59), .move (.tmp 10), none, [], false, false⟩,
             ⟨(some 60), .bin .neq (.tmp 59) (.const (.int .i64 0)), none, [], false, false⟩,
             ⟨(some 61), .move (.tmp 60), none, [], false, false⟩,
             ⟨(some 62), .move (.tmp 9), (some (61, false)), [], false, false⟩,
             ⟨(some 63), .len false (.tmp 62), (some (61, false)), [], false, false⟩,
             ⟨(some 64), .bin .neq (.tmp 63) (.const (.int .i64 88)), (some (61, false)), [], false, false⟩,
             ⟨(some 65), .pick (.tmp 61) (.const (.bool true)) (.tmp 64), none, [], false, false⟩])
          (.cond (.tmp 65) (.seq (.region false [⟨(some 6), .move (.const (.bool false)), none, [], false, false⟩])
            (.ret))
           (.skip)))
         (.seq (.seq (.region false [⟨(some 66), .move (.tmp 2), none, [], false, false⟩,
              ⟨(some 67), .call 24 [(.tmp 66)], none, [], false, false⟩,
              ⟨(some 68), .un .not (.tmp 67), none, [], false, false⟩])
           (.cond (.tmp 68) (.seq (.region false [⟨(some 69), .move (.tmp 8), none, [], false, false⟩,
                ⟨(some 70), .bin .eql (.tmp 69) (.const (.int .i64 2)), none, [], false, false⟩,
                ⟨(some 71), .move (.tmp 70), none, [], false, false⟩,
                ⟨(some 72), .load true 2 (.tmp 7), (some (71, true)), [], false, false⟩,
                ⟨(some 73), .build [(.int .i64 0), (.int .i64 0)] [], (some (71, true)), [], false, false⟩,
                ⟨(some 74), .eqAgg false [(.int .i64), (.int .i64)] (.tmp 72) (.tmp 73), (some (71, true)), [], false, false⟩,
                ⟨(some 75), .pick (.tmp 71) (.tmp 74) (.const (.bool false)), none, [], false, false⟩,
                ⟨(some 6), .move (.tmp 75), none, [], false, false⟩])
             (.ret))
            (.skip)))
          (.seq (.region true [⟨(some 76), .move (.tmp 8), none, [], false, false⟩,
              ⟨(some 77), .bin .eql (.tmp 76) (.const (.int .i64 0)), none, [], false, false⟩,
              ⟨(some 78), .move (.tmp 77), none, [], false, false⟩,
              ⟨(some 79), .load true 2 (.tmp 7), (some (78, true)), [], false, false⟩,
              ⟨(some 80), .load true 25 (.tmp 3), (some (78, true)), [], false, false⟩,
              ⟨(some 81), .move (.tmp 1), (some (78, true)), [], false, false⟩,
              ⟨(some 82), .move (.tmp 2), (some (78, true)), [], false, false⟩,
              ⟨(some 83), .call 34 [(.tmp 80), (.tmp 81), (.tmp 82)], (some (78, true)), [], false, true⟩,
              ⟨(some 84), .eqAgg false [(.int .i64), (.int .i64)] (.tmp 79) (.tmp 83), (some (78, true)), [], false, false⟩,
              ⟨(some 85), .pick (.tmp 78) (.tmp 84) (.const (.bool false)), none, [], false, false⟩,
              ⟨(some 86), .move (.tmp 85), none, [], false, false⟩,
              ⟨(some 87), .move (.tmp 9), (some (86, true)), [], false, false⟩,
              ⟨(some 88), .move (.tmp 2), (some (86, true)), [], false, false⟩,
              ⟨(some 89), .indexAddr none 2 (.tmp 87) (.tmp 88), (some (86, true)), [], false, false⟩,
              ⟨(some 90), .load true 2 (.tmp 89), (some (86, true)), [], false, false⟩,
              ⟨(some 91), .load true 2 (.tmp 7), (some (86, true)), [], false, false⟩,
              ⟨(some 92), .eqAgg false [(.int .i64), (.int .i64)] (.tmp 90) (.tmp 91), (some (86, true)), [], false, false⟩,
              ⟨(some 93), .pick (.tmp 86) (.tmp 92) (.const (.bool false)), none, [], false, false⟩,
              ⟨(some 6), .move (.tmp 93), none, [], false, false⟩])
           (.ret))))))))))),
 [.tmp 6], .pure, 94⟩

/-- agraffe/agraffelaw06.TemperPitches -/
def ef7 : EFun := ⟨
 .seq (.region false [⟨(some 3), .box (.tmp 0), none, [], false, false⟩,
    ⟨(some 6), .move (.const (.bool false)), none, [], false, false⟩])
 (.seq (.seq (.region false [⟨(some 14), .call 19 [], none, [], false, false⟩,
      ⟨(some 15), .un .not (.tmp 14), none, [], false, false⟩])
   (.cond (.tmp 15) (.seq (.region false [⟨(some 6), .move (.const (.bool false)), none, [], false, false⟩])
     (.ret))
    (.skip)))
  (.seq (.seq (.region false [⟨(some 16), .load true 25 (.tmp 3), none, [], false, false⟩,
       ⟨(some 17), .call 20 [(.tmp 16)], none, [], false, false⟩,
       ⟨(some 18), .un .not (.tmp 17), none, [], false, false⟩])
    (.cond (.tmp 18) (.seq (.region false [⟨(some 6), .move (.const (.bool true)), none, [], false, false⟩])
      (.ret))
     (.skip)))
   (.seq (.region false [⟨(some 20), .load true 25 (.tmp 3), none, [], false, false⟩,
       ⟨(some 21), .move (.tmp 1), none, [], false, false⟩,
       ⟨(some 22), .call 42 [(.tmp 20), (.tmp 21)], none, [], false, false⟩,
       ⟨(some 19), .move (.tmp 22), none, [], false, false⟩,
       ⟨(some 23), .extract (.tmp 19) 0, none, [], false, false⟩,
       ⟨(some 24), .extract (.tmp 19) 1, none, [], false, false⟩,
       ⟨(some 7), .push [(.int .i64 0), (.int .i64 0), (.int .i64 0), (.int .i64 0)], none, [], false, false⟩,
       ⟨none, .store 4 (.tmp 7) (.tmp 23), none, [], false, false⟩,
       ⟨(some 8), .move (.tmp 24), none, [], false, false⟩])
    (.seq (.region false [⟨(some 26), .load true 25 (.tmp 3), none, [], false, false⟩,
        ⟨(some 27), .move (.tmp 2), none, [], false, false⟩,
        ⟨(some 28), .call 43 [(.tmp 26), (.tmp 27)], none, [], false, false⟩,
        ⟨(some 25), .move (.tmp 28), none, [], false, false⟩,
        ⟨(some 29), .extract (.tmp 25) 0, none, [], false, false⟩,
        ⟨(some 30), .extract (.tmp 25) 1, none, [], false, false⟩,
        ⟨(some 9), .push [(.int .i64 0), (.int .i64 0), (.int .i64 0), (.int .i64 0)], none, [], false, false⟩,
        ⟨none, .store 4 (.tmp 9) (.tmp 29), none, [], false, false⟩,
        ⟨(some 10), .move (.tmp 30), none, [], false, false⟩])
     (.seq (.region false [⟨(some 32), .load true 25 (.tmp 3), none, [], false, false⟩,
         ⟨(some 33), .move (.tmp 2), none, [], false, false⟩,
         ⟨(some 34), .call 44 [(.tmp 32), (.tmp 33)], none, [], false, false⟩,
         ⟨(some 31), .move (.tmp 34), none, [], false, false⟩,
         ⟨(some 35), .extract (.tmp 31) 0, none, [], false, false⟩,
         ⟨(some 36), .extract (.tmp 31) 1, none, [], false, false⟩,
         ⟨(some 11), .push [(.int .i64 0), (.int .i64 0), (.int .i64 0), (.int .i64 0)], none, [], false, false⟩,
         ⟨none, .store 4 (.tmp 11) (.tmp 35), none, [], false, false⟩,
         ⟨(some 12), .move (.tmp 36), none, [], false, false⟩])
      (.seq (.seq (.region false [⟨(some 37), .load true 25 (.tmp 3), none, [], false, false⟩,
           ⟨(some 38), .call 23 [(.tmp 37)], none, [], false, false⟩,
           ⟨(some 13), .move (.tmp 38), none, [], false, false⟩])
        (.seq (.region false [⟨(some 39), .move (.tmp 13), none, [], false, false⟩,
            ⟨(some 40), .bin .neq (.tmp 39) (.const (.int .i64 0)), none, [], false, false⟩])
         (.cond (.tmp 40) (.seq (.region false [⟨(some 41), .move (.tmp 8), none, [], false, false⟩,
              ⟨(some 42), .move (.tmp 13), none, [], false, false⟩,
              ⟨(some 43), .bin .eql (.tmp 41) (.tmp 42), none, [], false, false⟩,
              ⟨(some 44), .move (.tmp 43), none, [], false, false⟩,
              ⟨(some 45), .move (.tmp 10), (some (44, true)), [], false, false⟩,
              ⟨(some 46), .move (.tmp 13), (some (44, true)), [], false, false⟩,
              ⟨(some 47), .bin .eql (.tmp 45) (.tmp 46), (some (44, true)), [], false, false⟩,
              ⟨(some 48), .pick (.tmp 44) (.tmp 47) (.const (.bool false)), none, [], false, false⟩,
              ⟨(some 49), .move (.tmp 48), none, [], false, false⟩,
              ⟨(some 50), .move (.tmp 12), (some (49, true)), [], false, false⟩,
              ⟨(some 51), .move (.tmp 13), (some (49, true)), [], false, false⟩,
              ⟨(some 52), .bin .eql (.tmp 50) (.tmp 51), (some (49, true)), [], false, false⟩,
              ⟨(some 53), .pick (.tmp 49) (.tmp 52) (.const (.bool false)), none, [], false, false⟩,
              ⟨(some 54), .move (.tmp 53), none, [], false, false⟩,
              ⟨(some 55), .load true 4 (.tmp 7), (some (54, true)), [], false, false⟩,
              ⟨(some 56), .build [(.int .i64 0), (.int .i64 0), (.int .i64 0), (.int .i64 0)] [], (some (54, true)), [], false, false⟩,
              ⟨(some 57), .eqAgg false [(.int .i64), (.int .i64), (.int .i64), (.int .i64)] (.tmp 55) (.tmp 56), (some (54, true)), [], false, false⟩,
              ⟨(some 58), .pick (.tmp 54) (.tmp 57) (.const (.bool false)), none, [], false, false⟩,
              ⟨(some 59), .move (.tmp 58), none, [], false, false⟩,
              ⟨(some 60), .load true 4 (.tmp 9), (some (59, true)), [], false, false⟩,
              ⟨(some 61), .build [(.int .i64 0), (.int .i64 0), (.int .i64 0), (.int .i64 0)] [], (some (59, true)), [], false, false⟩,
              ⟨(some 62), .eqAgg false [(.int .i64), (.int .i64), (.int .i64), (.int .i64)] (.tmp 60) (.tmp 61), (some (59, true)), [], false, false⟩,
              ⟨(some 63), .pick (.tmp 59) (.tmp 62) (.const (.bool false)), none, [], false, false⟩,
              ⟨(some 64), .move (.tmp 63), none, [], false, false⟩,
              ⟨(some 65), .load true 4 (.tmp 11), (some (64, true)), [], false, false⟩,
              ⟨(some 66), .build [(.int .i64 0), (.int .i64 0), (.int .i64 0), (.int .i64 0)] [], (some (64, true)), [], false, false⟩,
              ⟨(some 67), .eqAgg false [(.int .i64), (.int .i64), (.int .i64), (.int .i64)] (.tmp 65) (.tmp 66), (some (64, true)), [], false, false⟩,
              ⟨(some 68), .pick (.tmp 64) (.tmp 67) (.const (.bool false)), none, [], false, false⟩,
              ⟨(some 6), .move (.tmp 68), none, [], false, false⟩])
           (.ret))
          (.skip))))
       (.seq (.seq (.region true [⟨(some 69), .move (.tmp 1), none, [], false, false⟩,
            ⟨(some 70), .call 45 [(.tmp 69)], none, [], false, false⟩,
            ⟨(some 71), .move (.tmp 70), none, [], false, false⟩,
            ⟨(some 72), .move (.tmp 8), (some (71, true)), [], false, false⟩,
            ⟨(some 73), .bin .neq (.tmp 72) (.const (.int .i64 0)), (some (71, true)), [], false, false⟩,
            ⟨(some 74), .move (.tmp 73), (some (71, true)), [], false, false⟩,
            ⟨(some 75), .load true 4 (.tmp 7), (some (74, false)), [], false, false⟩,
            ⟨(some 76), .load true 25 (.tmp 3), (some (74, false)), [], false, false⟩,
            ⟨(some 77), .move (.tmp 1), (some (74, false)), [], false, false⟩,
            ⟨(some 78), .call 46 [(.tmp 76), (.tmp 77)], (some (74, false)), [], false, true⟩,
            ⟨(some 79), .call 26 [(.tmp 78)], (some (74, false)), [], false, true⟩,
            ⟨(some 80), .eqAgg true [(.int .i64), (.int .i64), (.int .i64), (.int .i64)] (.tmp 75) (.tmp 79), (some (74, false)), [], false, false⟩,
            ⟨(some 81), .pick (.tmp 74) (.const (.bool true)) (.tmp 80), (some (71, true)), [], false, false⟩,
            ⟨(some 82), .pick (.tmp 71) (.tmp 81) (.const (.bool false)), none, [], false, false⟩,
            ⟨(some 83), .move (.tmp 82), none, [], false, false⟩,
            ⟨(some 84), .move (.tmp 1), (some (83, false)), [], false, false⟩,
            ⟨(some 85), .call 45 [(.tmp 84)], (some (83, false)), [], false, false⟩,
            ⟨(some 86), .un .not (.tmp 85), (some (83, false)), [], false, false⟩,
            ⟨(some 87), .move (.tmp 86), (some (83, false)), [], false, false⟩,
            ⟨(some 88), .move (.tmp 8), (some (87, true)), [], false, false⟩,
            ⟨(some 89), .bin .neq (.tmp 88) (.const (.int .i64 2)), (some (87, true)), [], false, false⟩,
            ⟨(some 90), .move (.tmp 89), (some (87, true)), [], false, false⟩,
            ⟨(some 91), .load true 4 (.tmp 7), (some (90, false)), [], false, false⟩,
            ⟨(some 92), .build [(.int .i64 0), (.int .i64 0), (.int .i64 0), (.int .i64 0)] [], (some (90, false)), [], false, false⟩,
            ⟨(some 93), .eqAgg true [(.int .i64), (.int .i64), (.int .i64), (.int .i64)] (.tmp 91) (.tmp 92), (some (90, false)), [], false, false⟩,
            ⟨(some 94), .pick (.tmp 90) (.const (.bool true)) (.tmp 93), (some (87, true)), [], false, false⟩,
            ⟨(some 95), .pick (.tmp 87) (.tmp 94) (.const (.bool false)), (some (83, false)), [], false, false⟩,
            ⟨(some 96), .pick (.tmp 83) (.const (.bool true)) (.tmp 95), none, [], false, false⟩])
         (.cond (.tmp 96) (.seq (.region false [⟨(some 6), .move (.const (.bool false)), none, [], false, false⟩])
           (.ret))
          (.skip)))
        (.seq (.seq (.region false [⟨(some 97), .move (.tmp 2), none, [], false, false⟩,
             ⟨(some 98), .call 45 [(.tmp 97)], none, [], false, false⟩,
             ⟨(some 99), .un .not (.tmp 98), none, [], false, false⟩])
          (.cond (.tmp 99) (.seq (.region false [⟨(some 100), .move (.tmp 10), none, [], false, false⟩,
               ⟨(some 101), .bin .eql (.tmp 100) (.const (.int .i64 2)), none, [], false, false⟩,
               ⟨(some 102), .move (.tmp 101), none, [], false, false⟩,
               ⟨(some 103), .move (.tmp 12), (some (102, true)), [], false, false⟩,
               ⟨(some 104), .bin .eql (.tmp 103) (.const (.int .i64 2)), (some (102, true)), [], false, false⟩,
               ⟨(some 105), .pick (.tmp 102) (.tmp 104) (.const (.bool false)), none, [], false, false⟩,
               ⟨(some 106), .move (.tmp 105), none, [], false, false⟩,
               ⟨(some 107), .load true 4 (.tmp 9), (some (106, true)), [], false, false⟩,
               ⟨(some 108), .build [(.int .i64 0), (.int .i64 0), (.int .i64 0), (.int .i64 0)] [], (some (106, true)), [], false, false⟩,
               ⟨(some 109), .eqAgg false [(.int .i64), (.int .i64), (.int .i64), (.int .i64)] (.tmp 107) (.tmp 108), (some (106, true)), [], false, false⟩,
               ⟨(some 110), .pick (.tmp 106) (.tmp 109) (.const (.bool false)), none, [], false, false⟩,
               ⟨(some 111), .move (.tmp 110), none, [], false, false⟩,
               ⟨(some 112), .load true 4 (.tmp 11), (some (111, true)), [], false, false⟩,
               ⟨(some 113), .build [(.int .i64 0), (.int .i64 0), (.int .i64 0), (.int .i64 0)] [], (some (111, true)), [], false, false⟩,
               ⟨(some 114), .eqAgg false [(.int .i64), (.int .i64), (.int .i64), (.int .i64)] (.tmp 112) (.tmp 113), (some (111, true)), [], false, false⟩,
               ⟨(some 115), .pick (.tmp 111) (.tmp 114) (.const (.bool false)), none, [], false, false⟩,
               ⟨(some 6), .move (.tmp 115), none, [], false, false⟩])
            (.ret))
           (.skip)))
         (.seq (.region true [⟨(some 116), .move (.tmp 10), none, [], false, false⟩,
             ⟨(some 117), .bin .eql (.tmp 116) (.const (.int .i64 0)), none, [], false, false⟩,
             ⟨(some 118), .move (.tmp 117), none, [], false, false⟩,
             ⟨(some 119), .load true 4 (.tmp 9), (some (118, true)), [], false, false⟩,
             ⟨(some 120), .load true 25 (.tmp 3), (some (118, true)), [], false, false⟩,
             ⟨(some 121), .move (.tmp 2), (some (118, true)), [], false, false⟩,
             ⟨(some 122), .call 47 [(.tmp 120), (.tmp 121)], (some (118, true)), [], false, true⟩,
             ⟨(some 123), .call 26 [(.tmp 122)], (some (118, true)), [], false, true⟩,
             ⟨(some 124), .eqAgg false [(.int .i64), (.int .i64), (.int .i64), (.int .i64)] (.tmp 119) (.tmp 123), (some (118, true)), [], false, false⟩,
             ⟨(some 125), .pick (.tmp 118) (.tmp 124) (.const (.bool false)), none, [], false, false⟩,
             ⟨(some 126), .move (.tmp 125), none, [], false, false⟩,
             ⟨(some 127), .move (.tmp 12), (some (126, true)), [], false, false⟩,
             ⟨(some 128), .bin .eql (.tmp 127) (.const (.int .i64 0)), (some (126, true)), [], false, false⟩,
             ⟨(some 129), .pick (.tmp 126) (.tmp 128) (.const (.bool false)), none, [], false, false⟩,
             ⟨(some 130), .move (.tmp 129), none, [], false, false⟩,
             ⟨(some 131), .load true 4 (.tmp 11), (some (130, true)), [], false, false⟩,
             ⟨(some 132), .load true 25 (.tmp 3), (some (130, true)), [], false, false⟩,
             ⟨(some 133), .move (.tmp 2), (some (130, true)), [], false, false⟩,
             ⟨(some 134), .call 48 [(.tmp 132), (.tmp 133)], (some (130, true)), [], false, true⟩,
             ⟨(some 135), .call 26 [(.tmp 134)], (some (130, true)), [], false, true⟩,
             ⟨(some 136), .eqAgg false [(.int .i64), (.int .i64), (.int .i64), (.int .i64)] (.tmp 131) (.tmp 135), (some (130, true)), [], false, false⟩,
             ⟨(some 137), .pick (.tmp 130) (.tmp 136) (.const (.bool false)), none, [], false, false⟩,
             ⟨(some 6), .move (.tmp 137), none, [], false, false⟩])
          (.ret)))))))))),
 [.tmp 6], .pure, 138⟩

/-- agraffe/agraffelaw06.TemperRises -/
def ef8 : EFun := ⟨
 .seq (.region false [⟨(some 2), .box (.tmp 0), none, [], false, false⟩,
    ⟨(some 3), .box (.tmp 1), none, [], false, false⟩,
    ⟨(some 4), .move (.const (.bool false)), none, [], false, false⟩])
 (.seq (.seq (.region false [⟨(some 10), .call 19 [], none, [], false, false⟩,
      ⟨(some 11), .un .not (.tmp 10), none, [], false, false⟩])
   (.cond (.tmp 11) (.seq (.region false [⟨(some 4), .move (.const (.bool false)), none, [], false, false⟩])
     (.ret))
    (.skip)))
  (.seq (.seq (.region false [⟨(some 12), .load true 25 (.tmp 2), none, [], false, false⟩,
       ⟨(some 13), .call 20 [(.tmp 12)], none, [], false, false⟩,
       ⟨(some 14), .un .not (.tmp 13), none, [], false, false⟩,
       ⟨(some 15), .move (.tmp 14), none, [], false, false⟩,
       ⟨(some 16), .fieldAddr 1 (.tmp 3), (some (15, false)), [], false, false⟩,
       ⟨(some 17), .load false 1 (.tmp 16), (some (15, false)), [], false, false⟩,
       ⟨(some 18), .len false (.tmp 17), (some (15, false)), [], false, false⟩,
       ⟨(some 19), .bin .gtr (.tmp 18) (.const (.int .i64 6)), (some (15, false)), [], false, false⟩,
       ⟨(some 20), .move (.tmp 19), (some (15, false)), [], false, false⟩,
       ⟨(some 21), .fieldAddr 1 (.tmp 3), (some (20, true)), [], false, false⟩,
       ⟨(some 22), .load false 1 (.tmp 21), (some (20, true)), [], false, false⟩,
       ⟨(some 23), .len false (.tmp 22), (some (20, true)), [], false, false⟩,
       ⟨(some 24), .bin .leq (.tmp 23) (.const (.int .i64 100)), (some (20, true)), [], false, false⟩,
       ⟨(some 25), .pick (.tmp 20) (.tmp 24) (.const (.bool false)), (some (15, false)), [], false, false⟩,
       ⟨(some 26), .pick (.tmp 15) (.const (.bool true)) (.tmp 25), none, [], false, false⟩,
       ⟨(some 27), .move (.tmp 26), none, [], false, false⟩,
       ⟨(some 28), .fieldAddr 1 (.tmp 3), (some (27, false)), [], false, false⟩,
       ⟨(some 29), .load false 1 (.tmp 28), (some (27, false)), [], false, false⟩,
       ⟨(some 30), .len false (.tmp 29), (some (27, false)), [], false, false⟩,
       ⟨(some 31), .bin .gtr (.tmp 30) (.const (.int .i64 103)), (some (27, false)), [], false, false⟩,
       ⟨(some 32), .pick (.tmp 27) (.const (.bool true)) (.tmp 31), none, [], false, false⟩])
    (.cond (.tmp 32) (.seq (.region false [⟨(some 4), .move (.const (.bool true)), none, [], false, false⟩])
      (.ret))
     (.skip)))
   (.seq (.region true [⟨(some 34), .load true 25 (.tmp 2), none, [], true, false⟩,
       ⟨(some 35), .fieldAddr 0 (.tmp 3), none, [], false, false⟩,
       ⟨(some 36), .load false 1 (.tmp 35), none, [], true, false⟩,
       ⟨(some 37), .buildSlice 4 0 [] [], none, [], false, false⟩,
       ⟨(some 38), .fieldAddr 1 (.tmp 3), none, [], false, false⟩,
       ⟨(some 39), .load false 1 (.tmp 38), none, [], false, false⟩,
       ⟨(some 40), .append 4 32 (.tmp 37) (.tmp 39), none, [0, 2], false, false⟩,
       ⟨(some 41), .call 49 [(.tmp 34), (.tmp 36), (.tmp 40)], none, [], false, false⟩,
       ⟨(some 33), .move (.tmp 41), none, [], false, false⟩,
       ⟨(some 42), .extract (.tmp 33) 0, none, [], false, false⟩,
       ⟨(some 43), .extract (.tmp 33) 1, none, [], false, false⟩,
       ⟨(some 5), .move (.tmp 42), none, [], false, false⟩,
       ⟨(some 6), .move (.tmp 43), none, [], false, false⟩])
    (.seq (.region false [⟨(some 44), .load true 25 (.tmp 2), none, [], false, false⟩,
        ⟨(some 45), .call 23 [(.tmp 44)], none, [], false, false⟩,
        ⟨(some 7), .move (.tmp 45), none, [], false, false⟩])
     (.seq (.seq (.region false [⟨(some 46), .move (.tmp 7), none, [], false, false⟩,
          ⟨(some 47), .bin .eql (.tmp 46) (.const (.int .i64 0)), none, [], false, false⟩,
          ⟨(some 48), .move (.tmp 47), none, [], false, false⟩,
          ⟨(some 49), .fieldAddr 0 (.tmp 3), (some (48, true)), [], false, false⟩,
          ⟨(some 50), .load false 1 (.tmp 49), (some (48, true)), [], false, false⟩,
          ⟨(some 51), .call 33 [(.tmp 50)], (some (48, true)), [], false, false⟩,
          ⟨(some 52), .un .not (.tmp 51), (some (48, true)), [], false, false⟩,
          ⟨(some 53), .pick (.tmp 48) (.tmp 52) (.const (.bool false)), none, [], false, false⟩])
       (.cond (.tmp 53) (.region false [⟨(some 7), .move (.const (.int .i64 2)), none, [], false, false⟩])
        (.skip)))
      (.seq (.seq (.region false [⟨(some 54), .move (.tmp 7), none, [], false, false⟩,
           ⟨(some 55), .bin .eql (.tmp 54) (.const (.int .i64 0)), none, [], false, false⟩,
           ⟨(some 56), .move (.tmp 55), none, [], false, false⟩,
           ⟨(some 57), .fieldAddr 1 (.tmp 3), (some (56, true)), [], false, false⟩,
           ⟨(some 58), .load false 1 (.tmp 57), (some (56, true)), [], false, false⟩,
           ⟨(some 59), .len false (.tmp 58), (some (56, true)), [], false, false⟩,
           ⟨(some 60), .bin .gtr (.tmp 59) (.const (.int .i64 100)), (some (56, true)), [], false, false⟩,
           ⟨(some 61), .pick (.tmp 56) (.tmp 60) (.const (.bool false)), none, [], false, false⟩])
        (.cond (.tmp 61) (.region false [⟨(some 7), .move (.const (.int .i64 8)), none, [], false, false⟩])
         (.skip)))
       (.seq (.region false [⟨(some 8), .move (.const (.slice none 0 0)), none, [], false, false⟩])
        (.seq (.seq (.region false [⟨(some 9), .move (.const (.int .i64 0)), none, [], false, false⟩])
          (.block 0 (.loop (some [2, 3, 5, 6, 7, 8, 9]) (
            .seq (.seq (.region false [⟨(some 62), .move (.tmp 9), none, [], false, false⟩,
                 ⟨(some 63), .fieldAddr 1 (.tmp 3), none, [], false, false⟩,
                 ⟨(some 64), .load false 1 (.tmp 63), none, [], false, false⟩,
                 ⟨(some 65), .len false (.tmp 64), none, [], false, false⟩,
                 ⟨(some 66), .bin .lss (.tmp 62) (.tmp 65), none, [], false, false⟩,
                 ⟨(some 67), .move (.tmp 66), none, [], false, false⟩,
                 ⟨(some 68), .move (.tmp 7), (some (67, true)), [], false, false⟩,
                 ⟨(some 69), .bin .eql (.tmp 68) (.const (.int .i64 0)), (some (67, true)), [], false, false⟩,
                 ⟨(some 70), .pick (.tmp 67) (.tmp 69) (.const (.bool false)), none, [], false, false⟩])
              (.cond (.tmp 70) (.skip)
               (.exit 0)))
             (.seq (.block 1 (.seq (.region false [⟨(some 73), .fieldAddr 1 (.tmp 3), none, [], false, false⟩,
                   ⟨(some 74), .load false 1 (.tmp 73), none, [], false, false⟩,
                   ⟨(some 75), .move (.tmp 9), none, [], false, false⟩,
                   ⟨(some 76), .indexAddr none 4 (.tmp 74) (.tmp 75), none, [], false, false⟩,
                   ⟨(some 77), .load true 4 (.tmp 76), none, [], false, false⟩,
                   ⟨(some 78), .call 36 [(.tmp 77)], none, [], false, false⟩,
                   ⟨(some 7), .move (.tmp 78), none, [], false, false⟩])
                (.seq (.region false [⟨(some 79), .move (.tmp 7), none, [], false, false⟩,
                    ⟨(some 80), .bin .eql (.tmp 79) (.const (.int .i64 0)), none, [], false, false⟩])
                 (.cond (.tmp 80) (.region true [⟨(some 81), .move (.tmp 8), none, [], false, false⟩,
                     ⟨(some 82), .load true 25 (.tmp 2), none, [], false, false⟩,
                     ⟨(some 83), .fieldAddr 0 (.tmp 3), none, [], false, false⟩,
                     ⟨(some 84), .load false 1 (.tmp 83), none, [], false, false⟩,
                     ⟨(some 85), .fieldAddr 1 (.tmp 3), none, [], false, false⟩,
                     ⟨(some 86), .load false 1 (.tmp 85), none, [], false, false⟩,
                     ⟨(some 87), .move (.tmp 9), none, [], false, false⟩,
                     ⟨(some 88), .indexAddr none 4 (.tmp 86) (.tmp 87), none, [], false, false⟩,
                     ⟨(some 89), .load true 4 (.tmp 88), none, [], false, false⟩,
                     ⟨(some 90), .call 30 [(.tmp 82), (.tmp 84), (.tmp 89)], none, [], false, false⟩,
                     ⟨(some 91), .buildSlice 2 1 [(.int .i64 0), (.int .i64 0)] [(0, 2, (.tmp 90))], none, [], false, false⟩,
                     ⟨(some 92), .append 2 16 (.tmp 81) (.tmp 91), none, [], false, false⟩,
                     ⟨(some 8), .move (.tmp 92), none, [], false, false⟩])
                  (.skip)))))
              (.region false [⟨(some 71), .move (.tmp 9), none, [], false, false⟩,
                 ⟨(some 72), .bin .add (.tmp 71) (.const (.int .i64 1)), none, [], false, false⟩,
                 ⟨(some 9), .move (.tmp 72), none, [], false, false⟩]))))))
         (.seq (.seq (.region false [⟨(some 93), .move (.tmp 7), none, [], false, false⟩,
              ⟨(some 94), .bin .neq (.tmp 93) (.const (.int .i64 0)), none, [], false, false⟩])
           (.cond (.tmp 94) (.seq (.region false [⟨(some 95), .move (.tmp 6), none, [], false, false⟩,
                ⟨(some 96), .move (.tmp 7), none, [], false, false⟩,
                ⟨(some 97), .bin .eql (.tmp 95) (.tmp 96), none, [], false, false⟩,
                ⟨(some 98), .move (.tmp 97), none, [], false, false⟩,
                ⟨(some 99), .move (.tmp 5), (some (98, true)), [], false, false⟩,
                ⟨(some 100), .un .not (.tmp 99), (some (98, true)), [], false, false⟩,
                ⟨(some 101), .pick (.tmp 98) (.tmp 100) (.const (.bool false)), none, [], false, false⟩,
                ⟨(some 4), .move (.tmp 101), none, [], false, false⟩])
             (.ret))
            (.skip)))
          (.seq (.region false [⟨(some 102), .move (.tmp 6), none, [], false, false⟩,
              ⟨(some 103), .bin .eql (.tmp 102) (.const (.int .i64 0)), none, [], false, false⟩,
              ⟨(some 104), .move (.tmp 103), none, [], false, false⟩,
              ⟨(some 105), .move (.tmp 5), (some (104, true)), [], false, false⟩,
              ⟨(some 106), .move (.tmp 8), (some (104, true)), [], false, false⟩,
              ⟨(some 107), .call 50 [(.tmp 106)], (some (104, true)), [], false, false⟩,
              ⟨(some 108), .eqBool false (.tmp 105) (.tmp 107), (some (104, true)), [], false, false⟩,
              ⟨(some 109), .pick (.tmp 104) (.tmp 108) (.const (.bool false)), none, [], false, false⟩,
              ⟨(some 4), .move (.tmp 109), none, [], false, false⟩])
           (.ret))))))))))),
 [.tmp 4], .pure, 110⟩

/-- agraffe/agraffelaw06.TemperOctaves -/
def ef9 : EFun := ⟨
 .seq (.region false [⟨(some 2), .box (.tmp 0), none, [], false, false⟩,
    ⟨(some 3), .box (.tmp 1), none, [], false, false⟩,
    ⟨(some 4), .move (.const (.bool false)), none, [], false, false⟩])
 (.seq (.seq (.region false [⟨(some 17), .call 19 [], none, [], false, false⟩,
      ⟨(some 18), .un .not (.tmp 17), none, [], false, false⟩])
   (.cond (.tmp 18) (.seq (.region false [⟨(some 4), .move (.const (.bool false)), none, [], false, false⟩])
     (.ret))
    (.skip)))
  (.seq (.seq (.region false [⟨(some 19), .load true 25 (.tmp 2), none, [], false, false⟩,
       ⟨(some 20), .call 20 [(.tmp 19)], none, [], false, false⟩,
       ⟨(some 21), .un .not (.tmp 20), none, [], false, false⟩,
       ⟨(some 22), .move (.tmp 21), none, [], false, false⟩,
       ⟨(some 23), .load true 25 (.tmp 2), (some (22, false)), [], false, false⟩,
       ⟨(some 24), .call 51 [(.tmp 23)], (some (22, false)), [], false, false⟩,
       ⟨(some 25), .bin .neq (.tmp 24) (.const (.int .i64 0)), (some (22, false)), [], false, false⟩,
       ⟨(some 26), .pick (.tmp 22) (.const (.bool true)) (.tmp 25), none, [], false, false⟩,
       ⟨(some 27), .move (.tmp 26), none, [], false, false⟩,
       ⟨(some 28), .fieldAddr 1 (.tmp 3), (some (27, false)), [], false, false⟩,
       ⟨(some 29), .load false 1 (.tmp 28), (some (27, false)), [], false, false⟩,
       ⟨(some 30), .call 24 [(.tmp 29)], (some (27, false)), [], false, false⟩,
       ⟨(some 31), .un .not (.tmp 30), (some (27, false)), [], false, false⟩,
       ⟨(some 32), .pick (.tmp 27) (.const (.bool true)) (.tmp 31), none, [], false, false⟩,
       ⟨(some 33), .move (.tmp 32), none, [], false, false⟩,
       ⟨(some 34), .fieldAddr 2 (.tmp 3), (some (33, false)), [], false, false⟩,
       ⟨(some 35), .load false 1 (.tmp 34), (some (33, false)), [], false, false⟩,
       ⟨(some 36), .call 24 [(.tmp 35)], (some (33, false)), [], false, false⟩,
       ⟨(some 37), .un .not (.tmp 36), (some (33, false)), [], false, false⟩,
       ⟨(some 38), .pick (.tmp 33) (.const (.bool true)) (.tmp 37), none, [], false, false⟩,
       ⟨(some 39), .move (.tmp 38), none, [], false, false⟩,
       ⟨(some 40), .fieldAddr 1 (.tmp 3), (some (39, false)), [], false, false⟩,
       ⟨(some 41), .load false 1 (.tmp 40), (some (39, false)), [], false, false⟩,
       ⟨(some 42), .bin .add (.tmp 41) (.const (.int .i64 12)), (some (39, false)), [], false, false⟩,
       ⟨(some 43), .call 24 [(.tmp 42)], (some (39, false)), [], false, false⟩,
       ⟨(some 44), .un .not (.tmp 43), (some (39, false)), [], false, false⟩,
       ⟨(some 45), .pick (.tmp 39) (.const (.bool true)) (.tmp 44), none, [], false, false⟩])
    (.cond (.tmp 45) (.seq (.region false [⟨(some 4), .move (.const (.bool true)), none, [], false, false⟩])
      (.ret))
     (.skip)))
   (.seq (.region false [⟨(some 47), .load true 25 (.tmp 2), none, [], false, false⟩,
       ⟨(some 48), .fieldAddr 1 (.tmp 3), none, [], false, false⟩,
       ⟨(some 49), .load false 1 (.tmp 48), none, [], false, false⟩,
       ⟨(some 50), .fieldAddr 1 (.tmp 3), none, [], false, false⟩,
       ⟨(some 51), .load false 1 (.tmp 50), none, [], false, false⟩,
       ⟨(some 52), .bin .add (.tmp 51) (.const (.int .i64 12)), none, [], false, false⟩,
       ⟨(some 53), .call 22 [(.tmp 47), (.tmp 49), (.tmp 52)], none, [], false, false⟩,
       ⟨(some 46), .move (.tmp 53), none, [], false, false⟩,
       ⟨(some 54), .extract (.tmp 46) 0, none, [], false, false⟩,
       ⟨(some 55), .extract (.tmp 46) 1, none, [], false, false⟩,
       ⟨(some 5), .push [(.int .i64 0), (.int .i64 0), (.int .i64 0), (.int .i64 0)], none, [], false, false⟩,
       ⟨none, .store 4 (.tmp 5) (.tmp 54), none, [], false, false⟩,
       ⟨(some 6), .move (.tmp 55), none, [], false, false⟩])
    (.seq (.seq (.region false [⟨(some 56), .move (.tmp 6), none, [], false, false⟩,
         ⟨(some 57), .bin .neq (.tmp 56) (.const (.int .i64 0)), none, [], false, false⟩,
         ⟨(some 58), .move (.tmp 57), none, [], false, false⟩,
         ⟨(some 59), .load true 4 (.tmp 5), (some (58, false)), [], false, false⟩,
         ⟨(some 60), .build [(.int .i64 0), (.int .i64 0), (.int .i64 0), (.int .i64 0)] [(0, 1, (.const (.int .i64 1))), (3, 1, (.const (.int .i64 1)))], (some (58, false)), [], false, false⟩,
         ⟨(some 61), .eqAgg true [(.int .i64), (.int .i64), (.int .i64), (.int .i64)] (.tmp 59) (.tmp 60), (some (58, false)), [], false, false⟩,
         ⟨(some 62), .pick (.tmp 58) (.const (.bool true)) (.tmp 61), none, [], false, false⟩])
      (.cond (.tmp 62) (.seq (.region false [⟨(some 4), .move (.const (.bool false)), none, [], false, false⟩])
        (.ret))
       (.skip)))
     (.seq (.region false [⟨(some 64), .load true 25 (.tmp 2), none, [], false, false⟩,
         ⟨(some 65), .fieldAddr 1 (.tmp 3), none, [], false, false⟩,
         ⟨(some 66), .load false 1 (.tmp 65), none, [], false, false⟩,
         ⟨(some 67), .fieldAddr 2 (.tmp 3), none, [], false, false⟩,
         ⟨(some 68), .load false 1 (.tmp 67), none, [], false, false⟩,
         ⟨(some 69), .call 22 [(.tmp 64), (.tmp 66), (.tmp 68)], none, [], false, false⟩,
         ⟨(some 63), .move (.tmp 69), none, [], false, false⟩,
         ⟨(some 70), .extract (.tmp 63) 0, none, [], false, false⟩,
         ⟨(some 71), .extract (.tmp 63) 1, none, [], false, false⟩,
         ⟨(some 7), .push [(.int .i64 0), (.int .i64 0), (.int .i64 0), (.int .i64 0)], none, [], false, false⟩,
         ⟨none, .store 4 (.tmp 7) (.tmp 70), none, [], false, false⟩,
         ⟨(some 6), .move (.tmp 71), none, [], false, false⟩])
      (.seq (.region false [⟨(some 73), .load true 25 (.tmp 2), none, [], false, false⟩,
          ⟨(some 74), .fieldAddr 2 (.tmp 3), none, [], false, false⟩,
          ⟨(some 75), .load false 1 (.tmp 74), none, [], false, false⟩,
          ⟨(some 76), .fieldAddr 1 (.tmp 3), none, [], false, false⟩,
          ⟨(some 77), .load false 1 (.tmp 76), none, [], false, false⟩,
          ⟨(some 78), .bin .add (.tmp 77) (.const (.int .i64 12)), none, [], false, false⟩,
          ⟨(some 79), .call 22 [(.tmp 73), (.tmp 75), (.tmp 78)], none, [], false, false⟩,
          ⟨(some 72), .move (.tmp 79), none, [], false, false⟩,
          ⟨(some 80), .extract (.tmp 72) 0, none, [], false, false⟩,
          ⟨(some 81), .extract (.tmp 72) 1, none, [], false, false⟩,
          ⟨(some 8), .push [(.int .i64 0), (.int .i64 0), (.int .i64 0), (.int .i64 0)], none, [], false, false⟩,
          ⟨none, .store 4 (.tmp 8) (.tmp 80), none, [], false, false⟩,
          ⟨(some 9), .move (.tmp 81), none, [], false, false⟩])
       (.seq (.seq (.region false [⟨(some 82), .move (.tmp 6), none, [], false, false⟩,
            ⟨(some 83), .bin .neq (.tmp 82) (.const (.int .i64 0)), none, [], false, false⟩,
            ⟨(some 84), .move (.tmp 83), none, [], false, false⟩,
            ⟨(some 85), .move (.tmp 9), (some (84, false)), [], false, false⟩,
            ⟨(some 86), .bin .neq (.tmp 85) (.const (.int .i64 0)), (some (84, false)), [], false, false⟩,
            ⟨(some 87), .pick (.tmp 84) (.const (.bool true)) (.tmp 86), none, [], false, false⟩])
         (.cond (.tmp 87) (.seq (.region false [⟨(some 4), .move (.const (.bool false)), none, [], false, false⟩])
           (.ret))
          (.skip)))
        (.seq (.seq (.region false [⟨(some 89), .load true 4 (.tmp 7), none, [], false, false⟩,
             ⟨(some 90), .load true 4 (.tmp 8), none, [], false, false⟩,
             ⟨(some 91), .call 52 [(.tmp 89), (.tmp 90)], none, [], false, false⟩,
             ⟨(some 88), .move (.tmp 91), none, [], false, false⟩,
             ⟨(some 92), .extract (.tmp 88) 0, none, [], false, false⟩,
             ⟨(some 93), .extract (.tmp 88) 1, none, [], false, false⟩,
             ⟨(some 10), .push [(.int .i64 0), (.int .i64 0), (.int .i64 0), (.int .i64 0)], none, [], false, false⟩,
             ⟨none, .store 4 (.tmp 10) (.tmp 92), none, [], false, false⟩,
             ⟨(some 11), .move (.tmp 93), none, [], false, false⟩])
          (.seq (.region false [⟨(some 94), .move (.tmp 11), none, [], false, false⟩,
              ⟨(some 95), .bin .neq (.tmp 94) (.const (.int .i64 0)), none, [], false, false⟩,
              ⟨(some 96), .move (.tmp 95), none, [], false, false⟩,
              ⟨(some 97), .load true 4 (.tmp 10), (some (96, false)), [], false, false⟩,
              ⟨(some 98), .load true 4 (.tmp 5), (some (96, false)), [], false, false⟩,
              ⟨(some 99), .eqAgg true [(.int .i64), (.int .i64), (.int .i64), (.int .i64)] (.tmp 97) (.tmp 98), (some (96, false)), [], false, false⟩,
              ⟨(some 100), .pick (.tmp 96) (.const (.bool true)) (.tmp 99), none, [], false, false⟩])
           (.cond (.tmp 100) (.seq (.region false [⟨(some 4), .move (.const (.bool false)), none, [], false, false⟩])
             (.ret))
            (.skip))))
         (.seq (.region false [⟨(some 102), .load true 25 (.tmp 2), none, [], false, false⟩,
             ⟨(some 103), .fieldAddr 1 (.tmp 3), none, [], false, false⟩,
             ⟨(some 104), .load false 1 (.tmp 103), none, [], false, false⟩,
             ⟨(some 105), .fieldAddr 1 (.tmp 3), none, [], false, false⟩,
             ⟨(some 106), .load false 1 (.tmp 105), none, [], false, false⟩,
             ⟨(some 107), .bin .add (.tmp 106) (.const (.int .i64 12)), none, [], false, false⟩,
             ⟨(some 108), .build [(.int .i64 0), (.int .i64 0), (.int .i64 0), (.int .i64 0)] [(0, 1, (.tmp 104)), (1, 1, (.tmp 107)), (2, 1, (.const (.int .i64 2))), (3, 1, (.const (.int .i64 1)))], none, [], false, false⟩,
             ⟨(some 109), .call 28 [(.tmp 102), (.const (.int .i64 440000)), (.tmp 108)], none, [], false, false⟩,
             ⟨(some 101), .move (.tmp 109), none, [], false, false⟩,
             ⟨(some 110), .extract (.tmp 101) 0, none, [], false, false⟩,
             ⟨(some 111), .extract (.tmp 101) 1, none, [], false, false⟩,
             ⟨(some 12), .push [(.int .i64 0), (.int .i64 0)], none, [], false, false⟩,
             ⟨none, .store 2 (.tmp 12) (.tmp 110), none, [], false, false⟩,
             ⟨(some 13), .move (.tmp 111), none, [], false, false⟩])
          (.seq (.region false [⟨(some 113), .load true 4 (.tmp 7), none, [], false, false⟩,
              ⟨(some 114), .build [(.int .i64 0), (.int .i64 0), (.int .i64 0), (.int .i64 0)] [(3, 1, (.const (.int .i64 1)))], none, [], false, false⟩,
              ⟨(some 115), .call 53 [(.tmp 113), (.tmp 114)], none, [], false, false⟩,
              ⟨(some 112), .move (.tmp 115), none, [], false, false⟩,
              ⟨(some 116), .extract (.tmp 112) 0, none, [], false, false⟩,
              ⟨(some 117), .extract (.tmp 112) 1, none, [], false, false⟩,
              ⟨(some 14), .move (.tmp 116), none, [], false, false⟩,
              ⟨(some 15), .move (.tmp 117), none, [], false, false⟩])
           (.seq (.region false [⟨(some 118), .load true 25 (.tmp 2), none, [], false, false⟩,
               ⟨(some 119), .fieldAddr 1 (.tmp 3), none, [], false, false⟩,
               ⟨(some 120), .load false 1 (.tmp 119), none, [], false, false⟩,
               ⟨(some 121), .fieldAddr 2 (.tmp 3), none, [], false, false⟩,
               ⟨(some 122), .load false 1 (.tmp 121), none, [], false, false⟩,
               ⟨(some 123), .call 27 [(.tmp 118), (.tmp 120), (.tmp 122)], none, [], false, false⟩,
               ⟨(some 124), .call 26 [(.tmp 123)], none, [], false, false⟩,
               ⟨(some 125), .build [(.int .i64 0), (.int .i64 0), (.int .i64 0), (.int .i64 0)] [(3, 1, (.const (.int .i64 1)))], none, [], false, false⟩,
               ⟨(some 126), .call 54 [(.tmp 124), (.tmp 125)], none, [], false, false⟩,
               ⟨(some 16), .move (.tmp 126), none, [], false, false⟩])
            (.seq (.region false [⟨(some 127), .move (.tmp 13), none, [], false, false⟩,
                ⟨(some 128), .bin .eql (.tmp 127) (.const (.int .i64 0)), none, [], false, false⟩,
                ⟨(some 129), .move (.tmp 128), none, [], false, false⟩,
                ⟨(some 130), .fieldAddr 0 (.tmp 12), (some (129, true)), [], false, false⟩,
                ⟨(some 131), .load false 1 (.tmp 130), (some (129, true)), [], false, false⟩,
                ⟨(some 132), .bin .leq (.tmp 131) (.const (.int .i64 0)), (some (129, true)), [], false, false⟩,
                ⟨(some 133), .pick (.tmp 129) (.tmp 132) (.const (.bool false)), none, [], false, false⟩,
                ⟨(some 134), .move (.tmp 133), none, [], false, false⟩,
                ⟨(some 135), .fieldAddr 1 (.tmp 12), (some (134, true)), [], false, false⟩,
                ⟨(some 136), .load false 1 (.tmp 135), (some (134, true)), [], false, false⟩,
                ⟨(some 137), .bin .geq (.tmp 136) (.const (.int .i64 0)), (some (134, true)), [], false, false⟩,
                ⟨(some 138), .pick (.tmp 134) (.tmp 137) (.const (.bool false)), none, [], false, false⟩,
                ⟨(some 139), .move (.tmp 138), none, [], false, false⟩,
                ⟨(some 140), .move (.tmp 15), (some (139, true)), [], false, false⟩,
                ⟨(some 141), .bin .eql (.tmp 140) (.const (.int .i64 0)), (some (139, true)), [], false, false⟩,
                ⟨(some 142), .pick (.tmp 139) (.tmp 141) (.const (.bool false)), none, [], false, false⟩,
                ⟨(some 143), .move (.tmp 142), none, [], false, false⟩,
                ⟨(some 144), .move (.tmp 14), (some (143, true)), [], false, false⟩,
                ⟨(some 145), .move (.tmp 16), (some (143, true)), [], false, false⟩,
                ⟨(some 146), .bin .eql (.tmp 144) (.tmp 145), (some (143, true)), [], false, false⟩,
                ⟨(some 147), .pick (.tmp 143) (.tmp 146) (.const (.bool false)), none, [], false, false⟩,
                ⟨(some 4), .move (.tmp 147), none, [], false, false⟩])
             (.ret))))))))))))),
 [.tmp 4], .pure, 148⟩

/-- agraffe/agraffelaw06.TemperPurity -/
def ef10 : EFun := ⟨
 .seq (.region false [⟨(some 3), .box (.tmp 0), none, [], false, false⟩,
    ⟨(some 5), .box (.tmp 2), none, [], false, false⟩,
    ⟨(some 6), .move (.const (.bool false)), none, [], false, false⟩])
 (.seq (.seq (.region false [⟨(some 12), .call 19 [], none, [], false, false⟩,
      ⟨(some 13), .un .not (.tmp 12), none, [], false, false⟩])
   (.cond (.tmp 13) (.seq (.region false [⟨(some 6), .move (.const (.bool false)), none, [], false, false⟩])
     (.ret))
    (.skip)))
  (.seq (.seq (.region false [⟨(some 14), .load true 25 (.tmp 3), none, [], false, false⟩,
       ⟨(some 15), .call 20 [(.tmp 14)], none, [], false, false⟩,
       ⟨(some 16), .un .not (.tmp 15), none, [], false, false⟩])
    (.cond (.tmp 16) (.seq (.region false [⟨(some 6), .move (.const (.bool true)), none, [], false, false⟩])
      (.ret))
     (.skip)))
   (.seq (.region false [⟨(some 18), .load true 25 (.tmp 3), none, [], false, false⟩,
       ⟨(some 19), .load true 4 (.tmp 5), none, [], false, false⟩,
       ⟨(some 20), .call 55 [(.tmp 18), (.tmp 19)], none, [], false, false⟩,
       ⟨(some 17), .move (.tmp 20), none, [], false, false⟩,
       ⟨(some 21), .extract (.tmp 17) 0, none, [], false, false⟩,
       ⟨(some 22), .extract (.tmp 17) 1, none, [], false, false⟩,
       ⟨(some 7), .move (.tmp 21), none, [], false, false⟩,
       ⟨(some 8), .move (.tmp 22), none, [], false, false⟩])
    (.seq (.region false [⟨(some 23), .load true 25 (.tmp 3), none, [], false, false⟩,
        ⟨(some 24), .call 23 [(.tmp 23)], none, [], false, false⟩,
        ⟨(some 9), .move (.tmp 24), none, [], false, false⟩])
     (.seq (.seq (.region false [⟨(some 25), .move (.tmp 9), none, [], false, false⟩,
          ⟨(some 26), .bin .eql (.tmp 25) (.const (.int .i64 0)), none, [], false, false⟩])
       (.cond (.tmp 26) (.region false [⟨(some 27), .load true 4 (.tmp 5), none, [], false, false⟩,
           ⟨(some 28), .call 36 [(.tmp 27)], none, [], false, false⟩,
           ⟨(some 9), .move (.tmp 28), none, [], false, false⟩])
        (.skip)))
      (.seq (.seq (.region false [⟨(some 29), .move (.tmp 9), none, [], false, false⟩,
           ⟨(some 30), .bin .neq (.tmp 29) (.const (.int .i64 0)), none, [], false, false⟩])
        (.cond (.tmp 30) (.seq (.region false [⟨(some 31), .move (.tmp 8), none, [], false, false⟩,
             ⟨(some 32), .move (.tmp 9), none, [], false, false⟩,
             ⟨(some 33), .bin .eql (.tmp 31) (.tmp 32), none, [], false, false⟩,
             ⟨(some 34), .move (.tmp 33), none, [], false, false⟩,
             ⟨(some 35), .move (.tmp 7), (some (34, true)), [], false, false⟩,
             ⟨(some 36), .bin .eql (.tmp 35) (.const (.int .i64 0)), (some (34, true)), [], false, false⟩,
             ⟨(some 37), .pick (.tmp 34) (.tmp 36) (.const (.bool false)), none, [], false, false⟩,
             ⟨(some 6), .move (.tmp 37), none, [], false, false⟩])
          (.ret))
         (.skip)))
       (.seq (.seq (.region false [⟨(some 38), .move (.tmp 8), none, [], false, false⟩,
            ⟨(some 39), .bin .neq (.tmp 38) (.const (.int .i64 0)), none, [], false, false⟩,
            ⟨(some 40), .move (.tmp 39), none, [], false, false⟩,
            ⟨(some 41), .move (.tmp 7), (some (40, false)), [], false, false⟩,
            ⟨(some 42), .load true 25 (.tmp 3), (some (40, false)), [], false, false⟩,
            ⟨(some 43), .load true 4 (.tmp 5), (some (40, false)), [], false, false⟩,
            ⟨(some 44), .call 56 [(.tmp 42), (.tmp 43)], (some (40, false)), [], false, false⟩,
            ⟨(some 45), .bin .neq (.tmp 41) (.tmp 44), (some (40, false)), [], false, false⟩,
            ⟨(some 46), .pick (.tmp 40) (.const (.bool true)) (.tmp 45), none, [], false, false⟩])
         (.cond (.tmp 46) (.seq (.region false [⟨(some 6), .move (.const (.bool false)), none, [], false, false⟩])
           (.ret))
          (.skip)))
        (.seq (.seq (.region false [⟨(some 47), .move (.tmp 1), none, [], false, false⟩,
             ⟨(some 48), .call 33 [(.tmp 47)], none, [], false, false⟩,
             ⟨(some 49), .un .not (.tmp 48), none, [], false, false⟩])
          (.cond (.tmp 49) (.seq (.region false [⟨(some 6), .move (.const (.bool true)), none, [], false, false⟩])
            (.ret))
           (.skip)))
         (.seq (.region false [⟨(some 51), .load true 25 (.tmp 3), none, [], false, false⟩,
             ⟨(some 52), .move (.tmp 1), none, [], false, false⟩,
             ⟨(some 53), .load true 4 (.tmp 5), none, [], false, false⟩,
             ⟨(some 54), .call 28 [(.tmp 51), (.tmp 52), (.tmp 53)], none, [], false, false⟩,
             ⟨(some 50), .move (.tmp 54), none, [], false, false⟩,
             ⟨(some 55), .extract (.tmp 50) 0, none, [], false, false⟩,
             ⟨(some 56), .extract (.tmp 50) 1, none, [], false, false⟩,
             ⟨(some 10), .push [(.int .i64 0), (.int .i64 0)], none, [], false, false⟩,
             ⟨none, .store 2 (.tmp 10) (.tmp 55), none, [], false, false⟩,
             ⟨(some 11), .move (.tmp 56), none, [], false, false⟩])
          (.seq (.region false [⟨(some 57), .move (.tmp 11), none, [], false, false⟩,
              ⟨(some 58), .bin .eql (.tmp 57) (.const (.int .i64 0)), none, [], false, false⟩,
              ⟨(some 59), .move (.tmp 58), none, [], false, false⟩,
              ⟨(some 60), .fieldAddr 0 (.tmp 10), (some (59, true)), [], false, false⟩,
              ⟨(some 61), .load false 1 (.tmp 60), (some (59, true)), [], false, false⟩,
              ⟨(some 62), .fieldAddr 1 (.tmp 10), (some (59, true)), [], false, false⟩,
              ⟨(some 63), .load false 1 (.tmp 62), (some (59, true)), [], false, false⟩,
              ⟨(some 64), .bin .leq (.tmp 61) (.tmp 63), (some (59, true)), [], false, false⟩,
              ⟨(some 65), .pick (.tmp 59) (.tmp 64) (.const (.bool false)), none, [], false, false⟩,
              ⟨(some 66), .move (.tmp 65), none, [], false, false⟩,
              ⟨(some 67), .fieldAddr 1 (.tmp 10), (some (66, true)), [], false, false⟩,
              ⟨(some 68), .load false 1 (.tmp 67), (some (66, true)), [], false, false⟩,
              ⟨(some 69), .fieldAddr 0 (.tmp 10), (some (66, true)), [], false, false⟩,
              ⟨(some 70), .load false 1 (.tmp 69), (some (66, true)), [], false, false⟩,
              ⟨(some 71), .bin .sub (.tmp 68) (.tmp 70), (some (66, true)), [], false, false⟩,
              ⟨(some 72), .bin .leq (.tmp 71) (.const (.int .i64 2)), (some (66, true)), [], false, false⟩,
              ⟨(some 73), .pick (.tmp 66) (.tmp 72) (.const (.bool false)), none, [], false, false⟩,
              ⟨(some 74), .move (.tmp 73), none, [], false, false⟩,
              ⟨(some 75), .move (.tmp 7), (some (74, true)), [], false, false⟩,
              ⟨(some 76), .bin .lss (.tmp 75) (.const (.int .i64 0)), (some (74, true)), [], false, false⟩,
              ⟨(some 77), .move (.tmp 76), (some (74, true)), [], false, false⟩,
              ⟨(some 78), .fieldAddr 1 (.tmp 10), (some (77, false)), [], false, false⟩,
              ⟨(some 79), .load false 1 (.tmp 78), (some (77, false)), [], false, false⟩,
              ⟨(some 80), .bin .geq (.tmp 79) (.const (.int .i64 0)), (some (77, false)), [], false, false⟩,
              ⟨(some 81), .pick (.tmp 77) (.const (.bool true)) (.tmp 80), (some (74, true)), [], false, false⟩,
              ⟨(some 82), .pick (.tmp 74) (.tmp 81) (.const (.bool false)), none, [], false, false⟩,
              ⟨(some 83), .move (.tmp 82), none, [], false, false⟩,
              ⟨(some 84), .move (.tmp 7), (some (83, true)), [], false, false⟩,
              ⟨(some 85), .bin .gtr (.tmp 84) (.const (.int .i64 0)), (some (83, true)), [], false, false⟩,
              ⟨(some 86), .move (.tmp 85), (some (83, true)), [], false, false⟩,
              ⟨(some 87), .fieldAddr 0 (.tmp 10), (some (86, false)), [], false, false⟩,
              ⟨(some 88), .load false 1 (.tmp 87), (some (86, false)), [], false, false⟩,
              ⟨(some 89), .bin .leq (.tmp 88) (.const (.int .i64 0)), (some (86, false)), [], false, false⟩,
              ⟨(some 90), .pick (.tmp 86) (.const (.bool true)) (.tmp 89), (some (83, true)), [], false, false⟩,
              ⟨(some 91), .pick (.tmp 83) (.tmp 90) (.const (.bool false)), none, [], false, false⟩,
              ⟨(some 6), .move (.tmp 91), none, [], false, false⟩])
           (.ret))))))))))),
 [.tmp 6], .pure, 92⟩

/-- agraffe/agraffelaw06.TemperCircle -/
def ef11 : EFun := ⟨
 .seq (.region false [⟨(some 1), .box (.tmp 0), none, [], false, false⟩,
    ⟨(some 2), .move (.const (.bool false)), none, [], false, false⟩])
 (.seq (.seq (.region false [⟨(some 10), .call 19 [], none, [], false, false⟩,
      ⟨(some 11), .un .not (.tmp 10), none, [], false, false⟩])
   (.cond (.tmp 11) (.seq (.region false [⟨(some 2), .move (.const (.bool false)), none, [], false, false⟩])
     (.ret))
    (.skip)))
  (.seq (.seq (.region false [⟨(some 12), .load true 25 (.tmp 1), none, [], false, false⟩,
       ⟨(some 13), .call 20 [(.tmp 12)], none, [], false, false⟩,
       ⟨(some 14), .un .not (.tmp 13), none, [], false, false⟩,
       ⟨(some 15), .move (.tmp 14), none, [], false, false⟩,
       ⟨(some 16), .load true 25 (.tmp 1), (some (15, false)), [], false, false⟩,
       ⟨(some 17), .call 51 [(.tmp 16)], (some (15, false)), [], false, false⟩,
       ⟨(some 18), .bin .neq (.tmp 17) (.const (.int .i64 0)), (some (15, false)), [], false, false⟩,
       ⟨(some 19), .pick (.tmp 15) (.const (.bool true)) (.tmp 18), none, [], false, false⟩])
    (.cond (.tmp 19) (.seq (.region false [⟨(some 2), .move (.const (.bool true)), none, [], false, false⟩])
      (.ret))
     (.skip)))
   (.seq (.region false [⟨(some 20), .build [(.int .i64 0), (.int .i64 0), (.int .i64 0), (.int .i64 0)] [(3, 1, (.const (.int .i64 1)))], none, [], false, false⟩,
       ⟨(some 3), .push [(.int .i64 0), (.int .i64 0), (.int .i64 0), (.int .i64 0)], none, [], false, false⟩,
       ⟨none, .store 4 (.tmp 3) (.tmp 20), none, [], false, false⟩])
    (.seq (.region false [⟨(some 4), .move (.const (.int .i64 0)), none, [], false, false⟩])
     (.seq (.seq (.region false [⟨(some 5), .move (.const (.int .i64 0)), none, [], false, false⟩])
       (.block 0 (.loop (some [1, 3, 4, 5]) (
         .seq (.seq (.region false [⟨(some 21), .move (.tmp 5), none, [], false, false⟩,
              ⟨(some 22), .bin .lss (.tmp 21) (.const (.int .i64 12)), none, [], false, false⟩])
           (.cond (.tmp 22) (.skip)
            (.exit 0)))
          (.seq (.block 1 (.seq (.region false [⟨(some 26), .load true 25 (.tmp 1), none, [], false, false⟩,
                ⟨(some 27), .move (.tmp 5), none, [], false, false⟩,
                ⟨(some 28), .call 42 [(.tmp 26), (.tmp 27)], none, [], false, false⟩,
                ⟨(some 25), .move (.tmp 28), none, [], false, false⟩,
                ⟨(some 29), .extract (.tmp 25) 0, none, [], false, false⟩,
                ⟨(some 30), .extract (.tmp 25) 1, none, [], false, false⟩,
                ⟨(some 6), .push [(.int .i64 0), (.int .i64 0), (.int .i64 0), (.int .i64 0)], none, [], false, false⟩,
                ⟨none, .store 4 (.tmp 6) (.tmp 29), none, [], false, false⟩,
                ⟨(some 7), .move (.tmp 30), none, [], false, false⟩])
             (.seq (.seq (.region false [⟨(some 31), .move (.tmp 7), none, [], false, false⟩,
                  ⟨(some 32), .bin .neq (.tmp 31) (.const (.int .i64 0)), none, [], false, false⟩])
               (.cond (.tmp 32) (.seq (.region false [⟨(some 2), .move (.const (.bool false)), none, [], false, false⟩])
                 (.ret))
                (.skip)))
              (.seq (.region false [⟨(some 34), .load true 4 (.tmp 3), none, [], false, false⟩,
                  ⟨(some 35), .load true 4 (.tmp 6), none, [], false, false⟩,
                  ⟨(some 36), .call 52 [(.tmp 34), (.tmp 35)], none, [], false, false⟩,
                  ⟨(some 33), .move (.tmp 36), none, [], false, false⟩,
                  ⟨(some 37), .extract (.tmp 33) 0, none, [], false, false⟩,
                  ⟨(some 38), .extract (.tmp 33) 1, none, [], false, false⟩,
                  ⟨none, .store 4 (.tmp 3) (.tmp 37), none, [], false, false⟩,
                  ⟨(some 7), .move (.tmp 38), none, [], false, false⟩])
               (.seq (.seq (.region false [⟨(some 39), .move (.tmp 7), none, [], false, false⟩,
                    ⟨(some 40), .bin .neq (.tmp 39) (.const (.int .i64 0)), none, [], false, false⟩])
                 (.cond (.tmp 40) (.seq (.region false [⟨(some 2), .move (.const (.bool false)), none, [], false, false⟩])
                   (.ret))
                  (.skip)))
                (.seq (.seq (.region false [⟨(some 41), .move (.tmp 5), none, [], false, false⟩,
                     ⟨(some 42), .bin .add (.tmp 41) (.const (.int .i64 1)), none, [], false, false⟩,
                     ⟨(some 43), .bin .mul (.const (.int .i64 7)) (.tmp 42), none, [], false, false⟩,
                     ⟨(some 44), .bin .quo (.tmp 43) (.const (.int .i64 12)), none, [], false, false⟩,
                     ⟨(some 45), .move (.tmp 5), none, [], false, false⟩,
                     ⟨(some 46), .bin .mul (.const (.int .i64 7)) (.tmp 45), none, [], false, false⟩,
                     ⟨(some 47), .bin .quo (.tmp 46) (.const (.int .i64 12)), none, [], false, false⟩,
                     ⟨(some 48), .bin .gtr (.tmp 44) (.tmp 47), none, [], false, false⟩])
                  (.cond (.tmp 48) (.seq (.region false [⟨(some 50), .load true 4 (.tmp 3), none, [], false, false⟩,
                       ⟨(some 51), .build [(.int .i64 0), (.int .i64 0), (.int .i64 0), (.int .i64 0)] [(0, 1, (.const (.int .i64 (-1)))), (3, 1, (.const (.int .i64 1)))], none, [], false, false⟩,
                       ⟨(some 52), .call 52 [(.tmp 50), (.tmp 51)], none, [], false, false⟩,
                       ⟨(some 49), .move (.tmp 52), none, [], false, false⟩,
                       ⟨(some 53), .extract (.tmp 49) 0, none, [], false, false⟩,
                       ⟨(some 54), .extract (.tmp 49) 1, none, [], false, false⟩,
                       ⟨none, .store 4 (.tmp 3) (.tmp 53), none, [], false, false⟩,
                       ⟨(some 7), .move (.tmp 54), none, [], false, false⟩])
                    (.region false [⟨(some 55), .move (.tmp 4), none, [], false, false⟩,
                       ⟨(some 56), .bin .add (.tmp 55) (.const (.int .i64 1)), none, [], false, false⟩,
                       ⟨(some 4), .move (.tmp 56), none, [], false, false⟩]))
                   (.skip)))
                 (.seq (.region false [⟨(some 58), .load true 25 (.tmp 1), none, [], false, false⟩,
                     ⟨(some 59), .move (.tmp 5), none, [], false, false⟩,
                     ⟨(some 60), .bin .add (.tmp 59) (.const (.int .i64 1)), none, [], false, false⟩,
                     ⟨(some 61), .bin .mul (.const (.int .i64 7)) (.tmp 60), none, [], false, false⟩,
                     ⟨(some 62), .bin .rem (.tmp 61) (.const (.int .i64 12)), none, [], false, false⟩,
                     ⟨(some 63), .call 44 [(.tmp 58), (.tmp 62)], none, [], false, false⟩,
                     ⟨(some 57), .move (.tmp 63), none, [], false, false⟩,
                     ⟨(some 64), .extract (.tmp 57) 0, none, [], false, false⟩,
                     ⟨(some 65), .extract (.tmp 57) 1, none, [], false, false⟩,
                     ⟨(some 8), .push [(.int .i64 0), (.int .i64 0), (.int .i64 0), (.int .i64 0)], none, [], false, false⟩,
                     ⟨none, .store 4 (.tmp 8) (.tmp 64), none, [], false, false⟩,
                     ⟨(some 9), .move (.tmp 65), none, [], false, false⟩])
                  (.seq (.region false [⟨(some 66), .move (.tmp 7), none, [], false, false⟩,
                      ⟨(some 67), .bin .neq (.tmp 66) (.const (.int .i64 0)), none, [], false, false⟩,
                      ⟨(some 68), .move (.tmp 67), none, [], false, false⟩,
                      ⟨(some 69), .move (.tmp 9), (some (68, false)), [], false, false⟩,
                      ⟨(some 70), .bin .neq (.tmp 69) (.const (.int .i64 0)), (some (68, false)), [], false, false⟩,
                      ⟨(some 71), .pick (.tmp 68) (.const (.bool true)) (.tmp 70), none, [], false, false⟩,
                      ⟨(some 72), .move (.tmp 71), none, [], false, false⟩,
                      ⟨(some 73), .load true 4 (.tmp 3), (some (72, false)), [], false, false⟩,
                      ⟨(some 74), .load true 4 (.tmp 8), (some (72, false)), [], false, false⟩,
                      ⟨(some 75), .eqAgg true [(.int .i64), (.int .i64), (.int .i64), (.int .i64)] (.tmp 73) (.tmp 74), (some (72, false)), [], false, false⟩,
                      ⟨(some 76), .pick (.tmp 72) (.const (.bool true)) (.tmp 75), none, [], false, false⟩])
                   (.cond (.tmp 76) (.seq (.region false [⟨(some 2), .move (.const (.bool false)), none, [], false, false⟩])
                     (.ret))
                    (.skip))))))))))
           (.region false [⟨(some 23), .move (.tmp 5), none, [], false, false⟩,
              ⟨(some 24), .bin .add (.tmp 23) (.const (.int .i64 1)), none, [], false, false⟩,
              ⟨(some 5), .move (.tmp 24), none, [], false, false⟩]))))))
      (.seq (.region false [⟨(some 77), .move (.tmp 4), none, [], false, false⟩,
          ⟨(some 78), .bin .eql (.tmp 77) (.const (.int .i64 7)), none, [], false, false⟩,
          ⟨(some 79), .move (.tmp 78), none, [], false, false⟩,
          ⟨(some 80), .load true 4 (.tmp 3), (some (79, true)), [], false, false⟩,
          ⟨(some 81), .build [(.int .i64 0), (.int .i64 0), (.int .i64 0), (.int .i64 0)] [(3, 1, (.const (.int .i64 1)))], (some (79, true)), [], false, false⟩,
          ⟨(some 82), .eqAgg false [(.int .i64), (.int .i64), (.int .i64), (.int .i64)] (.tmp 80) (.tmp 81), (some (79, true)), [], false, false⟩,
          ⟨(some 83), .pick (.tmp 79) (.tmp 82) (.const (.bool false)), none, [], false, false⟩,
          ⟨(some 2), .move (.tmp 83), none, [], false, false⟩])
       (.ret))))))),
 [.tmp 2], .pure, 84⟩

/-- agraffe/agraffelaw06.TemperNames -/
def ef12 : EFun := ⟨
 .seq (.region false [⟨(some 4), .box (.tmp 1), none, [], false, false⟩,
    ⟨(some 6), .move (.const (.bool false)), none, [], false, false⟩])
 (.seq (.seq (.region false [⟨(some 16), .call 19 [], none, [], false, false⟩,
      ⟨(some 17), .un .not (.tmp 16), none, [], false, false⟩])
   (.cond (.tmp 17) (.seq (.region false [⟨(some 6), .move (.const (.bool false)), none, [], false, false⟩])
     (.ret))
    (.skip)))
  (.seq (.seq (.region false [⟨(some 18), .move (.tmp 0), none, [], false, false⟩,
       ⟨(some 19), .len true (.tmp 18), none, [], false, false⟩,
       ⟨(some 20), .bin .gtr (.tmp 19) (.const (.int .i64 30)), none, [], false, false⟩,
       ⟨(some 21), .move (.tmp 20), none, [], false, false⟩,
       ⟨(some 22), .load true 25 (.tmp 4), (some (21, false)), [], false, false⟩,
       ⟨(some 23), .call 20 [(.tmp 22)], (some (21, false)), [], false, false⟩,
       ⟨(some 24), .un .not (.tmp 23), (some (21, false)), [], false, false⟩,
       ⟨(some 25), .pick (.tmp 21) (.const (.bool true)) (.tmp 24), none, [], false, false⟩])
    (.cond (.tmp 25) (.seq (.region false [⟨(some 6), .move (.const (.bool true)), none, [], false, false⟩])
      (.ret))
     (.skip)))
   (.seq (.region false [⟨(some 27), .move (.tmp 0), none, [], false, false⟩,
       ⟨(some 28), .call 57 [(.tmp 27)], none, [], false, false⟩,
       ⟨(some 26), .move (.tmp 28), none, [], false, false⟩,
       ⟨(some 29), .extract (.tmp 26) 0, none, [], false, false⟩,
       ⟨(some 30), .extract (.tmp 26) 1, none, [], false, false⟩,
       ⟨(some 7), .push [(.string ⟨#[]⟩), (.int .i64 0), (.int .i64 0), (.int .i64 0), (.int .i64 0), (.int .i64 0), (.int .i64 0), (.int .i64 0), (.int .i64 0), (.int .i64 0), (.int .i64 0), (.int .i64 0), (.int .i64 0), (.int .i64 0), (.int .i64 0), (.int .i64 0), (.int .i64 0), (.int .i64 0), (.int .i64 0), (.int .i64 0), (.int .i64 0), (.int .i64 0), (.int .i64 0), (.int .i64 0), (.int .i64 0)], none, [], false, false⟩,
       ⟨none, .store 25 (.tmp 7) (.tmp 29), none, [], false, false⟩,
       ⟨(some 8), .move (.tmp 30), none, [], false, false⟩])
    (.seq (.region false [⟨(some 32), .move (.tmp 0), none, [], false, false⟩,
        ⟨(some 33), .call 58 [(.tmp 32)], none, [], false, false⟩,
        ⟨(some 31), .move (.tmp 33), none, [], false, false⟩,
        ⟨(some 34), .extract (.tmp 31) 0, none, [], false, false⟩,
        ⟨(some 35), .extract (.tmp 31) 1, none, [], false, false⟩,
        ⟨(some 9), .push [(.string ⟨#[]⟩), (.int .i64 0), (.int .i64 0), (.int .i64 0), (.int .i64 0), (.int .i64 0), (.int .i64 0), (.int .i64 0), (.int .i64 0), (.int .i64 0), (.int .i64 0), (.int .i64 0), (.int .i64 0), (.int .i64 0), (.int .i64 0), (.int .i64 0), (.int .i64 0), (.int .i64 0), (.int .i64 0), (.int .i64 0), (.int .i64 0), (.int .i64 0), (.int .i64 0), (.int .i64 0), (.int .i64 0)], none, [], false, false⟩,
        ⟨none, .store 25 (.tmp 9) (.tmp 34), none, [], false, false⟩,
        ⟨(some 10), .move (.tmp 35), none, [], false, false⟩])
     (.seq (.seq (.region false [⟨(some 36), .move (.tmp 10), none, [], false, false⟩,
          ⟨(some 37), .move (.tmp 36), none, [], false, false⟩,
          ⟨(some 38), .move (.tmp 8), (some (37, true)), [], false, false⟩,
          ⟨(some 39), .bin .neq (.tmp 38) (.const (.int .i64 0)), (some (37, true)), [], false, false⟩,
          ⟨(some 40), .move (.tmp 39), (some (37, true)), [], false, false⟩,
          ⟨(some 41), .load true 25 (.tmp 7), (some (40, false)), [], false, false⟩,
          ⟨(some 42), .load true 25 (.tmp 9), (some (40, false)), [], false, false⟩,
          ⟨(some 43), .eqAgg true [.str, (.int .i64), (.int .i64), (.int .i64), (.int .i64), (.int .i64), (.int .i64), (.int .i64), (.int .i64), (.int .i64), (.int .i64), (.int .i64), (.int .i64), (.int .i64), (.int .i64), (.int .i64), (.int .i64), (.int .i64), (.int .i64), (.int .i64), (.int .i64), (.int .i64), (.int .i64), (.int .i64), (.int .i64)] (.tmp 41) (.tmp 42), (some (40, false)), [], false, false⟩,
          ⟨(some 44), .pick (.tmp 40) (.const (.bool true)) (.tmp 43), (some (37, true)), [], false, false⟩,
          ⟨(some 45), .move (.tmp 44), (some (37, true)), [], false, false⟩,
          ⟨(some 46), .load true 25 (.tmp 7), (some (45, false)), [], false, false⟩,
          ⟨(some 47), .call 51 [(.tmp 46)], (some (45, false)), [], false, false⟩,
          ⟨(some 48), .bin .neq (.tmp 47) (.const (.int .i64 0)), (some (45, false)), [], false, false⟩,
          ⟨(some 49), .pick (.tmp 45) (.const (.bool true)) (.tmp 48), (some (37, true)), [], false, false⟩,
          ⟨(some 50), .pick (.tmp 37) (.tmp 49) (.const (.bool false)), none, [], false, false⟩,
          ⟨(some 51), .move (.tmp 50), none, [], false, false⟩,
          ⟨(some 52), .move (.tmp 10), (some (51, false)), [], false, false⟩,
          ⟨(some 53), .un .not (.tmp 52), (some (51, false)), [], false, false⟩,
          ⟨(some 54), .move (.tmp 53), (some (51, false)), [], false, false⟩,
          ⟨(some 55), .move (.tmp 8), (some (54, true)), [], false, false⟩,
          ⟨(some 56), .bin .neq (.tmp 55) (.const (.int .i64 6)), (some (54, true)), [], false, false⟩,
          ⟨(some 57), .move (.tmp 56), (some (54, true)), [], false, false⟩,
          ⟨(some 58), .load true 25 (.tmp 7), (some (57, false)), [], false, false⟩,
          ⟨(some 59), .build [(.string ⟨#[]⟩), (.int .i64 0), (.int .i64 0), (.int .i64 0), (.int .i64 0), (.int .i64 0), (.int .i64 0), (.int .i64 0), (.int .i64 0), (.int .i64 0), (.int .i64 0), (.int .i64 0), (.int .i64 0), (.int .i64 0), (.int .i64 0), (.int .i64 0), (.int .i64 0), (.int .i64 0), (.int .i64 0), (.int .i64 0), (.int .i64 0), (.int .i64 0), (.int .i64 0), (.int .i64 0), (.int .i64 0)] [], (some (57, false)), [], false, false⟩,
          ⟨(some 60), .eqAgg true [.str, (.int .i64), (.int .i64), (.int .i64), (.int .i64), (.int .i64), (.int .i64), (.int .i64), (.int .i64), (.int .i64), (.int .i64), (.int .i64), (.int .i64), (.int .i64), (.int .i64), (.int .i64), (.int .i64), (.int .i64), (.int .i64), (.int .i64), (.int .i64), (.int .i64), (.int .i64), (.int .i64), (.int .i64)] (.tmp 58) (.tmp 59), (some (57, false)), [], false, false⟩,
          ⟨(some 61), .pick (.tmp 57) (.const (.bool true)) (.tmp 60), (some (54, true)), [], false, false⟩,
          ⟨(some 62), .pick (.tmp 54) (.tmp 61) (.const (.bool false)), (some (51, false)), [], false, false⟩,
          ⟨(some 63), .pick (.tmp 51) (.const (.bool true)) (.tmp 62), none, [], false, false⟩])
       (.cond (.tmp 63) (.seq (.region false [⟨(some 6), .move (.const (.bool false)), none, [], false, false⟩])
         (.ret))
        (.skip)))
      (.seq (.region false [⟨(some 65), .load true 25 (.tmp 4), none, [], false, false⟩,
          ⟨(some 66), .move (.tmp 2), none, [], false, false⟩,
          ⟨(some 67), .call 59 [(.tmp 65), (.tmp 66)], none, [], false, false⟩,
          ⟨(some 64), .move (.tmp 67), none, [], false, false⟩,
          ⟨(some 68), .extract (.tmp 64) 0, none, [], false, false⟩,
          ⟨(some 69), .extract (.tmp 64) 1, none, [], false, false⟩,
          ⟨(some 11), .push [(.string ⟨#[]⟩), (.int .i64 0), (.int .i64 0), (.int .i64 0), (.int .i64 0), (.int .i64 0), (.int .i64 0), (.int .i64 0), (.int .i64 0), (.int .i64 0), (.int .i64 0), (.int .i64 0), (.int .i64 0), (.int .i64 0), (.int .i64 0), (.int .i64 0), (.int .i64 0), (.int .i64 0), (.int .i64 0), (.int .i64 0), (.int .i64 0), (.int .i64 0), (.int .i64 0), (.int .i64 0), (.int .i64 0)], none, [], false, false⟩,
          ⟨none, .store 25 (.tmp 11) (.tmp 68), none, [], false, false⟩,
          ⟨(some 12), .move (.tmp 69), none, [], false, false⟩])
       (.seq (.region false [⟨(some 70), .load true 25 (.tmp 4), none, [], false, false⟩,
           ⟨(some 71), .call 23 [(.tmp 70)], none, [], false, false⟩,
           ⟨(some 13), .move (.tmp 71), none, [], false, false⟩])
        (.seq (.seq (.region false [⟨(some 72), .move (.tmp 13), none, [], false, false⟩,
             ⟨(some 73), .bin .eql (.tmp 72) (.const (.int .i64 0)), none, [], false, false⟩,
             ⟨(some 74), .move (.tmp 73), none, [], false, false⟩,
             ⟨(some 75), .move (.tmp 2), (some (74, true)), [], false, false⟩,
             ⟨(some 76), .call 60 [(.tmp 75), (.const (.int .i64 0)), (.const (.int .i64 11))], (some (74, true)), [], false, false⟩,
             ⟨(some 77), .un .not (.tmp 76), (some (74, true)), [], false, false⟩,
             ⟨(some 78), .pick (.tmp 74) (.tmp 77) (.const (.bool false)), none, [], false, false⟩])
          (.cond (.tmp 78) (.region false [⟨(some 13), .move (.const (.int .i64 2)), none, [], false, false⟩])
           (.skip)))
         (.seq (.seq (.region false [⟨(some 79), .move (.tmp 13), none, [], false, false⟩,
              ⟨(some 80), .bin .eql (.tmp 79) (.const (.int .i64 0)), none, [], false, false⟩])
           (.cond (.tmp 80) (.region false [⟨(some 81), .load true 25 (.tmp 4), none, [], false, false⟩,
               ⟨(some 82), .move (.tmp 2), none, [], false, false⟩,
               ⟨(some 83), .call 61 [(.tmp 81), (.tmp 82)], none, [], false, false⟩,
               ⟨(some 84), .call 23 [(.tmp 83)], none, [], false, false⟩,
               ⟨(some 13), .move (.tmp 84), none, [], false, false⟩])
            (.skip)))
          (.seq (.seq (.region false [⟨(some 85), .move (.tmp 13), none, [], false, false⟩,
               ⟨(some 86), .bin .neq (.tmp 85) (.const (.int .i64 0)), none, [], false, false⟩])
            (.cond (.tmp 86) (.seq (.region false [⟨(some 87), .move (.tmp 12), none, [], false, false⟩,
                 ⟨(some 88), .move (.tmp 13), none, [], false, false⟩,
                 ⟨(some 89), .bin .eql (.tmp 87) (.tmp 88), none, [], false, false⟩,
                 ⟨(some 90), .move (.tmp 89), none, [], false, false⟩,
                 ⟨(some 91), .load true 25 (.tmp 11), (some (90, true)), [], false, false⟩,
                 ⟨(some 92), .build [(.string ⟨#[]⟩), (.int .i64 0), (.int .i64 0), (.int .i64 0), (.int .i64 0), (.int .i64 0), (.int .i64 0), (.int .i64 0), (.int .i64 0), (.int .i64 0), (.int .i64 0), (.int .i64 0), (.int .i64 0), (.int .i64 0), (.int .i64 0), (.int .i64 0), (.int .i64 0), (.int .i64 0), (.int .i64 0), (.int .i64 0), (.int .i64 0), (.int .i64 0), (.int .i64 0), (.int .i64 0), (.int .i64 0)] [], (some (90, true)), [], false, false⟩,
                 ⟨(some 93), .eqAgg false [.str, (.int .i64), (.int .i64), (.int .i64), (.int .i64), (.int .i64), (.int .i64), (.int .i64), (.int .i64), (.int .i64), (.int .i64), (.int .i64), (.int .i64), (.int .i64), (.int .i64), (.int .i64), (.int .i64), (.int .i64), (.int .i64), (.int .i64), (.int .i64), (.int .i64), (.int .i64), (.int .i64), (.int .i64)] (.tmp 91) (.tmp 92), (some (90, true)), [], false, false⟩,
                 ⟨(some 94), .pick (.tmp 90) (.tmp 93) (.const (.bool false)), none, [], false, false⟩,
                 ⟨(some 6), .move (.tmp 94), none, [], false, false⟩])
              (.ret))
             (.skip)))
           (.seq (.region false [⟨(some 96), .load true 25 (.tmp 11), none, [], false, false⟩,
               ⟨(some 97), .move (.tmp 2), none, [], false, false⟩,
               ⟨(some 98), .bin .sub (.const (.int .i64 12)) (.tmp 97), none, [], false, false⟩,
               ⟨(some 99), .bin .rem (.tmp 98) (.const (.int .i64 12)), none, [], false, false⟩,
               ⟨(some 100), .call 59 [(.tmp 96), (.tmp 99)], none, [], false, false⟩,
               ⟨(some 95), .move (.tmp 100), none, [], false, false⟩,
               ⟨(some 101), .extract (.tmp 95) 0, none, [], false, false⟩,
               ⟨(some 102), .extract (.tmp 95) 1, none, [], false, false⟩,
               ⟨(some 14), .push [(.string ⟨#[]⟩), (.int .i64 0), (.int .i64 0), (.int .i64 0), (.int .i64 0), (.int .i64 0), (.int .i64 0), (.int .i64 0), (.int .i64 0), (.int .i64 0), (.int .i64 0), (.int .i64 0), (.int .i64 0), (.int .i64 0), (.int .i64 0), (.int .i64 0), (.int .i64 0), (.int .i64 0), (.int .i64 0), (.int .i64 0), (.int .i64 0), (.int .i64 0), (.int .i64 0), (.int .i64 0), (.int .i64 0)], none, [], false, false⟩,
               ⟨none, .store 25 (.tmp 14) (.tmp 101), none, [], false, false⟩,
               ⟨(some 15), .move (.tmp 102), none, [], false, false⟩])
            (.seq (.region true [⟨(some 103), .move (.tmp 12), none, [], false, false⟩,
                ⟨(some 104), .bin .eql (.tmp 103) (.const (.int .i64 0)), none, [], false, false⟩,
                ⟨(some 105), .move (.tmp 104), none, [], false, false⟩,
                ⟨(some 106), .load true 25 (.tmp 11), (some (105, true)), [], false, false⟩,
                ⟨(some 107), .load true 25 (.tmp 4), (some (105, true)), [], false, false⟩,
                ⟨(some 108), .move (.tmp 2), (some (105, true)), [], false, false⟩,
                ⟨(some 109), .call 61 [(.tmp 107), (.tmp 108)], (some (105, true)), [], false, true⟩,
                ⟨(some 110), .eqAgg false [.str, (.int .i64), (.int .i64), (.int .i64), (.int .i64), (.int .i64), (.int .i64), (.int .i64), (.int .i64), (.int .i64), (.int .i64), (.int .i64), (.int .i64), (.int .i64), (.int .i64), (.int .i64), (.int .i64), (.int .i64), (.int .i64), (.int .i64), (.int .i64), (.int .i64), (.int .i64), (.int .i64), (.int .i64)] (.tmp 106) (.tmp 109), (some (105, true)), [], false, false⟩,
                ⟨(some 111), .pick (.tmp 105) (.tmp 110) (.const (.bool false)), none, [], false, false⟩,
                ⟨(some 112), .move (.tmp 111), none, [], false, false⟩,
                ⟨(some 113), .move (.tmp 15), (some (112, true)), [], false, false⟩,
                ⟨(some 114), .bin .eql (.tmp 113) (.const (.int .i64 0)), (some (112, true)), [], false, false⟩,
                ⟨(some 115), .pick (.tmp 112) (.tmp 114) (.const (.bool false)), none, [], false, false⟩,
                ⟨(some 116), .move (.tmp 115), none, [], false, false⟩,
                ⟨(some 117), .load true 25 (.tmp 14), (some (116, true)), [], false, false⟩,
                ⟨(some 118), .load true 25 (.tmp 4), (some (116, true)), [], false, false⟩,
                ⟨(some 119), .eqAgg false [.str, (.int .i64), (.int .i64), (.int .i64), (.int .i64), (.int .i64), (.int .i64), (.int .i64), (.int .i64), (.int .i64), (.int .i64), (.int .i64), (.int .i64), (.int .i64), (.int .i64), (.int .i64), (.int .i64), (.int .i64), (.int .i64), (.int .i64), (.int .i64), (.int .i64), (.int .i64), (.int .i64), (.int .i64)] (.tmp 117) (.tmp 118), (some (116, true)), [], false, false⟩,
                ⟨(some 120), .pick (.tmp 116) (.tmp 119) (.const (.bool false)), none, [], false, false⟩,
                ⟨(some 6), .move (.tmp 120), none, [], false, false⟩])
             (.ret))))))))))))),
 [.tmp 6], .pure, 121⟩

/-- agraffe/agraffetop.TopBeatsEnclosed -/
def ef15 : EFun := ⟨
 .seq (.region false [⟨(some 3), .box (.tmp 0), none, [], false, false⟩,
    ⟨(some 5), .box (.tmp 2), none, [], false, false⟩,
    ⟨(some 6), .move (.const (.bool false)), none, [], false, false⟩])
 (.seq (.seq (.region false [⟨(some 15), .call 70 [], none, [], false, false⟩,
      ⟨(some 16), .un .not (.tmp 15), none, [], false, false⟩])
   (.cond (.tmp 16) (.seq (.region false [⟨(some 6), .move (.const (.bool false)), none, [], false, false⟩])
     (.ret))
    (.skip)))
  (.seq (.seq (.region false [⟨(some 17), .load true 25 (.tmp 3), none, [], false, false⟩,
       ⟨(some 18), .call 20 [(.tmp 17)], none, [], false, false⟩,
       ⟨(some 19), .un .not (.tmp 18), none, [], false, false⟩,
       ⟨(some 20), .move (.tmp 19), none, [], false, false⟩,
       ⟨(some 21), .load true 25 (.tmp 3), (some (20, false)), [], false, false⟩,
       ⟨(some 22), .call 51 [(.tmp 21)], (some (20, false)), [], false, false⟩,
       ⟨(some 23), .bin .neq (.tmp 22) (.const (.int .i64 0)), (some (20, false)), [], false, false⟩,
       ⟨(some 24), .pick (.tmp 20) (.const (.bool true)) (.tmp 23), none, [], false, false⟩,
       ⟨(some 25), .move (.tmp 24), none, [], false, false⟩,
       ⟨(some 26), .move (.tmp 1), (some (25, false)), [], false, false⟩,
       ⟨(some 27), .call 33 [(.tmp 26)], (some (25, false)), [], false, false⟩,
       ⟨(some 28), .un .not (.tmp 27), (some (25, false)), [], false, false⟩,
       ⟨(some 29), .pick (.tmp 25) (.const (.bool true)) (.tmp 28), none, [], false, false⟩,
       ⟨(some 30), .move (.tmp 29), none, [], false, false⟩,
       ⟨(some 31), .load true 4 (.tmp 5), (some (30, false)), [], false, false⟩,
       ⟨(some 32), .call 35 [(.tmp 31)], (some (30, false)), [], false, false⟩,
       ⟨(some 33), .bin .neq (.tmp 32) (.const (.int .i64 0)), (some (30, false)), [], false, false⟩,
       ⟨(some 34), .pick (.tmp 30) (.const (.bool true)) (.tmp 33), none, [], false, false⟩])
    (.cond (.tmp 34) (.seq (.region false [⟨(some 6), .move (.const (.bool true)), none, [], false, false⟩])
      (.ret))
     (.skip)))
   (.seq (.region false [⟨(some 36), .load true 25 (.tmp 3), none, [], false, false⟩,
       ⟨(some 37), .move (.tmp 1), none, [], false, false⟩,
       ⟨(some 38), .load true 4 (.tmp 5), none, [], false, false⟩,
       ⟨(some 39), .call 28 [(.tmp 36), (.tmp 37), (.tmp 38)], none, [], false, false⟩,
       ⟨(some 35), .move (.tmp 39), none, [], false, false⟩,
       ⟨(some 40), .extract (.tmp 35) 0, none, [], false, false⟩,
       ⟨(some 41), .extract (.tmp 35) 1, none, [], false, false⟩,
       ⟨(some 7), .push [(.int .i64 0), (.int .i64 0)], none, [], false, false⟩,
       ⟨none, .store 2 (.tmp 7) (.tmp 40), none, [], false, false⟩,
       ⟨(some 8), .move (.tmp 41), none, [], false, false⟩])
    (.seq (.region false [⟨(some 43), .load true 25 (.tmp 3), none, [], false, false⟩,
        ⟨(some 44), .move (.tmp 1), none, [], false, false⟩,
        ⟨(some 45), .fieldAddr 0 (.tmp 5), none, [], false, false⟩,
        ⟨(some 46), .load false 1 (.tmp 45), none, [], false, false⟩,
        ⟨(some 47), .call 31 [(.tmp 43), (.tmp 44), (.tmp 46)], none, [], false, false⟩,
        ⟨(some 42), .move (.tmp 47), none, [], false, false⟩,
        ⟨(some 48), .extract (.tmp 42) 0, none, [], false, false⟩,
        ⟨(some 49), .extract (.tmp 42) 1, none, [], false, false⟩,
        ⟨(some 9), .push [(.int .i64 0), (.int .i64 0)], none, [], false, false⟩,
        ⟨none, .store 2 (.tmp 9) (.tmp 48), none, [], false, false⟩,
        ⟨(some 10), .move (.tmp 49), none, [], false, false⟩])
     (.seq (.region false [⟨(some 51), .load true 25 (.tmp 3), none, [], false, false⟩,
         ⟨(some 52), .move (.tmp 1), none, [], false, false⟩,
         ⟨(some 53), .fieldAddr 1 (.tmp 5), none, [], false, false⟩,
         ⟨(some 54), .load false 1 (.tmp 53), none, [], false, false⟩,
         ⟨(some 55), .call 31 [(.tmp 51), (.tmp 52), (.tmp 54)], none, [], false, false⟩,
         ⟨(some 50), .move (.tmp 55), none, [], false, false⟩,
         ⟨(some 56), .extract (.tmp 50) 0, none, [], false, false⟩,
         ⟨(some 57), .extract (.tmp 50) 1, none, [], false, false⟩,
         ⟨(some 11), .push [(.int .i64 0), (.int .i64 0)], none, [], false, false⟩,
         ⟨none, .store 2 (.tmp 11) (.tmp 56), none, [], false, false⟩,
         ⟨(some 12), .move (.tmp 57), none, [], false, false⟩])
      (.seq (.seq (.region false [⟨(some 58), .move (.tmp 8), none, [], false, false⟩,
           ⟨(some 59), .bin .neq (.tmp 58) (.const (.int .i64 0)), none, [], false, false⟩,
           ⟨(some 60), .move (.tmp 59), none, [], false, false⟩,
           ⟨(some 61), .move (.tmp 10), (some (60, false)), [], false, false⟩,
           ⟨(some 62), .bin .neq (.tmp 61) (.const (.int .i64 0)), (some (60, false)), [], false, false⟩,
           ⟨(some 63), .pick (.tmp 60) (.const (.bool true)) (.tmp 62), none, [], false, false⟩,
           ⟨(some 64), .move (.tmp 63), none, [], false, false⟩,
           ⟨(some 65), .move (.tmp 12), (some (64, false)), [], false, false⟩,
           ⟨(some 66), .bin .neq (.tmp 65) (.const (.int .i64 0)), (some (64, false)), [], false, false⟩,
           ⟨(some 67), .pick (.tmp 64) (.const (.bool true)) (.tmp 66), none, [], false, false⟩])
        (.cond (.tmp 67) (.seq (.region false [⟨(some 6), .move (.const (.bool false)), none, [], false, false⟩])
          (.ret))
         (.skip)))
       (.seq (.seq (.region false [⟨(some 68), .fieldAddr 0 (.tmp 7), none, [], false, false⟩,
            ⟨(some 69), .load false 1 (.tmp 68), none, [], false, false⟩,
            ⟨(some 70), .fieldAddr 3 (.tmp 5), none, [], false, false⟩,
            ⟨(some 71), .load false 1 (.tmp 70), none, [], false, false⟩,
            ⟨(some 72), .fieldAddr 0 (.tmp 11), none, [], false, false⟩,
            ⟨(some 73), .load false 1 (.tmp 72), none, [], false, false⟩,
            ⟨(some 74), .bin .mul (.tmp 71) (.tmp 73), none, [], false, false⟩,
            ⟨(some 75), .fieldAddr 2 (.tmp 5), none, [], false, false⟩,
            ⟨(some 76), .load false 1 (.tmp 75), none, [], false, false⟩,
            ⟨(some 77), .fieldAddr 1 (.tmp 9), none, [], false, false⟩,
            ⟨(some 78), .load false 1 (.tmp 77), none, [], false, false⟩,
            ⟨(some 79), .bin .mul (.tmp 76) (.tmp 78), none, [], false, false⟩,
            ⟨(some 80), .bin .sub (.tmp 74) (.tmp 79), none, [], false, false⟩,
            ⟨(some 81), .bin .lss (.tmp 69) (.tmp 80), none, [], false, false⟩,
            ⟨(some 82), .move (.tmp 81), none, [], false, false⟩,
            ⟨(some 83), .fieldAddr 1 (.tmp 7), (some (82, false)), [], false, false⟩,
            ⟨(some 84), .load false 1 (.tmp 83), (some (82, false)), [], false, false⟩,
            ⟨(some 85), .fieldAddr 3 (.tmp 5), (some (82, false)), [], false, false⟩,
            ⟨(some 86), .load false 1 (.tmp 85), (some (82, false)), [], false, false⟩,
            ⟨(some 87), .fieldAddr 1 (.tmp 11), (some (82, false)), [], false, false⟩,
            ⟨(some 88), .load false 1 (.tmp 87), (some (82, false)), [], false, false⟩,
            ⟨(some 89), .bin .mul (.tmp 86) (.tmp 88), (some (82, false)), [], false, false⟩,
            ⟨(some 90), .fieldAddr 2 (.tmp 5), (some (82, false)), [], false, false⟩,
            ⟨(some 91), .load false 1 (.tmp 90), (some (82, false)), [], false, false⟩,
            ⟨(some 92), .fieldAddr 0 (.tmp 9), (some (82, false)), [], false, false⟩,
            ⟨(some 93), .load false 1 (.tmp 92), (some (82, false)), [], false, false⟩,
            ⟨(some 94), .bin .mul (.tmp 91) (.tmp 93), (some (82, false)), [], false, false⟩,
            ⟨(some 95), .bin .sub (.tmp 89) (.tmp 94), (some (82, false)), [], false, false⟩,
            ⟨(some 96), .bin .gtr (.tmp 84) (.tmp 95), (some (82, false)), [], false, false⟩,
            ⟨(some 97), .pick (.tmp 82) (.const (.bool true)) (.tmp 96), none, [], false, false⟩])
         (.cond (.tmp 97) (.seq (.region false [⟨(some 6), .move (.const (.bool false)), none, [], false, false⟩])
           (.ret))
          (.skip)))
        (.seq (.seq (.region false [⟨(some 98), .fieldAddr 0 (.tmp 5), none, [], false, false⟩,
             ⟨(some 99), .load false 1 (.tmp 98), none, [], false, false⟩,
             ⟨(some 100), .bin .add (.tmp 99) (.const (.int .i64 12)), none, [], false, false⟩,
             ⟨(some 101), .call 24 [(.tmp 100)], none, [], false, false⟩,
             ⟨(some 102), .un .not (.tmp 101), none, [], false, false⟩])
          (.cond (.tmp 102) (.seq (.region false [⟨(some 6), .move (.const (.bool true)), none, [], false, false⟩])
            (.ret))
           (.skip)))
         (.seq (.region false [⟨(some 104), .load true 25 (.tmp 3), none, [], false, false⟩,
             ⟨(some 105), .move (.tmp 1), none, [], false, false⟩,
             ⟨(some 106), .fieldAddr 0 (.tmp 5), none, [], false, false⟩,
             ⟨(some 107), .load false 1 (.tmp 106), none, [], false, false⟩,
             ⟨(some 108), .bin .add (.tmp 107) (.const (.int .i64 12)), none, [], false, false⟩,
             ⟨(some 109), .call 31 [(.tmp 104), (.tmp 105), (.tmp 108)], none, [], false, false⟩,
             ⟨(some 103), .move (.tmp 109), none, [], false, false⟩,
             ⟨(some 110), .extract (.tmp 103) 0, none, [], false, false⟩,
             ⟨(some 111), .extract (.tmp 103) 1, none, [], false, false⟩,
             ⟨(some 13), .push [(.int .i64 0), (.int .i64 0)], none, [], false, false⟩,
             ⟨none, .store 2 (.tmp 13) (.tmp 110), none, [], false, false⟩,
             ⟨(some 14), .move (.tmp 111), none, [], false, false⟩])
          (.seq (.region false [⟨(some 112), .move (.tmp 14), none, [], false, false⟩,
              ⟨(some 113), .bin .eql (.tmp 112) (.const (.int .i64 0)), none, [], false, false⟩,
              ⟨(some 114), .move (.tmp 113), none, [], false, false⟩,
              ⟨(some 115), .fieldAddr 0 (.tmp 13), (some (114, true)), [], false, false⟩,
              ⟨(some 116), .load false 1 (.tmp 115), (some (114, true)), [], false, false⟩,
              ⟨(some 117), .fieldAddr 0 (.tmp 9), (some (114, true)), [], false, false⟩,
              ⟨(some 118), .load false 1 (.tmp 117), (some (114, true)), [], false, false⟩,
              ⟨(some 119), .bin .mul (.const (.int .i64 2)) (.tmp 118), (some (114, true)), [], false, false⟩,
              ⟨(some 120), .bin .geq (.tmp 116) (.tmp 119), (some (114, true)), [], false, false⟩,
              ⟨(some 121), .pick (.tmp 114) (.tmp 120) (.const (.bool false)), none, [], false, false⟩,
              ⟨(some 122), .move (.tmp 121), none, [], false, false⟩,
              ⟨(some 123), .fieldAddr 1 (.tmp 13), (some (122, true)), [], false, false⟩,
              ⟨(some 124), .load false 1 (.tmp 123), (some (122, true)), [], false, false⟩,
              ⟨(some 125), .fieldAddr 1 (.tmp 9), (some (122, true)), [], false, false⟩,
              ⟨(some 126), .load false 1 (.tmp 125), (some (122, true)), [], false, false⟩,
              ⟨(some 127), .bin .mul (.const (.int .i64 2)) (.tmp 126), (some (122, true)), [], false, false⟩,
              ⟨(some 128), .bin .leq (.tmp 124) (.tmp 127), (some (122, true)), [], false, false⟩,
              ⟨(some 129), .pick (.tmp 122) (.tmp 128) (.const (.bool false)), none, [], false, false⟩,
              ⟨(some 6), .move (.tmp 129), none, [], false, false⟩])
           (.ret))))))))))),
 [.tmp 6], .pure, 130⟩

/-- agraffe/agraffelaw06.TemperCompares -/
def ef16 : EFun := ⟨
 .seq (.region false [⟨(some 2), .box (.tmp 0), none, [], false, false⟩,
    ⟨(some 3), .box (.tmp 1), none, [], false, false⟩,
    ⟨(some 4), .move (.const (.bool false)), none, [], false, false⟩])
 (.seq (.seq (.region false [⟨(some 14), .call 19 [], none, [], false, false⟩,
      ⟨(some 15), .un .not (.tmp 14), none, [], false, false⟩])
   (.cond (.tmp 15) (.seq (.region false [⟨(some 4), .move (.const (.bool false)), none, [], false, false⟩])
     (.ret))
    (.skip)))
  (.seq (.seq (.region false [⟨(some 16), .load true 25 (.tmp 2), none, [], false, false⟩,
       ⟨(some 17), .call 20 [(.tmp 16)], none, [], false, false⟩,
       ⟨(some 18), .un .not (.tmp 17), none, [], false, false⟩,
       ⟨(some 19), .move (.tmp 18), none, [], false, false⟩,
       ⟨(some 20), .load true 25 (.tmp 3), (some (19, false)), [], false, false⟩,
       ⟨(some 21), .call 20 [(.tmp 20)], (some (19, false)), [], false, false⟩,
       ⟨(some 22), .un .not (.tmp 21), (some (19, false)), [], false, false⟩,
       ⟨(some 23), .pick (.tmp 19) (.const (.bool true)) (.tmp 22), none, [], false, false⟩])
    (.cond (.tmp 23) (.seq (.region false [⟨(some 4), .move (.const (.bool true)), none, [], false, false⟩])
      (.ret))
     (.skip)))
   (.seq (.region false [⟨(some 25), .load true 25 (.tmp 2), none, [], false, false⟩,
       ⟨(some 26), .call 71 [(.tmp 25)], none, [], false, false⟩,
       ⟨(some 24), .move (.tmp 26), none, [], false, false⟩,
       ⟨(some 27), .extract (.tmp 24) 0, none, [], false, false⟩,
       ⟨(some 28), .extract (.tmp 24) 1, none, [], false, false⟩,
       ⟨(some 5), .move (.tmp 27), none, [], false, false⟩,
       ⟨(some 6), .move (.tmp 28), none, [], false, false⟩])
    (.seq (.region false [⟨(some 30), .load true 25 (.tmp 2), none, [], false, false⟩,
        ⟨(some 31), .call 72 [(.tmp 30)], none, [], false, false⟩,
        ⟨(some 29), .move (.tmp 31), none, [], false, false⟩,
        ⟨(some 32), .extract (.tmp 29) 0, none, [], false, false⟩,
        ⟨(some 33), .extract (.tmp 29) 1, none, [], false, false⟩,
        ⟨(some 7), .move (.tmp 32), none, [], false, false⟩,
        ⟨(some 8), .move (.tmp 33), none, [], false, false⟩])
     (.seq (.region false [⟨(some 35), .load true 25 (.tmp 2), none, [], false, false⟩,
         ⟨(some 36), .load true 25 (.tmp 3), none, [], false, false⟩,
         ⟨(some 37), .call 73 [(.tmp 35), (.tmp 36)], none, [], false, false⟩,
         ⟨(some 34), .move (.tmp 37), none, [], false, false⟩,
         ⟨(some 38), .extract (.tmp 34) 0, none, [], false, false⟩,
         ⟨(some 39), .extract (.tmp 34) 1, none, [], false, false⟩,
         ⟨(some 9), .move (.tmp 38), none, [], false, false⟩,
         ⟨(some 10), .move (.tmp 39), none, [], false, false⟩])
      (.seq (.region false [⟨(some 40), .load true 25 (.tmp 2), none, [], false, false⟩,
          ⟨(some 41), .call 23 [(.tmp 40)], none, [], false, false⟩,
          ⟨(some 11), .move (.tmp 41), none, [], false, false⟩])
       (.seq (.seq (.region false [⟨(some 42), .move (.tmp 11), none, [], false, false⟩,
            ⟨(some 43), .bin .neq (.tmp 42) (.const (.int .i64 0)), none, [], false, false⟩])
         (.cond (.tmp 43) (.seq (.region false [⟨(some 44), .move (.tmp 6), none, [], false, false⟩,
              ⟨(some 45), .move (.tmp 11), none, [], false, false⟩,
              ⟨(some 46), .bin .eql (.tmp 44) (.tmp 45), none, [], false, false⟩,
              ⟨(some 47), .move (.tmp 46), none, [], false, false⟩,
              ⟨(some 48), .move (.tmp 8), (some (47, true)), [], false, false⟩,
              ⟨(some 49), .move (.tmp 11), (some (47, true)), [], false, false⟩,
              ⟨(some 50), .bin .eql (.tmp 48) (.tmp 49), (some (47, true)), [], false, false⟩,
              ⟨(some 51), .pick (.tmp 47) (.tmp 50) (.const (.bool false)), none, [], false, false⟩,
              ⟨(some 52), .move (.tmp 51), none, [], false, false⟩,
              ⟨(some 53), .move (.tmp 10), (some (52, true)), [], false, false⟩,
              ⟨(some 54), .move (.tmp 11), (some (52, true)), [], false, false⟩,
              ⟨(some 55), .bin .eql (.tmp 53) (.tmp 54), (some (52, true)), [], false, false⟩,
              ⟨(some 56), .pick (.tmp 52) (.tmp 55) (.const (.bool false)), none, [], false, false⟩,
              ⟨(some 57), .move (.tmp 56), none, [], false, false⟩,
              ⟨(some 58), .move (.tmp 5), (some (57, true)), [], false, false⟩,
              ⟨(some 59), .un .not (.tmp 58), (some (57, true)), [], false, false⟩,
              ⟨(some 60), .pick (.tmp 57) (.tmp 59) (.const (.bool false)), none, [], false, false⟩,
              ⟨(some 61), .move (.tmp 60), none, [], false, false⟩,
              ⟨(some 62), .move (.tmp 7), (some (61, true)), [], false, false⟩,
              ⟨(some 63), .bin .eql (.tmp 62) (.const (.int .i64 0)), (some (61, true)), [], false, false⟩,
              ⟨(some 64), .pick (.tmp 61) (.tmp 63) (.const (.bool false)), none, [], false, false⟩,
              ⟨(some 65), .move (.tmp 64), none, [], false, false⟩,
              ⟨(some 66), .move (.tmp 9), (some (65, true)), [], false, false⟩,
              ⟨(some 67), .len false (.tmp 66), (some (65, true)), [], false, false⟩,
              ⟨(some 68), .bin .eql (.tmp 67) (.const (.int .i64 0)), (some (65, true)), [], false, false⟩,
              ⟨(some 69), .pick (.tmp 65) (.tmp 68) (.const (.bool false)), none, [], false, false⟩,
              ⟨(some 4), .move (.tmp 69), none, [], false, false⟩])
           (.ret))
          (.skip)))
        (.seq (.seq (.region false [⟨(some 70), .move (.tmp 6), none, [], false, false⟩,
             ⟨(some 71), .bin .neq (.tmp 70) (.const (.int .i64 0)), none, [], false, false⟩,
             ⟨(some 72), .move (.tmp 71), none, [], false, false⟩,
             ⟨(some 73), .move (.tmp 5), (some (72, false)), [], false, false⟩,
             ⟨(some 74), .load true 25 (.tmp 2), (some (72, false)), [], false, false⟩,
             ⟨(some 75), .call 74 [(.tmp 74)], (some (72, false)), [], false, false⟩,
             ⟨(some 76), .eqBool true (.tmp 73) (.tmp 75), (some (72, false)), [], false, false⟩,
             ⟨(some 77), .pick (.tmp 72) (.const (.bool true)) (.tmp 76), none, [], false, false⟩,
             ⟨(some 78), .move (.tmp 77), none, [], false, false⟩,
             ⟨(some 79), .move (.tmp 8), (some (78, false)), [], false, false⟩,
             ⟨(some 80), .bin .neq (.tmp 79) (.const (.int .i64 0)), (some (78, false)), [], false, false⟩,
             ⟨(some 81), .pick (.tmp 78) (.const (.bool true)) (.tmp 80), none, [], false, false⟩,
             ⟨(some 82), .move (.tmp 81), none, [], false, false⟩,
             ⟨(some 83), .move (.tmp 7), (some (82, false)), [], false, false⟩,
             ⟨(some 84), .load true 25 (.tmp 2), (some (82, false)), [], false, false⟩,
             ⟨(some 85), .call 75 [(.tmp 84)], (some (82, false)), [], false, false⟩,
             ⟨(some 86), .bin .neq (.tmp 83) (.tmp 85), (some (82, false)), [], false, false⟩,
             ⟨(some 87), .pick (.tmp 82) (.const (.bool true)) (.tmp 86), none, [], false, false⟩])
          (.cond (.tmp 87) (.seq (.region false [⟨(some 4), .move (.const (.bool false)), none, [], false, false⟩])
            (.ret))
           (.skip)))
         (.seq (.seq (.region false [⟨(some 88), .load true 25 (.tmp 3), none, [], false, false⟩,
              ⟨(some 89), .call 23 [(.tmp 88)], none, [], false, false⟩,
              ⟨(some 11), .move (.tmp 89), none, [], false, false⟩])
           (.seq (.region false [⟨(some 90), .move (.tmp 11), none, [], false, false⟩,
               ⟨(some 91), .bin .neq (.tmp 90) (.const (.int .i64 0)), none, [], false, false⟩])
            (.cond (.tmp 91) (.seq (.region false [⟨(some 92), .move (.tmp 10), none, [], false, false⟩,
                 ⟨(some 93), .move (.tmp 11), none, [], false, false⟩,
                 ⟨(some 94), .bin .eql (.tmp 92) (.tmp 93), none, [], false, false⟩,
                 ⟨(some 95), .move (.tmp 94), none, [], false, false⟩,
                 ⟨(some 96), .move (.tmp 9), (some (95, true)), [], false, false⟩,
                 ⟨(some 97), .len false (.tmp 96), (some (95, true)), [], false, false⟩,
                 ⟨(some 98), .bin .eql (.tmp 97) (.const (.int .i64 0)), (some (95, true)), [], false, false⟩,
                 ⟨(some 99), .pick (.tmp 95) (.tmp 98) (.const (.bool false)), none, [], false, false⟩,
                 ⟨(some 4), .move (.tmp 99), none, [], false, false⟩])
              (.ret))
             (.skip))))
          (.seq (.region false [⟨(some 101), .load true 25 (.tmp 2), none, [], false, false⟩,
              ⟨(some 102), .load true 25 (.tmp 2), none, [], false, false⟩,
              ⟨(some 103), .call 73 [(.tmp 101), (.tmp 102)], none, [], false, false⟩,
              ⟨(some 100), .move (.tmp 103), none, [], false, false⟩,
              ⟨(some 104), .extract (.tmp 100) 0, none, [], false, false⟩,
              ⟨(some 105), .extract (.tmp 100) 1, none, [], false, false⟩,
              ⟨(some 12), .move (.tmp 104), none, [], false, false⟩,
              ⟨(some 13), .move (.tmp 105), none, [], false, false⟩])
           (.seq (.region false [⟨(some 106), .move (.tmp 10), none, [], false, false⟩,
               ⟨(some 107), .bin .eql (.tmp 106) (.const (.int .i64 0)), none, [], false, false⟩,
               ⟨(some 108), .move (.tmp 107), none, [], false, false⟩,
               ⟨(some 109), .move (.tmp 9), (some (108, true)), [], false, false⟩,
               ⟨(some 110), .load true 25 (.tmp 2), (some (108, true)), [], false, false⟩,
               ⟨(some 111), .load true 25 (.tmp 3), (some (108, true)), [], false, false⟩,
               ⟨(some 112), .call 77 [(.tmp 110), (.tmp 111)], (some (108, true)), [], false, false⟩,
               ⟨(some 113), .call 76 [(.tmp 109), (.tmp 112)], (some (108, true)), [], false, false⟩,
               ⟨(some 114), .pick (.tmp 108) (.tmp 113) (.const (.bool false)), none, [], false, false⟩,
               ⟨(some 115), .move (.tmp 114), none, [], false, false⟩,
               ⟨(some 116), .move (.tmp 13), (some (115, true)), [], false, false⟩,
               ⟨(some 117), .bin .eql (.tmp 116) (.const (.int .i64 0)), (some (115, true)), [], false, false⟩,
               ⟨(some 118), .pick (.tmp 115) (.tmp 117) (.const (.bool false)), none, [], false, false⟩,
               ⟨(some 119), .move (.tmp 118), none, [], false, false⟩,
               ⟨(some 120), .move (.tmp 12), (some (119, true)), [], false, false⟩,
               ⟨(some 121), .makeSlice 1 8 [(.int .i64 0)] (.const (.int .i64 12)) (.const (.int .i64 12)), (some (119, true)), [], false, false⟩,
               ⟨(some 122), .call 76 [(.tmp 120), (.tmp 121)], (some (119, true)), [], false, false⟩,
               ⟨(some 123), .pick (.tmp 119) (.tmp 122) (.const (.bool false)), none, [], false, false⟩,
               ⟨(some 4), .move (.tmp 123), none, [], false, false⟩])
            (.ret)))))))))))),
 [.tmp 4], .pure, 124⟩

/-- agraffe/agraffelaw06.awake -/
def ef19 : EFun := ⟨
 .seq (.region false [⟨(some 0), .move (.const (.bool false)), none, [], false, false⟩])
 (.seq (.region false [⟨(some 7), .call 83 [], none, [], false, false⟩,
     ⟨(some 8), .call 21 [(.tmp 7), (.const (.int .i64 51))], none, [], false, false⟩,
     ⟨(some 6), .move (.tmp 8), none, [], false, false⟩,
     ⟨(some 9), .extract (.tmp 6) 0, none, [], false, false⟩,
     ⟨(some 10), .extract (.tmp 6) 1, none, [], false, false⟩,
     ⟨(some 1), .push [(.int .i64 0), (.int .i64 0), (.int .i64 0), (.int .i64 0)], none, [], false, false⟩,
     ⟨none, .store 4 (.tmp 1) (.tmp 9), none, [], false, false⟩,
     ⟨(some 2), .move (.tmp 10), none, [], false, false⟩])
  (.seq (.region false [⟨(some 12), .call 83 [], none, [], false, false⟩,
      ⟨(some 13), .build [(.int .i64 0), (.int .i64 0), (.int .i64 0), (.int .i64 0)] [(0, 1, (.const (.int .i64 39))), (1, 1, (.const (.int .i64 43))), (2, 1, (.const (.int .i64 5))), (3, 1, (.const (.int .i64 4)))], none, [], false, false⟩,
      ⟨(some 14), .call 28 [(.tmp 12), (.const (.int .i64 440000)), (.tmp 13)], none, [], false, false⟩,
      ⟨(some 11), .move (.tmp 14), none, [], false, false⟩,
      ⟨(some 15), .extract (.tmp 11) 0, none, [], false, false⟩,
      ⟨(some 16), .extract (.tmp 11) 1, none, [], false, false⟩,
      ⟨(some 3), .push [(.int .i64 0), (.int .i64 0)], none, [], false, false⟩,
      ⟨none, .store 2 (.tmp 3) (.tmp 15), none, [], false, false⟩,
      ⟨(some 4), .move (.tmp 16), none, [], false, false⟩])
   (.seq (.region false [⟨(some 17), .call 66 [], none, [], false, false⟩,
       ⟨(some 5), .move (.tmp 17), none, [], false, false⟩])
    (.seq (.region false [⟨(some 18), .move (.tmp 2), none, [], false, false⟩,
        ⟨(some 19), .bin .eql (.tmp 18) (.const (.int .i64 0)), none, [], false, false⟩,
        ⟨(some 20), .move (.tmp 19), none, [], false, false⟩,
        ⟨(some 21), .load true 4 (.tmp 1), (some (20, true)), [], false, false⟩,
        ⟨(some 22), .build [(.int .i64 0), (.int .i64 0), (.int .i64 0), (.int .i64 0)] [(0, 1, (.const (.int .i64 1))), (3, 1, (.const (.int .i64 4)))], (some (20, true)), [], false, false⟩,
        ⟨(some 23), .eqAgg false [(.int .i64), (.int .i64), (.int .i64), (.int .i64)] (.tmp 21) (.tmp 22), (some (20, true)), [], false, false⟩,
        ⟨(some 24), .pick (.tmp 20) (.tmp 23) (.const (.bool false)), none, [], false, false⟩,
        ⟨(some 25), .move (.tmp 24), none, [], false, false⟩,
        ⟨(some 26), .move (.tmp 4), (some (25, true)), [], false, false⟩,
        ⟨(some 27), .bin .eql (.tmp 26) (.const (.int .i64 0)), (some (25, true)), [], false, false⟩,
        ⟨(some 28), .pick (.tmp 25) (.tmp 27) (.const (.bool false)), none, [], false, false⟩,
        ⟨(some 29), .move (.tmp 28), none, [], false, false⟩,
        ⟨(some 30), .load true 2 (.tmp 3), (some (29, true)), [], false, false⟩,
        ⟨(some 31), .build [(.int .i64 0), (.int .i64 0)] [(0, 1, (.const (.int .i64 10382))), (1, 1, (.const (.int .i64 10384)))], (some (29, true)), [], false, false⟩,
        ⟨(some 32), .eqAgg false [(.int .i64), (.int .i64)] (.tmp 30) (.tmp 31), (some (29, true)), [], false, false⟩,
        ⟨(some 33), .pick (.tmp 29) (.tmp 32) (.const (.bool false)), none, [], false, false⟩,
        ⟨(some 34), .move (.tmp 33), none, [], false, false⟩,
        ⟨(some 35), .move (.tmp 5), (some (34, true)), [], false, false⟩,
        ⟨(some 36), .len false (.tmp 35), (some (34, true)), [], false, false⟩,
        ⟨(some 37), .bin .eql (.tmp 36) (.const (.int .i64 13)), (some (34, true)), [], false, false⟩,
        ⟨(some 38), .pick (.tmp 34) (.tmp 37) (.const (.bool false)), none, [], false, false⟩,
        ⟨(some 39), .move (.tmp 38), none, [], false, false⟩,
        ⟨(some 40), .move (.tmp 5), (some (39, true)), [], false, false⟩,
        ⟨(some 41), .indexAddr none 2 (.tmp 40) (.const (.int .i64 12)), (some (39, true)), [], false, false⟩,
        ⟨(some 42), .load true 2 (.tmp 41), (some (39, true)), [], false, false⟩,
        ⟨(some 43), .build [(.int .i64 0), (.int .i64 0)] [(0, 1, (.const (.int .i64 44))), (1, 1, (.const (.int .i64 32)))], (some (39, true)), [], false, false⟩,
        ⟨(some 44), .eqAgg false [(.int .i64), (.int .i64)] (.tmp 42) (.tmp 43), (some (39, true)), [], false, false⟩,
        ⟨(some 45), .pick (.tmp 39) (.tmp 44) (.const (.bool false)), none, [], false, false⟩,
        ⟨(some 0), .move (.tmp 45), none, [], false, false⟩])
     (.ret))))),
 [.tmp 0], .pure, 46⟩

/-- agraffe/agraffelaw06.Brief -/
def ef20 : EFun := ⟨
 .seq (.region false [⟨(some 1), .box (.tmp 0), none, [], false, false⟩,
    ⟨(some 2), .move (.const (.bool false)), none, [], false, false⟩])
 (.seq (.region false [⟨(some 3), .fieldAddr 0 (.tmp 1), none, [], false, false⟩,
     ⟨(some 4), .load false 1 (.tmp 3), none, [], false, false⟩,
     ⟨(some 5), .len true (.tmp 4), none, [], false, false⟩,
     ⟨(some 6), .bin .leq (.tmp 5) (.const (.int .i64 30)), none, [], false, false⟩,
     ⟨(some 2), .move (.tmp 6), none, [], false, false⟩])
  (.ret)),
 [.tmp 2], .pure, 7⟩

/-- agraffe/temper.PitchOf -/
def ef21 : EFun := ⟨
 .seq (.region false [⟨(some 2), .box (.tmp 0), none, [], false, false⟩,
    ⟨(some 4), .push [(.int .i64 0), (.int .i64 0), (.int .i64 0), (.int .i64 0)], none, [], false, false⟩,
    ⟨(some 5), .move (.const (.int .i64 0)), none, [], false, false⟩])
 (.seq (.region false [⟨(some 6), .load true 25 (.tmp 2), none, [], false, false⟩,
     ⟨(some 7), .move (.tmp 1), none, [], false, false⟩,
     ⟨(some 8), .call 22 [(.tmp 6), (.const (.int .i64 48)), (.tmp 7)], none, [], false, false⟩,
     ⟨(some 9), .extract (.tmp 8) 0, none, [], false, false⟩,
     ⟨(some 10), .extract (.tmp 8) 1, none, [], false, false⟩,
     ⟨none, .store 4 (.tmp 4) (.tmp 9), none, [], false, false⟩,
     ⟨(some 5), .move (.tmp 10), none, [], false, false⟩])
  (.ret)),
 [.cell 4 true 4, .tmp 5], .pure, 11⟩

/-- agraffe/temper.Interval -/
def ef22 : EFun := ⟨
 .seq (.region false [⟨(some 3), .box (.tmp 0), none, [], false, false⟩,
    ⟨(some 6), .push [(.int .i64 0), (.int .i64 0), (.int .i64 0), (.int .i64 0)], none, [], false, false⟩,
    ⟨(some 7), .move (.const (.int .i64 0)), none, [], false, false⟩])
 (.seq (.region true [⟨(some 11), .load true 25 (.tmp 3), none, [], false, false⟩,
     ⟨(some 12), .move (.tmp 1), none, [], false, false⟩,
     ⟨(some 13), .call 85 [(.tmp 12)], none, [], false, true⟩,
     ⟨(some 14), .move (.tmp 2), none, [], false, false⟩,
     ⟨(some 15), .call 85 [(.tmp 14)], none, [], false, true⟩,
     ⟨(some 16), .buildSlice 1 2 [(.bool false), (.bool false)] [(0, 1, (.tmp 13)), (1, 1, (.tmp 15))], none, [], false, false⟩,
     ⟨(some 17), .call 84 [(.tmp 11), (.tmp 16)], none, [], false, false⟩,
     ⟨(some 10), .move (.tmp 17), none, [], false, false⟩,
     ⟨(some 18), .extract (.tmp 10) 0, none, [], false, false⟩,
     ⟨(some 19), .extract (.tmp 10) 1, none, [], false, false⟩,
     ⟨(some 8), .move (.tmp 18), none, [], false, false⟩,
     ⟨(some 9), .move (.tmp 19), none, [], false, false⟩])
  (.seq (.seq (.region false [⟨(some 20), .move (.tmp 9), none, [], false, false⟩,
       ⟨(some 21), .bin .neq (.tmp 20) (.const (.int .i64 0)), none, [], false, false⟩])
    (.cond (.tmp 21) (.seq (.region false [⟨(some 22), .build [(.int .i64 0), (.int .i64 0), (.int .i64 0), (.int .i64 0)] [], none, [], false, false⟩,
         ⟨(some 23), .move (.tmp 9), none, [], false, false⟩,
         ⟨none, .store 4 (.tmp 6) (.tmp 22), none, [], false, false⟩,
         ⟨(some 7), .move (.tmp 23), none, [], false, false⟩])
      (.ret))
     (.skip)))
   (.seq (.region false [⟨(some 24), .move (.tmp 8), none, [], false, false⟩,
       ⟨(some 25), .move (.tmp 1), none, [], false, false⟩,
       ⟨(some 26), .move (.tmp 2), none, [], false, false⟩,
       ⟨(some 27), .call 86 [(.tmp 24), (.tmp 25), (.tmp 26)], none, [], false, false⟩,
       ⟨(some 28), .call 87 [(.tmp 27)], none, [], false, false⟩,
       ⟨none, .store 4 (.tmp 6) (.tmp 28), none, [], false, false⟩,
       ⟨(some 7), .move (.const (.int .i64 0)), none, [], false, false⟩])
    (.ret)))),
 [.cell 6 true 4, .tmp 7], .pure, 29⟩

/-- agraffe/agrafferef06.CheckTemperament -/
def ef23 : EFun := ⟨
 .seq (.region false [⟨(some 1), .box (.tmp 0), none, [], false, false⟩,
    ⟨(some 2), .move (.const (.int .i64 0)), none, [], false, false⟩])
 (.seq (.seq (.region false [⟨(some 7), .fieldAddr 0 (.tmp 1), none, [], false, false⟩,
      ⟨(some 8), .load false 1 (.tmp 7), none, [], false, false⟩,
      ⟨(some 9), .call 88 [(.tmp 8)], none, [], false, false⟩,
      ⟨(some 10), .un .not (.tmp 9), none, [], false, false⟩])
   (.cond (.tmp 10) (.seq (.region false [⟨(some 2), .move (.const (.int .i64 4)), none, [], false, false⟩])
     (.ret))
    (.skip)))
  (.seq (.region false [⟨(some 3), .move (.const (.int .i64 0)), none, [], false, false⟩,
      ⟨(some 4), .move (.const (.int .i64 0)), none, [], false, false⟩])
   (.seq (.seq (.region false [⟨(some 5), .move (.const (.int .i64 0)), none, [], false, false⟩])
     (.block 0 (.loop (some [1, 3, 4, 5]) (
       .seq (.seq (.region false [⟨(some 11), .move (.tmp 5), none, [], false, false⟩,
            ⟨(some 12), .bin .lss (.tmp 11) (.const (.int .i64 12)), none, [], false, false⟩])
         (.cond (.tmp 12) (.skip)
          (.exit 0)))
        (.seq (.block 1 (.seq (.seq (.region false [⟨(some 15), .move (.tmp 5), none, [], false, false⟩,
               ⟨(some 16), .fieldAddr 1 (.tmp 1), none, [], false, false⟩,
               ⟨(some 17), .indexAddr (some 12) 1 (.tmp 16) (.tmp 15), none, [], false, false⟩,
               ⟨(some 18), .load false 1 (.tmp 17), none, [], false, false⟩,
               ⟨(some 19), .call 60 [(.tmp 18), (.const (.int .i64 (-48))), (.const (.int .i64 48))], none, [], false, false⟩,
               ⟨(some 20), .un .not (.tmp 19), none, [], false, false⟩,
               ⟨(some 21), .move (.tmp 20), none, [], false, false⟩,
               ⟨(some 22), .move (.tmp 5), (some (21, false)), [], false, false⟩,
               ⟨(some 23), .fieldAddr 13 (.tmp 1), (some (21, false)), [], false, false⟩,
               ⟨(some 24), .indexAddr (some 12) 1 (.tmp 23) (.tmp 22), (some (21, false)), [], false, false⟩,
               ⟨(some 25), .load false 1 (.tmp 24), (some (21, false)), [], false, false⟩,
               ⟨(some 26), .call 60 [(.tmp 25), (.const (.int .i64 (-48))), (.const (.int .i64 48))], (some (21, false)), [], false, false⟩,
               ⟨(some 27), .un .not (.tmp 26), (some (21, false)), [], false, false⟩,
               ⟨(some 28), .pick (.tmp 21) (.const (.bool true)) (.tmp 27), none, [], false, false⟩])
            (.cond (.tmp 28) (.seq (.region false [⟨(some 2), .move (.const (.int .i64 2)), none, [], false, false⟩])
              (.ret))
             (.skip)))
           (.region true [⟨(some 29), .move (.tmp 3), none, [], false, false⟩,
              ⟨(some 30), .move (.tmp 5), none, [], false, false⟩,
              ⟨(some 31), .fieldAddr 1 (.tmp 1), none, [], false, false⟩,
              ⟨(some 32), .indexAddr (some 12) 1 (.tmp 31) (.tmp 30), none, [], false, false⟩,
              ⟨(some 33), .load false 1 (.tmp 32), none, [], false, false⟩,
              ⟨(some 34), .bin .add (.tmp 29) (.tmp 33), none, [], false, false⟩,
              ⟨(some 35), .move (.tmp 4), none, [], false, false⟩,
              ⟨(some 36), .move (.tmp 5), none, [], false, false⟩,
              ⟨(some 37), .fieldAddr 13 (.tmp 1), none, [], false, false⟩,
              ⟨(some 38), .indexAddr (some 12) 1 (.tmp 37) (.tmp 36), none, [], false, false⟩,
              ⟨(some 39), .load false 1 (.tmp 38), none, [], false, false⟩,
              ⟨(some 40), .bin .add (.tmp 35) (.tmp 39), none, [], false, false⟩,
              ⟨(some 3), .move (.tmp 34), none, [], false, false⟩,
              ⟨(some 4), .move (.tmp 40), none, [], false, false⟩])))
         (.region false [⟨(some 13), .move (.tmp 5), none, [], false, false⟩,
            ⟨(some 14), .bin .add (.tmp 13) (.const (.int .i64 1)), none, [], false, false⟩,
            ⟨(some 5), .move (.tmp 14), none, [], false, false⟩]))))))
    (.seq (.seq (.region false [⟨(some 41), .move (.tmp 3), none, [], false, false⟩,
         ⟨(some 42), .bin .neq (.tmp 41) (.const (.int .i64 12)), none, [], false, false⟩,
         ⟨(some 43), .move (.tmp 42), none, [], false, false⟩,
         ⟨(some 44), .move (.tmp 4), (some (43, false)), [], false, false⟩,
         ⟨(some 45), .bin .neq (.tmp 44) (.const (.int .i64 0)), (some (43, false)), [], false, false⟩,
         ⟨(some 46), .pick (.tmp 43) (.const (.bool true)) (.tmp 45), none, [], false, false⟩])
      (.cond (.tmp 46) (.seq (.region false [⟨(some 2), .move (.const (.int .i64 25)), none, [], false, false⟩])
        (.ret))
       (.skip)))
     (.seq (.region false [⟨(some 47), .load true 25 (.tmp 1), none, [], false, false⟩,
         ⟨(some 48), .call 89 [(.tmp 47)], none, [], false, false⟩,
         ⟨(some 6), .push [(.int .i64 0), (.int .i64 0), (.int .i64 0)], none, [], false, false⟩,
         ⟨none, .store 3 (.tmp 6) (.tmp 48), none, [], false, false⟩])
      (.seq (.seq (.region false [⟨(some 49), .indexAddr (some 3) 1 (.tmp 6) (.const (.int .i64 0)), none, [], false, false⟩,
           ⟨(some 50), .load false 1 (.tmp 49), none, [], false, false⟩,
           ⟨(some 51), .indexAddr (some 3) 1 (.tmp 6) (.const (.int .i64 1)), none, [], false, false⟩,
           ⟨(some 52), .load false 1 (.tmp 51), none, [], false, false⟩,
           ⟨(some 53), .indexAddr (some 3) 1 (.tmp 6) (.const (.int .i64 2)), none, [], false, false⟩,
           ⟨(some 54), .load false 1 (.tmp 53), none, [], false, false⟩,
           ⟨(some 55), .max [(.tmp 50), (.tmp 52), (.tmp 54)], none, [], false, false⟩,
           ⟨(some 56), .bin .gtr (.tmp 55) (.const (.int .i64 300)), none, [], false, false⟩])
        (.cond (.tmp 56) (.seq (.region false [⟨(some 2), .move (.const (.int .i64 8)), none, [], false, false⟩])
          (.ret))
         (.skip)))
       (.seq (.region false [⟨(some 2), .move (.const (.int .i64 0)), none, [], false, false⟩])
        (.ret)))))))),
 [.tmp 2], .pure, 57⟩

/-- agraffe/agrafferef06.IsNote -/
def ef24 : EFun := ⟨
 .seq (.region false [⟨(some 2), .move (.const (.bool false)), none, [], false, false⟩])
 (.seq (.region false [⟨(some 3), .move (.tmp 0), none, [], false, false⟩,
     ⟨(some 4), .call 60 [(.tmp 3), (.const (.int .i64 0)), (.const (.int .i64 87))], none, [], false, false⟩,
     ⟨(some 2), .move (.tmp 4), none, [], false, false⟩])
  (.ret)),
 [.tmp 2], .pure, 5⟩

/-- agraffe/agrafferef06.PitchOf -/
def ef25 : EFun := ⟨
 .seq (.region false [⟨(some 2), .box (.tmp 0), none, [], false, false⟩,
    ⟨(some 4), .push [(.int .i64 0), (.int .i64 0), (.int .i64 0)], none, [], false, false⟩])
 (.seq (.region false [⟨(some 5), .load true 25 (.tmp 2), none, [], false, false⟩,
     ⟨(some 6), .move (.tmp 1), none, [], false, false⟩,
     ⟨(some 7), .call 27 [(.tmp 5), (.const (.int .i64 48)), (.tmp 6)], none, [], false, false⟩,
     ⟨none, .store 3 (.tmp 4) (.tmp 7), none, [], false, false⟩])
  (.ret)),
 [.cell 4 true 3], .pure, 8⟩

/-- (agraffe/agrafferef06.Twelfths).Pitch -/
def ef26 : EFun := ⟨
 .seq (.region false [⟨(some 1), .box (.tmp 0), none, [], false, false⟩,
    ⟨(some 2), .push [(.int .i64 0), (.int .i64 0), (.int .i64 0), (.int .i64 0)], none, [], false, false⟩])
 (.seq (.region false [⟨(some 3), .indexAddr (some 3) 1 (.tmp 1) (.const (.int .i64 0)), none, [], false, false⟩,
     ⟨(some 4), .load false 1 (.tmp 3), none, [], false, false⟩,
     ⟨(some 5), .indexAddr (some 3) 1 (.tmp 1) (.const (.int .i64 1)), none, [], false, false⟩,
     ⟨(some 6), .load false 1 (.tmp 5), none, [], false, false⟩,
     ⟨(some 7), .indexAddr (some 3) 1 (.tmp 1) (.const (.int .i64 2)), none, [], false, false⟩,
     ⟨(some 8), .load false 1 (.tmp 7), none, [], false, false⟩,
     ⟨(some 9), .build [(.int .i64 0), (.int .i64 0), (.int .i64 0), (.int .i64 0)] [(0, 1, (.tmp 4)), (1, 1, (.tmp 6)), (2, 1, (.tmp 8)), (3, 1, (.const (.int .i64 12)))], none, [], false, false⟩,
     ⟨(some 10), .call 90 [(.tmp 9)], none, [], false, false⟩,
     ⟨none, .store 4 (.tmp 2) (.tmp 10), none, [], false, false⟩])
  (.ret)),
 [.cell 2 true 4], .pure, 11⟩

/-- agraffe/agrafferef06.Interval -/
def ef27 : EFun := ⟨
 .seq (.region false [⟨(some 3), .box (.tmp 0), none, [], false, false⟩,
    ⟨(some 6), .push [(.int .i64 0), (.int .i64 0), (.int .i64 0)], none, [], false, false⟩])
 (.seq (.region true [⟨(some 7), .load true 25 (.tmp 3), none, [], false, false⟩,
     ⟨(some 8), .move (.tmp 2), none, [], false, false⟩,
     ⟨(some 9), .call 92 [(.tmp 7), (.tmp 8)], none, [], false, true⟩,
     ⟨(some 10), .load true 25 (.tmp 3), none, [], false, false⟩,
     ⟨(some 11), .move (.tmp 1), none, [], false, false⟩,
     ⟨(some 12), .call 92 [(.tmp 10), (.tmp 11)], none, [], false, false⟩,
     ⟨(some 13), .call 91 [(.tmp 9), (.const (.int .i64 (-1))), (.tmp 12)], none, [], false, false⟩,
     ⟨none, .store 3 (.tmp 6) (.tmp 13), none, [], false, false⟩])
  (.ret)),
 [.cell 6 true 3], .pure, 14⟩

/-- agraffe/temper.Beats -/
def ef28 : EFun := ⟨
 .seq (.region false [⟨(some 3), .box (.tmp 0), none, [], false, false⟩,
    ⟨(some 5), .box (.tmp 2), none, [], false, false⟩,
    ⟨(some 6), .push [(.int .i64 0), (.int .i64 0)], none, [], false, false⟩,
    ⟨(some 7), .move (.const (.int .i64 0)), none, [], false, false⟩])
 (.seq (.region true [⟨(some 12), .load true 25 (.tmp 3), none, [], false, false⟩,
     ⟨(some 13), .move (.tmp 1), none, [], false, false⟩,
     ⟨(some 14), .call 93 [(.tmp 13)], none, [], false, true⟩,
     ⟨(some 15), .buildSlice 1 1 [(.bool false)] [(0, 1, (.tmp 14))], none, [], false, false⟩,
     ⟨(some 16), .call 84 [(.tmp 12), (.tmp 15)], none, [], false, false⟩,
     ⟨(some 11), .move (.tmp 16), none, [], false, false⟩,
     ⟨(some 17), .extract (.tmp 11) 0, none, [], false, false⟩,
     ⟨(some 18), .extract (.tmp 11) 1, none, [], false, false⟩,
     ⟨(some 8), .move (.tmp 17), none, [], false, false⟩,
     ⟨(some 9), .move (.tmp 18), none, [], false, false⟩])
  (.seq (.seq (.region false [⟨(some 19), .move (.tmp 9), none, [], false, false⟩,
       ⟨(some 20), .bin .neq (.tmp 19) (.const (.int .i64 0)), none, [], false, false⟩])
    (.cond (.tmp 20) (.seq (.region false [⟨(some 21), .build [(.int .i64 0), (.int .i64 0)] [], none, [], false, false⟩,
         ⟨(some 22), .move (.tmp 9), none, [], false, false⟩,
         ⟨none, .store 2 (.tmp 6) (.tmp 21), none, [], false, false⟩,
         ⟨(some 7), .move (.tmp 22), none, [], false, false⟩])
      (.ret))
     (.skip)))
   (.seq (.seq (.region false [⟨(some 23), .load true 4 (.tmp 5), none, [], false, false⟩,
        ⟨(some 24), .call 35 [(.tmp 23)], none, [], false, false⟩,
        ⟨(some 10), .move (.tmp 24), none, [], false, false⟩])
     (.seq (.region false [⟨(some 25), .move (.tmp 10), none, [], false, false⟩,
         ⟨(some 26), .bin .neq (.tmp 25) (.const (.int .i64 0)), none, [], false, false⟩])
      (.cond (.tmp 26) (.seq (.region false [⟨(some 27), .build [(.int .i64 0), (.int .i64 0)] [], none, [], false, false⟩,
           ⟨(some 28), .move (.tmp 10), none, [], false, false⟩,
           ⟨none, .store 2 (.tmp 6) (.tmp 27), none, [], false, false⟩,
           ⟨(some 7), .move (.tmp 28), none, [], false, false⟩])
        (.ret))
       (.skip))))
    (.seq (.region false [⟨(some 29), .move (.tmp 8), none, [], false, false⟩,
        ⟨(some 30), .move (.tmp 1), none, [], false, false⟩,
        ⟨(some 31), .load true 4 (.tmp 5), none, [], false, false⟩,
        ⟨(some 32), .call 94 [(.tmp 29), (.tmp 30), (.tmp 31)], none, [], false, false⟩,
        ⟨(some 33), .extract (.tmp 32) 0, none, [], false, false⟩,
        ⟨(some 34), .extract (.tmp 32) 1, none, [], false, false⟩,
        ⟨none, .store 2 (.tmp 6) (.tmp 33), none, [], false, false⟩,
        ⟨(some 7), .move (.tmp 34), none, [], false, false⟩])
     (.ret))))),
 [.cell 6 true 2, .tmp 7], .pure, 35⟩

/-- agraffe/agraffelaw06.beatErr -/
def ef29 : EFun := ⟨
 .seq (.region false [⟨(some 3), .box (.tmp 0), none, [], false, false⟩,
    ⟨(some 5), .box (.tmp 2), none, [], false, false⟩,
    ⟨(some 6), .move (.const (.int .i64 0)), none, [], false, false⟩])
 (.seq (.seq (.region false [⟨(some 8), .load true 25 (.tmp 3), none, [], false, false⟩,
      ⟨(some 9), .call 23 [(.tmp 8)], none, [], false, false⟩,
      ⟨(some 7), .move (.tmp 9), none, [], false, false⟩])
   (.seq (.region false [⟨(some 10), .move (.tmp 7), none, [], false, false⟩,
       ⟨(some 11), .bin .neq (.tmp 10) (.const (.int .i64 0)), none, [], false, false⟩])
    (.cond (.tmp 11) (.seq (.region false [⟨(some 12), .move (.tmp 7), none, [], false, false⟩,
         ⟨(some 6), .move (.tmp 12), none, [], false, false⟩])
      (.ret))
     (.skip))))
  (.seq (.seq (.region false [⟨(some 13), .move (.tmp 1), none, [], false, false⟩,
       ⟨(some 14), .call 33 [(.tmp 13)], none, [], false, false⟩,
       ⟨(some 15), .un .not (.tmp 14), none, [], false, false⟩])
    (.cond (.tmp 15) (.seq (.region false [⟨(some 6), .move (.const (.int .i64 2)), none, [], false, false⟩])
      (.ret))
     (.skip)))
   (.seq (.region false [⟨(some 16), .load true 4 (.tmp 5), none, [], false, false⟩,
       ⟨(some 17), .call 36 [(.tmp 16)], none, [], false, false⟩,
       ⟨(some 6), .move (.tmp 17), none, [], false, false⟩])
    (.ret)))),
 [.tmp 6], .pure, 18⟩

/-- agraffe/agrafferef06.Beats -/
def ef30 : EFun := ⟨
 .seq (.region false [⟨(some 3), .box (.tmp 0), none, [], false, false⟩,
    ⟨(some 5), .box (.tmp 2), none, [], false, false⟩,
    ⟨(some 6), .push [(.int .i64 0), (.int .i64 0)], none, [], false, false⟩])
 (.seq (.region true [⟨(some 12), .load true 25 (.tmp 3), none, [], false, false⟩,
     ⟨(some 13), .fieldAddr 1 (.tmp 5), none, [], false, false⟩,
     ⟨(some 14), .load false 1 (.tmp 13), none, [], false, false⟩,
     ⟨(some 15), .call 25 [(.tmp 12), (.tmp 14)], none, [], false, true⟩,
     ⟨(some 16), .call 26 [(.tmp 15)], none, [], false, true⟩,
     ⟨(some 17), .move (.tmp 1), none, [], false, false⟩,
     ⟨(some 18), .fieldAddr 3 (.tmp 5), none, [], false, false⟩,
     ⟨(some 19), .load false 1 (.tmp 18), none, [], false, false⟩,
     ⟨(some 20), .bin .mul (.tmp 17) (.tmp 19), none, [], false, false⟩,
     ⟨(some 21), .call 95 [(.tmp 16), (.tmp 20)], none, [], false, true⟩,
     ⟨(some 11), .move (.tmp 21), none, [], false, false⟩,
     ⟨(some 22), .extract (.tmp 11) 0, none, [], false, false⟩,
     ⟨(some 23), .extract (.tmp 11) 1, none, [], false, false⟩,
     ⟨(some 7), .push [(.int .i64 0), (.int .i64 0)], none, [], false, false⟩,
     ⟨none, .store 2 (.tmp 7) (.tmp 22), none, [], false, false⟩,
     ⟨(some 8), .move (.tmp 23), none, [], false, false⟩])
  (.seq (.region true [⟨(some 25), .load true 25 (.tmp 3), none, [], false, false⟩,
      ⟨(some 26), .fieldAddr 0 (.tmp 5), none, [], false, false⟩,
      ⟨(some 27), .load false 1 (.tmp 26), none, [], false, false⟩,
      ⟨(some 28), .call 25 [(.tmp 25), (.tmp 27)], none, [], false, true⟩,
      ⟨(some 29), .call 26 [(.tmp 28)], none, [], false, true⟩,
      ⟨(some 30), .move (.tmp 1), none, [], false, false⟩,
      ⟨(some 31), .fieldAddr 2 (.tmp 5), none, [], false, false⟩,
      ⟨(some 32), .load false 1 (.tmp 31), none, [], false, false⟩,
      ⟨(some 33), .bin .mul (.tmp 30) (.tmp 32), none, [], false, false⟩,
      ⟨(some 34), .call 95 [(.tmp 29), (.tmp 33)], none, [], false, true⟩,
      ⟨(some 24), .move (.tmp 34), none, [], false, false⟩,
      ⟨(some 35), .extract (.tmp 24) 0, none, [], false, false⟩,
      ⟨(some 36), .extract (.tmp 24) 1, none, [], false, false⟩,
      ⟨(some 9), .push [(.int .i64 0), (.int .i64 0)], none, [], false, false⟩,
      ⟨none, .store 2 (.tmp 9) (.tmp 35), none, [], false, false⟩,
      ⟨(some 10), .move (.tmp 36), none, [], false, false⟩])
   (.seq (.region false [⟨(some 37), .fieldAddr 0 (.tmp 7), none, [], false, false⟩,
       ⟨(some 38), .load false 1 (.tmp 37), none, [], false, false⟩,
       ⟨(some 39), .fieldAddr 1 (.tmp 9), none, [], false, false⟩,
       ⟨(some 40), .load false 1 (.tmp 39), none, [], false, false⟩,
       ⟨(some 41), .bin .sub (.tmp 38) (.tmp 40), none, [], false, false⟩,
       ⟨(some 42), .fieldAddr 1 (.tmp 7), none, [], false, false⟩,
       ⟨(some 43), .load false 1 (.tmp 42), none, [], false, false⟩,
       ⟨(some 44), .fieldAddr 0 (.tmp 9), none, [], false, false⟩,
       ⟨(some 45), .load false 1 (.tmp 44), none, [], false, false⟩,
       ⟨(some 46), .bin .sub (.tmp 43) (.tmp 45), none, [], false, false⟩,
       ⟨(some 47), .build [(.int .i64 0), (.int .i64 0)] [(0, 1, (.tmp 41)), (1, 1, (.tmp 46))], none, [], false, false⟩,
       ⟨none, .store 2 (.tmp 6) (.tmp 47), none, [], false, false⟩])
    (.ret)))),
 [.cell 6 true 2], .pure, 48⟩

/-- agraffe/temper.Frequency -/
def ef31 : EFun := ⟨
 .seq (.region false [⟨(some 3), .box (.tmp 0), none, [], false, false⟩,
    ⟨(some 6), .push [(.int .i64 0), (.int .i64 0)], none, [], false, false⟩,
    ⟨(some 7), .move (.const (.int .i64 0)), none, [], false, false⟩])
 (.seq (.region true [⟨(some 11), .load true 25 (.tmp 3), none, [], false, false⟩,
     ⟨(some 12), .move (.tmp 1), none, [], false, false⟩,
     ⟨(some 13), .call 93 [(.tmp 12)], none, [], false, true⟩,
     ⟨(some 14), .move (.tmp 2), none, [], false, false⟩,
     ⟨(some 15), .call 85 [(.tmp 14)], none, [], false, true⟩,
     ⟨(some 16), .buildSlice 1 2 [(.bool false), (.bool false)] [(0, 1, (.tmp 13)), (1, 1, (.tmp 15))], none, [], false, false⟩,
     ⟨(some 17), .call 84 [(.tmp 11), (.tmp 16)], none, [], false, false⟩,
     ⟨(some 10), .move (.tmp 17), none, [], false, false⟩,
     ⟨(some 18), .extract (.tmp 10) 0, none, [], false, false⟩,
     ⟨(some 19), .extract (.tmp 10) 1, none, [], false, false⟩,
     ⟨(some 8), .move (.tmp 18), none, [], false, false⟩,
     ⟨(some 9), .move (.tmp 19), none, [], false, false⟩])
  (.seq (.seq (.region false [⟨(some 20), .move (.tmp 9), none, [], false, false⟩,
       ⟨(some 21), .bin .neq (.tmp 20) (.const (.int .i64 0)), none, [], false, false⟩])
    (.cond (.tmp 21) (.seq (.region false [⟨(some 22), .build [(.int .i64 0), (.int .i64 0)] [], none, [], false, false⟩,
         ⟨(some 23), .move (.tmp 9), none, [], false, false⟩,
         ⟨none, .store 2 (.tmp 6) (.tmp 22), none, [], false, false⟩,
         ⟨(some 7), .move (.tmp 23), none, [], false, false⟩])
      (.ret))
     (.skip)))
   (.seq (.region false [⟨(some 24), .move (.tmp 8), none, [], false, false⟩,
       ⟨(some 25), .move (.tmp 1), none, [], false, false⟩,
       ⟨(some 26), .move (.tmp 2), none, [], false, false⟩,
       ⟨(some 27), .call 96 [(.tmp 24), (.tmp 25), (.tmp 26)], none, [], false, false⟩,
       ⟨(some 28), .extract (.tmp 27) 0, none, [], false, false⟩,
       ⟨(some 29), .extract (.tmp 27) 1, none, [], false, false⟩,
       ⟨none, .store 2 (.tmp 6) (.tmp 28), none, [], false, false⟩,
       ⟨(some 7), .move (.tmp 29), none, [], false, false⟩])
    (.ret)))),
 [.cell 6 true 2, .tmp 7], .pure, 30⟩

/-- agraffe/temper.Scale -/
def ef32 : EFun := ⟨
 .seq (.region false [⟨(some 2), .box (.tmp 0), none, [], false, false⟩,
    ⟨(some 4), .move (.const (.slice none 0 0)), none, [], false, false⟩,
    ⟨(some 5), .move (.const (.int .i64 0)), none, [], false, false⟩])
 (.seq (.region true [⟨(some 13), .load true 25 (.tmp 2), none, [], false, false⟩,
     ⟨(some 14), .move (.tmp 1), none, [], false, false⟩,
     ⟨(some 15), .call 93 [(.tmp 14)], none, [], false, true⟩,
     ⟨(some 16), .buildSlice 1 1 [(.bool false)] [(0, 1, (.tmp 15))], none, [], false, false⟩,
     ⟨(some 17), .call 84 [(.tmp 13), (.tmp 16)], none, [], false, false⟩,
     ⟨(some 12), .move (.tmp 17), none, [], false, false⟩,
     ⟨(some 18), .extract (.tmp 12) 0, none, [], false, false⟩,
     ⟨(some 19), .extract (.tmp 12) 1, none, [], false, false⟩,
     ⟨(some 6), .move (.tmp 18), none, [], false, false⟩,
     ⟨(some 7), .move (.tmp 19), none, [], false, false⟩])
  (.seq (.seq (.region false [⟨(some 20), .move (.tmp 7), none, [], false, false⟩,
       ⟨(some 21), .bin .neq (.tmp 20) (.const (.int .i64 0)), none, [], false, false⟩])
    (.cond (.tmp 21) (.seq (.region false [⟨(some 22), .move (.tmp 7), none, [], false, false⟩,
         ⟨(some 4), .move (.const (.slice none 0 0)), none, [], false, false⟩,
         ⟨(some 5), .move (.tmp 22), none, [], false, false⟩])
      (.ret))
     (.skip)))
   (.seq (.region false [⟨(some 8), .move (.const (.slice none 0 0)), none, [], false, false⟩])
    (.seq (.seq (.region false [⟨(some 23), .move (.const (.int .i64 0)), none, [], false, false⟩])
      (.block 0 (.loop (some [1, 6, 8, 23]) (
        .seq (.region false [⟨(some 24), .bin .lss (.tmp 23) (.const (.int .i64 88)), none, [], false, false⟩])
         (.seq (.cond (.tmp 24) (.skip)
           (.exit 0))
          (.seq (.block 1 (.seq (.region false [⟨(some 25), .move (.tmp 23), none, [], false, false⟩,
                ⟨(some 9), .move (.tmp 25), none, [], false, false⟩])
             (.seq (.region false [⟨(some 27), .move (.tmp 6), none, [], false, false⟩,
                 ⟨(some 28), .move (.tmp 1), none, [], false, false⟩,
                 ⟨(some 29), .move (.tmp 9), none, [], false, false⟩,
                 ⟨(some 30), .call 96 [(.tmp 27), (.tmp 28), (.tmp 29)], none, [], false, false⟩,
                 ⟨(some 26), .move (.tmp 30), none, [], false, false⟩,
                 ⟨(some 31), .extract (.tmp 26) 0, none, [], false, false⟩,
                 ⟨(some 32), .extract (.tmp 26) 1, none, [], false, false⟩,
                 ⟨(some 10), .push [(.int .i64 0), (.int .i64 0)], none, [], false, false⟩,
                 ⟨none, .store 2 (.tmp 10) (.tmp 31), none, [], false, false⟩,
                 ⟨(some 11), .move (.tmp 32), none, [], false, false⟩])
              (.seq (.seq (.region false [⟨(some 33), .move (.tmp 11), none, [], false, false⟩,
                   ⟨(some 34), .bin .neq (.tmp 33) (.const (.int .i64 0)), none, [], false, false⟩])
                (.cond (.tmp 34) (.seq (.region false [⟨(some 35), .move (.tmp 11), none, [], false, false⟩,
                     ⟨(some 4), .move (.const (.slice none 0 0)), none, [], false, false⟩,
                     ⟨(some 5), .move (.tmp 35), none, [], false, false⟩])
                  (.ret))
                 (.skip)))
               (.region false [⟨(some 36), .move (.tmp 8), none, [], false, false⟩,
                  ⟨(some 37), .load true 2 (.tmp 10), none, [], false, false⟩,
                  ⟨(some 38), .buildSlice 2 1 [(.int .i64 0), (.int .i64 0)] [(0, 2, (.tmp 37))], none, [], false, false⟩,
                  ⟨(some 39), .append 2 16 (.tmp 36) (.tmp 38), none, [], false, false⟩,
                  ⟨(some 8), .move (.tmp 39), none, [], false, false⟩])))))
           (.region false [⟨(some 40), .bin .add (.tmp 23) (.const (.int .i64 1)), none, [], false, false⟩,
              ⟨(some 23), .move (.tmp 40), none, [], false, false⟩])))))))
     (.seq (.region false [⟨(some 41), .move (.tmp 8), none, [], false, false⟩,
         ⟨(some 4), .move (.tmp 41), none, [], false, false⟩,
         ⟨(some 5), .move (.const (.int .i64 0)), none, [], false, false⟩])
      (.ret)))))),
 [.tmp 4, .tmp 5], .pure, 42⟩

/-- agraffe/agrafferef06.IsFork -/
def ef33 : EFun := ⟨
 .seq (.region false [⟨(some 2), .move (.const (.bool false)), none, [], false, false⟩])
 (.seq (.region false [⟨(some 3), .move (.tmp 0), none, [], false, false⟩,
     ⟨(some 4), .call 60 [(.tmp 3), (.const (.int .i64 1)), (.const (.int .i64 1000000))], none, [], false, false⟩,
     ⟨(some 2), .move (.tmp 4), none, [], false, false⟩])
  (.ret)),
 [.tmp 2], .pure, 5⟩

/-- agraffe/agrafferef06.Frequency -/
def ef34 : EFun := ⟨
 .seq (.region false [⟨(some 3), .box (.tmp 0), none, [], false, false⟩,
    ⟨(some 6), .push [(.int .i64 0), (.int .i64 0)], none, [], false, false⟩])
 (.seq (.region false [⟨(some 10), .load true 25 (.tmp 3), none, [], false, false⟩,
     ⟨(some 11), .move (.tmp 2), none, [], false, false⟩,
     ⟨(some 12), .call 25 [(.tmp 10), (.tmp 11)], none, [], false, false⟩,
     ⟨(some 13), .call 26 [(.tmp 12)], none, [], false, false⟩,
     ⟨(some 14), .move (.tmp 1), none, [], false, false⟩,
     ⟨(some 15), .call 95 [(.tmp 13), (.tmp 14)], none, [], false, false⟩,
     ⟨(some 9), .move (.tmp 15), none, [], false, false⟩,
     ⟨(some 16), .extract (.tmp 9) 0, none, [], false, false⟩,
     ⟨(some 17), .extract (.tmp 9) 1, none, [], false, false⟩,
     ⟨(some 7), .push [(.int .i64 0), (.int .i64 0)], none, [], false, false⟩,
     ⟨none, .store 2 (.tmp 7) (.tmp 16), none, [], false, false⟩,
     ⟨(some 8), .move (.tmp 17), none, [], false, false⟩])
  (.seq (.region false [⟨(some 18), .load true 2 (.tmp 7), none, [], false, false⟩,
      ⟨none, .store 2 (.tmp 6) (.tmp 18), none, [], false, false⟩])
   (.ret))),
 [.cell 6 true 2], .pure, 19⟩

/-- agraffe/temper.CheckTest -/
def ef35 : EFun := ⟨
 .seq (.region false [⟨(some 1), .box (.tmp 0), none, [], false, false⟩,
    ⟨(some 2), .move (.const (.int .i64 0)), none, [], false, false⟩])
 (.seq (.seq (.region false [⟨(some 7), .fieldAddr 0 (.tmp 1), none, [], false, false⟩,
      ⟨(some 8), .load false 1 (.tmp 7), none, [], false, false⟩,
      ⟨(some 9), .call 85 [(.tmp 8)], none, [], false, false⟩,
      ⟨(some 10), .un .not (.tmp 9), none, [], false, false⟩,
      ⟨(some 11), .move (.tmp 10), none, [], false, false⟩,
      ⟨(some 12), .fieldAddr 1 (.tmp 1), (some (11, false)), [], false, false⟩,
      ⟨(some 13), .load false 1 (.tmp 12), (some (11, false)), [], false, false⟩,
      ⟨(some 14), .call 85 [(.tmp 13)], (some (11, false)), [], false, false⟩,
      ⟨(some 15), .un .not (.tmp 14), (some (11, false)), [], false, false⟩,
      ⟨(some 16), .pick (.tmp 11) (.const (.bool true)) (.tmp 15), none, [], false, false⟩,
      ⟨(some 17), .move (.tmp 16), none, [], false, false⟩,
      ⟨(some 18), .fieldAddr 2 (.tmp 1), (some (17, false)), [], false, false⟩,
      ⟨(some 19), .load false 1 (.tmp 18), (some (17, false)), [], false, false⟩,
      ⟨(some 20), .call 97 [(.tmp 19)], (some (17, false)), [], false, false⟩,
      ⟨(some 21), .un .not (.tmp 20), (some (17, false)), [], false, false⟩,
      ⟨(some 22), .pick (.tmp 17) (.const (.bool true)) (.tmp 21), none, [], false, false⟩,
      ⟨(some 23), .move (.tmp 22), none, [], false, false⟩,
      ⟨(some 24), .fieldAddr 3 (.tmp 1), (some (23, false)), [], false, false⟩,
      ⟨(some 25), .load false 1 (.tmp 24), (some (23, false)), [], false, false⟩,
      ⟨(some 26), .call 97 [(.tmp 25)], (some (23, false)), [], false, false⟩,
      ⟨(some 27), .un .not (.tmp 26), (some (23, false)), [], false, false⟩,
      ⟨(some 28), .pick (.tmp 23) (.const (.bool true)) (.tmp 27), none, [], false, false⟩])
   (.cond (.tmp 28) (.seq (.region false [⟨(some 2), .move (.const (.int .i64 2)), none, [], false, false⟩])
     (.ret))
    (.skip)))
  (.seq (.seq (.region false [⟨(some 29), .fieldAddr 1 (.tmp 1), none, [], false, false⟩,
       ⟨(some 30), .load false 1 (.tmp 29), none, [], false, false⟩,
       ⟨(some 31), .fieldAddr 0 (.tmp 1), none, [], false, false⟩,
       ⟨(some 32), .load false 1 (.tmp 31), none, [], false, false⟩,
       ⟨(some 33), .bin .leq (.tmp 30) (.tmp 32), none, [], false, false⟩])
    (.cond (.tmp 33) (.seq (.region false [⟨(some 2), .move (.const (.int .i64 9)), none, [], false, false⟩])
      (.ret))
     (.skip)))
   (.seq (.seq (.region false [⟨(some 34), .fieldAddr 2 (.tmp 1), none, [], false, false⟩,
        ⟨(some 35), .load false 1 (.tmp 34), none, [], false, false⟩,
        ⟨(some 36), .fieldAddr 3 (.tmp 1), none, [], false, false⟩,
        ⟨(some 37), .load false 1 (.tmp 36), none, [], false, false⟩,
        ⟨(some 38), .build [(.int .i64 0), (.int .i64 0)] [(0, 1, (.tmp 35)), (1, 1, (.tmp 37))], none, [], false, false⟩,
        ⟨(some 39), .move (.const (.int .i64 0)), none, [], false, false⟩])
     (.block 0 (.loop (some [38, 39]) (
       .seq (.region false [⟨(some 40), .bin .lss (.tmp 39) (.const (.int .i64 2)), none, [], false, false⟩])
        (.seq (.cond (.tmp 40) (.skip)
          (.exit 0))
         (.seq (.block 1 (.seq (.region false [⟨(some 41), .index 2 1 false (.tmp 38) (.tmp 39), none, [], false, false⟩,
               ⟨(some 4), .move (.tmp 41), none, [], false, false⟩])
            (.seq (.region false [⟨(some 43), .move (.tmp 4), none, [], false, false⟩,
                ⟨(some 44), .call 98 [(.tmp 43)], none, [], false, false⟩,
                ⟨(some 42), .move (.tmp 44), none, [], false, false⟩,
                ⟨(some 45), .extract (.tmp 42) 0, none, [], false, false⟩,
                ⟨(some 46), .extract (.tmp 42) 1, none, [], false, false⟩,
                ⟨(some 5), .push [(.int .i64 0), (.int .i64 0), (.int .i64 0)], none, [], false, false⟩,
                ⟨none, .store 3 (.tmp 5) (.tmp 45), none, [], false, false⟩,
                ⟨(some 6), .move (.tmp 46), none, [], false, false⟩])
             (.seq (.region false [⟨(some 47), .move (.tmp 6), none, [], false, false⟩,
                 ⟨(some 48), .un .not (.tmp 47), none, [], false, false⟩])
              (.cond (.tmp 48) (.seq (.region false [⟨(some 2), .move (.const (.int .i64 15)), none, [], false, false⟩])
                (.ret))
               (.skip))))))
          (.region false [⟨(some 49), .bin .add (.tmp 39) (.const (.int .i64 1)), none, [], false, false⟩,
             ⟨(some 39), .move (.tmp 49), none, [], false, false⟩])))))))
    (.seq (.region false [⟨(some 2), .move (.const (.int .i64 0)), none, [], false, false⟩])
     (.ret))))),
 [.tmp 2], .pure, 50⟩

/-- agraffe/agrafferef06.CheckTest -/
def ef36 : EFun := ⟨
 .seq (.region false [⟨(some 1), .box (.tmp 0), none, [], false, false⟩,
    ⟨(some 2), .move (.const (.int .i64 0)), none, [], false, false⟩])
 (.seq (.seq (.region false [⟨(some 7), .fieldAddr 0 (.tmp 1), none, [], false, false⟩,
      ⟨(some 8), .load false 1 (.tmp 7), none, [], false, false⟩,
      ⟨(some 9), .call 24 [(.tmp 8)], none, [], false, false⟩,
      ⟨(some 10), .un .not (.tmp 9), none, [], false, false⟩,
      ⟨(some 11), .move (.tmp 10), none, [], false, false⟩,
      ⟨(some 12), .fieldAddr 1 (.tmp 1), (some (11, false)), [], false, false⟩,
      ⟨(some 13), .load false 1 (.tmp 12), (some (11, false)), [], false, false⟩,
      ⟨(some 14), .call 24 [(.tmp 13)], (some (11, false)), [], false, false⟩,
      ⟨(some 15), .un .not (.tmp 14), (some (11, false)), [], false, false⟩,
      ⟨(some 16), .pick (.tmp 11) (.const (.bool true)) (.tmp 15), none, [], false, false⟩,
      ⟨(some 17), .move (.tmp 16), none, [], false, false⟩,
      ⟨(some 18), .fieldAddr 2 (.tmp 1), (some (17, false)), [], false, false⟩,
      ⟨(some 19), .load false 1 (.tmp 18), (some (17, false)), [], false, false⟩,
      ⟨(some 20), .call 60 [(.tmp 19), (.const (.int .i64 1)), (.const (.int .i64 16))], (some (17, false)), [], false, false⟩,
      ⟨(some 21), .un .not (.tmp 20), (some (17, false)), [], false, false⟩,
      ⟨(some 22), .pick (.tmp 17) (.const (.bool true)) (.tmp 21), none, [], false, false⟩,
      ⟨(some 23), .move (.tmp 22), none, [], false, false⟩,
      ⟨(some 24), .fieldAddr 3 (.tmp 1), (some (23, false)), [], false, false⟩,
      ⟨(some 25), .load false 1 (.tmp 24), (some (23, false)), [], false, false⟩,
      ⟨(some 26), .call 60 [(.tmp 25), (.const (.int .i64 1)), (.const (.int .i64 16))], (some (23, false)), [], false, false⟩,
      ⟨(some 27), .un .not (.tmp 26), (some (23, false)), [], false, false⟩,
      ⟨(some 28), .pick (.tmp 23) (.const (.bool true)) (.tmp 27), none, [], false, false⟩])
   (.cond (.tmp 28) (.seq (.region false [⟨(some 2), .move (.const (.int .i64 2)), none, [], false, false⟩])
     (.ret))
    (.skip)))
  (.seq (.seq (.region false [⟨(some 29), .fieldAddr 1 (.tmp 1), none, [], false, false⟩,
       ⟨(some 30), .load false 1 (.tmp 29), none, [], false, false⟩,
       ⟨(some 31), .fieldAddr 0 (.tmp 1), none, [], false, false⟩,
       ⟨(some 32), .load false 1 (.tmp 31), none, [], false, false⟩,
       ⟨(some 33), .bin .leq (.tmp 30) (.tmp 32), none, [], false, false⟩])
    (.cond (.tmp 33) (.seq (.region false [⟨(some 2), .move (.const (.int .i64 9)), none, [], false, false⟩])
      (.ret))
     (.skip)))
   (.seq (.region false [⟨(some 35), .fieldAddr 2 (.tmp 1), none, [], false, false⟩,
       ⟨(some 36), .load false 1 (.tmp 35), none, [], false, false⟩,
       ⟨(some 37), .call 99 [(.tmp 36)], none, [], false, false⟩,
       ⟨(some 34), .move (.tmp 37), none, [], false, false⟩,
       ⟨(some 38), .extract (.tmp 34) 0, none, [], false, false⟩,
       ⟨(some 39), .extract (.tmp 34) 1, none, [], false, false⟩,
       ⟨(some 3), .push [(.int .i64 0), (.int .i64 0), (.int .i64 0)], none, [], false, false⟩,
       ⟨none, .store 3 (.tmp 3) (.tmp 38), none, [], false, false⟩,
       ⟨(some 4), .move (.tmp 39), none, [], false, false⟩])
    (.seq (.region false [⟨(some 41), .fieldAddr 3 (.tmp 1), none, [], false, false⟩,
        ⟨(some 42), .load false 1 (.tmp 41), none, [], false, false⟩,
        ⟨(some 43), .call 99 [(.tmp 42)], none, [], false, false⟩,
        ⟨(some 40), .move (.tmp 43), none, [], false, false⟩,
        ⟨(some 44), .extract (.tmp 40) 0, none, [], false, false⟩,
        ⟨(some 45), .extract (.tmp 40) 1, none, [], false, false⟩,
        ⟨(some 5), .push [(.int .i64 0), (.int .i64 0), (.int .i64 0)], none, [], false, false⟩,
        ⟨none, .store 3 (.tmp 5) (.tmp 44), none, [], false, false⟩,
        ⟨(some 6), .move (.tmp 45), none, [], false, false⟩])
     (.seq (.seq (.region false [⟨(some 46), .move (.tmp 4), none, [], false, false⟩,
          ⟨(some 47), .un .not (.tmp 46), none, [], false, false⟩,
          ⟨(some 48), .move (.tmp 47), none, [], false, false⟩,
          ⟨(some 49), .move (.tmp 6), (some (48, false)), [], false, false⟩,
          ⟨(some 50), .un .not (.tmp 49), (some (48, false)), [], false, false⟩,
          ⟨(some 51), .pick (.tmp 48) (.const (.bool true)) (.tmp 50), none, [], false, false⟩])
       (.cond (.tmp 51) (.seq (.region false [⟨(some 2), .move (.const (.int .i64 15)), none, [], false, false⟩])
         (.ret))
        (.skip)))
      (.seq (.region false [⟨(some 2), .move (.const (.int .i64 0)), none, [], false, false⟩])
       (.ret))))))),
 [.tmp 2], .pure, 52⟩

end Go.Abs.T
