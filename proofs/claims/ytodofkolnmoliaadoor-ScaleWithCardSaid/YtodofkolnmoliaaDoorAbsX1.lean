/- The functions, compiled for the abstract evaluator. Written by wip/abs/Print.lean. -/
import Derived.Test.YtodofkolnmoliaaDoorAbsX0
set_option linter.unusedSimpArgs false
set_option linter.unusedVariables false
set_option maxRecDepth 100000
set_option maxHeartbeats 0
namespace Go.Abs.X
open Go Go.Abs
/-- agraffe/agraffelaw02.ScaleStringings -/
def ef4 : EFun := ⟨
 .seq (.region false [⟨(some 2), .box (.tmp 0), none, [], false, false⟩,
    ⟨(some 4), .move (.const (.bool false)), none, [], false, false⟩])
 (.seq (.seq (.region false [⟨(some 16), .call 19 [], none, [], false, false⟩,
      ⟨(some 17), .un .not (.tmp 16), none, [], false, false⟩])
   (.cond (.tmp 17) (.seq (.region false [⟨(some 4), .move (.const (.bool false)), none, [], false, false⟩])
     (.ret))
    (.skip)))
  (.seq (.seq (.region false [⟨(some 18), .load true 3 (.tmp 2), none, [], false, false⟩,
       ⟨(some 19), .call 20 [(.tmp 18)], none, [], false, false⟩,
       ⟨(some 20), .un .not (.tmp 19), none, [], false, false⟩])
    (.cond (.tmp 20) (.seq (.region false [⟨(some 4), .move (.const (.bool true)), none, [], false, false⟩])
      (.ret))
     (.skip)))
   (.seq (.region false [⟨(some 22), .load true 3 (.tmp 2), none, [], false, false⟩,
       ⟨(some 23), .call 22 [(.tmp 22)], none, [], false, false⟩,
       ⟨(some 24), .call 21 [(.tmp 23)], none, [], false, false⟩,
       ⟨(some 21), .move (.tmp 24), none, [], false, false⟩,
       ⟨(some 25), .extract (.tmp 21) 0, none, [], false, false⟩,
       ⟨(some 26), .extract (.tmp 21) 1, none, [], false, false⟩,
       ⟨(some 5), .move (.tmp 25), none, [], false, false⟩,
       ⟨(some 6), .move (.tmp 26), none, [], false, false⟩])
    (.seq (.region false [⟨(some 28), .load true 3 (.tmp 2), none, [], false, false⟩,
        ⟨(some 29), .call 22 [(.tmp 28)], none, [], false, false⟩,
        ⟨(some 30), .call 23 [(.tmp 29)], none, [], false, false⟩,
        ⟨(some 27), .move (.tmp 30), none, [], false, false⟩,
        ⟨(some 31), .extract (.tmp 27) 0, none, [], false, false⟩,
        ⟨(some 32), .extract (.tmp 27) 1, none, [], false, false⟩,
        ⟨(some 7), .move (.tmp 31), none, [], false, false⟩,
        ⟨(some 8), .move (.tmp 32), none, [], false, false⟩])
     (.seq (.region false [⟨(some 34), .load true 3 (.tmp 2), none, [], false, false⟩,
         ⟨(some 35), .call 22 [(.tmp 34)], none, [], false, false⟩,
         ⟨(some 36), .call 24 [(.tmp 35)], none, [], false, false⟩,
         ⟨(some 33), .move (.tmp 36), none, [], false, false⟩,
         ⟨(some 37), .extract (.tmp 33) 0, none, [], false, false⟩,
         ⟨(some 38), .extract (.tmp 33) 1, none, [], false, false⟩,
         ⟨(some 9), .push [(.int .i64 0), (.int .i64 0)], none, [], false, false⟩,
         ⟨none, .store 2 (.tmp 9) (.tmp 37), none, [], false, false⟩,
         ⟨(some 10), .move (.tmp 38), none, [], false, false⟩])
      (.seq (.region false [⟨(some 40), .load true 3 (.tmp 2), none, [], false, false⟩,
          ⟨(some 41), .call 22 [(.tmp 40)], none, [], false, false⟩,
          ⟨(some 42), .move (.tmp 1), none, [], false, false⟩,
          ⟨(some 43), .call 25 [(.tmp 41), (.tmp 42)], none, [], false, false⟩,
          ⟨(some 39), .move (.tmp 43), none, [], false, false⟩,
          ⟨(some 44), .extract (.tmp 39) 0, none, [], false, false⟩,
          ⟨(some 45), .extract (.tmp 39) 1, none, [], false, false⟩,
          ⟨(some 11), .push [(.int .i64 0), (.int .i64 0)], none, [], false, false⟩,
          ⟨none, .store 2 (.tmp 11) (.tmp 44), none, [], false, false⟩,
          ⟨(some 12), .move (.tmp 45), none, [], false, false⟩])
       (.seq (.region false [⟨(some 47), .load true 3 (.tmp 2), none, [], false, false⟩,
           ⟨(some 48), .call 26 [(.tmp 47)], none, [], false, false⟩,
           ⟨(some 46), .move (.tmp 48), none, [], false, false⟩,
           ⟨(some 49), .extract (.tmp 46) 0, none, [], false, false⟩,
           ⟨(some 50), .extract (.tmp 46) 1, none, [], false, false⟩,
           ⟨(some 13), .move (.tmp 49), none, [], false, false⟩,
           ⟨(some 14), .move (.tmp 50), none, [], false, false⟩])
        (.seq (.seq (.region false [⟨(some 51), .move (.tmp 5), none, [], false, false⟩,
             ⟨(some 52), .move (.tmp 13), none, [], false, false⟩,
             ⟨(some 53), .bin .neq (.tmp 51) (.tmp 52), none, [], false, false⟩,
             ⟨(some 54), .move (.tmp 53), none, [], false, false⟩,
             ⟨(some 55), .move (.tmp 6), (some (54, false)), [], false, false⟩,
             ⟨(some 56), .move (.tmp 14), (some (54, false)), [], false, false⟩,
             ⟨(some 57), .bin .neq (.tmp 55) (.tmp 56), (some (54, false)), [], false, false⟩,
             ⟨(some 58), .pick (.tmp 54) (.const (.bool true)) (.tmp 57), none, [], false, false⟩])
          (.cond (.tmp 58) (.seq (.region false [⟨(some 4), .move (.const (.bool false)), none, [], false, false⟩])
            (.ret))
           (.skip)))
         (.seq (.seq (.region false [⟨(some 59), .move (.tmp 14), none, [], false, false⟩,
              ⟨(some 60), .bin .neq (.tmp 59) (.const (.int .i64 0)), none, [], false, false⟩])
           (.cond (.tmp 60) (.seq (.region false [⟨(some 61), .move (.tmp 8), none, [], false, false⟩,
                ⟨(some 62), .move (.tmp 14), none, [], false, false⟩,
                ⟨(some 63), .bin .eql (.tmp 61) (.tmp 62), none, [], false, false⟩,
                ⟨(some 64), .move (.tmp 63), none, [], false, false⟩,
                ⟨(some 65), .move (.tmp 10), (some (64, true)), [], false, false⟩,
                ⟨(some 66), .move (.tmp 14), (some (64, true)), [], false, false⟩,
                ⟨(some 67), .bin .eql (.tmp 65) (.tmp 66), (some (64, true)), [], false, false⟩,
                ⟨(some 68), .pick (.tmp 64) (.tmp 67) (.const (.bool false)), none, [], false, false⟩,
                ⟨(some 69), .move (.tmp 68), none, [], false, false⟩,
                ⟨(some 70), .move (.tmp 12), (some (69, true)), [], false, false⟩,
                ⟨(some 71), .move (.tmp 14), (some (69, true)), [], false, false⟩,
                ⟨(some 72), .bin .eql (.tmp 70) (.tmp 71), (some (69, true)), [], false, false⟩,
                ⟨(some 73), .pick (.tmp 69) (.tmp 72) (.const (.bool false)), none, [], false, false⟩,
                ⟨(some 74), .move (.tmp 73), none, [], false, false⟩,
                ⟨(some 75), .move (.tmp 7), (some (74, true)), [], false, false⟩,
                ⟨(some 76), .len false (.tmp 75), (some (74, true)), [], false, false⟩,
                ⟨(some 77), .bin .eql (.tmp 76) (.const (.int .i64 0)), (some (74, true)), [], false, false⟩,
                ⟨(some 78), .pick (.tmp 74) (.tmp 77) (.const (.bool false)), none, [], false, false⟩,
                ⟨(some 79), .move (.tmp 78), none, [], false, false⟩,
                ⟨(some 80), .load true 2 (.tmp 9), (some (79, true)), [], false, false⟩,
                ⟨(some 81), .build [(.int .i64 0), (.int .i64 0)] [], (some (79, true)), [], false, false⟩,
                ⟨(some 82), .eqAgg false [(.int .i64), (.int .i64)] (.tmp 80) (.tmp 81), (some (79, true)), [], false, false⟩,
                ⟨(some 83), .pick (.tmp 79) (.tmp 82) (.const (.bool false)), none, [], false, false⟩,
                ⟨(some 84), .move (.tmp 83), none, [], false, false⟩,
                ⟨(some 85), .load true 2 (.tmp 11), (some (84, true)), [], false, false⟩,
                ⟨(some 86), .build [(.int .i64 0), (.int .i64 0)] [], (some (84, true)), [], false, false⟩,
                ⟨(some 87), .eqAgg false [(.int .i64), (.int .i64)] (.tmp 85) (.tmp 86), (some (84, true)), [], false, false⟩,
                ⟨(some 88), .pick (.tmp 84) (.tmp 87) (.const (.bool false)), none, [], false, false⟩,
                ⟨(some 4), .move (.tmp 88), none, [], false, false⟩])
             (.ret))
            (.skip)))
          (.seq (.region false [⟨(some 89), .load true 3 (.tmp 2), none, [], false, false⟩,
              ⟨(some 90), .call 27 [(.tmp 89)], none, [], false, false⟩,
              ⟨(some 15), .push [(.int .i64 0), (.slice none 0 0), (.slice none 0 0), (.slice none 0 0)], none, [], false, false⟩,
              ⟨none, .store 4 (.tmp 15) (.tmp 90), none, [], false, false⟩])
           (.seq (.seq (.region true [⟨(some 91), .move (.tmp 8), none, [], false, false⟩,
                ⟨(some 92), .bin .neq (.tmp 91) (.const (.int .i64 0)), none, [], false, false⟩,
                ⟨(some 93), .move (.tmp 92), none, [], false, false⟩,
                ⟨(some 94), .move (.tmp 10), (some (93, false)), [], false, false⟩,
                ⟨(some 95), .bin .neq (.tmp 94) (.const (.int .i64 0)), (some (93, false)), [], false, false⟩,
                ⟨(some 96), .pick (.tmp 93) (.const (.bool true)) (.tmp 95), none, [], false, false⟩,
                ⟨(some 97), .move (.tmp 96), none, [], false, false⟩,
                ⟨(some 98), .move (.tmp 7), (some (97, false)), [], false, false⟩,
                ⟨(some 99), .load true 4 (.tmp 15), (some (97, false)), [], false, false⟩,
                ⟨(some 100), .call 29 [(.tmp 99)], (some (97, false)), [], false, false⟩,
                ⟨(some 101), .call 28 [(.tmp 98), (.tmp 100)], (some (97, false)), [], false, false⟩,
                ⟨(some 102), .un .not (.tmp 101), (some (97, false)), [], false, false⟩,
                ⟨(some 103), .pick (.tmp 97) (.const (.bool true)) (.tmp 102), none, [], false, false⟩,
                ⟨(some 104), .move (.tmp 103), none, [], false, false⟩,
                ⟨(some 105), .load true 2 (.tmp 9), (some (104, false)), [], false, false⟩,
                ⟨(some 106), .load true 4 (.tmp 15), (some (104, false)), [], false, false⟩,
                ⟨(some 107), .call 30 [(.tmp 106)], (some (104, false)), [], false, true⟩,
                ⟨(some 108), .eqAgg true [(.int .i64), (.int .i64)] (.tmp 105) (.tmp 107), (some (104, false)), [], false, false⟩,
                ⟨(some 109), .pick (.tmp 104) (.const (.bool true)) (.tmp 108), none, [], false, false⟩])
             (.cond (.tmp 109) (.seq (.region false [⟨(some 4), .move (.const (.bool false)), none, [], false, false⟩])
               (.ret))
              (.skip)))
            (.seq (.seq (.region false [⟨(some 110), .move (.tmp 1), none, [], false, false⟩,
                 ⟨(some 111), .fieldAddr 2 (.tmp 2), none, [], false, false⟩,
                 ⟨(some 112), .load false 1 (.tmp 111), none, [], false, false⟩,
                 ⟨(some 113), .len false (.tmp 112), none, [], false, false⟩,
                 ⟨(some 114), .bin .sub (.tmp 113) (.const (.int .i64 1)), none, [], false, false⟩,
                 ⟨(some 115), .call 18 [(.tmp 110), (.const (.int .i64 0)), (.tmp 114)], none, [], false, false⟩,
                 ⟨(some 116), .un .not (.tmp 115), none, [], false, false⟩])
              (.cond (.tmp 116) (.seq (.region false [⟨(some 117), .move (.tmp 12), none, [], false, false⟩,
                   ⟨(some 118), .bin .eql (.tmp 117) (.const (.int .i64 6)), none, [], false, false⟩,
                   ⟨(some 119), .move (.tmp 118), none, [], false, false⟩,
                   ⟨(some 120), .load true 2 (.tmp 11), (some (119, true)), [], false, false⟩,
                   ⟨(some 121), .build [(.int .i64 0), (.int .i64 0)] [], (some (119, true)), [], false, false⟩,
                   ⟨(some 122), .eqAgg false [(.int .i64), (.int .i64)] (.tmp 120) (.tmp 121), (some (119, true)), [], false, false⟩,
                   ⟨(some 123), .pick (.tmp 119) (.tmp 122) (.const (.bool false)), none, [], false, false⟩,
                   ⟨(some 4), .move (.tmp 123), none, [], false, false⟩])
                (.ret))
               (.skip)))
             (.seq (.region true [⟨(some 124), .move (.tmp 12), none, [], false, false⟩,
                 ⟨(some 125), .bin .eql (.tmp 124) (.const (.int .i64 0)), none, [], false, false⟩,
                 ⟨(some 126), .move (.tmp 125), none, [], false, false⟩,
                 ⟨(some 127), .load true 2 (.tmp 11), (some (126, true)), [], false, false⟩,
                 ⟨(some 128), .fieldAddr 3 (.tmp 15), (some (126, true)), [], false, false⟩,
                 ⟨(some 129), .load false 1 (.tmp 128), (some (126, true)), [], false, false⟩,
                 ⟨(some 130), .move (.tmp 1), (some (126, true)), [], false, false⟩,
                 ⟨(some 131), .indexAddr none 2 (.tmp 129) (.tmp 130), (some (126, true)), [], false, false⟩,
                 ⟨(some 132), .load true 2 (.tmp 131), (some (126, true)), [], false, false⟩,
                 ⟨(some 133), .eqAgg false [(.int .i64), (.int .i64)] (.tmp 127) (.tmp 132), (some (126, true)), [], false, false⟩,
                 ⟨(some 134), .pick (.tmp 126) (.tmp 133) (.const (.bool false)), none, [], false, false⟩,
                 ⟨(some 4), .move (.tmp 134), none, [], false, false⟩])
              (.ret)))))))))))))),
 [.tmp 4], .pure, 135⟩

/-- agraffe/agraffelaw02.ScaleWith -/
def ef5 : EFun := ⟨
 .seq (.region false [⟨(some 3), .box (.tmp 0), none, [], false, false⟩,
    ⟨(some 6), .move (.const (.bool false)), none, [], false, false⟩])
 (.seq (.seq (.region false [⟨(some 13), .call 19 [], none, [], false, false⟩,
      ⟨(some 14), .un .not (.tmp 13), none, [], false, false⟩])
   (.cond (.tmp 14) (.seq (.region false [⟨(some 6), .move (.const (.bool false)), none, [], false, false⟩])
     (.ret))
    (.skip)))
  (.seq (.seq (.region false [⟨(some 15), .load true 3 (.tmp 3), none, [], false, false⟩,
       ⟨(some 16), .call 20 [(.tmp 15)], none, [], false, false⟩,
       ⟨(some 17), .un .not (.tmp 16), none, [], false, false⟩,
       ⟨(some 18), .move (.tmp 17), none, [], false, false⟩,
       ⟨(some 19), .move (.tmp 1), (some (18, false)), [], false, false⟩,
       ⟨(some 20), .call 31 [(.tmp 19)], (some (18, false)), [], false, false⟩,
       ⟨(some 21), .un .not (.tmp 20), (some (18, false)), [], false, false⟩,
       ⟨(some 22), .pick (.tmp 18) (.const (.bool true)) (.tmp 21), none, [], false, false⟩,
       ⟨(some 23), .move (.tmp 22), none, [], false, false⟩,
       ⟨(some 24), .move (.tmp 2), (some (23, false)), [], false, false⟩,
       ⟨(some 25), .len false (.tmp 24), (some (23, false)), [], false, false⟩,
       ⟨(some 26), .bin .gtr (.tmp 25) (.const (.int .i64 10)), (some (23, false)), [], false, false⟩,
       ⟨(some 27), .pick (.tmp 23) (.const (.bool true)) (.tmp 26), none, [], false, false⟩])
    (.cond (.tmp 27) (.seq (.region false [⟨(some 6), .move (.const (.bool true)), none, [], false, false⟩])
      (.ret))
     (.skip)))
   (.seq (.region false [⟨(some 29), .load true 3 (.tmp 3), none, [], false, false⟩,
       ⟨(some 30), .call 22 [(.tmp 29)], none, [], false, false⟩,
       ⟨(some 31), .move (.tmp 1), none, [], false, false⟩,
       ⟨(some 32), .call 17 [(.tmp 31)], none, [], false, false⟩,
       ⟨(some 33), .move (.tmp 2), none, [], false, false⟩,
       ⟨(some 34), .call 17 [(.tmp 33)], none, [], false, false⟩,
       ⟨(some 35), .call 32 [(.tmp 30), (.tmp 32), (.tmp 34)], none, [], false, false⟩,
       ⟨(some 28), .move (.tmp 35), none, [], false, false⟩,
       ⟨(some 36), .extract (.tmp 28) 0, none, [], false, false⟩,
       ⟨(some 37), .extract (.tmp 28) 1, none, [], false, false⟩,
       ⟨(some 7), .push [(.int .i64 0), (.slice none 0 0), (.slice none 0 0)], none, [], false, false⟩,
       ⟨none, .store 3 (.tmp 7) (.tmp 36), none, [], false, false⟩,
       ⟨(some 8), .move (.tmp 37), none, [], false, false⟩])
    (.seq (.seq (.region false [⟨(some 39), .load true 3 (.tmp 3), none, [], false, false⟩,
         ⟨(some 40), .call 26 [(.tmp 39)], none, [], false, false⟩,
         ⟨(some 38), .move (.tmp 40), none, [], false, false⟩,
         ⟨(some 41), .extract (.tmp 38) 0, none, [], false, false⟩,
         ⟨(some 42), .extract (.tmp 38) 1, none, [], false, false⟩,
         ⟨(some 9), .move (.tmp 41), none, [], false, false⟩,
         ⟨(some 10), .move (.tmp 42), none, [], false, false⟩])
      (.seq (.region false [⟨(some 43), .move (.tmp 10), none, [], false, false⟩,
          ⟨(some 44), .bin .neq (.tmp 43) (.const (.int .i64 0)), none, [], false, false⟩])
       (.cond (.tmp 44) (.seq (.region false [⟨(some 45), .move (.tmp 8), none, [], false, false⟩,
            ⟨(some 46), .move (.tmp 10), none, [], false, false⟩,
            ⟨(some 47), .bin .eql (.tmp 45) (.tmp 46), none, [], false, false⟩,
            ⟨(some 48), .move (.tmp 47), none, [], false, false⟩,
            ⟨(some 49), .load true 3 (.tmp 7), (some (48, true)), [], false, false⟩,
            ⟨(some 50), .build [(.int .i64 0), (.slice none 0 0), (.slice none 0 0)] [], (some (48, true)), [], false, false⟩,
            ⟨(some 51), .call 33 [(.tmp 49), (.tmp 50)], (some (48, true)), [], false, false⟩,
            ⟨(some 52), .pick (.tmp 48) (.tmp 51) (.const (.bool false)), none, [], false, false⟩,
            ⟨(some 6), .move (.tmp 52), none, [], false, false⟩])
         (.ret))
        (.skip))))
     (.seq (.region false [⟨(some 54), .load true 3 (.tmp 3), none, [], false, false⟩,
         ⟨(some 55), .move (.tmp 1), none, [], false, false⟩,
         ⟨(some 56), .move (.tmp 2), none, [], false, false⟩,
         ⟨(some 57), .call 34 [(.tmp 54), (.tmp 55), (.tmp 56)], none, [], false, false⟩,
         ⟨(some 53), .move (.tmp 57), none, [], false, false⟩,
         ⟨(some 58), .extract (.tmp 53) 0, none, [], false, false⟩,
         ⟨(some 59), .extract (.tmp 53) 1, none, [], false, false⟩,
         ⟨(some 11), .push [(.int .i64 0), (.slice none 0 0), (.slice none 0 0)], none, [], false, false⟩,
         ⟨none, .store 3 (.tmp 11) (.tmp 58), none, [], false, false⟩,
         ⟨(some 12), .move (.tmp 59), none, [], false, false⟩])
      (.seq (.region false [⟨(some 60), .move (.tmp 8), none, [], false, false⟩,
          ⟨(some 61), .move (.tmp 12), none, [], false, false⟩,
          ⟨(some 62), .bin .eql (.tmp 60) (.tmp 61), none, [], false, false⟩,
          ⟨(some 63), .move (.tmp 62), none, [], false, false⟩,
          ⟨(some 64), .load true 3 (.tmp 7), (some (63, true)), [], false, false⟩,
          ⟨(some 65), .load true 3 (.tmp 11), (some (63, true)), [], false, false⟩,
          ⟨(some 66), .call 33 [(.tmp 64), (.tmp 65)], (some (63, true)), [], false, false⟩,
          ⟨(some 67), .pick (.tmp 63) (.tmp 66) (.const (.bool false)), none, [], false, false⟩,
          ⟨(some 6), .move (.tmp 67), none, [], false, false⟩])
       (.ret))))))),
 [.tmp 6], .pure, 68⟩

/-- agraffe/scale.LengthSystem -/
def ef14 : EFun := ⟨
 .seq (.region false [⟨(some 3), .box (.tmp 1), none, [], false, false⟩,
    ⟨(some 4), .move (.const (.slice none 0 0)), none, [], false, false⟩,
    ⟨(some 5), .move (.const (.int .i64 0)), none, [], false, false⟩])
 (.seq (.seq (.region false [⟨(some 13), .move (.tmp 0), none, [], false, false⟩,
      ⟨(some 14), .len false (.tmp 13), none, [], false, false⟩,
      ⟨(some 15), .bin .gtr (.tmp 14) (.const (.int .i64 50)), none, [], false, false⟩])
   (.cond (.tmp 15) (.seq (.region false [⟨(some 4), .move (.const (.slice none 0 0)), none, [], false, false⟩,
        ⟨(some 5), .move (.const (.int .i64 8)), none, [], false, false⟩])
     (.ret))
    (.skip)))
  (.seq (.seq (.region false [⟨(some 16), .move (.tmp 0), none, [], false, false⟩,
       ⟨(some 17), .len false (.tmp 16), none, [], false, false⟩,
       ⟨(some 18), .move (.const (.int .i64 0)), none, [], false, false⟩])
    (.block 0 (.loop (some [0, 3, 16, 17, 18]) (
      .seq (.region false [⟨(some 19), .bin .lss (.tmp 18) (.tmp 17), none, [], false, false⟩])
       (.seq (.cond (.tmp 19) (.skip)
         (.exit 0))
        (.seq (.block 1 (.seq (.region false [⟨(some 20), .indexAddr none 2 (.tmp 16) (.tmp 18), none, [], false, false⟩,
              ⟨(some 21), .load true 2 (.tmp 20), none, [], false, false⟩,
              ⟨(some 7), .push [(.int .i64 0), (.int .i64 0)], none, [], false, false⟩,
              ⟨none, .store 2 (.tmp 7) (.tmp 21), none, [], false, false⟩])
           (.seq (.region false [⟨(some 22), .fieldAddr 0 (.tmp 7), none, [], false, false⟩,
               ⟨(some 23), .load false 1 (.tmp 22), none, [], false, false⟩,
               ⟨(some 24), .bin .lss (.tmp 23) (.const (.int .i64 1000)), none, [], false, false⟩,
               ⟨(some 25), .move (.tmp 24), none, [], false, false⟩,
               ⟨(some 26), .fieldAddr 0 (.tmp 7), (some (25, false)), [], false, false⟩,
               ⟨(some 27), .load false 1 (.tmp 26), (some (25, false)), [], false, false⟩,
               ⟨(some 28), .fieldAddr 1 (.tmp 7), (some (25, false)), [], false, false⟩,
               ⟨(some 29), .load false 1 (.tmp 28), (some (25, false)), [], false, false⟩,
               ⟨(some 30), .bin .gtr (.tmp 27) (.tmp 29), (some (25, false)), [], false, false⟩,
               ⟨(some 31), .pick (.tmp 25) (.const (.bool true)) (.tmp 30), none, [], false, false⟩,
               ⟨(some 32), .move (.tmp 31), none, [], false, false⟩,
               ⟨(some 33), .fieldAddr 1 (.tmp 7), (some (32, false)), [], false, false⟩,
               ⟨(some 34), .load false 1 (.tmp 33), (some (32, false)), [], false, false⟩,
               ⟨(some 35), .bin .gtr (.tmp 34) (.const (.int .i64 300000)), (some (32, false)), [], false, false⟩,
               ⟨(some 36), .pick (.tmp 32) (.const (.bool true)) (.tmp 35), none, [], false, false⟩])
            (.cond (.tmp 36) (.seq (.region false [⟨(some 4), .move (.const (.slice none 0 0)), none, [], false, false⟩,
                 ⟨(some 5), .move (.const (.int .i64 2)), none, [], false, false⟩])
              (.ret))
             (.skip)))))
         (.region false [⟨(some 37), .bin .add (.tmp 18) (.const (.int .i64 1)), none, [], false, false⟩,
            ⟨(some 18), .move (.tmp 37), none, [], false, false⟩])))))))
   (.seq (.seq (.region false [⟨(some 38), .fieldAddr 0 (.tmp 3), none, [], false, false⟩,
        ⟨(some 39), .load false 1 (.tmp 38), none, [], false, false⟩,
        ⟨(some 40), .bin .lss (.tmp 39) (.const (.int .i64 (-300000))), none, [], false, false⟩,
        ⟨(some 41), .move (.tmp 40), none, [], false, false⟩,
        ⟨(some 42), .fieldAddr 0 (.tmp 3), (some (41, false)), [], false, false⟩,
        ⟨(some 43), .load false 1 (.tmp 42), (some (41, false)), [], false, false⟩,
        ⟨(some 44), .fieldAddr 1 (.tmp 3), (some (41, false)), [], false, false⟩,
        ⟨(some 45), .load false 1 (.tmp 44), (some (41, false)), [], false, false⟩,
        ⟨(some 46), .bin .gtr (.tmp 43) (.tmp 45), (some (41, false)), [], false, false⟩,
        ⟨(some 47), .pick (.tmp 41) (.const (.bool true)) (.tmp 46), none, [], false, false⟩,
        ⟨(some 48), .move (.tmp 47), none, [], false, false⟩,
        ⟨(some 49), .fieldAddr 1 (.tmp 3), (some (48, false)), [], false, false⟩,
        ⟨(some 50), .load false 1 (.tmp 49), (some (48, false)), [], false, false⟩,
        ⟨(some 51), .bin .gtr (.tmp 50) (.const (.int .i64 300000)), (some (48, false)), [], false, false⟩,
        ⟨(some 52), .pick (.tmp 48) (.const (.bool true)) (.tmp 51), none, [], false, false⟩])
     (.cond (.tmp 52) (.seq (.region false [⟨(some 4), .move (.const (.slice none 0 0)), none, [], false, false⟩,
          ⟨(some 5), .move (.const (.int .i64 2)), none, [], false, false⟩])
       (.ret))
      (.skip)))
    (.seq (.region false [⟨(some 53), .move (.tmp 0), none, [], false, false⟩,
        ⟨(some 54), .len false (.tmp 53), none, [], false, false⟩,
        ⟨(some 8), .move (.tmp 54), none, [], false, false⟩])
     (.seq (.region false [⟨(some 9), .move (.const (.slice none 0 0)), none, [], false, false⟩])
      (.seq (.seq (.region false [⟨(some 55), .move (.tmp 0), none, [], false, false⟩,
           ⟨(some 56), .len false (.tmp 55), none, [], false, false⟩,
           ⟨(some 57), .move (.const (.int .i64 0)), none, [], false, false⟩])
        (.block 2 (.loop (some [3, 8, 9, 55, 56, 57]) (
          .seq (.region false [⟨(some 58), .bin .lss (.tmp 57) (.tmp 56), none, [], false, false⟩])
           (.seq (.cond (.tmp 58) (.skip)
             (.exit 2))
            (.seq (.block 3 (.seq (.region false [⟨(some 59), .move (.tmp 57), none, [], false, false⟩,
                  ⟨(some 60), .indexAddr none 2 (.tmp 55) (.tmp 57), none, [], false, false⟩,
                  ⟨(some 61), .load true 2 (.tmp 60), none, [], false, false⟩,
                  ⟨(some 11), .push [(.int .i64 0), (.int .i64 0)], none, [], false, false⟩,
                  ⟨(some 10), .move (.tmp 59), none, [], false, false⟩,
                  ⟨none, .store 2 (.tmp 11) (.tmp 61), none, [], false, false⟩])
               (.region false [⟨(some 62), .move (.tmp 9), none, [], false, false⟩,
                  ⟨(some 63), .move (.tmp 8), none, [], false, false⟩,
                  ⟨(some 64), .move (.tmp 10), none, [], false, false⟩,
                  ⟨(some 65), .fieldAddr 1 (.tmp 11), none, [], false, false⟩,
                  ⟨(some 66), .load false 1 (.tmp 65), none, [], false, false⟩,
                  ⟨(some 67), .build [(.int .i64 0), (.int .i64 0), (.int .i64 0)] [(0, 1, (.tmp 63)), (1, 1, (.tmp 64)), (2, 1, (.tmp 66))], none, [], false, false⟩,
                  ⟨(some 68), .move (.tmp 10), none, [], false, false⟩,
                  ⟨(some 69), .move (.tmp 8), none, [], false, false⟩,
                  ⟨(some 70), .fieldAddr 0 (.tmp 11), none, [], false, false⟩,
                  ⟨(some 71), .load false 1 (.tmp 70), none, [], false, false⟩,
                  ⟨(some 72), .un .neg (.tmp 71), none, [], false, false⟩,
                  ⟨(some 73), .build [(.int .i64 0), (.int .i64 0), (.int .i64 0)] [(0, 1, (.tmp 68)), (1, 1, (.tmp 69)), (2, 1, (.tmp 72))], none, [], false, false⟩,
                  ⟨(some 74), .buildSlice 3 2 [(.int .i64 0), (.int .i64 0), (.int .i64 0), (.int .i64 0), (.int .i64 0), (.int .i64 0)] [(0, 3, (.tmp 67)), (3, 3, (.tmp 73))], none, [], false, false⟩,
                  ⟨(some 75), .append 3 24 (.tmp 62) (.tmp 74), none, [], false, false⟩,
                  ⟨(some 9), .move (.tmp 75), none, [], false, false⟩])))
             (.region false [⟨(some 76), .bin .add (.tmp 57) (.const (.int .i64 1)), none, [], false, false⟩,
                ⟨(some 57), .move (.tmp 76), none, [], false, false⟩])))))))
       (.seq (.seq (.region false [⟨(some 12), .move (.const (.int .i64 1)), none, [], false, false⟩])
         (.block 4 (.loop (some [3, 8, 9, 12]) (
           .seq (.seq (.region false [⟨(some 77), .move (.tmp 12), none, [], false, false⟩,
                ⟨(some 78), .move (.tmp 8), none, [], false, false⟩,
                ⟨(some 79), .bin .lss (.tmp 77) (.tmp 78), none, [], false, false⟩])
             (.cond (.tmp 79) (.skip)
              (.exit 4)))
            (.seq (.block 5 (.region false [⟨(some 82), .move (.tmp 9), none, [], false, false⟩,
                 ⟨(some 83), .move (.tmp 12), none, [], false, false⟩,
                 ⟨(some 84), .bin .sub (.tmp 83) (.const (.int .i64 1)), none, [], false, false⟩,
                 ⟨(some 85), .move (.tmp 12), none, [], false, false⟩,
                 ⟨(some 86), .fieldAddr 0 (.tmp 3), none, [], false, false⟩,
                 ⟨(some 87), .load false 1 (.tmp 86), none, [], false, false⟩,
                 ⟨(some 88), .un .neg (.tmp 87), none, [], false, false⟩,
                 ⟨(some 89), .build [(.int .i64 0), (.int .i64 0), (.int .i64 0)] [(0, 1, (.tmp 84)), (1, 1, (.tmp 85)), (2, 1, (.tmp 88))], none, [], false, false⟩,
                 ⟨(some 90), .move (.tmp 12), none, [], false, false⟩,
                 ⟨(some 91), .move (.tmp 12), none, [], false, false⟩,
                 ⟨(some 92), .bin .sub (.tmp 91) (.const (.int .i64 1)), none, [], false, false⟩,
                 ⟨(some 93), .fieldAddr 1 (.tmp 3), none, [], false, false⟩,
                 ⟨(some 94), .load false 1 (.tmp 93), none, [], false, false⟩,
                 ⟨(some 95), .build [(.int .i64 0), (.int .i64 0), (.int .i64 0)] [(0, 1, (.tmp 90)), (1, 1, (.tmp 92)), (2, 1, (.tmp 94))], none, [], false, false⟩,
                 ⟨(some 96), .buildSlice 3 2 [(.int .i64 0), (.int .i64 0), (.int .i64 0), (.int .i64 0), (.int .i64 0), (.int .i64 0)] [(0, 3, (.tmp 89)), (3, 3, (.tmp 95))], none, [], false, false⟩,
                 ⟨(some 97), .append 3 24 (.tmp 82) (.tmp 96), none, [], false, false⟩,
                 ⟨(some 9), .move (.tmp 97), none, [], false, false⟩]))
             (.region false [⟨(some 80), .move (.tmp 12), none, [], false, false⟩,
                ⟨(some 81), .bin .add (.tmp 80) (.const (.int .i64 1)), none, [], false, false⟩,
                ⟨(some 12), .move (.tmp 81), none, [], false, false⟩]))))))
        (.seq (.region false [⟨(some 98), .move (.tmp 9), none, [], false, false⟩,
            ⟨(some 4), .move (.tmp 98), none, [], false, false⟩,
            ⟨(some 5), .move (.const (.int .i64 0)), none, [], false, false⟩])
         (.ret))))))))),
 [.tmp 4, .tmp 5], .pure, 99⟩

/-- agraffe/scale.SmoothLengths -/
def ef15 : EFun := ⟨
 .seq (.region false [⟨(some 3), .box (.tmp 1), none, [], false, false⟩,
    ⟨(some 4), .move (.const (.slice none 0 0)), none, [], false, false⟩,
    ⟨(some 5), .move (.const (.slice none 0 0)), none, [], false, false⟩,
    ⟨(some 6), .move (.const (.int .i64 0)), none, [], false, false⟩])
 (.seq (.region false [⟨(some 17), .move (.tmp 0), none, [], false, false⟩,
     ⟨(some 18), .load true 2 (.tmp 3), none, [], false, false⟩,
     ⟨(some 19), .call 14 [(.tmp 17), (.tmp 18)], none, [], false, false⟩,
     ⟨(some 16), .move (.tmp 19), none, [], false, false⟩,
     ⟨(some 20), .extract (.tmp 16) 0, none, [], false, false⟩,
     ⟨(some 21), .extract (.tmp 16) 1, none, [], false, false⟩,
     ⟨(some 7), .move (.tmp 20), none, [], false, false⟩,
     ⟨(some 8), .move (.tmp 21), none, [], false, false⟩])
  (.seq (.seq (.region false [⟨(some 22), .move (.tmp 8), none, [], false, false⟩,
       ⟨(some 23), .bin .neq (.tmp 22) (.const (.int .i64 0)), none, [], false, false⟩])
    (.cond (.tmp 23) (.seq (.region false [⟨(some 24), .move (.tmp 8), none, [], false, false⟩,
         ⟨(some 4), .move (.const (.slice none 0 0)), none, [], false, false⟩,
         ⟨(some 5), .move (.const (.slice none 0 0)), none, [], false, false⟩,
         ⟨(some 6), .move (.tmp 24), none, [], false, false⟩])
      (.ret))
     (.skip)))
   (.seq (.seq (.region false [⟨(some 26), .move (.tmp 0), none, [], false, false⟩,
        ⟨(some 27), .len false (.tmp 26), none, [], false, false⟩,
        ⟨(some 28), .bin .add (.tmp 27) (.const (.int .i64 1)), none, [], false, false⟩,
        ⟨(some 29), .move (.tmp 7), none, [], false, false⟩,
        ⟨(some 30), .call 16 [(.tmp 28), (.tmp 29)], none, [], false, false⟩,
        ⟨(some 25), .move (.tmp 30), none, [], false, false⟩,
        ⟨(some 31), .extract (.tmp 25) 0, none, [], false, false⟩,
        ⟨(some 32), .extract (.tmp 25) 1, none, [], false, false⟩,
        ⟨(some 33), .extract (.tmp 25) 2, none, [], false, false⟩,
        ⟨(some 9), .move (.tmp 31), none, [], false, false⟩,
        ⟨(some 10), .move (.tmp 32), none, [], false, false⟩,
        ⟨(some 11), .move (.tmp 33), none, [], false, false⟩])
     (.seq (.region false [⟨(some 34), .move (.tmp 11), none, [], false, false⟩,
         ⟨(some 35), .bin .neq (.tmp 34) (.const (.int .i64 0)), none, [], false, false⟩])
      (.cond (.tmp 35) (.seq (.region false [⟨(some 36), .move (.tmp 10), none, [], false, false⟩,
           ⟨(some 37), .move (.tmp 11), none, [], false, false⟩,
           ⟨(some 4), .move (.const (.slice none 0 0)), none, [], false, false⟩,
           ⟨(some 5), .move (.tmp 36), none, [], false, false⟩,
           ⟨(some 6), .move (.tmp 37), none, [], false, false⟩])
        (.ret))
       (.skip))))
    (.seq (.region false [⟨(some 12), .move (.const (.slice none 0 0)), none, [], false, false⟩])
     (.seq (.seq (.region false [⟨(some 38), .move (.tmp 0), none, [], false, false⟩,
          ⟨(some 39), .len false (.tmp 38), none, [], false, false⟩,
          ⟨(some 40), .move (.const (.int .i64 0)), none, [], false, false⟩])
       (.block 0 (.loop (some [3, 12, 38, 39, 40]) (
         .seq (.region false [⟨(some 41), .bin .lss (.tmp 40) (.tmp 39), none, [], false, false⟩])
          (.seq (.cond (.tmp 41) (.skip)
            (.exit 0))
           (.seq (.block 1 (.seq (.region false [⟨(some 42), .indexAddr none 2 (.tmp 38) (.tmp 40), none, [], false, false⟩,
                 ⟨(some 43), .load true 2 (.tmp 42), none, [], false, false⟩,
                 ⟨(some 14), .push [(.int .i64 0), (.int .i64 0)], none, [], false, false⟩,
                 ⟨none, .store 2 (.tmp 14) (.tmp 43), none, [], false, false⟩])
              (.region false [⟨(some 44), .move (.tmp 12), none, [], false, false⟩,
                 ⟨(some 45), .fieldAddr 1 (.tmp 14), none, [], false, false⟩,
                 ⟨(some 46), .load false 1 (.tmp 45), none, [], false, false⟩,
                 ⟨(some 47), .buildSlice 1 1 [(.int .i64 0)] [(0, 1, (.tmp 46))], none, [], false, false⟩,
                 ⟨(some 48), .append 1 8 (.tmp 44) (.tmp 47), none, [], false, false⟩,
                 ⟨(some 12), .move (.tmp 48), none, [], false, false⟩])))
            (.region false [⟨(some 49), .bin .add (.tmp 40) (.const (.int .i64 1)), none, [], false, false⟩,
               ⟨(some 40), .move (.tmp 49), none, [], false, false⟩])))))))
      (.seq (.seq (.region false [⟨(some 50), .move (.tmp 12), none, [], false, false⟩,
           ⟨(some 51), .len false (.tmp 50), none, [], false, false⟩,
           ⟨(some 52), .move (.const (.int .i64 0)), none, [], false, false⟩])
        (.block 2 (.loop (some [3, 12, 51, 52]) (
          .seq (.region false [⟨(some 53), .bin .lss (.tmp 52) (.tmp 51), none, [], false, false⟩])
           (.seq (.cond (.tmp 53) (.skip)
             (.exit 2))
            (.seq (.block 3 (.seq (.region false [⟨(some 15), .move (.const (.int .i64 1)), none, [], false, false⟩])
               (.block 4 (.loop (some [3, 12, 15, 51, 52]) (
                 .seq (.seq (.region false [⟨(some 54), .move (.tmp 15), none, [], false, false⟩,
                      ⟨(some 55), .move (.tmp 12), none, [], false, false⟩,
                      ⟨(some 56), .len false (.tmp 55), none, [], false, false⟩,
                      ⟨(some 57), .bin .lss (.tmp 54) (.tmp 56), none, [], false, false⟩])
                   (.cond (.tmp 57) (.skip)
                    (.exit 4)))
                  (.seq (.block 5 (.seq (.region true [⟨(some 60), .move (.tmp 12), none, [], false, false⟩,
                        ⟨(some 61), .move (.tmp 15), none, [], false, false⟩,
                        ⟨(some 62), .move (.tmp 12), none, [], false, false⟩,
                        ⟨(some 63), .move (.tmp 15), none, [], false, false⟩,
                        ⟨(some 64), .indexAddr none 1 (.tmp 62) (.tmp 63), none, [], false, false⟩,
                        ⟨(some 65), .load false 1 (.tmp 64), none, [], false, false⟩,
                        ⟨(some 66), .move (.tmp 12), none, [], false, false⟩,
                        ⟨(some 67), .move (.tmp 15), none, [], false, false⟩,
                        ⟨(some 68), .bin .sub (.tmp 67) (.const (.int .i64 1)), none, [], false, false⟩,
                        ⟨(some 69), .indexAddr none 1 (.tmp 66) (.tmp 68), none, [], false, false⟩,
                        ⟨(some 70), .load false 1 (.tmp 69), none, [], false, false⟩,
                        ⟨(some 71), .fieldAddr 0 (.tmp 3), none, [], false, false⟩,
                        ⟨(some 72), .load false 1 (.tmp 71), none, [], false, false⟩,
                        ⟨(some 73), .bin .sub (.tmp 70) (.tmp 72), none, [], false, false⟩,
                        ⟨(some 74), .min [(.tmp 65), (.tmp 73)], none, [], false, false⟩,
                        ⟨(some 75), .indexAddr none 1 (.tmp 60) (.tmp 61), none, [], false, false⟩,
                        ⟨none, .store 1 (.tmp 75) (.tmp 74), none, [], false, false⟩])
                     (.region true [⟨(some 76), .move (.tmp 12), none, [], false, false⟩,
                        ⟨(some 77), .move (.tmp 15), none, [], false, false⟩,
                        ⟨(some 78), .bin .sub (.tmp 77) (.const (.int .i64 1)), none, [], false, false⟩,
                        ⟨(some 79), .move (.tmp 12), none, [], false, false⟩,
                        ⟨(some 80), .move (.tmp 15), none, [], false, false⟩,
                        ⟨(some 81), .bin .sub (.tmp 80) (.const (.int .i64 1)), none, [], false, false⟩,
                        ⟨(some 82), .indexAddr none 1 (.tmp 79) (.tmp 81), none, [], false, false⟩,
                        ⟨(some 83), .load false 1 (.tmp 82), none, [], false, false⟩,
                        ⟨(some 84), .move (.tmp 12), none, [], false, false⟩,
                        ⟨(some 85), .move (.tmp 15), none, [], false, false⟩,
                        ⟨(some 86), .indexAddr none 1 (.tmp 84) (.tmp 85), none, [], false, false⟩,
                        ⟨(some 87), .load false 1 (.tmp 86), none, [], false, false⟩,
                        ⟨(some 88), .fieldAddr 1 (.tmp 3), none, [], false, false⟩,
                        ⟨(some 89), .load false 1 (.tmp 88), none, [], false, false⟩,
                        ⟨(some 90), .bin .add (.tmp 87) (.tmp 89), none, [], false, false⟩,
                        ⟨(some 91), .min [(.tmp 83), (.tmp 90)], none, [], false, false⟩,
                        ⟨(some 92), .indexAddr none 1 (.tmp 76) (.tmp 78), none, [], false, false⟩,
                        ⟨none, .store 1 (.tmp 92) (.tmp 91), none, [], false, false⟩])))
                   (.region false [⟨(some 58), .move (.tmp 15), none, [], false, false⟩,
                      ⟨(some 59), .bin .add (.tmp 58) (.const (.int .i64 1)), none, [], false, false⟩,
                      ⟨(some 15), .move (.tmp 59), none, [], false, false⟩])))))))
             (.region false [⟨(some 93), .bin .add (.tmp 52) (.const (.int .i64 1)), none, [], false, false⟩,
                ⟨(some 52), .move (.tmp 93), none, [], false, false⟩])))))))
       (.seq (.region false [⟨(some 94), .move (.tmp 12), none, [], false, false⟩,
           ⟨(some 4), .move (.tmp 94), none, [], false, false⟩,
           ⟨(some 5), .move (.const (.slice none 0 0)), none, [], false, false⟩,
           ⟨(some 6), .move (.const (.int .i64 0)), none, [], false, false⟩])
        (.ret)))))))),
 [.tmp 4, .tmp 5, .tmp 6], .pure, 95⟩

/-- agraffe/number.Solve -/
def ef16 : EFun := ⟨
 .seq (.region false [⟨(some 4), .move (.const (.slice none 0 0)), none, [], false, false⟩,
    ⟨(some 5), .move (.const (.slice none 0 0)), none, [], false, false⟩,
    ⟨(some 6), .move (.const (.int .i64 0)), none, [], false, false⟩])
 (.seq (.seq (.region false [⟨(some 13), .move (.tmp 0), none, [], false, false⟩,
      ⟨(some 14), .move (.tmp 1), none, [], false, false⟩,
      ⟨(some 15), .call 62 [(.tmp 13), (.tmp 14)], none, [], false, false⟩,
      ⟨(some 7), .move (.tmp 15), none, [], false, false⟩])
   (.seq (.region false [⟨(some 16), .move (.tmp 7), none, [], false, false⟩,
       ⟨(some 17), .bin .neq (.tmp 16) (.const (.int .i64 0)), none, [], false, false⟩])
    (.cond (.tmp 17) (.seq (.region false [⟨(some 18), .move (.tmp 7), none, [], false, false⟩,
         ⟨(some 4), .move (.const (.slice none 0 0)), none, [], false, false⟩,
         ⟨(some 5), .move (.const (.slice none 0 0)), none, [], false, false⟩,
         ⟨(some 6), .move (.tmp 18), none, [], false, false⟩])
      (.ret))
     (.skip))))
  (.seq (.region true [⟨(some 19), .move (.tmp 0), none, [], false, false⟩,
      ⟨(some 20), .makeSlice 1 8 [(.int .i64 0)] (.tmp 19) (.tmp 19), none, [], false, false⟩,
      ⟨(some 21), .move (.tmp 0), none, [], false, false⟩,
      ⟨(some 22), .makeSlice 1 8 [(.int .i64 0)] (.tmp 21) (.tmp 21), none, [], false, false⟩,
      ⟨(some 8), .move (.tmp 20), none, [], false, false⟩,
      ⟨(some 9), .move (.tmp 22), none, [], false, false⟩])
   (.seq (.region false [⟨(some 10), .move (.const (.int .i64 0)), none, [], false, false⟩])
    (.seq (.seq (.region false [⟨(some 23), .move (.tmp 0), none, [], false, false⟩,
         ⟨(some 24), .move (.const (.int .i64 0)), none, [], false, false⟩])
      (.block 0 (.loop (some [0, 1, 8, 9, 10, 23, 24]) (
        .seq (.region false [⟨(some 25), .bin .lss (.tmp 24) (.tmp 23), none, [], false, false⟩])
         (.seq (.cond (.tmp 25) (.skip)
           (.exit 0))
          (.seq (.block 1 (.seq (.region false [⟨(some 26), .move (.tmp 1), none, [], false, false⟩,
                ⟨(some 27), .move (.tmp 8), none, [], false, false⟩,
                ⟨(some 28), .move (.tmp 9), none, [], false, false⟩,
                ⟨(some 29), .call 63 [(.tmp 26), (.tmp 27), (.tmp 28)], none, [], false, false⟩,
                ⟨(some 10), .move (.tmp 29), none, [], false, false⟩])
             (.seq (.region false [⟨(some 30), .move (.tmp 10), none, [], false, false⟩,
                 ⟨(some 31), .bin .lss (.tmp 30) (.const (.int .i64 0)), none, [], false, false⟩])
              (.cond (.tmp 31) (.seq (.region false [⟨(some 32), .move (.tmp 8), none, [], false, false⟩,
                   ⟨(some 4), .move (.tmp 32), none, [], false, false⟩,
                   ⟨(some 5), .move (.const (.slice none 0 0)), none, [], false, false⟩,
                   ⟨(some 6), .move (.const (.int .i64 0)), none, [], false, false⟩])
                (.ret))
               (.skip)))))
           (.region false [⟨(some 33), .bin .add (.tmp 24) (.const (.int .i64 1)), none, [], false, false⟩,
              ⟨(some 24), .move (.tmp 33), none, [], false, false⟩])))))))
     (.seq (.seq (.region false [⟨(some 34), .move (.tmp 0), none, [], false, false⟩,
          ⟨(some 35), .move (.const (.int .i64 0)), none, [], false, false⟩])
       (.block 2 (.loop (some [1, 9, 10, 34, 35]) (
         .seq (.region false [⟨(some 36), .bin .lss (.tmp 35) (.tmp 34), none, [], false, false⟩])
          (.seq (.cond (.tmp 36) (.skip)
            (.exit 2))
           (.seq (.block 3 (.region false [⟨(some 37), .move (.tmp 1), none, [], false, false⟩,
                ⟨(some 38), .move (.tmp 9), none, [], false, false⟩,
                ⟨(some 39), .move (.tmp 10), none, [], false, false⟩,
                ⟨(some 40), .indexAddr none 1 (.tmp 38) (.tmp 39), none, [], false, false⟩,
                ⟨(some 41), .load false 1 (.tmp 40), none, [], false, false⟩,
                ⟨(some 42), .indexAddr none 3 (.tmp 37) (.tmp 41), none, [], false, false⟩,
                ⟨(some 43), .fieldAddr 0 (.tmp 42), none, [], false, false⟩,
                ⟨(some 44), .load false 1 (.tmp 43), none, [], false, false⟩,
                ⟨(some 10), .move (.tmp 44), none, [], false, false⟩]))
            (.region false [⟨(some 45), .bin .add (.tmp 35) (.const (.int .i64 1)), none, [], false, false⟩,
               ⟨(some 35), .move (.tmp 45), none, [], false, false⟩])))))))
      (.seq (.region false [⟨(some 11), .move (.const (.slice none 0 0)), none, [], false, false⟩])
       (.seq (.seq (.region false [⟨(some 46), .move (.tmp 10), none, [], false, false⟩,
            ⟨(some 12), .move (.tmp 46), none, [], false, false⟩])
         (.block 4 (.loop (some [1, 9, 10, 11, 12]) (
           .seq (.seq (.region false [⟨(some 47), .move (.tmp 11), none, [], false, false⟩,
                ⟨(some 48), .len false (.tmp 47), none, [], false, false⟩,
                ⟨(some 49), .bin .eql (.tmp 48) (.const (.int .i64 0)), none, [], false, false⟩,
                ⟨(some 50), .move (.tmp 49), none, [], false, false⟩,
                ⟨(some 51), .move (.tmp 12), (some (50, false)), [], false, false⟩,
                ⟨(some 52), .move (.tmp 10), (some (50, false)), [], false, false⟩,
                ⟨(some 53), .bin .neq (.tmp 51) (.tmp 52), (some (50, false)), [], false, false⟩,
                ⟨(some 54), .pick (.tmp 50) (.const (.bool true)) (.tmp 53), none, [], false, false⟩])
             (.cond (.tmp 54) (.skip)
              (.exit 4)))
            (.seq (.block 5 (.region false [⟨(some 63), .move (.tmp 11), none, [], false, false⟩,
                 ⟨(some 64), .move (.tmp 9), none, [], false, false⟩,
                 ⟨(some 65), .move (.tmp 12), none, [], false, false⟩,
                 ⟨(some 66), .indexAddr none 1 (.tmp 64) (.tmp 65), none, [], false, false⟩,
                 ⟨(some 67), .load false 1 (.tmp 66), none, [], false, false⟩,
                 ⟨(some 68), .buildSlice 1 1 [(.int .i64 0)] [(0, 1, (.tmp 67))], none, [], false, false⟩,
                 ⟨(some 69), .append 1 8 (.tmp 63) (.tmp 68), none, [], false, false⟩,
                 ⟨(some 11), .move (.tmp 69), none, [], false, false⟩]))
             (.region false [⟨(some 55), .move (.tmp 1), none, [], false, false⟩,
                ⟨(some 56), .move (.tmp 9), none, [], false, false⟩,
                ⟨(some 57), .move (.tmp 12), none, [], false, false⟩,
                ⟨(some 58), .indexAddr none 1 (.tmp 56) (.tmp 57), none, [], false, false⟩,
                ⟨(some 59), .load false 1 (.tmp 58), none, [], false, false⟩,
                ⟨(some 60), .indexAddr none 3 (.tmp 55) (.tmp 59), none, [], false, false⟩,
                ⟨(some 61), .fieldAddr 0 (.tmp 60), none, [], false, false⟩,
                ⟨(some 62), .load false 1 (.tmp 61), none, [], false, false⟩,
                ⟨(some 12), .move (.tmp 62), none, [], false, false⟩]))))))
        (.seq (.region false [⟨(some 70), .move (.tmp 11), none, [], false, false⟩,
            ⟨(some 71), .call 64 [(.tmp 70)], none, [], false, false⟩])
         (.seq (.region false [⟨(some 72), .move (.tmp 11), none, [], false, false⟩,
             ⟨(some 4), .move (.const (.slice none 0 0)), none, [], false, false⟩,
             ⟨(some 5), .move (.tmp 72), none, [], false, false⟩,
             ⟨(some 6), .move (.const (.int .i64 21)), none, [], false, false⟩])
          (.ret)))))))))),
 [.tmp 4, .tmp 5, .tmp 6], .pure, 73⟩

/-- agraffe/agraffebase.CopyInts -/
def ef17 : EFun := ⟨
 .seq (.region false [⟨(some 2), .move (.const (.slice none 0 0)), none, [], false, false⟩])
 (.seq (.region false [⟨(some 3), .buildSlice 1 0 [] [], none, [], false, false⟩,
     ⟨(some 4), .move (.tmp 0), none, [], false, false⟩,
     ⟨(some 5), .append 1 8 (.tmp 3) (.tmp 4), none, [], false, false⟩,
     ⟨(some 2), .move (.tmp 5), none, [], false, false⟩])
  (.ret)),
 [.tmp 2], .pure, 6⟩

/-- agraffe/agraffebase.Within -/
def ef18 : EFun := ⟨
 .seq (.region false [⟨(some 6), .move (.const (.bool false)), none, [], false, false⟩])
 (.seq (.region false [⟨(some 7), .move (.tmp 0), none, [], false, false⟩,
     ⟨(some 8), .move (.tmp 1), none, [], false, false⟩,
     ⟨(some 9), .bin .geq (.tmp 7) (.tmp 8), none, [], false, false⟩,
     ⟨(some 10), .move (.tmp 9), none, [], false, false⟩,
     ⟨(some 11), .move (.tmp 0), (some (10, true)), [], false, false⟩,
     ⟨(some 12), .move (.tmp 2), (some (10, true)), [], false, false⟩,
     ⟨(some 13), .bin .leq (.tmp 11) (.tmp 12), (some (10, true)), [], false, false⟩,
     ⟨(some 14), .pick (.tmp 10) (.tmp 13) (.const (.bool false)), none, [], false, false⟩,
     ⟨(some 6), .move (.tmp 14), none, [], false, false⟩])
  (.ret)),
 [.tmp 6], .pure, 15⟩

/-- agraffe/agraffelaw02.awake -/
def ef19 : EFun := ⟨
 .seq (.region false [⟨(some 0), .move (.const (.bool false)), none, [], false, false⟩])
 (.seq (.region false [⟨(some 9), .build [(.int .i64 0), (.int .i64 0)] [(0, 1, (.const (.int .i64 440000))), (1, 1, (.const (.int .i64 440000)))], none, [], false, false⟩,
     ⟨(some 1), .push [(.int .i64 0), (.int .i64 0)], none, [], false, false⟩,
     ⟨none, .store 2 (.tmp 1) (.tmp 9), none, [], false, false⟩])
  (.seq (.region true [⟨(some 11), .call 60 [], none, [], false, true⟩,
      ⟨(some 12), .call 61 [], none, [], false, true⟩,
      ⟨(some 13), .load true 2 (.tmp 1), none, [], false, false⟩,
      ⟨(some 14), .call 58 [(.tmp 11), (.tmp 12), (.tmp 13)], none, [], false, true⟩,
      ⟨(some 10), .move (.tmp 14), none, [], false, false⟩,
      ⟨(some 15), .extract (.tmp 10) 0, none, [], false, false⟩,
      ⟨(some 16), .extract (.tmp 10) 1, none, [], false, false⟩,
      ⟨(some 2), .push [(.int .i64 0), (.int .i64 0)], none, [], false, false⟩,
      ⟨none, .store 2 (.tmp 2) (.tmp 15), none, [], false, false⟩,
      ⟨(some 3), .move (.tmp 16), none, [], false, false⟩])
   (.seq (.region true [⟨(some 18), .call 60 [], none, [], false, true⟩,
       ⟨(some 19), .call 61 [], none, [], false, true⟩,
       ⟨(some 20), .load true 2 (.tmp 1), none, [], false, false⟩,
       ⟨(some 21), .call 65 [(.tmp 18), (.tmp 19), (.tmp 20)], none, [], false, true⟩,
       ⟨(some 17), .move (.tmp 21), none, [], false, false⟩,
       ⟨(some 22), .extract (.tmp 17) 0, none, [], false, false⟩,
       ⟨(some 23), .extract (.tmp 17) 1, none, [], false, false⟩,
       ⟨(some 4), .push [(.int .i64 0), (.int .i64 0)], none, [], false, false⟩,
       ⟨none, .store 2 (.tmp 4) (.tmp 22), none, [], false, false⟩,
       ⟨(some 5), .move (.tmp 23), none, [], false, false⟩])
    (.seq (.region false [⟨(some 25), .build [(.int .i64 0), (.int .i64 0)] [(0, 1, (.const (.int .i64 1000))), (1, 1, (.const (.int .i64 2000)))], none, [], false, false⟩,
        ⟨(some 26), .build [(.int .i64 0), (.int .i64 0)] [(0, 1, (.const (.int .i64 1500))), (1, 1, (.const (.int .i64 1800)))], none, [], false, false⟩,
        ⟨(some 27), .buildSlice 2 2 [(.int .i64 0), (.int .i64 0), (.int .i64 0), (.int .i64 0)] [(0, 2, (.tmp 25)), (2, 2, (.tmp 26))], none, [], false, false⟩,
        ⟨(some 28), .build [(.int .i64 0), (.int .i64 0)] [(1, 1, (.const (.int .i64 100)))], none, [], false, false⟩,
        ⟨(some 29), .call 15 [(.tmp 27), (.tmp 28)], none, [], false, false⟩,
        ⟨(some 24), .move (.tmp 29), none, [], false, false⟩,
        ⟨(some 30), .extract (.tmp 24) 0, none, [], false, false⟩,
        ⟨(some 31), .extract (.tmp 24) 1, none, [], false, false⟩,
        ⟨(some 32), .extract (.tmp 24) 2, none, [], false, false⟩,
        ⟨(some 6), .move (.tmp 30), none, [], false, false⟩,
        ⟨(some 7), .move (.tmp 31), none, [], false, false⟩,
        ⟨(some 8), .move (.tmp 32), none, [], false, false⟩])
     (.seq (.region false [⟨(some 33), .move (.tmp 3), none, [], false, false⟩,
         ⟨(some 34), .bin .eql (.tmp 33) (.const (.int .i64 0)), none, [], false, false⟩,
         ⟨(some 35), .move (.tmp 34), none, [], false, false⟩,
         ⟨(some 36), .load true 2 (.tmp 2), (some (35, true)), [], false, false⟩,
         ⟨(some 37), .build [(.int .i64 0), (.int .i64 0)] [(0, 1, (.const (.int .i64 76389))), (1, 1, (.const (.int .i64 76390)))], (some (35, true)), [], false, false⟩,
         ⟨(some 38), .eqAgg false [(.int .i64), (.int .i64)] (.tmp 36) (.tmp 37), (some (35, true)), [], false, false⟩,
         ⟨(some 39), .pick (.tmp 35) (.tmp 38) (.const (.bool false)), none, [], false, false⟩,
         ⟨(some 40), .move (.tmp 39), none, [], false, false⟩,
         ⟨(some 41), .move (.tmp 5), (some (40, true)), [], false, false⟩,
         ⟨(some 42), .bin .eql (.tmp 41) (.const (.int .i64 0)), (some (40, true)), [], false, false⟩,
         ⟨(some 43), .pick (.tmp 40) (.tmp 42) (.const (.bool false)), none, [], false, false⟩,
         ⟨(some 44), .move (.tmp 43), none, [], false, false⟩,
         ⟨(some 45), .load true 2 (.tmp 4), (some (44, true)), [], false, false⟩,
         ⟨(some 46), .build [(.int .i64 0), (.int .i64 0)] [(0, 1, (.const (.int .i64 793624))), (1, 1, (.const (.int .i64 793636)))], (some (44, true)), [], false, false⟩,
         ⟨(some 47), .eqAgg false [(.int .i64), (.int .i64)] (.tmp 45) (.tmp 46), (some (44, true)), [], false, false⟩,
         ⟨(some 48), .pick (.tmp 44) (.tmp 47) (.const (.bool false)), none, [], false, false⟩,
         ⟨(some 49), .move (.tmp 48), none, [], false, false⟩,
         ⟨(some 50), .move (.tmp 8), (some (49, true)), [], false, false⟩,
         ⟨(some 51), .bin .eql (.tmp 50) (.const (.int .i64 0)), (some (49, true)), [], false, false⟩,
         ⟨(some 52), .pick (.tmp 49) (.tmp 51) (.const (.bool false)), none, [], false, false⟩,
         ⟨(some 53), .move (.tmp 52), none, [], false, false⟩,
         ⟨(some 54), .move (.tmp 6), (some (53, true)), [], false, false⟩,
         ⟨(some 55), .buildSlice 1 2 [(.int .i64 0), (.int .i64 0)] [(0, 1, (.const (.int .i64 1900))), (1, 1, (.const (.int .i64 1800)))], (some (53, true)), [], false, false⟩,
         ⟨(some 56), .call 66 [(.tmp 54), (.tmp 55)], (some (53, true)), [], false, false⟩,
         ⟨(some 57), .pick (.tmp 53) (.tmp 56) (.const (.bool false)), none, [], false, false⟩,
         ⟨(some 0), .move (.tmp 57), none, [], false, false⟩])
      (.ret)))))),
 [.tmp 0], .pure, 58⟩

/-- agraffe/agraffelaw02.Few -/
def ef20 : EFun := ⟨
 .seq (.region false [⟨(some 1), .box (.tmp 0), none, [], false, false⟩,
    ⟨(some 2), .move (.const (.bool false)), none, [], false, false⟩])
 (.seq (.seq (.region false [⟨(some 4), .fieldAddr 1 (.tmp 1), none, [], false, false⟩,
      ⟨(some 5), .load false 1 (.tmp 4), none, [], false, false⟩,
      ⟨(some 6), .call 67 [(.tmp 5)], none, [], false, false⟩,
      ⟨(some 7), .un .not (.tmp 6), none, [], false, false⟩,
      ⟨(some 8), .move (.tmp 7), none, [], false, false⟩,
      ⟨(some 9), .fieldAddr 2 (.tmp 1), (some (8, false)), [], false, false⟩,
      ⟨(some 10), .load false 1 (.tmp 9), (some (8, false)), [], false, false⟩,
      ⟨(some 11), .len false (.tmp 10), (some (8, false)), [], false, false⟩,
      ⟨(some 12), .bin .gtr (.tmp 11) (.const (.int .i64 6)), (some (8, false)), [], false, false⟩,
      ⟨(some 13), .pick (.tmp 8) (.const (.bool true)) (.tmp 12), none, [], false, false⟩])
   (.cond (.tmp 13) (.seq (.region false [⟨(some 2), .move (.const (.bool false)), none, [], false, false⟩])
     (.ret))
    (.skip)))
  (.seq (.seq (.region false [⟨(some 3), .move (.const (.int .i64 0)), none, [], false, false⟩])
    (.block 0 (.loop (some [1, 3]) (
      .seq (.seq (.region false [⟨(some 14), .move (.tmp 3), none, [], false, false⟩,
           ⟨(some 15), .fieldAddr 2 (.tmp 1), none, [], false, false⟩,
           ⟨(some 16), .load false 1 (.tmp 15), none, [], false, false⟩,
           ⟨(some 17), .len false (.tmp 16), none, [], false, false⟩,
           ⟨(some 18), .bin .lss (.tmp 14) (.tmp 17), none, [], false, false⟩])
        (.cond (.tmp 18) (.skip)
         (.exit 0)))
       (.seq (.block 1 (.seq (.region false [⟨(some 21), .fieldAddr 2 (.tmp 1), none, [], false, false⟩,
             ⟨(some 22), .load false 1 (.tmp 21), none, [], false, false⟩,
             ⟨(some 23), .move (.tmp 3), none, [], false, false⟩,
             ⟨(some 24), .indexAddr none 10 (.tmp 22) (.tmp 23), none, [], false, false⟩,
             ⟨(some 25), .fieldAddr 5 (.tmp 24), none, [], false, false⟩,
             ⟨(some 26), .load true 5 (.tmp 25), none, [], false, false⟩,
             ⟨(some 27), .call 68 [(.tmp 26)], none, [], false, false⟩,
             ⟨(some 28), .un .not (.tmp 27), none, [], false, false⟩])
          (.cond (.tmp 28) (.seq (.region false [⟨(some 2), .move (.const (.bool false)), none, [], false, false⟩])
            (.ret))
           (.skip))))
        (.region false [⟨(some 19), .move (.tmp 3), none, [], false, false⟩,
           ⟨(some 20), .bin .add (.tmp 19) (.const (.int .i64 1)), none, [], false, false⟩,
           ⟨(some 3), .move (.tmp 20), none, [], false, false⟩]))))))
   (.seq (.region false [⟨(some 2), .move (.const (.bool true)), none, [], false, false⟩])
    (.ret)))),
 [.tmp 2], .pure, 29⟩

/-- agraffe/scale.CheckStringing -/
def ef21 : EFun := ⟨
 .seq (.region false [⟨(some 1), .box (.tmp 0), none, [], false, false⟩,
    ⟨(some 2), .move (.const (.int .i64 0)), none, [], false, false⟩,
    ⟨(some 3), .move (.const (.int .i64 0)), none, [], false, false⟩])
 (.seq (.seq (.region false [⟨(some 7), .fieldAddr 0 (.tmp 1), none, [], false, false⟩,
      ⟨(some 8), .load false 1 (.tmp 7), none, [], false, false⟩,
      ⟨(some 9), .call 69 [(.tmp 8), (.const (.int .i64 1000)), (.const (.int .i64 10000000))], none, [], false, false⟩,
      ⟨(some 10), .un .not (.tmp 9), none, [], false, false⟩])
   (.cond (.tmp 10) (.seq (.region false [⟨(some 2), .move (.const (.int .i64 0)), none, [], false, false⟩,
        ⟨(some 3), .move (.const (.int .i64 2)), none, [], false, false⟩])
     (.ret))
    (.skip)))
  (.seq (.seq (.region false [⟨(some 11), .fieldAddr 1 (.tmp 1), none, [], false, false⟩,
       ⟨(some 12), .load false 1 (.tmp 11), none, [], false, false⟩,
       ⟨(some 13), .call 70 [(.tmp 12)], none, [], false, false⟩,
       ⟨(some 4), .move (.tmp 13), none, [], false, false⟩])
    (.seq (.region false [⟨(some 14), .move (.tmp 4), none, [], false, false⟩,
        ⟨(some 15), .bin .neq (.tmp 14) (.const (.int .i64 0)), none, [], false, false⟩])
     (.cond (.tmp 15) (.seq (.region false [⟨(some 16), .move (.tmp 4), none, [], false, false⟩,
          ⟨(some 2), .move (.const (.int .i64 0)), none, [], false, false⟩,
          ⟨(some 3), .move (.tmp 16), none, [], false, false⟩])
       (.ret))
      (.skip))))
   (.seq (.seq (.region false [⟨(some 17), .fieldAddr 2 (.tmp 1), none, [], false, false⟩,
        ⟨(some 18), .load false 1 (.tmp 17), none, [], false, false⟩,
        ⟨(some 19), .len false (.tmp 18), none, [], false, false⟩,
        ⟨(some 20), .bin .gtr (.tmp 19) (.const (.int .i64 90)), none, [], false, false⟩])
     (.cond (.tmp 20) (.seq (.region false [⟨(some 2), .move (.const (.int .i64 0)), none, [], false, false⟩,
          ⟨(some 3), .move (.const (.int .i64 8)), none, [], false, false⟩])
       (.ret))
      (.skip)))
    (.seq (.seq (.region false [⟨(some 21), .fieldAddr 2 (.tmp 1), none, [], false, false⟩,
         ⟨(some 22), .load false 1 (.tmp 21), none, [], false, false⟩,
         ⟨(some 23), .len false (.tmp 22), none, [], false, false⟩,
         ⟨(some 24), .move (.const (.int .i64 0)), none, [], false, false⟩])
      (.block 0 (.loop (some [1, 23, 24]) (
        .seq (.region false [⟨(some 25), .bin .lss (.tmp 24) (.tmp 23), none, [], false, false⟩])
         (.seq (.cond (.tmp 25) (.skip)
           (.exit 0))
          (.seq (.block 1 (.seq (.region false [⟨(some 26), .move (.tmp 24), none, [], false, false⟩,
                ⟨(some 5), .move (.tmp 26), none, [], false, false⟩])
             (.seq (.region false [⟨(some 27), .load true 3 (.tmp 1), none, [], false, false⟩,
                 ⟨(some 28), .move (.tmp 5), none, [], false, false⟩,
                 ⟨(some 29), .call 71 [(.tmp 27), (.tmp 28)], none, [], false, false⟩,
                 ⟨(some 6), .move (.tmp 29), none, [], false, false⟩])
              (.seq (.region false [⟨(some 30), .move (.tmp 6), none, [], false, false⟩,
                  ⟨(some 31), .bin .neq (.tmp 30) (.const (.int .i64 0)), none, [], false, false⟩])
               (.cond (.tmp 31) (.seq (.region false [⟨(some 32), .move (.tmp 5), none, [], false, false⟩,
                    ⟨(some 33), .move (.tmp 6), none, [], false, false⟩,
                    ⟨(some 2), .move (.tmp 32), none, [], false, false⟩,
                    ⟨(some 3), .move (.tmp 33), none, [], false, false⟩])
                 (.ret))
                (.skip))))))
           (.region false [⟨(some 34), .bin .add (.tmp 24) (.const (.int .i64 1)), none, [], false, false⟩,
              ⟨(some 24), .move (.tmp 34), none, [], false, false⟩])))))))
     (.seq (.region false [⟨(some 2), .move (.const (.int .i64 0)), none, [], false, false⟩,
         ⟨(some 3), .move (.const (.int .i64 0)), none, [], false, false⟩])
      (.ret)))))),
 [.tmp 2, .tmp 3], .pure, 35⟩

/-- agraffe/agrafferef02.Copied -/
def ef22 : EFun := ⟨
 .seq (.region false [⟨(some 1), .box (.tmp 0), none, [], false, false⟩,
    ⟨(some 2), .push [(.int .i64 0), (.slice none 0 0), (.slice none 0 0)], none, [], false, false⟩])
 (.seq (.region false [⟨(some 3), .buildSlice 4 0 [] [], none, [], false, false⟩,
     ⟨(some 4), .fieldAddr 1 (.tmp 1), none, [], false, false⟩,
     ⟨(some 5), .load false 1 (.tmp 4), none, [], false, false⟩,
     ⟨(some 6), .append 4 40 (.tmp 3) (.tmp 5), none, [], false, false⟩,
     ⟨(some 7), .fieldAddr 1 (.tmp 1), none, [], false, false⟩,
     ⟨none, .store 1 (.tmp 7) (.tmp 6), none, [], false, false⟩])
  (.seq (.region false [⟨(some 8), .buildSlice 10 0 [] [], none, [], false, false⟩,
      ⟨(some 9), .fieldAddr 2 (.tmp 1), none, [], false, false⟩,
      ⟨(some 10), .load false 1 (.tmp 9), none, [], false, false⟩,
      ⟨(some 11), .append 10 96 (.tmp 8) (.tmp 10), none, [], false, false⟩,
      ⟨(some 12), .fieldAddr 2 (.tmp 1), none, [], false, false⟩,
      ⟨none, .store 1 (.tmp 12) (.tmp 11), none, [], false, false⟩])
   (.seq (.region false [⟨(some 13), .load true 3 (.tmp 1), none, [], false, false⟩,
       ⟨none, .store 3 (.tmp 2) (.tmp 13), none, [], false, false⟩])
    (.ret)))),
 [.cell 2 true 3], .pure, 14⟩

/-- agraffe/scale.Tensions -/
def ef23 : EFun := ⟨
 .seq (.region false [⟨(some 1), .box (.tmp 0), none, [], false, false⟩,
    ⟨(some 2), .move (.const (.slice none 0 0)), none, [], false, false⟩,
    ⟨(some 3), .move (.const (.int .i64 0)), none, [], false, false⟩])
 (.seq (.seq (.region false [⟨(some 9), .load true 3 (.tmp 1), none, [], false, false⟩,
      ⟨(some 10), .call 21 [(.tmp 9)], none, [], false, false⟩,
      ⟨(some 8), .move (.tmp 10), none, [], false, false⟩,
      ⟨(some 11), .extract (.tmp 8) 0, none, [], false, false⟩,
      ⟨(some 12), .extract (.tmp 8) 1, none, [], false, false⟩,
      ⟨(some 4), .move (.tmp 11), none, [], false, false⟩,
      ⟨(some 5), .move (.tmp 12), none, [], false, false⟩])
   (.seq (.region false [⟨(some 13), .move (.tmp 5), none, [], false, false⟩,
       ⟨(some 14), .bin .neq (.tmp 13) (.const (.int .i64 0)), none, [], false, false⟩])
    (.cond (.tmp 14) (.seq (.region false [⟨(some 15), .move (.tmp 5), none, [], false, false⟩,
         ⟨(some 2), .move (.const (.slice none 0 0)), none, [], false, false⟩,
         ⟨(some 3), .move (.tmp 15), none, [], false, false⟩])
      (.ret))
     (.skip))))
  (.seq (.region false [⟨(some 6), .move (.const (.slice none 0 0)), none, [], false, false⟩])
   (.seq (.seq (.region false [⟨(some 16), .fieldAddr 2 (.tmp 1), none, [], false, false⟩,
        ⟨(some 17), .load false 1 (.tmp 16), none, [], false, false⟩,
        ⟨(some 18), .len false (.tmp 17), none, [], false, false⟩,
        ⟨(some 19), .move (.const (.int .i64 0)), none, [], false, false⟩])
     (.block 0 (.loop (some [1, 6, 18, 19]) (
       .seq (.region false [⟨(some 20), .bin .lss (.tmp 19) (.tmp 18), none, [], false, false⟩])
        (.seq (.cond (.tmp 20) (.skip)
          (.exit 0))
         (.seq (.block 1 (.seq (.region false [⟨(some 21), .move (.tmp 19), none, [], false, false⟩,
               ⟨(some 7), .move (.tmp 21), none, [], false, false⟩])
            (.region false [⟨(some 22), .move (.tmp 6), none, [], false, false⟩,
               ⟨(some 23), .load true 3 (.tmp 1), none, [], false, false⟩,
               ⟨(some 24), .move (.tmp 7), none, [], false, false⟩,
               ⟨(some 25), .call 72 [(.tmp 23), (.tmp 24)], none, [], false, false⟩,
               ⟨(some 26), .field true 11 2 (.tmp 25), none, [], false, false⟩,
               ⟨(some 27), .buildSlice 2 1 [(.int .i64 0), (.int .i64 0)] [(0, 2, (.tmp 26))], none, [], false, false⟩,
               ⟨(some 28), .append 2 16 (.tmp 22) (.tmp 27), none, [], false, false⟩,
               ⟨(some 6), .move (.tmp 28), none, [], false, false⟩])))
          (.region false [⟨(some 29), .bin .add (.tmp 19) (.const (.int .i64 1)), none, [], false, false⟩,
             ⟨(some 19), .move (.tmp 29), none, [], false, false⟩])))))))
    (.seq (.region false [⟨(some 30), .move (.tmp 6), none, [], false, false⟩,
        ⟨(some 2), .move (.tmp 30), none, [], false, false⟩,
        ⟨(some 3), .move (.const (.int .i64 0)), none, [], false, false⟩])
     (.ret))))),
 [.tmp 2, .tmp 3], .pure, 31⟩

/-- agraffe/scale.Total -/
def ef24 : EFun := ⟨
 .seq (.region false [⟨(some 1), .box (.tmp 0), none, [], false, false⟩,
    ⟨(some 2), .push [(.int .i64 0), (.int .i64 0)], none, [], false, false⟩,
    ⟨(some 3), .move (.const (.int .i64 0)), none, [], false, false⟩])
 (.seq (.region false [⟨(some 10), .load true 3 (.tmp 1), none, [], false, false⟩,
     ⟨(some 11), .call 23 [(.tmp 10)], none, [], false, false⟩,
     ⟨(some 9), .move (.tmp 11), none, [], false, false⟩,
     ⟨(some 12), .extract (.tmp 9) 0, none, [], false, false⟩,
     ⟨(some 13), .extract (.tmp 9) 1, none, [], false, false⟩,
     ⟨(some 4), .move (.tmp 12), none, [], false, false⟩,
     ⟨(some 5), .move (.tmp 13), none, [], false, false⟩])
  (.seq (.region false [⟨(some 6), .push [(.int .i64 0), (.int .i64 0)], none, [], false, false⟩])
   (.seq (.seq (.region false [⟨(some 14), .move (.tmp 4), none, [], false, false⟩,
        ⟨(some 15), .len false (.tmp 14), none, [], false, false⟩,
        ⟨(some 16), .move (.const (.int .i64 0)), none, [], false, false⟩])
     (.block 0 (.loop (some [1, 2, 5, 6, 14, 15, 16]) (
       .seq (.region false [⟨(some 17), .bin .lss (.tmp 16) (.tmp 15), none, [], false, false⟩])
        (.seq (.cond (.tmp 17) (.skip)
          (.exit 0))
         (.seq (.block 1 (.seq (.region false [⟨(some 18), .move (.tmp 16), none, [], false, false⟩,
               ⟨(some 19), .indexAddr none 2 (.tmp 14) (.tmp 16), none, [], false, false⟩,
               ⟨(some 20), .load true 2 (.tmp 19), none, [], false, false⟩,
               ⟨(some 8), .push [(.int .i64 0), (.int .i64 0)], none, [], false, false⟩,
               ⟨(some 7), .move (.tmp 18), none, [], false, false⟩,
               ⟨none, .store 2 (.tmp 8) (.tmp 20), none, [], false, false⟩])
            (.seq (.region true [⟨(some 21), .fieldAddr 0 (.tmp 6), none, [], false, false⟩,
                ⟨(some 22), .load false 1 (.tmp 21), none, [], false, false⟩,
                ⟨(some 23), .fieldAddr 2 (.tmp 1), none, [], false, false⟩,
                ⟨(some 24), .load false 1 (.tmp 23), none, [], false, false⟩,
                ⟨(some 25), .move (.tmp 7), none, [], false, false⟩,
                ⟨(some 26), .indexAddr none 10 (.tmp 24) (.tmp 25), none, [], false, false⟩,
                ⟨(some 27), .fieldAddr 4 (.tmp 26), none, [], false, false⟩,
                ⟨(some 28), .load false 1 (.tmp 27), none, [], false, false⟩,
                ⟨(some 29), .fieldAddr 0 (.tmp 8), none, [], false, false⟩,
                ⟨(some 30), .load false 1 (.tmp 29), none, [], false, false⟩,
                ⟨(some 31), .bin .mul (.tmp 28) (.tmp 30), none, [], false, false⟩,
                ⟨(some 32), .bin .add (.tmp 22) (.tmp 31), none, [], false, false⟩,
                ⟨(some 33), .fieldAddr 0 (.tmp 6), none, [], false, false⟩,
                ⟨none, .store 1 (.tmp 33) (.tmp 32), none, [], false, false⟩])
             (.region true [⟨(some 34), .fieldAddr 1 (.tmp 6), none, [], false, false⟩,
                ⟨(some 35), .load false 1 (.tmp 34), none, [], false, false⟩,
                ⟨(some 36), .fieldAddr 2 (.tmp 1), none, [], false, false⟩,
                ⟨(some 37), .load false 1 (.tmp 36), none, [], false, false⟩,
                ⟨(some 38), .move (.tmp 7), none, [], false, false⟩,
                ⟨(some 39), .indexAddr none 10 (.tmp 37) (.tmp 38), none, [], false, false⟩,
                ⟨(some 40), .fieldAddr 4 (.tmp 39), none, [], false, false⟩,
                ⟨(some 41), .load false 1 (.tmp 40), none, [], false, false⟩,
                ⟨(some 42), .fieldAddr 1 (.tmp 8), none, [], false, false⟩,
                ⟨(some 43), .load false 1 (.tmp 42), none, [], false, false⟩,
                ⟨(some 44), .bin .mul (.tmp 41) (.tmp 43), none, [], false, false⟩,
                ⟨(some 45), .bin .add (.tmp 35) (.tmp 44), none, [], false, false⟩,
                ⟨(some 46), .fieldAddr 1 (.tmp 6), none, [], false, false⟩,
                ⟨none, .store 1 (.tmp 46) (.tmp 45), none, [], false, false⟩]))))
          (.region false [⟨(some 47), .bin .add (.tmp 16) (.const (.int .i64 1)), none, [], false, false⟩,
             ⟨(some 16), .move (.tmp 47), none, [], false, false⟩])))))))
    (.seq (.region false [⟨(some 48), .load true 2 (.tmp 6), none, [], false, false⟩,
        ⟨(some 49), .move (.tmp 5), none, [], false, false⟩,
        ⟨none, .store 2 (.tmp 2) (.tmp 48), none, [], false, false⟩,
        ⟨(some 3), .move (.tmp 49), none, [], false, false⟩])
     (.ret))))),
 [.cell 2 true 2, .tmp 3], .pure, 50⟩

/-- agraffe/scale.Frequency -/
def ef25 : EFun := ⟨
 .seq (.region false [⟨(some 2), .box (.tmp 0), none, [], false, false⟩,
    ⟨(some 4), .push [(.int .i64 0), (.int .i64 0)], none, [], false, false⟩,
    ⟨(some 5), .move (.const (.int .i64 0)), none, [], false, false⟩])
 (.seq (.seq (.region false [⟨(some 7), .load true 3 (.tmp 2), none, [], false, false⟩,
      ⟨(some 8), .move (.tmp 1), none, [], false, false⟩,
      ⟨(some 9), .call 73 [(.tmp 7), (.tmp 8)], none, [], false, false⟩,
      ⟨(some 6), .move (.tmp 9), none, [], false, false⟩])
   (.seq (.region false [⟨(some 10), .move (.tmp 6), none, [], false, false⟩,
       ⟨(some 11), .bin .neq (.tmp 10) (.const (.int .i64 0)), none, [], false, false⟩])
    (.cond (.tmp 11) (.seq (.region false [⟨(some 12), .build [(.int .i64 0), (.int .i64 0)] [], none, [], false, false⟩,
         ⟨(some 13), .move (.tmp 6), none, [], false, false⟩,
         ⟨none, .store 2 (.tmp 4) (.tmp 12), none, [], false, false⟩,
         ⟨(some 5), .move (.tmp 13), none, [], false, false⟩])
      (.ret))
     (.skip))))
  (.seq (.region false [⟨(some 14), .load true 3 (.tmp 2), none, [], false, false⟩,
      ⟨(some 15), .move (.tmp 1), none, [], false, false⟩,
      ⟨(some 16), .call 74 [(.tmp 14), (.tmp 15)], none, [], false, false⟩,
      ⟨none, .store 2 (.tmp 4) (.tmp 16), none, [], false, false⟩,
      ⟨(some 5), .move (.const (.int .i64 0)), none, [], false, false⟩])
   (.ret))),
 [.cell 4 true 2, .tmp 5], .pure, 17⟩

/-- agraffe/agrafferef02.CheckStringing -/
def ef26 : EFun := ⟨
 .seq (.region false [⟨(some 1), .box (.tmp 0), none, [], false, false⟩,
    ⟨(some 2), .move (.const (.int .i64 0)), none, [], false, false⟩,
    ⟨(some 3), .move (.const (.int .i64 0)), none, [], false, false⟩])
 (.seq (.seq (.region false [⟨(some 7), .fieldAddr 0 (.tmp 1), none, [], false, false⟩,
      ⟨(some 8), .load false 1 (.tmp 7), none, [], false, false⟩,
      ⟨(some 9), .call 18 [(.tmp 8), (.const (.int .i64 1000)), (.const (.int .i64 10000000))], none, [], false, false⟩,
      ⟨(some 10), .un .not (.tmp 9), none, [], false, false⟩])
   (.cond (.tmp 10) (.seq (.region false [⟨(some 2), .move (.const (.int .i64 0)), none, [], false, false⟩,
        ⟨(some 3), .move (.const (.int .i64 2)), none, [], false, false⟩])
     (.ret))
    (.skip)))
  (.seq (.seq (.region false [⟨(some 11), .fieldAddr 1 (.tmp 1), none, [], false, false⟩,
       ⟨(some 12), .load false 1 (.tmp 11), none, [], false, false⟩,
       ⟨(some 13), .call 75 [(.tmp 12)], none, [], false, false⟩,
       ⟨(some 4), .move (.tmp 13), none, [], false, false⟩])
    (.seq (.region false [⟨(some 14), .move (.tmp 4), none, [], false, false⟩,
        ⟨(some 15), .bin .neq (.tmp 14) (.const (.int .i64 0)), none, [], false, false⟩])
     (.cond (.tmp 15) (.seq (.region false [⟨(some 16), .move (.tmp 4), none, [], false, false⟩,
          ⟨(some 2), .move (.const (.int .i64 0)), none, [], false, false⟩,
          ⟨(some 3), .move (.tmp 16), none, [], false, false⟩])
       (.ret))
      (.skip))))
   (.seq (.seq (.region false [⟨(some 17), .fieldAddr 2 (.tmp 1), none, [], false, false⟩,
        ⟨(some 18), .load false 1 (.tmp 17), none, [], false, false⟩,
        ⟨(some 19), .len false (.tmp 18), none, [], false, false⟩,
        ⟨(some 20), .bin .gtr (.tmp 19) (.const (.int .i64 90)), none, [], false, false⟩])
     (.cond (.tmp 20) (.seq (.region false [⟨(some 2), .move (.const (.int .i64 0)), none, [], false, false⟩,
          ⟨(some 3), .move (.const (.int .i64 8)), none, [], false, false⟩])
       (.ret))
      (.skip)))
    (.seq (.seq (.region false [⟨(some 5), .move (.const (.int .i64 0)), none, [], false, false⟩])
      (.block 0 (.loop (some [1, 5]) (
        .seq (.seq (.region false [⟨(some 21), .move (.tmp 5), none, [], false, false⟩,
             ⟨(some 22), .fieldAddr 2 (.tmp 1), none, [], false, false⟩,
             ⟨(some 23), .load false 1 (.tmp 22), none, [], false, false⟩,
             ⟨(some 24), .len false (.tmp 23), none, [], false, false⟩,
             ⟨(some 25), .bin .lss (.tmp 21) (.tmp 24), none, [], false, false⟩])
          (.cond (.tmp 25) (.skip)
           (.exit 0)))
         (.seq (.block 1 (.seq (.region false [⟨(some 28), .load true 3 (.tmp 1), none, [], false, false⟩,
               ⟨(some 29), .move (.tmp 5), none, [], false, false⟩,
               ⟨(some 30), .call 76 [(.tmp 28), (.tmp 29)], none, [], false, false⟩,
               ⟨(some 6), .move (.tmp 30), none, [], false, false⟩])
            (.seq (.region false [⟨(some 31), .move (.tmp 6), none, [], false, false⟩,
                ⟨(some 32), .bin .neq (.tmp 31) (.const (.int .i64 0)), none, [], false, false⟩])
             (.cond (.tmp 32) (.seq (.region false [⟨(some 33), .move (.tmp 5), none, [], false, false⟩,
                  ⟨(some 34), .move (.tmp 6), none, [], false, false⟩,
                  ⟨(some 2), .move (.tmp 33), none, [], false, false⟩,
                  ⟨(some 3), .move (.tmp 34), none, [], false, false⟩])
               (.ret))
              (.skip)))))
          (.region false [⟨(some 26), .move (.tmp 5), none, [], false, false⟩,
             ⟨(some 27), .bin .add (.tmp 26) (.const (.int .i64 1)), none, [], false, false⟩,
             ⟨(some 5), .move (.tmp 27), none, [], false, false⟩]))))))
     (.seq (.region false [⟨(some 2), .move (.const (.int .i64 0)), none, [], false, false⟩,
         ⟨(some 3), .move (.const (.int .i64 0)), none, [], false, false⟩])
      (.ret)))))),
 [.tmp 2, .tmp 3], .pure, 35⟩

/-- agraffe/agrafferef02.Know -/
def ef27 : EFun := ⟨
 .seq (.region false [⟨(some 1), .box (.tmp 0), none, [], false, false⟩,
    ⟨(some 2), .push [(.int .i64 0), (.slice none 0 0), (.slice none 0 0), (.slice none 0 0)], none, [], false, false⟩])
 (.seq (.region false [⟨(some 7), .load true 3 (.tmp 1), none, [], false, false⟩,
     ⟨(some 8), .build [(.int .i64 0), (.slice none 0 0), (.slice none 0 0), (.slice none 0 0)] [(0, 3, (.tmp 7))], none, [], false, false⟩,
     ⟨(some 3), .push [(.int .i64 0), (.slice none 0 0), (.slice none 0 0), (.slice none 0 0)], none, [], false, false⟩,
     ⟨none, .store 4 (.tmp 3) (.tmp 8), none, [], false, false⟩])
  (.seq (.seq (.region false [⟨(some 4), .move (.const (.int .i64 0)), none, [], false, false⟩])
    (.block 0 (.loop (some [1, 2, 3, 4]) (
      .seq (.seq (.region false [⟨(some 9), .move (.tmp 4), none, [], false, false⟩,
           ⟨(some 10), .fieldAddr 2 (.tmp 1), none, [], false, false⟩,
           ⟨(some 11), .load false 1 (.tmp 10), none, [], false, false⟩,
           ⟨(some 12), .len false (.tmp 11), none, [], false, false⟩,
           ⟨(some 13), .bin .lss (.tmp 9) (.tmp 12), none, [], false, false⟩])
        (.cond (.tmp 13) (.skip)
         (.exit 0)))
       (.seq (.block 1 (.seq (.region true [⟨(some 17), .fieldAddr 2 (.tmp 1), none, [], false, false⟩,
             ⟨(some 18), .load false 1 (.tmp 17), none, [], false, false⟩,
             ⟨(some 19), .move (.tmp 4), none, [], false, false⟩,
             ⟨(some 20), .indexAddr none 10 (.tmp 18) (.tmp 19), none, [], false, false⟩,
             ⟨(some 21), .fieldAddr 0 (.tmp 20), none, [], false, false⟩,
             ⟨(some 22), .load true 4 (.tmp 21), none, [], false, false⟩,
             ⟨(some 23), .fieldAddr 0 (.tmp 1), none, [], false, false⟩,
             ⟨(some 24), .load false 1 (.tmp 23), none, [], false, false⟩,
             ⟨(some 25), .call 77 [(.tmp 22), (.tmp 24)], none, [], false, true⟩,
             ⟨(some 16), .move (.tmp 25), none, [], false, false⟩,
             ⟨(some 26), .extract (.tmp 16) 0, none, [], false, false⟩,
             ⟨(some 27), .extract (.tmp 16) 1, none, [], false, false⟩,
             ⟨(some 5), .push [(.int .i64 0), (.int .i64 0)], none, [], false, false⟩,
             ⟨none, .store 2 (.tmp 5) (.tmp 26), none, [], false, false⟩,
             ⟨(some 6), .move (.tmp 27), none, [], false, false⟩])
          (.region false [⟨(some 28), .fieldAddr 3 (.tmp 3), none, [], false, false⟩,
             ⟨(some 29), .load false 1 (.tmp 28), none, [], false, false⟩,
             ⟨(some 30), .load true 2 (.tmp 5), none, [], false, false⟩,
             ⟨(some 31), .buildSlice 2 1 [(.int .i64 0), (.int .i64 0)] [(0, 2, (.tmp 30))], none, [], false, false⟩,
             ⟨(some 32), .append 2 16 (.tmp 29) (.tmp 31), none, [], false, false⟩,
             ⟨(some 33), .fieldAddr 3 (.tmp 3), none, [], false, false⟩,
             ⟨none, .store 1 (.tmp 33) (.tmp 32), none, [], false, false⟩])))
        (.region false [⟨(some 14), .move (.tmp 4), none, [], false, false⟩,
           ⟨(some 15), .bin .add (.tmp 14) (.const (.int .i64 1)), none, [], false, false⟩,
           ⟨(some 4), .move (.tmp 15), none, [], false, false⟩]))))))
   (.seq (.region false [⟨(some 34), .load true 4 (.tmp 3), none, [], false, false⟩,
       ⟨none, .store 4 (.tmp 2) (.tmp 34), none, [], false, false⟩])
    (.ret)))),
 [.cell 2 true 4], .pure, 35⟩

/-- agraffe/agraffebase.Ranges -/
def ef28 : EFun := ⟨
 .seq (.region false [⟨(some 4), .move (.const (.bool false)), none, [], false, false⟩])
 (.seq (.seq (.region false [⟨(some 6), .move (.tmp 0), none, [], false, false⟩,
      ⟨(some 7), .len false (.tmp 6), none, [], false, false⟩,
      ⟨(some 8), .move (.tmp 1), none, [], false, false⟩,
      ⟨(some 9), .len false (.tmp 8), none, [], false, false⟩,
      ⟨(some 10), .bin .neq (.tmp 7) (.tmp 9), none, [], false, false⟩])
   (.cond (.tmp 10) (.seq (.region false [⟨(some 4), .move (.const (.bool false)), none, [], false, false⟩])
     (.ret))
    (.skip)))
  (.seq (.seq (.region false [⟨(some 5), .move (.const (.int .i64 0)), none, [], false, false⟩])
    (.block 0 (.loop (some [0, 1, 5]) (
      .seq (.seq (.region false [⟨(some 11), .move (.tmp 5), none, [], false, false⟩,
           ⟨(some 12), .move (.tmp 0), none, [], false, false⟩,
           ⟨(some 13), .len false (.tmp 12), none, [], false, false⟩,
           ⟨(some 14), .bin .lss (.tmp 11) (.tmp 13), none, [], false, false⟩])
        (.cond (.tmp 14) (.skip)
         (.exit 0)))
       (.seq (.block 1 (.seq (.region true [⟨(some 17), .move (.tmp 0), none, [], false, false⟩,
             ⟨(some 18), .move (.tmp 5), none, [], false, false⟩,
             ⟨(some 19), .indexAddr none 2 (.tmp 17) (.tmp 18), none, [], false, false⟩,
             ⟨(some 20), .load true 2 (.tmp 19), none, [], false, false⟩,
             ⟨(some 21), .move (.tmp 1), none, [], false, false⟩,
             ⟨(some 22), .move (.tmp 5), none, [], false, false⟩,
             ⟨(some 23), .indexAddr none 2 (.tmp 21) (.tmp 22), none, [], false, false⟩,
             ⟨(some 24), .load true 2 (.tmp 23), none, [], false, false⟩,
             ⟨(some 25), .eqAgg true [(.int .i64), (.int .i64)] (.tmp 20) (.tmp 24), none, [], false, false⟩])
          (.cond (.tmp 25) (.seq (.region false [⟨(some 4), .move (.const (.bool false)), none, [], false, false⟩])
            (.ret))
           (.skip))))
        (.region false [⟨(some 15), .move (.tmp 5), none, [], false, false⟩,
           ⟨(some 16), .bin .add (.tmp 15) (.const (.int .i64 1)), none, [], false, false⟩,
           ⟨(some 5), .move (.tmp 16), none, [], false, false⟩]))))))
   (.seq (.region false [⟨(some 4), .move (.const (.bool true)), none, [], false, false⟩])
    (.ret)))),
 [.tmp 4], .pure, 26⟩

/-- agraffe/agrafferef02.Tensions -/
def ef29 : EFun := ⟨
 .seq (.region false [⟨(some 1), .box (.tmp 0), none, [], false, false⟩,
    ⟨(some 2), .move (.const (.slice none 0 0)), none, [], false, false⟩])
 (.seq (.region false [⟨(some 3), .move (.const (.slice none 0 0)), none, [], false, false⟩])
  (.seq (.seq (.region false [⟨(some 4), .move (.const (.int .i64 0)), none, [], false, false⟩])
    (.block 0 (.loop (some [1, 3, 4]) (
      .seq (.seq (.region false [⟨(some 5), .move (.tmp 4), none, [], false, false⟩,
           ⟨(some 6), .fieldAddr 0 (.tmp 1), none, [], false, false⟩,
           ⟨(some 7), .fieldAddr 2 (.tmp 6), none, [], false, false⟩,
           ⟨(some 8), .load false 1 (.tmp 7), none, [], false, false⟩,
           ⟨(some 9), .len false (.tmp 8), none, [], false, false⟩,
           ⟨(some 10), .bin .lss (.tmp 5) (.tmp 9), none, [], false, false⟩])
        (.cond (.tmp 10) (.skip)
         (.exit 0)))
       (.seq (.block 1 (.region true [⟨(some 13), .move (.tmp 3), none, [], false, false⟩,
            ⟨(some 14), .load true 4 (.tmp 1), none, [], false, false⟩,
            ⟨(some 15), .move (.tmp 4), none, [], false, false⟩,
            ⟨(some 16), .fieldAddr 0 (.tmp 1), none, [], false, false⟩,
            ⟨(some 17), .fieldAddr 2 (.tmp 16), none, [], false, false⟩,
            ⟨(some 18), .load false 1 (.tmp 17), none, [], false, false⟩,
            ⟨(some 19), .move (.tmp 4), none, [], false, false⟩,
            ⟨(some 20), .indexAddr none 10 (.tmp 18) (.tmp 19), none, [], false, false⟩,
            ⟨(some 21), .fieldAddr 5 (.tmp 20), none, [], false, false⟩,
            ⟨(some 22), .load true 5 (.tmp 21), none, [], false, false⟩,
            ⟨(some 23), .call 78 [(.tmp 14), (.tmp 15), (.tmp 22)], none, [], false, false⟩,
            ⟨(some 24), .buildSlice 2 1 [(.int .i64 0), (.int .i64 0)] [(0, 2, (.tmp 23))], none, [], false, false⟩,
            ⟨(some 25), .append 2 16 (.tmp 13) (.tmp 24), none, [], false, false⟩,
            ⟨(some 3), .move (.tmp 25), none, [], false, false⟩]))
        (.region false [⟨(some 11), .move (.tmp 4), none, [], false, false⟩,
           ⟨(some 12), .bin .add (.tmp 11) (.const (.int .i64 1)), none, [], false, false⟩,
           ⟨(some 4), .move (.tmp 12), none, [], false, false⟩]))))))
   (.seq (.region false [⟨(some 26), .move (.tmp 3), none, [], false, false⟩,
       ⟨(some 2), .move (.tmp 26), none, [], false, false⟩])
    (.ret)))),
 [.tmp 2], .pure, 27⟩

/-- agraffe/agrafferef02.Total -/
def ef30 : EFun := ⟨
 .seq (.region false [⟨(some 1), .box (.tmp 0), none, [], false, false⟩,
    ⟨(some 2), .push [(.int .i64 0), (.int .i64 0)], none, [], false, false⟩])
 (.seq (.region false [⟨(some 6), .load true 4 (.tmp 1), none, [], false, false⟩,
     ⟨(some 7), .call 29 [(.tmp 6)], none, [], false, false⟩,
     ⟨(some 3), .move (.tmp 7), none, [], false, false⟩])
  (.seq (.region false [⟨(some 4), .push [(.int .i64 0), (.int .i64 0)], none, [], false, false⟩])
   (.seq (.seq (.region false [⟨(some 5), .move (.const (.int .i64 0)), none, [], false, false⟩])
     (.block 0 (.loop (some [1, 2, 3, 4, 5]) (
       .seq (.seq (.region false [⟨(some 8), .move (.tmp 5), none, [], false, false⟩,
            ⟨(some 9), .move (.tmp 3), none, [], false, false⟩,
            ⟨(some 10), .len false (.tmp 9), none, [], false, false⟩,
            ⟨(some 11), .bin .lss (.tmp 8) (.tmp 10), none, [], false, false⟩])
         (.cond (.tmp 11) (.skip)
          (.exit 0)))
        (.seq (.block 1 (.seq (.region true [⟨(some 14), .fieldAddr 0 (.tmp 4), none, [], false, false⟩,
              ⟨(some 15), .load false 1 (.tmp 14), none, [], false, false⟩,
              ⟨(some 16), .fieldAddr 0 (.tmp 1), none, [], false, false⟩,
              ⟨(some 17), .fieldAddr 2 (.tmp 16), none, [], false, false⟩,
              ⟨(some 18), .load false 1 (.tmp 17), none, [], false, false⟩,
              ⟨(some 19), .move (.tmp 5), none, [], false, false⟩,
              ⟨(some 20), .indexAddr none 10 (.tmp 18) (.tmp 19), none, [], false, false⟩,
              ⟨(some 21), .fieldAddr 4 (.tmp 20), none, [], false, false⟩,
              ⟨(some 22), .load false 1 (.tmp 21), none, [], false, false⟩,
              ⟨(some 23), .move (.tmp 3), none, [], false, false⟩,
              ⟨(some 24), .move (.tmp 5), none, [], false, false⟩,
              ⟨(some 25), .indexAddr none 2 (.tmp 23) (.tmp 24), none, [], false, false⟩,
              ⟨(some 26), .fieldAddr 0 (.tmp 25), none, [], false, false⟩,
              ⟨(some 27), .load false 1 (.tmp 26), none, [], false, false⟩,
              ⟨(some 28), .bin .mul (.tmp 22) (.tmp 27), none, [], false, false⟩,
              ⟨(some 29), .bin .add (.tmp 15) (.tmp 28), none, [], false, false⟩,
              ⟨(some 30), .fieldAddr 0 (.tmp 4), none, [], false, false⟩,
              ⟨none, .store 1 (.tmp 30) (.tmp 29), none, [], false, false⟩])
           (.region true [⟨(some 31), .fieldAddr 1 (.tmp 4), none, [], false, false⟩,
              ⟨(some 32), .load false 1 (.tmp 31), none, [], false, false⟩,
              ⟨(some 33), .fieldAddr 0 (.tmp 1), none, [], false, false⟩,
              ⟨(some 34), .fieldAddr 2 (.tmp 33), none, [], false, false⟩,
              ⟨(some 35), .load false 1 (.tmp 34), none, [], false, false⟩,
              ⟨(some 36), .move (.tmp 5), none, [], false, false⟩,
              ⟨(some 37), .indexAddr none 10 (.tmp 35) (.tmp 36), none, [], false, false⟩,
              ⟨(some 38), .fieldAddr 4 (.tmp 37), none, [], false, false⟩,
              ⟨(some 39), .load false 1 (.tmp 38), none, [], false, false⟩,
              ⟨(some 40), .move (.tmp 3), none, [], false, false⟩,
              ⟨(some 41), .move (.tmp 5), none, [], false, false⟩,
              ⟨(some 42), .indexAddr none 2 (.tmp 40) (.tmp 41), none, [], false, false⟩,
              ⟨(some 43), .fieldAddr 1 (.tmp 42), none, [], false, false⟩,
              ⟨(some 44), .load false 1 (.tmp 43), none, [], false, false⟩,
              ⟨(some 45), .bin .mul (.tmp 39) (.tmp 44), none, [], false, false⟩,
              ⟨(some 46), .bin .add (.tmp 32) (.tmp 45), none, [], false, false⟩,
              ⟨(some 47), .fieldAddr 1 (.tmp 4), none, [], false, false⟩,
              ⟨none, .store 1 (.tmp 47) (.tmp 46), none, [], false, false⟩])))
         (.region false [⟨(some 12), .move (.tmp 5), none, [], false, false⟩,
            ⟨(some 13), .bin .add (.tmp 12) (.const (.int .i64 1)), none, [], false, false⟩,
            ⟨(some 5), .move (.tmp 13), none, [], false, false⟩]))))))
    (.seq (.region false [⟨(some 48), .load true 2 (.tmp 4), none, [], false, false⟩,
        ⟨none, .store 2 (.tmp 2) (.tmp 48), none, [], false, false⟩])
     (.ret))))),
 [.cell 2 true 2], .pure, 49⟩

/-- agraffe/agraffelaw02.few -/
def ef31 : EFun := ⟨
 .seq (.region false [⟨(some 2), .move (.const (.bool false)), none, [], false, false⟩])
 (.seq (.region false [⟨(some 3), .move (.tmp 0), none, [], false, false⟩,
     ⟨(some 4), .len false (.tmp 3), none, [], false, false⟩,
     ⟨(some 5), .bin .leq (.tmp 4) (.const (.int .i64 6)), none, [], false, false⟩,
     ⟨(some 6), .move (.tmp 5), none, [], false, false⟩,
     ⟨(some 7), .move (.tmp 0), (some (6, false)), [], false, false⟩,
     ⟨(some 8), .len false (.tmp 7), (some (6, false)), [], false, false⟩,
     ⟨(some 9), .bin .gtr (.tmp 8) (.const (.int .i64 20)), (some (6, false)), [], false, false⟩,
     ⟨(some 10), .move (.tmp 9), (some (6, false)), [], false, false⟩,
     ⟨(some 11), .move (.tmp 0), (some (10, true)), [], false, false⟩,
     ⟨(some 12), .len false (.tmp 11), (some (10, true)), [], false, false⟩,
     ⟨(some 13), .bin .leq (.tmp 12) (.const (.int .i64 25)), (some (10, true)), [], false, false⟩,
     ⟨(some 14), .pick (.tmp 10) (.tmp 13) (.const (.bool false)), (some (6, false)), [], false, false⟩,
     ⟨(some 15), .pick (.tmp 6) (.const (.bool true)) (.tmp 14), none, [], false, false⟩,
     ⟨(some 2), .move (.tmp 15), none, [], false, false⟩])
  (.ret)),
 [.tmp 2], .pure, 16⟩

/-- agraffe/scale.With -/
def ef32 : EFun := ⟨
 .seq (.region false [⟨(some 3), .box (.tmp 0), none, [], false, false⟩,
    ⟨(some 6), .push [(.int .i64 0), (.slice none 0 0), (.slice none 0 0)], none, [], false, false⟩,
    ⟨(some 7), .move (.const (.int .i64 0)), none, [], false, false⟩])
 (.seq (.seq (.region false [⟨(some 17), .load true 3 (.tmp 3), none, [], false, false⟩,
      ⟨(some 18), .call 21 [(.tmp 17)], none, [], false, false⟩,
      ⟨(some 16), .move (.tmp 18), none, [], false, false⟩,
      ⟨(some 19), .extract (.tmp 16) 0, none, [], false, false⟩,
      ⟨(some 20), .extract (.tmp 16) 1, none, [], false, false⟩,
      ⟨(some 8), .move (.tmp 19), none, [], false, false⟩,
      ⟨(some 9), .move (.tmp 20), none, [], false, false⟩])
   (.seq (.region false [⟨(some 21), .move (.tmp 9), none, [], false, false⟩,
       ⟨(some 22), .bin .neq (.tmp 21) (.const (.int .i64 0)), none, [], false, false⟩])
    (.cond (.tmp 22) (.seq (.region false [⟨(some 23), .build [(.int .i64 0), (.slice none 0 0), (.slice none 0 0)] [], none, [], false, false⟩,
         ⟨(some 24), .move (.tmp 9), none, [], false, false⟩,
         ⟨none, .store 3 (.tmp 6) (.tmp 23), none, [], false, false⟩,
         ⟨(some 7), .move (.tmp 24), none, [], false, false⟩])
      (.ret))
     (.skip))))
  (.seq (.seq (.region false [⟨(some 25), .move (.tmp 1), none, [], false, false⟩,
       ⟨(some 26), .call 79 [(.tmp 25)], none, [], false, false⟩,
       ⟨(some 10), .move (.tmp 26), none, [], false, false⟩])
    (.seq (.region false [⟨(some 27), .move (.tmp 10), none, [], false, false⟩,
        ⟨(some 28), .bin .neq (.tmp 27) (.const (.int .i64 0)), none, [], false, false⟩])
     (.cond (.tmp 28) (.seq (.region false [⟨(some 29), .build [(.int .i64 0), (.slice none 0 0), (.slice none 0 0)] [], none, [], false, false⟩,
          ⟨(some 30), .move (.tmp 10), none, [], false, false⟩,
          ⟨none, .store 3 (.tmp 6) (.tmp 29), none, [], false, false⟩,
          ⟨(some 7), .move (.tmp 30), none, [], false, false⟩])
       (.ret))
      (.skip))))
   (.seq (.seq (.region false [⟨(some 31), .move (.tmp 2), none, [], false, false⟩,
        ⟨(some 32), .len false (.tmp 31), none, [], false, false⟩,
        ⟨(some 33), .fieldAddr 2 (.tmp 3), none, [], false, false⟩,
        ⟨(some 34), .load false 1 (.tmp 33), none, [], false, false⟩,
        ⟨(some 35), .len false (.tmp 34), none, [], false, false⟩,
        ⟨(some 36), .bin .neq (.tmp 32) (.tmp 35), none, [], false, false⟩])
     (.cond (.tmp 36) (.seq (.region false [⟨(some 37), .build [(.int .i64 0), (.slice none 0 0), (.slice none 0 0)] [], none, [], false, false⟩,
          ⟨none, .store 3 (.tmp 6) (.tmp 37), none, [], false, false⟩,
          ⟨(some 7), .move (.const (.int .i64 10)), none, [], false, false⟩])
       (.ret))
      (.skip)))
    (.seq (.region true [⟨(some 38), .fieldAddr 0 (.tmp 3), none, [], false, false⟩,
        ⟨(some 39), .load false 1 (.tmp 38), none, [], false, false⟩,
        ⟨(some 40), .fieldAddr 1 (.tmp 3), none, [], false, false⟩,
        ⟨(some 41), .load false 1 (.tmp 40), none, [], false, false⟩,
        ⟨(some 42), .call 80 [(.tmp 41)], none, [], false, true⟩,
        ⟨(some 43), .fieldAddr 2 (.tmp 3), none, [], false, false⟩,
        ⟨(some 44), .load false 1 (.tmp 43), none, [], false, false⟩,
        ⟨(some 45), .call 81 [(.tmp 44)], none, [], false, true⟩,
        ⟨(some 46), .build [(.int .i64 0), (.slice none 0 0), (.slice none 0 0)] [(0, 1, (.tmp 39)), (1, 1, (.tmp 42)), (2, 1, (.tmp 45))], none, [], false, false⟩,
        ⟨(some 11), .push [(.int .i64 0), (.slice none 0 0), (.slice none 0 0)], none, [], false, false⟩,
        ⟨none, .store 3 (.tmp 11) (.tmp 46), none, [], false, false⟩])
     (.seq (.seq (.region false [⟨(some 47), .move (.tmp 2), none, [], false, false⟩,
          ⟨(some 48), .len false (.tmp 47), none, [], false, false⟩,
          ⟨(some 49), .move (.const (.int .i64 0)), none, [], false, false⟩])
       (.block 0 (.loop (some [1, 6, 11, 47, 48, 49]) (
         .seq (.region false [⟨(some 50), .bin .lss (.tmp 49) (.tmp 48), none, [], false, false⟩])
          (.seq (.cond (.tmp 50) (.skip)
            (.exit 0))
           (.seq (.block 1 (.seq (.region false [⟨(some 51), .move (.tmp 49), none, [], false, false⟩,
                 ⟨(some 52), .indexAddr none 1 (.tmp 47) (.tmp 49), none, [], false, false⟩,
                 ⟨(some 53), .load false 1 (.tmp 52), none, [], false, false⟩,
                 ⟨(some 12), .move (.tmp 51), none, [], false, false⟩,
                 ⟨(some 13), .move (.tmp 53), none, [], false, false⟩])
              (.seq (.seq (.region false [⟨(some 54), .move (.tmp 13), none, [], false, false⟩,
                   ⟨(some 55), .move (.tmp 1), none, [], false, false⟩,
                   ⟨(some 56), .len false (.tmp 55), none, [], false, false⟩,
                   ⟨(some 57), .bin .sub (.tmp 56) (.const (.int .i64 1)), none, [], false, false⟩,
                   ⟨(some 58), .call 69 [(.tmp 54), (.const (.int .i64 0)), (.tmp 57)], none, [], false, false⟩,
                   ⟨(some 59), .un .not (.tmp 58), none, [], false, false⟩])
                (.cond (.tmp 59) (.seq (.region false [⟨(some 60), .build [(.int .i64 0), (.slice none 0 0), (.slice none 0 0)] [], none, [], false, false⟩,
                     ⟨none, .store 3 (.tmp 6) (.tmp 60), none, [], false, false⟩,
                     ⟨(some 7), .move (.const (.int .i64 6)), none, [], false, false⟩])
                  (.ret))
                 (.skip)))
               (.region true [⟨(some 61), .fieldAddr 2 (.tmp 11), none, [], false, false⟩,
                  ⟨(some 62), .load false 1 (.tmp 61), none, [], false, false⟩,
                  ⟨(some 63), .move (.tmp 12), none, [], false, false⟩,
                  ⟨(some 64), .move (.tmp 1), none, [], false, false⟩,
                  ⟨(some 65), .move (.tmp 13), none, [], false, false⟩,
                  ⟨(some 66), .indexAddr none 1 (.tmp 64) (.tmp 65), none, [], false, false⟩,
                  ⟨(some 67), .load false 1 (.tmp 66), none, [], false, false⟩,
                  ⟨(some 68), .indexAddr none 10 (.tmp 62) (.tmp 63), none, [], false, false⟩,
                  ⟨(some 69), .fieldAddr 5 (.tmp 68), none, [], false, false⟩,
                  ⟨(some 70), .fieldAddr 1 (.tmp 69), none, [], false, false⟩,
                  ⟨none, .store 1 (.tmp 70) (.tmp 67), none, [], false, false⟩]))))
            (.region false [⟨(some 71), .bin .add (.tmp 49) (.const (.int .i64 1)), none, [], false, false⟩,
               ⟨(some 49), .move (.tmp 71), none, [], false, false⟩])))))))
      (.seq (.seq (.region false [⟨(some 73), .load true 3 (.tmp 11), none, [], false, false⟩,
           ⟨(some 74), .call 21 [(.tmp 73)], none, [], false, false⟩,
           ⟨(some 72), .move (.tmp 74), none, [], false, false⟩,
           ⟨(some 75), .extract (.tmp 72) 0, none, [], false, false⟩,
           ⟨(some 76), .extract (.tmp 72) 1, none, [], false, false⟩,
           ⟨(some 14), .move (.tmp 75), none, [], false, false⟩,
           ⟨(some 15), .move (.tmp 76), none, [], false, false⟩])
        (.seq (.region false [⟨(some 77), .move (.tmp 15), none, [], false, false⟩,
            ⟨(some 78), .bin .neq (.tmp 77) (.const (.int .i64 0)), none, [], false, false⟩])
         (.cond (.tmp 78) (.seq (.region false [⟨(some 79), .build [(.int .i64 0), (.slice none 0 0), (.slice none 0 0)] [], none, [], false, false⟩,
              ⟨(some 80), .move (.tmp 15), none, [], false, false⟩,
              ⟨none, .store 3 (.tmp 6) (.tmp 79), none, [], false, false⟩,
              ⟨(some 7), .move (.tmp 80), none, [], false, false⟩])
           (.ret))
          (.skip))))
       (.seq (.region false [⟨(some 81), .load true 3 (.tmp 11), none, [], false, false⟩,
           ⟨none, .store 3 (.tmp 6) (.tmp 81), none, [], false, false⟩,
           ⟨(some 7), .move (.const (.int .i64 0)), none, [], false, false⟩])
        (.ret)))))))),
 [.cell 6 true 3, .tmp 7], .pure, 82⟩

/-- agraffe/agraffelaw02.Same -/
def ef33 : EFun := ⟨
 .seq (.region false [⟨(some 2), .box (.tmp 0), none, [], false, false⟩,
    ⟨(some 3), .box (.tmp 1), none, [], false, false⟩,
    ⟨(some 4), .move (.const (.bool false)), none, [], false, false⟩])
 (.seq (.seq (.region false [⟨(some 7), .fieldAddr 0 (.tmp 2), none, [], false, false⟩,
      ⟨(some 8), .load false 1 (.tmp 7), none, [], false, false⟩,
      ⟨(some 9), .fieldAddr 0 (.tmp 3), none, [], false, false⟩,
      ⟨(some 10), .load false 1 (.tmp 9), none, [], false, false⟩,
      ⟨(some 11), .bin .neq (.tmp 8) (.tmp 10), none, [], false, false⟩,
      ⟨(some 12), .move (.tmp 11), none, [], false, false⟩,
      ⟨(some 13), .fieldAddr 1 (.tmp 2), (some (12, false)), [], false, false⟩,
      ⟨(some 14), .load false 1 (.tmp 13), (some (12, false)), [], false, false⟩,
      ⟨(some 15), .len false (.tmp 14), (some (12, false)), [], false, false⟩,
      ⟨(some 16), .fieldAddr 1 (.tmp 3), (some (12, false)), [], false, false⟩,
      ⟨(some 17), .load false 1 (.tmp 16), (some (12, false)), [], false, false⟩,
      ⟨(some 18), .len false (.tmp 17), (some (12, false)), [], false, false⟩,
      ⟨(some 19), .bin .neq (.tmp 15) (.tmp 18), (some (12, false)), [], false, false⟩,
      ⟨(some 20), .pick (.tmp 12) (.const (.bool true)) (.tmp 19), none, [], false, false⟩,
      ⟨(some 21), .move (.tmp 20), none, [], false, false⟩,
      ⟨(some 22), .fieldAddr 2 (.tmp 2), (some (21, false)), [], false, false⟩,
      ⟨(some 23), .load false 1 (.tmp 22), (some (21, false)), [], false, false⟩,
      ⟨(some 24), .len false (.tmp 23), (some (21, false)), [], false, false⟩,
      ⟨(some 25), .fieldAddr 2 (.tmp 3), (some (21, false)), [], false, false⟩,
      ⟨(some 26), .load false 1 (.tmp 25), (some (21, false)), [], false, false⟩,
      ⟨(some 27), .len false (.tmp 26), (some (21, false)), [], false, false⟩,
      ⟨(some 28), .bin .neq (.tmp 24) (.tmp 27), (some (21, false)), [], false, false⟩,
      ⟨(some 29), .pick (.tmp 21) (.const (.bool true)) (.tmp 28), none, [], false, false⟩])
   (.cond (.tmp 29) (.seq (.region false [⟨(some 4), .move (.const (.bool false)), none, [], false, false⟩])
     (.ret))
    (.skip)))
  (.seq (.seq (.region false [⟨(some 5), .move (.const (.int .i64 0)), none, [], false, false⟩])
    (.block 0 (.loop (some [2, 3, 5]) (
      .seq (.seq (.region false [⟨(some 30), .move (.tmp 5), none, [], false, false⟩,
           ⟨(some 31), .fieldAddr 1 (.tmp 2), none, [], false, false⟩,
           ⟨(some 32), .load false 1 (.tmp 31), none, [], false, false⟩,
           ⟨(some 33), .len false (.tmp 32), none, [], false, false⟩,
           ⟨(some 34), .bin .lss (.tmp 30) (.tmp 33), none, [], false, false⟩])
        (.cond (.tmp 34) (.skip)
         (.exit 0)))
       (.seq (.block 1 (.seq (.region true [⟨(some 37), .fieldAddr 1 (.tmp 2), none, [], false, false⟩,
             ⟨(some 38), .load false 1 (.tmp 37), none, [], false, false⟩,
             ⟨(some 39), .move (.tmp 5), none, [], false, false⟩,
             ⟨(some 40), .indexAddr none 4 (.tmp 38) (.tmp 39), none, [], false, false⟩,
             ⟨(some 41), .load true 4 (.tmp 40), none, [], false, false⟩,
             ⟨(some 42), .fieldAddr 1 (.tmp 3), none, [], false, false⟩,
             ⟨(some 43), .load false 1 (.tmp 42), none, [], false, false⟩,
             ⟨(some 44), .move (.tmp 5), none, [], false, false⟩,
             ⟨(some 45), .indexAddr none 4 (.tmp 43) (.tmp 44), none, [], false, false⟩,
             ⟨(some 46), .load true 4 (.tmp 45), none, [], false, false⟩,
             ⟨(some 47), .eqAgg true [.str, (.int .i64), (.int .i64), (.int .i64)] (.tmp 41) (.tmp 46), none, [], false, false⟩])
          (.cond (.tmp 47) (.seq (.region false [⟨(some 4), .move (.const (.bool false)), none, [], false, false⟩])
            (.ret))
           (.skip))))
        (.region false [⟨(some 35), .move (.tmp 5), none, [], false, false⟩,
           ⟨(some 36), .bin .add (.tmp 35) (.const (.int .i64 1)), none, [], false, false⟩,
           ⟨(some 5), .move (.tmp 36), none, [], false, false⟩]))))))
   (.seq (.seq (.region false [⟨(some 6), .move (.const (.int .i64 0)), none, [], false, false⟩])
     (.block 2 (.loop (some [2, 3, 6]) (
       .seq (.seq (.region false [⟨(some 48), .move (.tmp 6), none, [], false, false⟩,
            ⟨(some 49), .fieldAddr 2 (.tmp 2), none, [], false, false⟩,
            ⟨(some 50), .load false 1 (.tmp 49), none, [], false, false⟩,
            ⟨(some 51), .len false (.tmp 50), none, [], false, false⟩,
            ⟨(some 52), .bin .lss (.tmp 48) (.tmp 51), none, [], false, false⟩])
         (.cond (.tmp 52) (.skip)
          (.exit 2)))
        (.seq (.block 3 (.seq (.region true [⟨(some 55), .fieldAddr 2 (.tmp 2), none, [], false, false⟩,
              ⟨(some 56), .load false 1 (.tmp 55), none, [], false, false⟩,
              ⟨(some 57), .move (.tmp 6), none, [], false, false⟩,
              ⟨(some 58), .indexAddr none 10 (.tmp 56) (.tmp 57), none, [], false, false⟩,
              ⟨(some 59), .load true 10 (.tmp 58), none, [], false, false⟩,
              ⟨(some 60), .fieldAddr 2 (.tmp 3), none, [], false, false⟩,
              ⟨(some 61), .load false 1 (.tmp 60), none, [], false, false⟩,
              ⟨(some 62), .move (.tmp 6), none, [], false, false⟩,
              ⟨(some 63), .indexAddr none 10 (.tmp 61) (.tmp 62), none, [], false, false⟩,
              ⟨(some 64), .load true 10 (.tmp 63), none, [], false, false⟩,
              ⟨(some 65), .eqAgg true [(.int .i64), (.int .i64), (.int .i64), (.int .i64), (.int .i64), (.int .i64), (.int .i64), (.int .i64), .str, .str] (.tmp 59) (.tmp 64), none, [], false, false⟩])
           (.cond (.tmp 65) (.seq (.region false [⟨(some 4), .move (.const (.bool false)), none, [], false, false⟩])
             (.ret))
            (.skip))))
         (.region false [⟨(some 53), .move (.tmp 6), none, [], false, false⟩,
            ⟨(some 54), .bin .add (.tmp 53) (.const (.int .i64 1)), none, [], false, false⟩,
            ⟨(some 6), .move (.tmp 54), none, [], false, false⟩]))))))
    (.seq (.region false [⟨(some 4), .move (.const (.bool true)), none, [], false, false⟩])
     (.ret))))),
 [.tmp 4], .pure, 66⟩

/-- agraffe/agrafferef02.With -/
def ef34 : EFun := ⟨
 .seq (.region false [⟨(some 3), .box (.tmp 0), none, [], false, false⟩,
    ⟨(some 6), .push [(.int .i64 0), (.slice none 0 0), (.slice none 0 0)], none, [], false, false⟩,
    ⟨(some 7), .move (.const (.int .i64 0)), none, [], false, false⟩])
 (.seq (.seq (.region false [⟨(some 14), .move (.tmp 1), none, [], false, false⟩,
      ⟨(some 15), .call 56 [(.tmp 14)], none, [], false, false⟩,
      ⟨(some 8), .move (.tmp 15), none, [], false, false⟩])
   (.seq (.region false [⟨(some 16), .move (.tmp 8), none, [], false, false⟩,
       ⟨(some 17), .bin .neq (.tmp 16) (.const (.int .i64 0)), none, [], false, false⟩])
    (.cond (.tmp 17) (.seq (.region false [⟨(some 18), .build [(.int .i64 0), (.slice none 0 0), (.slice none 0 0)] [], none, [], false, false⟩,
         ⟨(some 19), .move (.tmp 8), none, [], false, false⟩,
         ⟨none, .store 3 (.tmp 6) (.tmp 18), none, [], false, false⟩,
         ⟨(some 7), .move (.tmp 19), none, [], false, false⟩])
      (.ret))
     (.skip))))
  (.seq (.seq (.region false [⟨(some 20), .move (.tmp 2), none, [], false, false⟩,
       ⟨(some 21), .len false (.tmp 20), none, [], false, false⟩,
       ⟨(some 22), .fieldAddr 2 (.tmp 3), none, [], false, false⟩,
       ⟨(some 23), .load false 1 (.tmp 22), none, [], false, false⟩,
       ⟨(some 24), .len false (.tmp 23), none, [], false, false⟩,
       ⟨(some 25), .bin .neq (.tmp 21) (.tmp 24), none, [], false, false⟩])
    (.cond (.tmp 25) (.seq (.region false [⟨(some 26), .build [(.int .i64 0), (.slice none 0 0), (.slice none 0 0)] [], none, [], false, false⟩,
         ⟨none, .store 3 (.tmp 6) (.tmp 26), none, [], false, false⟩,
         ⟨(some 7), .move (.const (.int .i64 10)), none, [], false, false⟩])
      (.ret))
     (.skip)))
   (.seq (.seq (.region false [⟨(some 9), .move (.const (.int .i64 0)), none, [], false, false⟩])
     (.block 0 (.loop (some [1, 2, 3, 6, 9]) (
       .seq (.seq (.region false [⟨(some 27), .move (.tmp 9), none, [], false, false⟩,
            ⟨(some 28), .move (.tmp 2), none, [], false, false⟩,
            ⟨(some 29), .len false (.tmp 28), none, [], false, false⟩,
            ⟨(some 30), .bin .lss (.tmp 27) (.tmp 29), none, [], false, false⟩])
         (.cond (.tmp 30) (.skip)
          (.exit 0)))
        (.seq (.block 1 (.seq (.region false [⟨(some 33), .move (.tmp 2), none, [], false, false⟩,
              ⟨(some 34), .move (.tmp 9), none, [], false, false⟩,
              ⟨(some 35), .indexAddr none 1 (.tmp 33) (.tmp 34), none, [], false, false⟩,
              ⟨(some 36), .load false 1 (.tmp 35), none, [], false, false⟩,
              ⟨(some 37), .move (.tmp 1), none, [], false, false⟩,
              ⟨(some 38), .len false (.tmp 37), none, [], false, false⟩,
              ⟨(some 39), .bin .sub (.tmp 38) (.const (.int .i64 1)), none, [], false, false⟩,
              ⟨(some 40), .call 18 [(.tmp 36), (.const (.int .i64 0)), (.tmp 39)], none, [], false, false⟩,
              ⟨(some 41), .un .not (.tmp 40), none, [], false, false⟩])
           (.cond (.tmp 41) (.seq (.region false [⟨(some 42), .build [(.int .i64 0), (.slice none 0 0), (.slice none 0 0)] [], none, [], false, false⟩,
                ⟨none, .store 3 (.tmp 6) (.tmp 42), none, [], false, false⟩,
                ⟨(some 7), .move (.const (.int .i64 6)), none, [], false, false⟩])
             (.ret))
            (.skip))))
         (.region false [⟨(some 31), .move (.tmp 9), none, [], false, false⟩,
            ⟨(some 32), .bin .add (.tmp 31) (.const (.int .i64 1)), none, [], false, false⟩,
            ⟨(some 9), .move (.tmp 32), none, [], false, false⟩]))))))
    (.seq (.region false [⟨(some 43), .load true 3 (.tmp 3), none, [], false, false⟩,
        ⟨(some 44), .call 22 [(.tmp 43)], none, [], false, false⟩,
        ⟨(some 10), .push [(.int .i64 0), (.slice none 0 0), (.slice none 0 0)], none, [], false, false⟩,
        ⟨none, .store 3 (.tmp 10) (.tmp 44), none, [], false, false⟩])
     (.seq (.seq (.region false [⟨(some 11), .move (.const (.int .i64 0)), none, [], false, false⟩])
       (.block 2 (.loop (some [1, 2, 6, 10, 11]) (
         .seq (.seq (.region false [⟨(some 45), .move (.tmp 11), none, [], false, false⟩,
              ⟨(some 46), .move (.tmp 2), none, [], false, false⟩,
              ⟨(some 47), .len false (.tmp 46), none, [], false, false⟩,
              ⟨(some 48), .bin .lss (.tmp 45) (.tmp 47), none, [], false, false⟩])
           (.cond (.tmp 48) (.skip)
            (.exit 2)))
          (.seq (.block 3 (.region true [⟨(some 51), .fieldAddr 2 (.tmp 10), none, [], false, false⟩,
               ⟨(some 52), .load false 1 (.tmp 51), none, [], false, false⟩,
               ⟨(some 53), .move (.tmp 11), none, [], false, false⟩,
               ⟨(some 54), .move (.tmp 1), none, [], false, false⟩,
               ⟨(some 55), .move (.tmp 2), none, [], false, false⟩,
               ⟨(some 56), .move (.tmp 11), none, [], false, false⟩,
               ⟨(some 57), .indexAddr none 1 (.tmp 55) (.tmp 56), none, [], false, false⟩,
               ⟨(some 58), .load false 1 (.tmp 57), none, [], false, false⟩,
               ⟨(some 59), .indexAddr none 1 (.tmp 54) (.tmp 58), none, [], false, false⟩,
               ⟨(some 60), .load false 1 (.tmp 59), none, [], false, false⟩,
               ⟨(some 61), .indexAddr none 10 (.tmp 52) (.tmp 53), none, [], false, false⟩,
               ⟨(some 62), .fieldAddr 5 (.tmp 61), none, [], false, false⟩,
               ⟨(some 63), .fieldAddr 1 (.tmp 62), none, [], false, false⟩,
               ⟨none, .store 1 (.tmp 63) (.tmp 60), none, [], false, false⟩]))
           (.region false [⟨(some 49), .move (.tmp 11), none, [], false, false⟩,
              ⟨(some 50), .bin .add (.tmp 49) (.const (.int .i64 1)), none, [], false, false⟩,
              ⟨(some 11), .move (.tmp 50), none, [], false, false⟩]))))))
      (.seq (.seq (.region false [⟨(some 65), .load true 3 (.tmp 10), none, [], false, false⟩,
           ⟨(some 66), .call 26 [(.tmp 65)], none, [], false, false⟩,
           ⟨(some 64), .move (.tmp 66), none, [], false, false⟩,
           ⟨(some 67), .extract (.tmp 64) 0, none, [], false, false⟩,
           ⟨(some 68), .extract (.tmp 64) 1, none, [], false, false⟩,
           ⟨(some 12), .move (.tmp 67), none, [], false, false⟩,
           ⟨(some 13), .move (.tmp 68), none, [], false, false⟩])
        (.seq (.region false [⟨(some 69), .move (.tmp 13), none, [], false, false⟩,
            ⟨(some 70), .bin .neq (.tmp 69) (.const (.int .i64 0)), none, [], false, false⟩])
         (.cond (.tmp 70) (.seq (.region false [⟨(some 71), .build [(.int .i64 0), (.slice none 0 0), (.slice none 0 0)] [], none, [], false, false⟩,
              ⟨(some 72), .move (.tmp 13), none, [], false, false⟩,
              ⟨none, .store 3 (.tmp 6) (.tmp 71), none, [], false, false⟩,
              ⟨(some 7), .move (.tmp 72), none, [], false, false⟩])
           (.ret))
          (.skip))))
       (.seq (.region false [⟨(some 73), .load true 3 (.tmp 10), none, [], false, false⟩,
           ⟨none, .store 3 (.tmp 6) (.tmp 73), none, [], false, false⟩,
           ⟨(some 7), .move (.const (.int .i64 0)), none, [], false, false⟩])
        (.ret)))))))),
 [.cell 6 true 3, .tmp 7], .pure, 74⟩

end Go.Abs.X
