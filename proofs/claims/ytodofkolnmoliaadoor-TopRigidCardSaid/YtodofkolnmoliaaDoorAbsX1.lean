/- The functions, compiled for the abstract evaluator. Written by wip/abs/Print.lean. -/
import Derived.Test.YtodofkolnmoliaaDoorAbsX0
set_option linter.unusedSimpArgs false
set_option linter.unusedVariables false
set_option maxRecDepth 100000
set_option maxHeartbeats 0
namespace Go.Abs.X
open Go Go.Abs
/-- agraffe/agraffetop.TopRigid -/
def ef9 : EFun := ⟨
 .seq (.region false [⟨(some 3), .box (.tmp 0), none, [], false, false⟩,
    ⟨(some 5), .box (.tmp 2), none, [], false, false⟩,
    ⟨(some 6), .move (.const (.bool false)), none, [], false, false⟩])
 (.seq (.seq (.region false [⟨(some 18), .call 12 [], none, [], false, false⟩,
      ⟨(some 19), .un .not (.tmp 18), none, [], false, false⟩])
   (.cond (.tmp 19) (.seq (.region false [⟨(some 6), .move (.const (.bool false)), none, [], false, false⟩])
     (.ret))
    (.skip)))
  (.seq (.seq (.region false [⟨(some 20), .move (.tmp 1), none, [], false, false⟩,
       ⟨(some 21), .len false (.tmp 20), none, [], false, false⟩,
       ⟨(some 22), .bin .gtr (.tmp 21) (.const (.int .i64 12)), none, [], false, false⟩,
       ⟨(some 23), .move (.tmp 22), none, [], false, false⟩,
       ⟨(some 24), .load true 3 (.tmp 3), (some (23, false)), [], false, false⟩,
       ⟨(some 25), .call 46 [(.tmp 24)], (some (23, false)), [], false, false⟩,
       ⟨(some 26), .bin .neq (.tmp 25) (.const (.int .i64 0)), (some (23, false)), [], false, false⟩,
       ⟨(some 27), .pick (.tmp 23) (.const (.bool true)) (.tmp 26), none, [], false, false⟩,
       ⟨(some 28), .move (.tmp 27), none, [], false, false⟩,
       ⟨(some 29), .move (.tmp 1), (some (28, false)), [], false, false⟩,
       ⟨(some 30), .fieldAddr 0 (.tmp 3), (some (28, false)), [], false, false⟩,
       ⟨(some 31), .load false 1 (.tmp 30), (some (28, false)), [], false, false⟩,
       ⟨(some 32), .fieldAddr 1 (.tmp 3), (some (28, false)), [], false, false⟩,
       ⟨(some 33), .load false 1 (.tmp 32), (some (28, false)), [], false, false⟩,
       ⟨(some 34), .call 47 [(.tmp 29), (.tmp 31), (.tmp 33)], (some (28, false)), [], false, false⟩,
       ⟨(some 35), .bin .neq (.tmp 34) (.const (.int .i64 0)), (some (28, false)), [], false, false⟩,
       ⟨(some 36), .pick (.tmp 28) (.const (.bool true)) (.tmp 35), none, [], false, false⟩,
       ⟨(some 37), .move (.tmp 36), none, [], false, false⟩,
       ⟨(some 38), .load true 3 (.tmp 5), (some (37, false)), [], false, false⟩,
       ⟨(some 39), .call 48 [(.tmp 38)], (some (37, false)), [], false, false⟩,
       ⟨(some 40), .un .not (.tmp 39), (some (37, false)), [], false, false⟩,
       ⟨(some 41), .pick (.tmp 37) (.const (.bool true)) (.tmp 40), none, [], false, false⟩])
    (.cond (.tmp 41) (.seq (.region false [⟨(some 6), .move (.const (.bool true)), none, [], false, false⟩])
      (.ret))
     (.skip)))
   (.seq (.region false [⟨(some 43), .load true 3 (.tmp 3), none, [], false, false⟩,
       ⟨(some 44), .move (.tmp 1), none, [], false, false⟩,
       ⟨(some 45), .call 49 [(.tmp 43), (.tmp 44)], none, [], false, false⟩,
       ⟨(some 42), .move (.tmp 45), none, [], false, false⟩,
       ⟨(some 46), .extract (.tmp 42) 0, none, [], false, false⟩,
       ⟨(some 47), .extract (.tmp 42) 1, none, [], false, false⟩,
       ⟨(some 7), .push [(.int .i64 0), (.int .i64 0), (.int .i64 0), (.int .i64 0)], none, [], false, false⟩,
       ⟨none, .store 4 (.tmp 7) (.tmp 46), none, [], false, false⟩,
       ⟨(some 8), .move (.tmp 47), none, [], false, false⟩])
    (.seq (.seq (.region false [⟨(some 48), .move (.tmp 8), none, [], false, false⟩,
         ⟨(some 49), .bin .neq (.tmp 48) (.const (.int .i64 0)), none, [], false, false⟩])
      (.cond (.tmp 49) (.seq (.region false [⟨(some 6), .move (.const (.bool false)), none, [], false, false⟩])
        (.ret))
       (.skip)))
     (.seq (.seq (.region false [⟨(some 50), .indexAddr (some 2) 2 (.tmp 7) (.const (.int .i64 0)), none, [], false, false⟩,
          ⟨(some 51), .fieldAddr 1 (.tmp 50), none, [], false, false⟩,
          ⟨(some 52), .load false 1 (.tmp 51), none, [], false, false⟩,
          ⟨(some 53), .bin .neq (.tmp 52) (.const (.int .i64 1)), none, [], false, false⟩,
          ⟨(some 54), .move (.tmp 53), none, [], false, false⟩,
          ⟨(some 55), .indexAddr (some 2) 2 (.tmp 7) (.const (.int .i64 1)), (some (54, false)), [], false, false⟩,
          ⟨(some 56), .fieldAddr 1 (.tmp 55), (some (54, false)), [], false, false⟩,
          ⟨(some 57), .load false 1 (.tmp 56), (some (54, false)), [], false, false⟩,
          ⟨(some 58), .bin .neq (.tmp 57) (.const (.int .i64 1)), (some (54, false)), [], false, false⟩,
          ⟨(some 59), .pick (.tmp 54) (.const (.bool true)) (.tmp 58), none, [], false, false⟩])
       (.cond (.tmp 59) (.seq (.region false [⟨(some 60), .indexAddr (some 2) 2 (.tmp 7) (.const (.int .i64 0)), none, [], false, false⟩,
            ⟨(some 61), .fieldAddr 1 (.tmp 60), none, [], false, false⟩,
            ⟨(some 62), .load false 1 (.tmp 61), none, [], false, false⟩,
            ⟨(some 63), .bin .gtr (.tmp 62) (.const (.int .i64 0)), none, [], false, false⟩,
            ⟨(some 64), .move (.tmp 63), none, [], false, false⟩,
            ⟨(some 65), .indexAddr (some 2) 2 (.tmp 7) (.const (.int .i64 1)), (some (64, true)), [], false, false⟩,
            ⟨(some 66), .fieldAddr 1 (.tmp 65), (some (64, true)), [], false, false⟩,
            ⟨(some 67), .load false 1 (.tmp 66), (some (64, true)), [], false, false⟩,
            ⟨(some 68), .bin .gtr (.tmp 67) (.const (.int .i64 0)), (some (64, true)), [], false, false⟩,
            ⟨(some 69), .pick (.tmp 64) (.tmp 68) (.const (.bool false)), none, [], false, false⟩,
            ⟨(some 6), .move (.tmp 69), none, [], false, false⟩])
         (.ret))
        (.skip)))
      (.seq (.region false [⟨(some 70), .fieldAddr 0 (.tmp 3), none, [], false, false⟩,
          ⟨(some 71), .load false 1 (.tmp 70), none, [], false, false⟩,
          ⟨(some 72), .build [(.int .i64 0), (.int .i64 0), (.int .i64 0)] [(0, 1, (.tmp 71)), (1, 1, (.const (.int .i64 0))), (2, 1, (.const (.int .i64 0)))], none, [], false, false⟩,
          ⟨(some 73), .indexAddr (some 2) 2 (.tmp 7) (.const (.int .i64 0)), none, [], false, false⟩,
          ⟨(some 74), .fieldAddr 0 (.tmp 73), none, [], false, false⟩,
          ⟨(some 75), .load false 1 (.tmp 74), none, [], false, false⟩,
          ⟨(some 76), .build [(.int .i64 0), (.int .i64 0), (.int .i64 0)] [(0, 1, (.const (.int .i64 0))), (1, 1, (.tmp 75)), (2, 1, (.const (.int .i64 0)))], none, [], false, false⟩,
          ⟨(some 77), .build [(.int .i64 0), (.int .i64 0), (.int .i64 0), (.int .i64 0), (.int .i64 0), (.int .i64 0)] [(0, 3, (.tmp 72)), (3, 3, (.tmp 76))], none, [], false, false⟩,
          ⟨(some 78), .fieldAddr 1 (.tmp 3), none, [], false, false⟩,
          ⟨(some 79), .load false 1 (.tmp 78), none, [], false, false⟩,
          ⟨(some 80), .build [(.int .i64 0), (.int .i64 0), (.int .i64 0)] [(0, 1, (.tmp 79)), (1, 1, (.const (.int .i64 0))), (2, 1, (.const (.int .i64 0)))], none, [], false, false⟩,
          ⟨(some 81), .indexAddr (some 2) 2 (.tmp 7) (.const (.int .i64 1)), none, [], false, false⟩,
          ⟨(some 82), .fieldAddr 0 (.tmp 81), none, [], false, false⟩,
          ⟨(some 83), .load false 1 (.tmp 82), none, [], false, false⟩,
          ⟨(some 84), .build [(.int .i64 0), (.int .i64 0), (.int .i64 0)] [(0, 1, (.const (.int .i64 0))), (1, 1, (.tmp 83)), (2, 1, (.const (.int .i64 0)))], none, [], false, false⟩,
          ⟨(some 85), .build [(.int .i64 0), (.int .i64 0), (.int .i64 0), (.int .i64 0), (.int .i64 0), (.int .i64 0)] [(0, 3, (.tmp 80)), (3, 3, (.tmp 84))], none, [], false, false⟩,
          ⟨(some 86), .buildSlice 6 2 (List.replicate 12 (.int .i64 0)) [(0, 6, (.tmp 77)), (6, 6, (.tmp 85))], none, [], false, false⟩,
          ⟨(some 9), .move (.tmp 86), none, [], false, false⟩])
       (.seq (.seq (.region false [⟨(some 10), .move (.const (.int .i64 0)), none, [], false, false⟩])
         (.block 0 (.loop (some [1, 3, 5, 9, 10]) (
           .seq (.seq (.region false [⟨(some 87), .move (.tmp 10), none, [], false, false⟩,
                ⟨(some 88), .move (.tmp 1), none, [], false, false⟩,
                ⟨(some 89), .len false (.tmp 88), none, [], false, false⟩,
                ⟨(some 90), .bin .lss (.tmp 87) (.tmp 89), none, [], false, false⟩])
             (.cond (.tmp 90) (.skip)
              (.exit 0)))
            (.seq (.block 1 (.region true [⟨(some 93), .move (.tmp 9), none, [], false, false⟩,
                 ⟨(some 94), .move (.tmp 1), none, [], false, false⟩,
                 ⟨(some 95), .move (.tmp 10), none, [], false, false⟩,
                 ⟨(some 96), .indexAddr none 2 (.tmp 94) (.tmp 95), none, [], false, false⟩,
                 ⟨(some 97), .indexAddr (some 2) 1 (.tmp 96) (.const (.int .i64 0)), none, [], false, false⟩,
                 ⟨(some 98), .load false 1 (.tmp 97), none, [], false, false⟩,
                 ⟨(some 99), .build [(.int .i64 0), (.int .i64 0), (.int .i64 0)] [(0, 1, (.tmp 98)), (1, 1, (.const (.int .i64 0))), (2, 1, (.const (.int .i64 0)))], none, [], false, false⟩,
                 ⟨(some 100), .move (.tmp 1), none, [], false, false⟩,
                 ⟨(some 101), .move (.tmp 10), none, [], false, false⟩,
                 ⟨(some 102), .indexAddr none 2 (.tmp 100) (.tmp 101), none, [], false, false⟩,
                 ⟨(some 103), .indexAddr (some 2) 1 (.tmp 102) (.const (.int .i64 1)), none, [], false, false⟩,
                 ⟨(some 104), .load false 1 (.tmp 103), none, [], false, false⟩,
                 ⟨(some 105), .un .neg (.tmp 104), none, [], false, false⟩,
                 ⟨(some 106), .build [(.int .i64 0), (.int .i64 0), (.int .i64 0)] [(0, 1, (.const (.int .i64 0))), (1, 1, (.tmp 105)), (2, 1, (.const (.int .i64 0)))], none, [], false, false⟩,
                 ⟨(some 107), .build [(.int .i64 0), (.int .i64 0), (.int .i64 0), (.int .i64 0), (.int .i64 0), (.int .i64 0)] [(0, 3, (.tmp 99)), (3, 3, (.tmp 106))], none, [], false, false⟩,
                 ⟨(some 108), .buildSlice 6 1 [(.int .i64 0), (.int .i64 0), (.int .i64 0), (.int .i64 0), (.int .i64 0), (.int .i64 0)] [(0, 6, (.tmp 107))], none, [], false, false⟩,
                 ⟨(some 109), .append 6 48 (.tmp 93) (.tmp 108), none, [], false, false⟩,
                 ⟨(some 9), .move (.tmp 109), none, [], false, false⟩]))
             (.region false [⟨(some 91), .move (.tmp 10), none, [], false, false⟩,
                ⟨(some 92), .bin .add (.tmp 91) (.const (.int .i64 1)), none, [], false, false⟩,
                ⟨(some 10), .move (.tmp 92), none, [], false, false⟩]))))))
        (.seq (.region false [⟨(some 111), .move (.tmp 9), none, [], false, false⟩,
            ⟨(some 112), .call 50 [(.tmp 111)], none, [], false, false⟩,
            ⟨(some 110), .move (.tmp 112), none, [], false, false⟩,
            ⟨(some 113), .extract (.tmp 110) 0, none, [], false, false⟩,
            ⟨(some 114), .extract (.tmp 110) 1, none, [], false, false⟩,
            ⟨(some 11), .move (.tmp 113), none, [], false, false⟩,
            ⟨(some 12), .move (.tmp 114), none, [], false, false⟩])
         (.seq (.region false [⟨(some 116), .move (.tmp 9), none, [], false, false⟩,
             ⟨(some 117), .load true 3 (.tmp 5), none, [], false, false⟩,
             ⟨(some 118), .call 51 [(.tmp 116), (.tmp 117)], none, [], false, false⟩,
             ⟨(some 115), .move (.tmp 118), none, [], false, false⟩,
             ⟨(some 119), .extract (.tmp 115) 0, none, [], false, false⟩,
             ⟨(some 120), .extract (.tmp 115) 1, none, [], false, false⟩,
             ⟨(some 13), .push [(.int .i64 0), (.int .i64 0), (.int .i64 0)], none, [], false, false⟩,
             ⟨none, .store 3 (.tmp 13) (.tmp 119), none, [], false, false⟩,
             ⟨(some 14), .move (.tmp 120), none, [], false, false⟩])
          (.seq (.region true [⟨(some 122), .move (.tmp 9), none, [], false, false⟩,
              ⟨(some 123), .slice 6 (.tmp 122) (some (.const (.int .i64 1))) none, none, [], false, false⟩,
              ⟨(some 124), .fieldAddr 0 (.tmp 3), none, [], false, false⟩,
              ⟨(some 125), .load false 1 (.tmp 124), none, [], false, false⟩,
              ⟨(some 126), .build [(.int .i64 0), (.int .i64 0), (.int .i64 0)] [(0, 1, (.tmp 125)), (1, 1, (.const (.int .i64 0))), (2, 1, (.const (.int .i64 0)))], none, [], false, false⟩,
              ⟨(some 127), .call 52 [(.tmp 123), (.tmp 126)], none, [], false, true⟩,
              ⟨(some 121), .move (.tmp 127), none, [], false, false⟩,
              ⟨(some 128), .extract (.tmp 121) 0, none, [], false, false⟩,
              ⟨(some 129), .extract (.tmp 121) 1, none, [], false, false⟩,
              ⟨(some 130), .extract (.tmp 121) 2, none, [], false, false⟩,
              ⟨(some 15), .push [(.int .i64 0), (.int .i64 0), (.int .i64 0), (.int .i64 0), (.int .i64 0), (.int .i64 0)], none, [], false, false⟩,
              ⟨(some 16), .push [(.int .i64 0), (.int .i64 0), (.int .i64 0)], none, [], false, false⟩,
              ⟨none, .store 6 (.tmp 15) (.tmp 128), none, [], false, false⟩,
              ⟨none, .store 3 (.tmp 16) (.tmp 129), none, [], false, false⟩,
              ⟨(some 17), .move (.tmp 130), none, [], false, false⟩])
           (.seq (.region true [⟨(some 131), .move (.tmp 12), none, [], false, false⟩,
               ⟨(some 132), .bin .eql (.tmp 131) (.const (.int .i64 0)), none, [], false, false⟩,
               ⟨(some 133), .move (.tmp 132), none, [], false, false⟩,
               ⟨(some 134), .move (.tmp 11), (some (133, true)), [], false, false⟩,
               ⟨(some 135), .pick (.tmp 133) (.tmp 134) (.const (.bool false)), none, [], false, false⟩,
               ⟨(some 136), .move (.tmp 135), none, [], false, false⟩,
               ⟨(some 137), .move (.tmp 14), (some (136, true)), [], false, false⟩,
               ⟨(some 138), .bin .eql (.tmp 137) (.const (.int .i64 0)), (some (136, true)), [], false, false⟩,
               ⟨(some 139), .pick (.tmp 136) (.tmp 138) (.const (.bool false)), none, [], false, false⟩,
               ⟨(some 140), .move (.tmp 139), none, [], false, false⟩,
               ⟨(some 141), .load true 3 (.tmp 13), (some (140, true)), [], false, false⟩,
               ⟨(some 142), .build [(.int .i64 0), (.int .i64 0), (.int .i64 0)] [], (some (140, true)), [], false, false⟩,
               ⟨(some 143), .eqAgg false [(.int .i64), (.int .i64), (.int .i64)] (.tmp 141) (.tmp 142), (some (140, true)), [], false, false⟩,
               ⟨(some 144), .pick (.tmp 140) (.tmp 143) (.const (.bool false)), none, [], false, false⟩,
               ⟨(some 145), .move (.tmp 144), none, [], false, false⟩,
               ⟨(some 146), .move (.tmp 17), (some (145, true)), [], false, false⟩,
               ⟨(some 147), .bin .eql (.tmp 146) (.const (.int .i64 0)), (some (145, true)), [], false, false⟩,
               ⟨(some 148), .pick (.tmp 145) (.tmp 147) (.const (.bool false)), none, [], false, false⟩,
               ⟨(some 149), .move (.tmp 148), none, [], false, false⟩,
               ⟨(some 150), .load true 6 (.tmp 15), (some (149, true)), [], false, false⟩,
               ⟨(some 151), .move (.tmp 9), (some (149, true)), [], false, false⟩,
               ⟨(some 152), .indexAddr none 6 (.tmp 151) (.const (.int .i64 0)), (some (149, true)), [], false, false⟩,
               ⟨(some 153), .load true 6 (.tmp 152), (some (149, true)), [], false, false⟩,
               ⟨(some 154), .eqAgg false [(.int .i64), (.int .i64), (.int .i64), (.int .i64), (.int .i64), (.int .i64)] (.tmp 150) (.tmp 153), (some (149, true)), [], false, false⟩,
               ⟨(some 155), .pick (.tmp 149) (.tmp 154) (.const (.bool false)), none, [], false, false⟩,
               ⟨(some 156), .move (.tmp 155), none, [], false, false⟩,
               ⟨(some 157), .load true 3 (.tmp 16), (some (156, true)), [], false, false⟩,
               ⟨(some 158), .build [(.int .i64 0), (.int .i64 0), (.int .i64 0)] [], (some (156, true)), [], false, false⟩,
               ⟨(some 159), .eqAgg false [(.int .i64), (.int .i64), (.int .i64)] (.tmp 157) (.tmp 158), (some (156, true)), [], false, false⟩,
               ⟨(some 160), .pick (.tmp 156) (.tmp 159) (.const (.bool false)), none, [], false, false⟩,
               ⟨(some 6), .move (.tmp 160), none, [], false, false⟩])
            (.ret)))))))))))),
 [.tmp 6], .pure, 161⟩

/-- agraffe/agraffetop.strung -/
def ef12 : EFun := ⟨
 .seq (.region false [⟨(some 0), .move (.const (.bool false)), none, [], false, false⟩])
 (.seq (.region false [⟨(some 6), .build [(.int .i64 0), (.int .i64 0), (.int .i64 0), (.int .i64 0)] [(3, 1, (.const (.int .i64 1)))], none, [], false, false⟩,
     ⟨(some 7), .call 57 [(.tmp 6), (.const (.int .i64 440000))], none, [], false, false⟩,
     ⟨(some 5), .move (.tmp 7), none, [], false, false⟩,
     ⟨(some 8), .extract (.tmp 5) 0, none, [], false, false⟩,
     ⟨(some 9), .extract (.tmp 5) 1, none, [], false, false⟩,
     ⟨(some 1), .push [(.int .i64 0), (.int .i64 0)], none, [], false, false⟩,
     ⟨none, .store 2 (.tmp 1) (.tmp 8), none, [], false, false⟩,
     ⟨(some 2), .move (.tmp 9), none, [], false, false⟩])
  (.seq (.region true [⟨(some 11), .call 60 [], none, [], false, true⟩,
      ⟨(some 12), .call 61 [], none, [], false, true⟩,
      ⟨(some 13), .load true 2 (.tmp 1), none, [], false, false⟩,
      ⟨(some 14), .call 58 [(.tmp 11), (.tmp 12), (.tmp 13)], none, [], false, true⟩,
      ⟨(some 10), .move (.tmp 14), none, [], false, false⟩,
      ⟨(some 15), .extract (.tmp 10) 0, none, [], false, false⟩,
      ⟨(some 16), .extract (.tmp 10) 1, none, [], false, false⟩,
      ⟨(some 3), .push [(.int .i64 0), (.int .i64 0)], none, [], false, false⟩,
      ⟨none, .store 2 (.tmp 3) (.tmp 15), none, [], false, false⟩,
      ⟨(some 4), .move (.tmp 16), none, [], false, false⟩])
   (.seq (.region false [⟨(some 17), .move (.tmp 2), none, [], false, false⟩,
       ⟨(some 18), .bin .eql (.tmp 17) (.const (.int .i64 0)), none, [], false, false⟩,
       ⟨(some 19), .move (.tmp 18), none, [], false, false⟩,
       ⟨(some 20), .load true 2 (.tmp 1), (some (19, true)), [], false, false⟩,
       ⟨(some 21), .build [(.int .i64 0), (.int .i64 0)] [(0, 1, (.const (.int .i64 440000))), (1, 1, (.const (.int .i64 440000)))], (some (19, true)), [], false, false⟩,
       ⟨(some 22), .eqAgg false [(.int .i64), (.int .i64)] (.tmp 20) (.tmp 21), (some (19, true)), [], false, false⟩,
       ⟨(some 23), .pick (.tmp 19) (.tmp 22) (.const (.bool false)), none, [], false, false⟩,
       ⟨(some 24), .move (.tmp 23), none, [], false, false⟩,
       ⟨(some 25), .move (.tmp 4), (some (24, true)), [], false, false⟩,
       ⟨(some 26), .bin .eql (.tmp 25) (.const (.int .i64 0)), (some (24, true)), [], false, false⟩,
       ⟨(some 27), .pick (.tmp 24) (.tmp 26) (.const (.bool false)), none, [], false, false⟩,
       ⟨(some 28), .move (.tmp 27), none, [], false, false⟩,
       ⟨(some 29), .load true 2 (.tmp 3), (some (28, true)), [], false, false⟩,
       ⟨(some 30), .build [(.int .i64 0), (.int .i64 0)] [(0, 1, (.const (.int .i64 76389))), (1, 1, (.const (.int .i64 76390)))], (some (28, true)), [], false, false⟩,
       ⟨(some 31), .eqAgg false [(.int .i64), (.int .i64)] (.tmp 29) (.tmp 30), (some (28, true)), [], false, false⟩,
       ⟨(some 32), .pick (.tmp 28) (.tmp 31) (.const (.bool false)), none, [], false, false⟩,
       ⟨(some 0), .move (.tmp 32), none, [], false, false⟩])
    (.ret)))),
 [.tmp 0], .pure, 33⟩

/-- agraffe/agraffebase.Within -/
def ef18 : EFun := ⟨
 .seq (.region false [⟨(some 6), .move (.const (.bool false)), none, [], false, false⟩])
 (.seq (.region false [⟨(some 7), .move (.tmp 0), none, [], false, false⟩,
     ⟨(some 8), .move (.tmp 1), none, [], false, false⟩,
     ⟨(some 9), .bin .geq (.tmp 7) (.tmp 8), none, [], false, false⟩,
     ⟨(some 10), .move (.tmp 9), none, [], false, false⟩,
     ⟨(some 11), .move (.tmp 0), (some (10, true)), [], false, false⟩,
     ⟨(some 12), .move (.tmp 2), (some (10, true)), [], false, false⟩,
     ⟨(some 13), .bin .leq (.tmp 11) (.tmp 12), (some (10, true)), [], false, false⟩,
     ⟨(some 14), .pick (.tmp 10) (.tmp 13) (.const (.bool false)), none, [], false, false⟩,
     ⟨(some 6), .move (.tmp 14), none, [], false, false⟩])
  (.ret)),
 [.tmp 6], .pure, 15⟩

end Go.Abs.X
