/- The functions, compiled for the abstract evaluator. Written by wip/abs/Print.lean. -/
import Derived.Test.YtodofkolnmoliaaDoorAbsX0
set_option linter.unusedSimpArgs false
set_option linter.unusedVariables false
set_option maxRecDepth 100000
set_option maxHeartbeats 0
namespace Go.Abs.X
open Go Go.Abs
/-- agraffe/agraffetop.TopLengthsSolve -/
def ef3 : EFun := ⟨
 .seq (.region false [⟨(some 3), .box (.tmp 1), none, [], false, false⟩,
    ⟨(some 4), .move (.const (.bool false)), none, [], false, false⟩])
 (.seq (.seq (.region false [⟨(some 18), .call 12 [], none, [], false, false⟩,
      ⟨(some 19), .un .not (.tmp 18), none, [], false, false⟩])
   (.cond (.tmp 19) (.seq (.region false [⟨(some 4), .move (.const (.bool false)), none, [], false, false⟩])
     (.ret))
    (.skip)))
  (.seq (.seq (.region false [⟨(some 20), .move (.tmp 0), none, [], false, false⟩,
       ⟨(some 21), .len false (.tmp 20), none, [], false, false⟩,
       ⟨(some 22), .bin .gtr (.tmp 21) (.const (.int .i64 12)), none, [], false, false⟩,
       ⟨(some 23), .move (.tmp 22), none, [], false, false⟩,
       ⟨(some 24), .move (.tmp 0), (some (23, false)), [], false, false⟩,
       ⟨(some 25), .load true 2 (.tmp 3), (some (23, false)), [], false, false⟩,
       ⟨(some 26), .call 13 [(.tmp 24), (.tmp 25)], (some (23, false)), [], false, false⟩,
       ⟨(some 27), .bin .neq (.tmp 26) (.const (.int .i64 0)), (some (23, false)), [], false, false⟩,
       ⟨(some 28), .pick (.tmp 23) (.const (.bool true)) (.tmp 27), none, [], false, false⟩])
    (.cond (.tmp 28) (.seq (.region false [⟨(some 4), .move (.const (.bool true)), none, [], false, false⟩])
      (.ret))
     (.skip)))
   (.seq (.region false [⟨(some 30), .move (.tmp 0), none, [], false, false⟩,
       ⟨(some 31), .load true 2 (.tmp 3), none, [], false, false⟩,
       ⟨(some 32), .call 14 [(.tmp 30), (.tmp 31)], none, [], false, false⟩,
       ⟨(some 29), .move (.tmp 32), none, [], false, false⟩,
       ⟨(some 33), .extract (.tmp 29) 0, none, [], false, false⟩,
       ⟨(some 34), .extract (.tmp 29) 1, none, [], false, false⟩,
       ⟨(some 5), .move (.tmp 33), none, [], false, false⟩,
       ⟨(some 6), .move (.tmp 34), none, [], false, false⟩])
    (.seq (.region false [⟨(some 36), .move (.tmp 0), none, [], false, false⟩,
        ⟨(some 37), .load true 2 (.tmp 3), none, [], false, false⟩,
        ⟨(some 38), .call 15 [(.tmp 36), (.tmp 37)], none, [], false, false⟩,
        ⟨(some 35), .move (.tmp 38), none, [], false, false⟩,
        ⟨(some 39), .extract (.tmp 35) 0, none, [], false, false⟩,
        ⟨(some 40), .extract (.tmp 35) 1, none, [], false, false⟩,
        ⟨(some 41), .extract (.tmp 35) 2, none, [], false, false⟩,
        ⟨(some 7), .move (.tmp 39), none, [], false, false⟩,
        ⟨(some 8), .move (.tmp 40), none, [], false, false⟩,
        ⟨(some 9), .move (.tmp 41), none, [], false, false⟩])
     (.seq (.region false [⟨(some 43), .move (.tmp 0), none, [], false, false⟩,
         ⟨(some 44), .len false (.tmp 43), none, [], false, false⟩,
         ⟨(some 45), .bin .add (.tmp 44) (.const (.int .i64 1)), none, [], false, false⟩,
         ⟨(some 46), .move (.tmp 5), none, [], false, false⟩,
         ⟨(some 47), .call 16 [(.tmp 45), (.tmp 46)], none, [], false, false⟩,
         ⟨(some 42), .move (.tmp 47), none, [], false, false⟩,
         ⟨(some 48), .extract (.tmp 42) 0, none, [], false, false⟩,
         ⟨(some 49), .extract (.tmp 42) 1, none, [], false, false⟩,
         ⟨(some 50), .extract (.tmp 42) 2, none, [], false, false⟩,
         ⟨(some 10), .move (.tmp 48), none, [], false, false⟩,
         ⟨(some 11), .move (.tmp 49), none, [], false, false⟩,
         ⟨(some 12), .move (.tmp 50), none, [], false, false⟩])
      (.seq (.seq (.region false [⟨(some 51), .move (.tmp 6), none, [], false, false⟩,
           ⟨(some 52), .bin .neq (.tmp 51) (.const (.int .i64 0)), none, [], false, false⟩,
           ⟨(some 53), .move (.tmp 52), none, [], false, false⟩,
           ⟨(some 54), .move (.tmp 5), (some (53, false)), [], false, false⟩,
           ⟨(some 55), .len false (.tmp 54), (some (53, false)), [], false, false⟩,
           ⟨(some 56), .bin .gtr (.tmp 55) (.const (.int .i64 200)), (some (53, false)), [], false, false⟩,
           ⟨(some 57), .pick (.tmp 53) (.const (.bool true)) (.tmp 56), none, [], false, false⟩])
        (.cond (.tmp 57) (.seq (.region false [⟨(some 4), .move (.const (.bool false)), none, [], false, false⟩])
          (.ret))
         (.skip)))
       (.seq (.seq (.region false [⟨(some 58), .move (.tmp 9), none, [], false, false⟩,
            ⟨(some 59), .bin .neq (.tmp 58) (.const (.int .i64 0)), none, [], false, false⟩])
         (.cond (.tmp 59) (.seq (.region false [⟨(some 60), .move (.tmp 9), none, [], false, false⟩,
              ⟨(some 61), .bin .eql (.tmp 60) (.const (.int .i64 21)), none, [], false, false⟩,
              ⟨(some 62), .move (.tmp 61), none, [], false, false⟩,
              ⟨(some 63), .move (.tmp 12), (some (62, true)), [], false, false⟩,
              ⟨(some 64), .bin .eql (.tmp 63) (.const (.int .i64 21)), (some (62, true)), [], false, false⟩,
              ⟨(some 65), .pick (.tmp 62) (.tmp 64) (.const (.bool false)), none, [], false, false⟩,
              ⟨(some 66), .move (.tmp 65), none, [], false, false⟩,
              ⟨(some 67), .move (.tmp 7), (some (66, true)), [], false, false⟩,
              ⟨(some 68), .len false (.tmp 67), (some (66, true)), [], false, false⟩,
              ⟨(some 69), .bin .eql (.tmp 68) (.const (.int .i64 0)), (some (66, true)), [], false, false⟩,
              ⟨(some 70), .pick (.tmp 66) (.tmp 69) (.const (.bool false)), none, [], false, false⟩,
              ⟨(some 4), .move (.tmp 70), none, [], false, false⟩])
           (.ret))
          (.skip)))
        (.seq (.seq (.region false [⟨(some 71), .move (.tmp 12), none, [], false, false⟩,
             ⟨(some 72), .bin .neq (.tmp 71) (.const (.int .i64 0)), none, [], false, false⟩,
             ⟨(some 73), .move (.tmp 72), none, [], false, false⟩,
             ⟨(some 74), .move (.tmp 7), (some (73, false)), [], false, false⟩,
             ⟨(some 75), .len false (.tmp 74), (some (73, false)), [], false, false⟩,
             ⟨(some 76), .move (.tmp 0), (some (73, false)), [], false, false⟩,
             ⟨(some 77), .len false (.tmp 76), (some (73, false)), [], false, false⟩,
             ⟨(some 78), .bin .neq (.tmp 75) (.tmp 77), (some (73, false)), [], false, false⟩,
             ⟨(some 79), .pick (.tmp 73) (.const (.bool true)) (.tmp 78), none, [], false, false⟩])
          (.cond (.tmp 79) (.seq (.region false [⟨(some 4), .move (.const (.bool false)), none, [], false, false⟩])
            (.ret))
           (.skip)))
         (.seq (.region false [⟨(some 80), .move (.tmp 7), none, [], false, false⟩,
             ⟨(some 81), .call 17 [(.tmp 80)], none, [], false, false⟩,
             ⟨(some 82), .buildSlice 1 1 [(.int .i64 0)] [(0, 1, (.const (.int .i64 0)))], none, [], false, false⟩,
             ⟨(some 83), .append 1 8 (.tmp 81) (.tmp 82), none, [], false, false⟩,
             ⟨(some 13), .move (.tmp 83), none, [], false, false⟩])
          (.seq (.region false [⟨(some 84), .move (.tmp 0), none, [], false, false⟩,
              ⟨(some 85), .len false (.tmp 84), none, [], false, false⟩,
              ⟨(some 86), .makeSlice 1 1 [(.bool false)] (.tmp 85) (.tmp 85), none, [], false, false⟩,
              ⟨(some 14), .move (.tmp 86), none, [], false, false⟩])
           (.seq (.seq (.region false [⟨(some 15), .move (.const (.int .i64 0)), none, [], false, false⟩])
             (.block 0 (.loop (some [0, 5, 13, 14, 15]) (
               .seq (.seq (.region false [⟨(some 87), .move (.tmp 15), none, [], false, false⟩,
                    ⟨(some 88), .move (.tmp 5), none, [], false, false⟩,
                    ⟨(some 89), .len false (.tmp 88), none, [], false, false⟩,
                    ⟨(some 90), .bin .lss (.tmp 87) (.tmp 89), none, [], false, false⟩])
                 (.cond (.tmp 90) (.skip)
                  (.exit 0)))
                (.seq (.block 1 (.seq (.region false [⟨(some 93), .move (.tmp 5), none, [], false, false⟩,
                      ⟨(some 94), .move (.tmp 15), none, [], false, false⟩,
                      ⟨(some 95), .indexAddr none 3 (.tmp 93) (.tmp 94), none, [], false, false⟩,
                      ⟨(some 96), .load true 3 (.tmp 95), none, [], false, false⟩,
                      ⟨(some 16), .push [(.int .i64 0), (.int .i64 0), (.int .i64 0)], none, [], false, false⟩,
                      ⟨none, .store 3 (.tmp 16) (.tmp 96), none, [], false, false⟩])
                   (.seq (.seq (.region true [⟨(some 97), .fieldAddr 0 (.tmp 16), none, [], false, false⟩,
                        ⟨(some 98), .load false 1 (.tmp 97), none, [], false, false⟩,
                        ⟨(some 99), .move (.tmp 0), none, [], false, false⟩,
                        ⟨(some 100), .len false (.tmp 99), none, [], false, false⟩,
                        ⟨(some 101), .call 18 [(.tmp 98), (.const (.int .i64 0)), (.tmp 100)], none, [], false, false⟩,
                        ⟨(some 102), .un .not (.tmp 101), none, [], false, false⟩,
                        ⟨(some 103), .move (.tmp 102), none, [], false, false⟩,
                        ⟨(some 104), .fieldAddr 1 (.tmp 16), (some (103, false)), [], false, false⟩,
                        ⟨(some 105), .load false 1 (.tmp 104), (some (103, false)), [], false, false⟩,
                        ⟨(some 106), .move (.tmp 0), (some (103, false)), [], false, false⟩,
                        ⟨(some 107), .len false (.tmp 106), (some (103, false)), [], false, false⟩,
                        ⟨(some 108), .call 18 [(.tmp 105), (.const (.int .i64 0)), (.tmp 107)], (some (103, false)), [], false, false⟩,
                        ⟨(some 109), .un .not (.tmp 108), (some (103, false)), [], false, false⟩,
                        ⟨(some 110), .pick (.tmp 103) (.const (.bool true)) (.tmp 109), none, [], false, false⟩,
                        ⟨(some 111), .move (.tmp 110), none, [], false, false⟩,
                        ⟨(some 112), .move (.tmp 13), (some (111, false)), [], false, false⟩,
                        ⟨(some 113), .fieldAddr 1 (.tmp 16), (some (111, false)), [], false, false⟩,
                        ⟨(some 114), .load false 1 (.tmp 113), (some (111, false)), [], false, false⟩,
                        ⟨(some 115), .indexAddr none 1 (.tmp 112) (.tmp 114), (some (111, false)), [], false, false⟩,
                        ⟨(some 116), .load false 1 (.tmp 115), (some (111, false)), [], false, false⟩,
                        ⟨(some 117), .move (.tmp 13), (some (111, false)), [], false, false⟩,
                        ⟨(some 118), .fieldAddr 0 (.tmp 16), (some (111, false)), [], false, false⟩,
                        ⟨(some 119), .load false 1 (.tmp 118), (some (111, false)), [], false, false⟩,
                        ⟨(some 120), .indexAddr none 1 (.tmp 117) (.tmp 119), (some (111, false)), [], false, false⟩,
                        ⟨(some 121), .load false 1 (.tmp 120), (some (111, false)), [], false, false⟩,
                        ⟨(some 122), .bin .sub (.tmp 116) (.tmp 121), (some (111, false)), [], false, false⟩,
                        ⟨(some 123), .fieldAddr 2 (.tmp 16), (some (111, false)), [], false, false⟩,
                        ⟨(some 124), .load false 1 (.tmp 123), (some (111, false)), [], false, false⟩,
                        ⟨(some 125), .bin .gtr (.tmp 122) (.tmp 124), (some (111, false)), [], false, false⟩,
                        ⟨(some 126), .pick (.tmp 111) (.const (.bool true)) (.tmp 125), none, [], false, false⟩])
                     (.cond (.tmp 126) (.seq (.region false [⟨(some 4), .move (.const (.bool false)), none, [], false, false⟩])
                       (.ret))
                      (.skip)))
                    (.seq (.region true [⟨(some 127), .fieldAddr 1 (.tmp 16), none, [], false, false⟩,
                        ⟨(some 128), .load false 1 (.tmp 127), none, [], false, false⟩,
                        ⟨(some 129), .move (.tmp 0), none, [], false, false⟩,
                        ⟨(some 130), .len false (.tmp 129), none, [], false, false⟩,
                        ⟨(some 131), .bin .lss (.tmp 128) (.tmp 130), none, [], false, false⟩,
                        ⟨(some 132), .move (.tmp 131), none, [], false, false⟩,
                        ⟨(some 133), .move (.tmp 13), (some (132, true)), [], false, false⟩,
                        ⟨(some 134), .fieldAddr 1 (.tmp 16), (some (132, true)), [], false, false⟩,
                        ⟨(some 135), .load false 1 (.tmp 134), (some (132, true)), [], false, false⟩,
                        ⟨(some 136), .indexAddr none 1 (.tmp 133) (.tmp 135), (some (132, true)), [], false, false⟩,
                        ⟨(some 137), .load false 1 (.tmp 136), (some (132, true)), [], false, false⟩,
                        ⟨(some 138), .move (.tmp 13), (some (132, true)), [], false, false⟩,
                        ⟨(some 139), .fieldAddr 0 (.tmp 16), (some (132, true)), [], false, false⟩,
                        ⟨(some 140), .load false 1 (.tmp 139), (some (132, true)), [], false, false⟩,
                        ⟨(some 141), .indexAddr none 1 (.tmp 138) (.tmp 140), (some (132, true)), [], false, false⟩,
                        ⟨(some 142), .load false 1 (.tmp 141), (some (132, true)), [], false, false⟩,
                        ⟨(some 143), .bin .sub (.tmp 137) (.tmp 142), (some (132, true)), [], false, false⟩,
                        ⟨(some 144), .fieldAddr 2 (.tmp 16), (some (132, true)), [], false, false⟩,
                        ⟨(some 145), .load false 1 (.tmp 144), (some (132, true)), [], false, false⟩,
                        ⟨(some 146), .bin .eql (.tmp 143) (.tmp 145), (some (132, true)), [], false, false⟩,
                        ⟨(some 147), .pick (.tmp 132) (.tmp 146) (.const (.bool false)), none, [], false, false⟩])
                     (.cond (.tmp 147) (.region false [⟨(some 148), .move (.tmp 14), none, [], false, false⟩,
                         ⟨(some 149), .fieldAddr 1 (.tmp 16), none, [], false, false⟩,
                         ⟨(some 150), .load false 1 (.tmp 149), none, [], false, false⟩,
                         ⟨(some 151), .indexAddr none 1 (.tmp 148) (.tmp 150), none, [], false, false⟩,
                         ⟨none, .store 1 (.tmp 151) (.const (.bool true)), none, [], false, false⟩])
                      (.skip))))))
                 (.region false [⟨(some 91), .move (.tmp 15), none, [], false, false⟩,
                    ⟨(some 92), .bin .add (.tmp 91) (.const (.int .i64 1)), none, [], false, false⟩,
                    ⟨(some 15), .move (.tmp 92), none, [], false, false⟩]))))))
            (.seq (.seq (.region false [⟨(some 17), .move (.const (.int .i64 0)), none, [], false, false⟩])
              (.block 2 (.loop (some [14, 17]) (
                .seq (.seq (.region false [⟨(some 152), .move (.tmp 17), none, [], false, false⟩,
                     ⟨(some 153), .move (.tmp 14), none, [], false, false⟩,
                     ⟨(some 154), .len false (.tmp 153), none, [], false, false⟩,
                     ⟨(some 155), .bin .lss (.tmp 152) (.tmp 154), none, [], false, false⟩])
                  (.cond (.tmp 155) (.skip)
                   (.exit 2)))
                 (.seq (.block 3 (.seq (.region false [⟨(some 158), .move (.tmp 14), none, [], false, false⟩,
                       ⟨(some 159), .move (.tmp 17), none, [], false, false⟩,
                       ⟨(some 160), .indexAddr none 1 (.tmp 158) (.tmp 159), none, [], false, false⟩,
                       ⟨(some 161), .load false 1 (.tmp 160), none, [], false, false⟩,
                       ⟨(some 162), .un .not (.tmp 161), none, [], false, false⟩])
                    (.cond (.tmp 162) (.seq (.region false [⟨(some 4), .move (.const (.bool false)), none, [], false, false⟩])
                      (.ret))
                     (.skip))))
                  (.region false [⟨(some 156), .move (.tmp 17), none, [], false, false⟩,
                     ⟨(some 157), .bin .add (.tmp 156) (.const (.int .i64 1)), none, [], false, false⟩,
                     ⟨(some 17), .move (.tmp 157), none, [], false, false⟩]))))))
             (.seq (.region false [⟨(some 4), .move (.const (.bool true)), none, [], false, false⟩])
              (.ret)))))))))))))),
 [.tmp 4], .pure, 163⟩

/-- agraffe/agraffetop.strung -/
def ef12 : EFun := ⟨
 .seq (.region false [⟨(some 0), .move (.const (.bool false)), none, [], false, false⟩])
 (.seq (.region false [⟨(some 6), .build [(.int .i64 0), (.int .i64 0), (.int .i64 0), (.int .i64 0)] [(3, 1, (.const (.int .i64 1)))], none, [], false, false⟩,
     ⟨(some 7), .call 57 [(.tmp 6), (.const (.int .i64 440000))], none, [], false, false⟩,
     ⟨(some 5), .move (.tmp 7), none, [], false, false⟩,
     ⟨(some 8), .extract (.tmp 5) 0, none, [], false, false⟩,
     ⟨(some 9), .extract (.tmp 5) 1, none, [], false, false⟩,
     ⟨(some 1), .push [(.int .i64 0), (.int .i64 0)], none, [], false, false⟩,
     ⟨none, .store 2 (.tmp 1) (.tmp 8), none, [], false, false⟩,
     ⟨(some 2), .move (.tmp 9), none, [], false, false⟩])
  (.seq (.region true [⟨(some 11), .call 60 [], none, [], false, true⟩,
      ⟨(some 12), .call 61 [], none, [], false, true⟩,
      ⟨(some 13), .load true 2 (.tmp 1), none, [], false, false⟩,
      ⟨(some 14), .call 58 [(.tmp 11), (.tmp 12), (.tmp 13)], none, [], false, true⟩,
      ⟨(some 10), .move (.tmp 14), none, [], false, false⟩,
      ⟨(some 15), .extract (.tmp 10) 0, none, [], false, false⟩,
      ⟨(some 16), .extract (.tmp 10) 1, none, [], false, false⟩,
      ⟨(some 3), .push [(.int .i64 0), (.int .i64 0)], none, [], false, false⟩,
      ⟨none, .store 2 (.tmp 3) (.tmp 15), none, [], false, false⟩,
      ⟨(some 4), .move (.tmp 16), none, [], false, false⟩])
   (.seq (.region false [⟨(some 17), .move (.tmp 2), none, [], false, false⟩,
       ⟨(some 18), .bin .eql (.tmp 17) (.const (.int .i64 0)), none, [], false, false⟩,
       ⟨(some 19), .move (.tmp 18), none, [], false, false⟩,
       ⟨(some 20), .load true 2 (.tmp 1), (some (19, true)), [], false, false⟩,
       ⟨(some 21), .build [(.int .i64 0), (.int .i64 0)] [(0, 1, (.const (.int .i64 440000))), (1, 1, (.const (.int .i64 440000)))], (some (19, true)), [], false, false⟩,
       ⟨(some 22), .eqAgg false [(.int .i64), (.int .i64)] (.tmp 20) (.tmp 21), (some (19, true)), [], false, false⟩,
       ⟨(some 23), .pick (.tmp 19) (.tmp 22) (.const (.bool false)), none, [], false, false⟩,
       ⟨(some 24), .move (.tmp 23), none, [], false, false⟩,
       ⟨(some 25), .move (.tmp 4), (some (24, true)), [], false, false⟩,
       ⟨(some 26), .bin .eql (.tmp 25) (.const (.int .i64 0)), (some (24, true)), [], false, false⟩,
       ⟨(some 27), .pick (.tmp 24) (.tmp 26) (.const (.bool false)), none, [], false, false⟩,
       ⟨(some 28), .move (.tmp 27), none, [], false, false⟩,
       ⟨(some 29), .load true 2 (.tmp 3), (some (28, true)), [], false, false⟩,
       ⟨(some 30), .build [(.int .i64 0), (.int .i64 0)] [(0, 1, (.const (.int .i64 76389))), (1, 1, (.const (.int .i64 76390)))], (some (28, true)), [], false, false⟩,
       ⟨(some 31), .eqAgg false [(.int .i64), (.int .i64)] (.tmp 29) (.tmp 30), (some (28, true)), [], false, false⟩,
       ⟨(some 32), .pick (.tmp 28) (.tmp 31) (.const (.bool false)), none, [], false, false⟩,
       ⟨(some 0), .move (.tmp 32), none, [], false, false⟩])
    (.ret)))),
 [.tmp 0], .pure, 33⟩

/-- agraffe/agrafferef02.CheckLengths -/
def ef13 : EFun := ⟨
 .seq (.region false [⟨(some 3), .box (.tmp 1), none, [], false, false⟩,
    ⟨(some 4), .move (.const (.int .i64 0)), none, [], false, false⟩])
 (.seq (.seq (.region false [⟨(some 6), .move (.tmp 0), none, [], false, false⟩,
      ⟨(some 7), .len false (.tmp 6), none, [], false, false⟩,
      ⟨(some 8), .bin .gtr (.tmp 7) (.const (.int .i64 50)), none, [], false, false⟩])
   (.cond (.tmp 8) (.seq (.region false [⟨(some 4), .move (.const (.int .i64 8)), none, [], false, false⟩])
     (.ret))
    (.skip)))
  (.seq (.seq (.region false [⟨(some 5), .move (.const (.int .i64 0)), none, [], false, false⟩])
    (.block 0 (.loop (some [0, 3, 5]) (
      .seq (.seq (.region false [⟨(some 9), .move (.tmp 5), none, [], false, false⟩,
           ⟨(some 10), .move (.tmp 0), none, [], false, false⟩,
           ⟨(some 11), .len false (.tmp 10), none, [], false, false⟩,
           ⟨(some 12), .bin .lss (.tmp 9) (.tmp 11), none, [], false, false⟩])
        (.cond (.tmp 12) (.skip)
         (.exit 0)))
       (.seq (.block 1 (.seq (.region true [⟨(some 15), .move (.tmp 0), none, [], false, false⟩,
             ⟨(some 16), .move (.tmp 5), none, [], false, false⟩,
             ⟨(some 17), .indexAddr none 2 (.tmp 15) (.tmp 16), none, [], false, false⟩,
             ⟨(some 18), .fieldAddr 0 (.tmp 17), none, [], false, false⟩,
             ⟨(some 19), .load false 1 (.tmp 18), none, [], false, false⟩,
             ⟨(some 20), .move (.tmp 0), none, [], false, false⟩,
             ⟨(some 21), .move (.tmp 5), none, [], false, false⟩,
             ⟨(some 22), .indexAddr none 2 (.tmp 20) (.tmp 21), none, [], false, false⟩,
             ⟨(some 23), .fieldAddr 1 (.tmp 22), none, [], false, false⟩,
             ⟨(some 24), .load false 1 (.tmp 23), none, [], false, false⟩,
             ⟨(some 25), .call 18 [(.tmp 19), (.const (.int .i64 1000)), (.tmp 24)], none, [], false, false⟩,
             ⟨(some 26), .un .not (.tmp 25), none, [], false, false⟩,
             ⟨(some 27), .move (.tmp 26), none, [], false, false⟩,
             ⟨(some 28), .move (.tmp 0), (some (27, false)), [], false, false⟩,
             ⟨(some 29), .move (.tmp 5), (some (27, false)), [], false, false⟩,
             ⟨(some 30), .indexAddr none 2 (.tmp 28) (.tmp 29), (some (27, false)), [], false, false⟩,
             ⟨(some 31), .fieldAddr 1 (.tmp 30), (some (27, false)), [], false, false⟩,
             ⟨(some 32), .load false 1 (.tmp 31), (some (27, false)), [], false, false⟩,
             ⟨(some 33), .bin .gtr (.tmp 32) (.const (.int .i64 300000)), (some (27, false)), [], false, false⟩,
             ⟨(some 34), .pick (.tmp 27) (.const (.bool true)) (.tmp 33), none, [], false, false⟩])
          (.cond (.tmp 34) (.seq (.region false [⟨(some 4), .move (.const (.int .i64 2)), none, [], false, false⟩])
            (.ret))
           (.skip))))
        (.region false [⟨(some 13), .move (.tmp 5), none, [], false, false⟩,
           ⟨(some 14), .bin .add (.tmp 13) (.const (.int .i64 1)), none, [], false, false⟩,
           ⟨(some 5), .move (.tmp 14), none, [], false, false⟩]))))))
   (.seq (.seq (.region false [⟨(some 35), .fieldAddr 0 (.tmp 3), none, [], false, false⟩,
        ⟨(some 36), .load false 1 (.tmp 35), none, [], false, false⟩,
        ⟨(some 37), .fieldAddr 1 (.tmp 3), none, [], false, false⟩,
        ⟨(some 38), .load false 1 (.tmp 37), none, [], false, false⟩,
        ⟨(some 39), .call 18 [(.tmp 36), (.const (.int .i64 (-300000))), (.tmp 38)], none, [], false, false⟩,
        ⟨(some 40), .un .not (.tmp 39), none, [], false, false⟩,
        ⟨(some 41), .move (.tmp 40), none, [], false, false⟩,
        ⟨(some 42), .fieldAddr 1 (.tmp 3), (some (41, false)), [], false, false⟩,
        ⟨(some 43), .load false 1 (.tmp 42), (some (41, false)), [], false, false⟩,
        ⟨(some 44), .bin .gtr (.tmp 43) (.const (.int .i64 300000)), (some (41, false)), [], false, false⟩,
        ⟨(some 45), .pick (.tmp 41) (.const (.bool true)) (.tmp 44), none, [], false, false⟩])
     (.cond (.tmp 45) (.seq (.region false [⟨(some 4), .move (.const (.int .i64 2)), none, [], false, false⟩])
       (.ret))
      (.skip)))
    (.seq (.region false [⟨(some 4), .move (.const (.int .i64 0)), none, [], false, false⟩])
     (.ret))))),
 [.tmp 4], .pure, 46⟩

/-- agraffe/scale.LengthSystem -/
def ef14 : EFun := ⟨
 .seq (.region false [⟨(some 3), .box (.tmp 1), none, [], false, false⟩,
    ⟨(some 4), .move (.const (.slice none 0 0)), none, [], false, false⟩,
    ⟨(some 5), .move (.const (.int .i64 0)), none, [], false, false⟩])
 (.seq (.seq (.region false [⟨(some 13), .move (.tmp 0), none, [], false, false⟩,
      ⟨(some 14), .len false (.tmp 13), none, [], false, false⟩,
      ⟨(some 15), .bin .gtr (.tmp 14) (.const (.int .i64 50)), none, [], false, false⟩])
   (.cond (.tmp 15) (.seq (.region false [⟨(some 4), .move (.const (.slice none 0 0)), none, [], false, false⟩,
        ⟨(some 5), .move (.const (.int .i64 8)), none, [], false, false⟩])
     (.ret))
    (.skip)))
  (.seq (.seq (.region false [⟨(some 16), .move (.tmp 0), none, [], false, false⟩,
       ⟨(some 17), .len false (.tmp 16), none, [], false, false⟩,
       ⟨(some 18), .move (.const (.int .i64 0)), none, [], false, false⟩])
    (.block 0 (.loop (some [0, 3, 16, 17, 18]) (
      .seq (.region false [⟨(some 19), .bin .lss (.tmp 18) (.tmp 17), none, [], false, false⟩])
       (.seq (.cond (.tmp 19) (.skip)
         (.exit 0))
        (.seq (.block 1 (.seq (.region false [⟨(some 20), .indexAddr none 2 (.tmp 16) (.tmp 18), none, [], false, false⟩,
              ⟨(some 21), .load true 2 (.tmp 20), none, [], false, false⟩,
              ⟨(some 7), .push [(.int .i64 0), (.int .i64 0)], none, [], false, false⟩,
              ⟨none, .store 2 (.tmp 7) (.tmp 21), none, [], false, false⟩])
           (.seq (.region false [⟨(some 22), .fieldAddr 0 (.tmp 7), none, [], false, false⟩,
               ⟨(some 23), .load false 1 (.tmp 22), none, [], false, false⟩,
               ⟨(some 24), .bin .lss (.tmp 23) (.const (.int .i64 1000)), none, [], false, false⟩,
               ⟨(some 25), .move (.tmp 24), none, [], false, false⟩,
               ⟨(some 26), .fieldAddr 0 (.tmp 7), (some (25, false)), [], false, false⟩,
               ⟨(some 27), .load false 1 (.tmp 26), (some (25, false)), [], false, false⟩,
               ⟨(some 28), .fieldAddr 1 (.tmp 7), (some (25, false)), [], false, false⟩,
               ⟨(some 29), .load false 1 (.tmp 28), (some (25, false)), [], false, false⟩,
               ⟨(some 30), .bin .gtr (.tmp 27) (.tmp 29), (some (25, false)), [], false, false⟩,
               ⟨(some 31), .pick (.tmp 25) (.const (.bool true)) (.tmp 30), none, [], false, false⟩,
               ⟨(some 32), .move (.tmp 31), none, [], false, false⟩,
               ⟨(some 33), .fieldAddr 1 (.tmp 7), (some (32, false)), [], false, false⟩,
               ⟨(some 34), .load false 1 (.tmp 33), (some (32, false)), [], false, false⟩,
               ⟨(some 35), .bin .gtr (.tmp 34) (.const (.int .i64 300000)), (some (32, false)), [], false, false⟩,
               ⟨(some 36), .pick (.tmp 32) (.const (.bool true)) (.tmp 35), none, [], false, false⟩])
            (.cond (.tmp 36) (.seq (.region false [⟨(some 4), .move (.const (.slice none 0 0)), none, [], false, false⟩,
                 ⟨(some 5), .move (.const (.int .i64 2)), none, [], false, false⟩])
              (.ret))
             (.skip)))))
         (.region false [⟨(some 37), .bin .add (.tmp 18) (.const (.int .i64 1)), none, [], false, false⟩,
            ⟨(some 18), .move (.tmp 37), none, [], false, false⟩])))))))
   (.seq (.seq (.region false [⟨(some 38), .fieldAddr 0 (.tmp 3), none, [], false, false⟩,
        ⟨(some 39), .load false 1 (.tmp 38), none, [], false, false⟩,
        ⟨(some 40), .bin .lss (.tmp 39) (.const (.int .i64 (-300000))), none, [], false, false⟩,
        ⟨(some 41), .move (.tmp 40), none, [], false, false⟩,
        ⟨(some 42), .fieldAddr 0 (.tmp 3), (some (41, false)), [], false, false⟩,
        ⟨(some 43), .load false 1 (.tmp 42), (some (41, false)), [], false, false⟩,
        ⟨(some 44), .fieldAddr 1 (.tmp 3), (some (41, false)), [], false, false⟩,
        ⟨(some 45), .load false 1 (.tmp 44), (some (41, false)), [], false, false⟩,
        ⟨(some 46), .bin .gtr (.tmp 43) (.tmp 45), (some (41, false)), [], false, false⟩,
        ⟨(some 47), .pick (.tmp 41) (.const (.bool true)) (.tmp 46), none, [], false, false⟩,
        ⟨(some 48), .move (.tmp 47), none, [], false, false⟩,
        ⟨(some 49), .fieldAddr 1 (.tmp 3), (some (48, false)), [], false, false⟩,
        ⟨(some 50), .load false 1 (.tmp 49), (some (48, false)), [], false, false⟩,
        ⟨(some 51), .bin .gtr (.tmp 50) (.const (.int .i64 300000)), (some (48, false)), [], false, false⟩,
        ⟨(some 52), .pick (.tmp 48) (.const (.bool true)) (.tmp 51), none, [], false, false⟩])
     (.cond (.tmp 52) (.seq (.region false [⟨(some 4), .move (.const (.slice none 0 0)), none, [], false, false⟩,
          ⟨(some 5), .move (.const (.int .i64 2)), none, [], false, false⟩])
       (.ret))
      (.skip)))
    (.seq (.region false [⟨(some 53), .move (.tmp 0), none, [], false, false⟩,
        ⟨(some 54), .len false (.tmp 53), none, [], false, false⟩,
        ⟨(some 8), .move (.tmp 54), none, [], false, false⟩])
     (.seq (.region false [⟨(some 9), .move (.const (.slice none 0 0)), none, [], false, false⟩])
      (.seq (.seq (.region false [⟨(some 55), .move (.tmp 0), none, [], false, false⟩,
           ⟨(some 56), .len false (.tmp 55), none, [], false, false⟩,
           ⟨(some 57), .move (.const (.int .i64 0)), none, [], false, false⟩])
        (.block 2 (.loop (some [3, 8, 9, 55, 56, 57]) (
          .seq (.region false [⟨(some 58), .bin .lss (.tmp 57) (.tmp 56), none, [], false, false⟩])
           (.seq (.cond (.tmp 58) (.skip)
             (.exit 2))
            (.seq (.block 3 (.seq (.region false [⟨(some 59), .move (.tmp 57), none, [], false, false⟩,
                  ⟨(some 60), .indexAddr none 2 (.tmp 55) (.tmp 57), none, [], false, false⟩,
                  ⟨(some 61), .load true 2 (.tmp 60), none, [], false, false⟩,
                  ⟨(some 11), .push [(.int .i64 0), (.int .i64 0)], none, [], false, false⟩,
                  ⟨(some 10), .move (.tmp 59), none, [], false, false⟩,
                  ⟨none, .store 2 (.tmp 11) (.tmp 61), none, [], false, false⟩])
               (.region false [⟨(some 62), .move (.tmp 9), none, [], false, false⟩,
                  ⟨(some 63), .move (.tmp 8), none, [], false, false⟩,
                  ⟨(some 64), .move (.tmp 10), none, [], false, false⟩,
                  ⟨(some 65), .fieldAddr 1 (.tmp 11), none, [], false, false⟩,
                  ⟨(some 66), .load false 1 (.tmp 65), none, [], false, false⟩,
                  ⟨(some 67), .build [(.int .i64 0), (.int .i64 0), (.int .i64 0)] [(0, 1, (.tmp 63)), (1, 1, (.tmp 64)), (2, 1, (.tmp 66))], none, [], false, false⟩,
                  ⟨(some 68), .move (.tmp 10), none, [], false, false⟩,
                  ⟨(some 69), .move (.tmp 8), none, [], false, false⟩,
                  ⟨(some 70), .fieldAddr 0 (.tmp 11), none, [], false, false⟩,
                  ⟨(some 71), .load false 1 (.tmp 70), none, [], false, false⟩,
                  ⟨(some 72), .un .neg (.tmp 71), none, [], false, false⟩,
                  ⟨(some 73), .build [(.int .i64 0), (.int .i64 0), (.int .i64 0)] [(0, 1, (.tmp 68)), (1, 1, (.tmp 69)), (2, 1, (.tmp 72))], none, [], false, false⟩,
                  ⟨(some 74), .buildSlice 3 2 [(.int .i64 0), (.int .i64 0), (.int .i64 0), (.int .i64 0), (.int .i64 0), (.int .i64 0)] [(0, 3, (.tmp 67)), (3, 3, (.tmp 73))], none, [], false, false⟩,
                  ⟨(some 75), .append 3 24 (.tmp 62) (.tmp 74), none, [], false, false⟩,
                  ⟨(some 9), .move (.tmp 75), none, [], false, false⟩])))
             (.region false [⟨(some 76), .bin .add (.tmp 57) (.const (.int .i64 1)), none, [], false, false⟩,
                ⟨(some 57), .move (.tmp 76), none, [], false, false⟩])))))))
       (.seq (.seq (.region false [⟨(some 12), .move (.const (.int .i64 1)), none, [], false, false⟩])
         (.block 4 (.loop (some [3, 8, 9, 12]) (
           .seq (.seq (.region false [⟨(some 77), .move (.tmp 12), none, [], false, false⟩,
                ⟨(some 78), .move (.tmp 8), none, [], false, false⟩,
                ⟨(some 79), .bin .lss (.tmp 77) (.tmp 78), none, [], false, false⟩])
             (.cond (.tmp 79) (.skip)
              (.exit 4)))
            (.seq (.block 5 (.region false [⟨(some 82), .move (.tmp 9), none, [], false, false⟩,
                 ⟨(some 83), .move (.tmp 12), none, [], false, false⟩,
                 ⟨(some 84), .bin .sub (.tmp 83) (.const (.int .i64 1)), none, [], false, false⟩,
                 ⟨(some 85), .move (.tmp 12), none, [], false, false⟩,
                 ⟨(some 86), .fieldAddr 0 (.tmp 3), none, [], false, false⟩,
                 ⟨(some 87), .load false 1 (.tmp 86), none, [], false, false⟩,
                 ⟨(some 88), .un .neg (.tmp 87), none, [], false, false⟩,
                 ⟨(some 89), .build [(.int .i64 0), (.int .i64 0), (.int .i64 0)] [(0, 1, (.tmp 84)), (1, 1, (.tmp 85)), (2, 1, (.tmp 88))], none, [], false, false⟩,
                 ⟨(some 90), .move (.tmp 12), none, [], false, false⟩,
                 ⟨(some 91), .move (.tmp 12), none, [], false, false⟩,
                 ⟨(some 92), .bin .sub (.tmp 91) (.const (.int .i64 1)), none, [], false, false⟩,
                 ⟨(some 93), .fieldAddr 1 (.tmp 3), none, [], false, false⟩,
                 ⟨(some 94), .load false 1 (.tmp 93), none, [], false, false⟩,
                 ⟨(some 95), .build [(.int .i64 0), (.int .i64 0), (.int .i64 0)] [(0, 1, (.tmp 90)), (1, 1, (.tmp 92)), (2, 1, (.tmp 94))], none, [], false, false⟩,
                 ⟨(some 96), .buildSlice 3 2 [(.int .i64 0), (.int .i64 0), (.int .i64 0), (.int .i64 0), (.int .i64 0), (.int .i64 0)] [(0, 3, (.tmp 89)), (3, 3, (.tmp 95))], none, [], false, false⟩,
                 ⟨(some 97), .append 3 24 (.tmp 82) (.tmp 96), none, [], false, false⟩,
                 ⟨(some 9), .move (.tmp 97), none, [], false, false⟩]))
             (.region false [⟨(some 80), .move (.tmp 12), none, [], false, false⟩,
                ⟨(some 81), .bin .add (.tmp 80) (.const (.int .i64 1)), none, [], false, false⟩,
                ⟨(some 12), .move (.tmp 81), none, [], false, false⟩]))))))
        (.seq (.region false [⟨(some 98), .move (.tmp 9), none, [], false, false⟩,
            ⟨(some 4), .move (.tmp 98), none, [], false, false⟩,
            ⟨(some 5), .move (.const (.int .i64 0)), none, [], false, false⟩])
         (.ret))))))))),
 [.tmp 4, .tmp 5], .pure, 99⟩

/-- agraffe/scale.SmoothLengths -/
def ef15 : EFun := ⟨
 .seq (.region false [⟨(some 3), .box (.tmp 1), none, [], false, false⟩,
    ⟨(some 4), .move (.const (.slice none 0 0)), none, [], false, false⟩,
    ⟨(some 5), .move (.const (.slice none 0 0)), none, [], false, false⟩,
    ⟨(some 6), .move (.const (.int .i64 0)), none, [], false, false⟩])
 (.seq (.region false [⟨(some 17), .move (.tmp 0), none, [], false, false⟩,
     ⟨(some 18), .load true 2 (.tmp 3), none, [], false, false⟩,
     ⟨(some 19), .call 14 [(.tmp 17), (.tmp 18)], none, [], false, false⟩,
     ⟨(some 16), .move (.tmp 19), none, [], false, false⟩,
     ⟨(some 20), .extract (.tmp 16) 0, none, [], false, false⟩,
     ⟨(some 21), .extract (.tmp 16) 1, none, [], false, false⟩,
     ⟨(some 7), .move (.tmp 20), none, [], false, false⟩,
     ⟨(some 8), .move (.tmp 21), none, [], false, false⟩])
  (.seq (.seq (.region false [⟨(some 22), .move (.tmp 8), none, [], false, false⟩,
       ⟨(some 23), .bin .neq (.tmp 22) (.const (.int .i64 0)), none, [], false, false⟩])
    (.cond (.tmp 23) (.seq (.region false [⟨(some 24), .move (.tmp 8), none, [], false, false⟩,
         ⟨(some 4), .move (.const (.slice none 0 0)), none, [], false, false⟩,
         ⟨(some 5), .move (.const (.slice none 0 0)), none, [], false, false⟩,
         ⟨(some 6), .move (.tmp 24), none, [], false, false⟩])
      (.ret))
     (.skip)))
   (.seq (.seq (.region false [⟨(some 26), .move (.tmp 0), none, [], false, false⟩,
        ⟨(some 27), .len false (.tmp 26), none, [], false, false⟩,
        ⟨(some 28), .bin .add (.tmp 27) (.const (.int .i64 1)), none, [], false, false⟩,
        ⟨(some 29), .move (.tmp 7), none, [], false, false⟩,
        ⟨(some 30), .call 16 [(.tmp 28), (.tmp 29)], none, [], false, false⟩,
        ⟨(some 25), .move (.tmp 30), none, [], false, false⟩,
        ⟨(some 31), .extract (.tmp 25) 0, none, [], false, false⟩,
        ⟨(some 32), .extract (.tmp 25) 1, none, [], false, false⟩,
        ⟨(some 33), .extract (.tmp 25) 2, none, [], false, false⟩,
        ⟨(some 9), .move (.tmp 31), none, [], false, false⟩,
        ⟨(some 10), .move (.tmp 32), none, [], false, false⟩,
        ⟨(some 11), .move (.tmp 33), none, [], false, false⟩])
     (.seq (.region false [⟨(some 34), .move (.tmp 11), none, [], false, false⟩,
         ⟨(some 35), .bin .neq (.tmp 34) (.const (.int .i64 0)), none, [], false, false⟩])
      (.cond (.tmp 35) (.seq (.region false [⟨(some 36), .move (.tmp 10), none, [], false, false⟩,
           ⟨(some 37), .move (.tmp 11), none, [], false, false⟩,
           ⟨(some 4), .move (.const (.slice none 0 0)), none, [], false, false⟩,
           ⟨(some 5), .move (.tmp 36), none, [], false, false⟩,
           ⟨(some 6), .move (.tmp 37), none, [], false, false⟩])
        (.ret))
       (.skip))))
    (.seq (.region false [⟨(some 12), .move (.const (.slice none 0 0)), none, [], false, false⟩])
     (.seq (.seq (.region false [⟨(some 38), .move (.tmp 0), none, [], false, false⟩,
          ⟨(some 39), .len false (.tmp 38), none, [], false, false⟩,
          ⟨(some 40), .move (.const (.int .i64 0)), none, [], false, false⟩])
       (.block 0 (.loop (some [3, 12, 38, 39, 40]) (
         .seq (.region false [⟨(some 41), .bin .lss (.tmp 40) (.tmp 39), none, [], false, false⟩])
          (.seq (.cond (.tmp 41) (.skip)
            (.exit 0))
           (.seq (.block 1 (.seq (.region false [⟨(some 42), .indexAddr none 2 (.tmp 38) (.tmp 40), none, [], false, false⟩,
                 ⟨(some 43), .load true 2 (.tmp 42), none, [], false, false⟩,
                 ⟨(some 14), .push [(.int .i64 0), (.int .i64 0)], none, [], false, false⟩,
                 ⟨none, .store 2 (.tmp 14) (.tmp 43), none, [], false, false⟩])
              (.region false [⟨(some 44), .move (.tmp 12), none, [], false, false⟩,
                 ⟨(some 45), .fieldAddr 1 (.tmp 14), none, [], false, false⟩,
                 ⟨(some 46), .load false 1 (.tmp 45), none, [], false, false⟩,
                 ⟨(some 47), .buildSlice 1 1 [(.int .i64 0)] [(0, 1, (.tmp 46))], none, [], false, false⟩,
                 ⟨(some 48), .append 1 8 (.tmp 44) (.tmp 47), none, [], false, false⟩,
                 ⟨(some 12), .move (.tmp 48), none, [], false, false⟩])))
            (.region false [⟨(some 49), .bin .add (.tmp 40) (.const (.int .i64 1)), none, [], false, false⟩,
               ⟨(some 40), .move (.tmp 49), none, [], false, false⟩])))))))
      (.seq (.seq (.region false [⟨(some 50), .move (.tmp 12), none, [], false, false⟩,
           ⟨(some 51), .len false (.tmp 50), none, [], false, false⟩,
           ⟨(some 52), .move (.const (.int .i64 0)), none, [], false, false⟩])
        (.block 2 (.loop (some [3, 12, 51, 52]) (
          .seq (.region false [⟨(some 53), .bin .lss (.tmp 52) (.tmp 51), none, [], false, false⟩])
           (.seq (.cond (.tmp 53) (.skip)
             (.exit 2))
            (.seq (.block 3 (.seq (.region false [⟨(some 15), .move (.const (.int .i64 1)), none, [], false, false⟩])
               (.block 4 (.loop (some [3, 12, 15, 51, 52]) (
                 .seq (.seq (.region false [⟨(some 54), .move (.tmp 15), none, [], false, false⟩,
                      ⟨(some 55), .move (.tmp 12), none, [], false, false⟩,
                      ⟨(some 56), .len false (.tmp 55), none, [], false, false⟩,
                      ⟨(some 57), .bin .lss (.tmp 54) (.tmp 56), none, [], false, false⟩])
                   (.cond (.tmp 57) (.skip)
                    (.exit 4)))
                  (.seq (.block 5 (.seq (.region true [⟨(some 60), .move (.tmp 12), none, [], false, false⟩,
                        ⟨(some 61), .move (.tmp 15), none, [], false, false⟩,
                        ⟨(some 62), .move (.tmp 12), none, [], false, false⟩,
                        ⟨(some 63), .move (.tmp 15), none, [], false, false⟩,
                        ⟨(some 64), .indexAddr none 1 (.tmp 62) (.tmp 63), none, [], false, false⟩,
                        ⟨(some 65), .load false 1 (.tmp 64), none, [], false, false⟩,
                        ⟨(some 66), .move (.tmp 12), none, [], false, false⟩,
                        ⟨(some 67), .move (.tmp 15), none, [], false, false⟩,
                        ⟨(some 68), .bin .sub (.tmp 67) (.const (.int .i64 1)), none, [], false, false⟩,
                        ⟨(some 69), .indexAddr none 1 (.tmp 66) (.tmp 68), none, [], false, false⟩,
                        ⟨(some 70), .load false 1 (.tmp 69), none, [], false, false⟩,
                        ⟨(some 71), .fieldAddr 0 (.tmp 3), none, [], false, false⟩,
                        ⟨(some 72), .load false 1 (.tmp 71), none, [], false, false⟩,
                        ⟨(some 73), .bin .sub (.tmp 70) (.tmp 72), none, [], false, false⟩,
                        ⟨(some 74), .min [(.tmp 65), (.tmp 73)], none, [], false, false⟩,
                        ⟨(some 75), .indexAddr none 1 (.tmp 60) (.tmp 61), none, [], false, false⟩,
                        ⟨none, .store 1 (.tmp 75) (.tmp 74), none, [], false, false⟩])
                     (.region true [⟨(some 76), .move (.tmp 12), none, [], false, false⟩,
                        ⟨(some 77), .move (.tmp 15), none, [], false, false⟩,
                        ⟨(some 78), .bin .sub (.tmp 77) (.const (.int .i64 1)), none, [], false, false⟩,
                        ⟨(some 79), .move (.tmp 12), none, [], false, false⟩,
                        ⟨(some 80), .move (.tmp 15), none, [], false, false⟩,
                        ⟨(some 81), .bin .sub (.tmp 80) (.const (.int .i64 1)), none, [], false, false⟩,
                        ⟨(some 82), .indexAddr none 1 (.tmp 79) (.tmp 81), none, [], false, false⟩,
                        ⟨(some 83), .load false 1 (.tmp 82), none, [], false, false⟩,
                        ⟨(some 84), .move (.tmp 12), none, [], false, false⟩,
                        ⟨(some 85), .move (.tmp 15), none, [], false, false⟩,
                        ⟨(some 86), .indexAddr none 1 (.tmp 84) (.tmp 85), none, [], false, false⟩,
                        ⟨(some 87), .load false 1 (.tmp 86), none, [], false, false⟩,
                        ⟨(some 88), .fieldAddr 1 (.tmp 3), none, [], false, false⟩,
                        ⟨(some 89), .load false 1 (.tmp 88), none, [], false, false⟩,
                        ⟨(some 90), .bin .add (.tmp 87) (.tmp 89), none, [], false, false⟩,
                        ⟨(some 91), .min [(.tmp 83), (.tmp 90)], none, [], false, false⟩,
                        ⟨(some 92), .indexAddr none 1 (.tmp 76) (.tmp 78), none, [], false, false⟩,
                        ⟨none, .store 1 (.tmp 92) (.tmp 91), none, [], false, false⟩])))
                   (.region false [⟨(some 58), .move (.tmp 15), none, [], false, false⟩,
                      ⟨(some 59), .bin .add (.tmp 58) (.const (.int .i64 1)), none, [], false, false⟩,
                      ⟨(some 15), .move (.tmp 59), none, [], false, false⟩])))))))
             (.region false [⟨(some 93), .bin .add (.tmp 52) (.const (.int .i64 1)), none, [], false, false⟩,
                ⟨(some 52), .move (.tmp 93), none, [], false, false⟩])))))))
       (.seq (.region false [⟨(some 94), .move (.tmp 12), none, [], false, false⟩,
           ⟨(some 4), .move (.tmp 94), none, [], false, false⟩,
           ⟨(some 5), .move (.const (.slice none 0 0)), none, [], false, false⟩,
           ⟨(some 6), .move (.const (.int .i64 0)), none, [], false, false⟩])
        (.ret)))))))),
 [.tmp 4, .tmp 5, .tmp 6], .pure, 95⟩

/-- agraffe/number.Solve -/
def ef16 : EFun := ⟨
 .seq (.region false [⟨(some 4), .move (.const (.slice none 0 0)), none, [], false, false⟩,
    ⟨(some 5), .move (.const (.slice none 0 0)), none, [], false, false⟩,
    ⟨(some 6), .move (.const (.int .i64 0)), none, [], false, false⟩])
 (.seq (.seq (.region false [⟨(some 13), .move (.tmp 0), none, [], false, false⟩,
      ⟨(some 14), .move (.tmp 1), none, [], false, false⟩,
      ⟨(some 15), .call 62 [(.tmp 13), (.tmp 14)], none, [], false, false⟩,
      ⟨(some 7), .move (.tmp 15), none, [], false, false⟩])
   (.seq (.region false [⟨(some 16), .move (.tmp 7), none, [], false, false⟩,
       ⟨(some 17), .bin .neq (.tmp 16) (.const (.int .i64 0)), none, [], false, false⟩])
    (.cond (.tmp 17) (.seq (.region false [⟨(some 18), .move (.tmp 7), none, [], false, false⟩,
         ⟨(some 4), .move (.const (.slice none 0 0)), none, [], false, false⟩,
         ⟨(some 5), .move (.const (.slice none 0 0)), none, [], false, false⟩,
         ⟨(some 6), .move (.tmp 18), none, [], false, false⟩])
      (.ret))
     (.skip))))
  (.seq (.region true [⟨(some 19), .move (.tmp 0), none, [], false, false⟩,
      ⟨(some 20), .makeSlice 1 8 [(.int .i64 0)] (.tmp 19) (.tmp 19), none, [], false, false⟩,
      ⟨(some 21), .move (.tmp 0), none, [], false, false⟩,
      ⟨(some 22), .makeSlice 1 8 [(.int .i64 0)] (.tmp 21) (.tmp 21), none, [], false, false⟩,
      ⟨(some 8), .move (.tmp 20), none, [], false, false⟩,
      ⟨(some 9), .move (.tmp 22), none, [], false, false⟩])
   (.seq (.region false [⟨(some 10), .move (.const (.int .i64 0)), none, [], false, false⟩])
    (.seq (.seq (.region false [⟨(some 23), .move (.tmp 0), none, [], false, false⟩,
         ⟨(some 24), .move (.const (.int .i64 0)), none, [], false, false⟩])
      (.block 0 (.loop (some [0, 1, 8, 9, 10, 23, 24]) (
        .seq (.region false [⟨(some 25), .bin .lss (.tmp 24) (.tmp 23), none, [], false, false⟩])
         (.seq (.cond (.tmp 25) (.skip)
           (.exit 0))
          (.seq (.block 1 (.seq (.region false [⟨(some 26), .move (.tmp 1), none, [], false, false⟩,
                ⟨(some 27), .move (.tmp 8), none, [], false, false⟩,
                ⟨(some 28), .move (.tmp 9), none, [], false, false⟩,
                ⟨(some 29), .call 63 [(.tmp 26), (.tmp 27), (.tmp 28)], none, [], false, false⟩,
                ⟨(some 10), .move (.tmp 29), none, [], false, false⟩])
             (.seq (.region false [⟨(some 30), .move (.tmp 10), none, [], false, false⟩,
                 ⟨(some 31), .bin .lss (.tmp 30) (.const (.int .i64 0)), none, [], false, false⟩])
              (.cond (.tmp 31) (.seq (.region false [⟨(some 32), .move (.tmp 8), none, [], false, false⟩,
                   ⟨(some 4), .move (.tmp 32), none, [], false, false⟩,
                   ⟨(some 5), .move (.const (.slice none 0 0)), none, [], false, false⟩,
                   ⟨(some 6), .move (.const (.int .i64 0)), none, [], false, false⟩])
                (.ret))
               (.skip)))))
           (.region false [⟨(some 33), .bin .add (.tmp 24) (.const (.int .i64 1)), none, [], false, false⟩,
              ⟨(some 24), .move (.tmp 33), none, [], false, false⟩])))))))
     (.seq (.seq (.region false [⟨(some 34), .move (.tmp 0), none, [], false, false⟩,
          ⟨(some 35), .move (.const (.int .i64 0)), none, [], false, false⟩])
       (.block 2 (.loop (some [1, 9, 10, 34, 35]) (
         .seq (.region false [⟨(some 36), .bin .lss (.tmp 35) (.tmp 34), none, [], false, false⟩])
          (.seq (.cond (.tmp 36) (.skip)
            (.exit 2))
           (.seq (.block 3 (.region false [⟨(some 37), .move (.tmp 1), none, [], false, false⟩,
                ⟨(some 38), .move (.tmp 9), none, [], false, false⟩,
                ⟨(some 39), .move (.tmp 10), none, [], false, false⟩,
                ⟨(some 40), .indexAddr none 1 (.tmp 38) (.tmp 39), none, [], false, false⟩,
                ⟨(some 41), .load false 1 (.tmp 40), none, [], false, false⟩,
                ⟨(some 42), .indexAddr none 3 (.tmp 37) (.tmp 41), none, [], false, false⟩,
                ⟨(some 43), .fieldAddr 0 (.tmp 42), none, [], false, false⟩,
                ⟨(some 44), .load false 1 (.tmp 43), none, [], false, false⟩,
                ⟨(some 10), .move (.tmp 44), none, [], false, false⟩]))
            (.region false [⟨(some 45), .bin .add (.tmp 35) (.const (.int .i64 1)), none, [], false, false⟩,
               ⟨(some 35), .move (.tmp 45), none, [], false, false⟩])))))))
      (.seq (.region false [⟨(some 11), .move (.const (.slice none 0 0)), none, [], false, false⟩])
       (.seq (.seq (.region false [⟨(some 46), .move (.tmp 10), none, [], false, false⟩,
            ⟨(some 12), .move (.tmp 46), none, [], false, false⟩])
         (.block 4 (.loop (some [1, 9, 10, 11, 12]) (
           .seq (.seq (.region false [⟨(some 47), .move (.tmp 11), none, [], false, false⟩,
                ⟨(some 48), .len false (.tmp 47), none, [], false, false⟩,
                ⟨(some 49), .bin .eql (.tmp 48) (.const (.int .i64 0)), none, [], false, false⟩,
                ⟨(some 50), .move (.tmp 49), none, [], false, false⟩,
                ⟨(some 51), .move (.tmp 12), (some (50, false)), [], false, false⟩,
                ⟨(some 52), .move (.tmp 10), (some (50, false)), [], false, false⟩,
                ⟨(some 53), .bin .neq (.tmp 51) (.tmp 52), (some (50, false)), [], false, false⟩,
                ⟨(some 54), .pick (.tmp 50) (.const (.bool true)) (.tmp 53), none, [], false, false⟩])
             (.cond (.tmp 54) (.skip)
              (.exit 4)))
            (.seq (.block 5 (.region false [⟨(some 63), .move (.tmp 11), none, [], false, false⟩,
                 ⟨(some 64), .move (.tmp 9), none, [], false, false⟩,
                 ⟨(some 65), .move (.tmp 12), none, [], false, false⟩,
                 ⟨(some 66), .indexAddr none 1 (.tmp 64) (.tmp 65), none, [], false, false⟩,
                 ⟨(some 67), .load false 1 (.tmp 66), none, [], false, false⟩,
                 ⟨(some 68), .buildSlice 1 1 [(.int .i64 0)] [(0, 1, (.tmp 67))], none, [], false, false⟩,
                 ⟨(some 69), .append 1 8 (.tmp 63) (.tmp 68), none, [], false, false⟩,
                 ⟨(some 11), .move (.tmp 69), none, [], false, false⟩]))
             (.region false [⟨(some 55), .move (.tmp 1), none, [], false, false⟩,
                ⟨(some 56), .move (.tmp 9), none, [], false, false⟩,
                ⟨(some 57), .move (.tmp 12), none, [], false, false⟩,
                ⟨(some 58), .indexAddr none 1 (.tmp 56) (.tmp 57), none, [], false, false⟩,
                ⟨(some 59), .load false 1 (.tmp 58), none, [], false, false⟩,
                ⟨(some 60), .indexAddr none 3 (.tmp 55) (.tmp 59), none, [], false, false⟩,
                ⟨(some 61), .fieldAddr 0 (.tmp 60), none, [], false, false⟩,
                ⟨(some 62), .load false 1 (.tmp 61), none, [], false, false⟩,
                ⟨(some 12), .move (.tmp 62), none, [], false, false⟩]))))))
        (.seq (.region false [⟨(some 70), .move (.tmp 11), none, [], false, false⟩,
            ⟨(some 71), .call 64 [(.tmp 70)], none, [], false, false⟩])
         (.seq (.region false [⟨(some 72), .move (.tmp 11), none, [], false, false⟩,
             ⟨(some 4), .move (.const (.slice none 0 0)), none, [], false, false⟩,
             ⟨(some 5), .move (.tmp 72), none, [], false, false⟩,
             ⟨(some 6), .move (.const (.int .i64 21)), none, [], false, false⟩])
          (.ret)))))))))),
 [.tmp 4, .tmp 5, .tmp 6], .pure, 73⟩

/-- agraffe/agraffebase.CopyInts -/
def ef17 : EFun := ⟨
 .seq (.region false [⟨(some 2), .move (.const (.slice none 0 0)), none, [], false, false⟩])
 (.seq (.region false [⟨(some 3), .buildSlice 1 0 [] [], none, [], false, false⟩,
     ⟨(some 4), .move (.tmp 0), none, [], false, false⟩,
     ⟨(some 5), .append 1 8 (.tmp 3) (.tmp 4), none, [], false, false⟩,
     ⟨(some 2), .move (.tmp 5), none, [], false, false⟩])
  (.ret)),
 [.tmp 2], .pure, 6⟩

/-- agraffe/agraffebase.Within -/
def ef18 : EFun := ⟨
 .seq (.region false [⟨(some 6), .move (.const (.bool false)), none, [], false, false⟩])
 (.seq (.region false [⟨(some 7), .move (.tmp 0), none, [], false, false⟩,
     ⟨(some 8), .move (.tmp 1), none, [], false, false⟩,
     ⟨(some 9), .bin .geq (.tmp 7) (.tmp 8), none, [], false, false⟩,
     ⟨(some 10), .move (.tmp 9), none, [], false, false⟩,
     ⟨(some 11), .move (.tmp 0), (some (10, true)), [], false, false⟩,
     ⟨(some 12), .move (.tmp 2), (some (10, true)), [], false, false⟩,
     ⟨(some 13), .bin .leq (.tmp 11) (.tmp 12), (some (10, true)), [], false, false⟩,
     ⟨(some 14), .pick (.tmp 10) (.tmp 13) (.const (.bool false)), none, [], false, false⟩,
     ⟨(some 6), .move (.tmp 14), none, [], false, false⟩])
  (.ret)),
 [.tmp 6], .pure, 15⟩

end Go.Abs.X
