/- The functions, compiled for the abstract evaluator. Written by wip/abs/Print.lean. -/
import Derived.Test.YtjalhpdmdiimoaaDoorAbsN0
set_option linter.unusedSimpArgs false
set_option linter.unusedVariables false
set_option maxRecDepth 100000
set_option maxHeartbeats 0
namespace Go.Abs.N
open Go Go.Abs
/-- agraffe/agrafferef01.Line -/
def ef56 : EFun := ⟨
 .seq (.region false [⟨(some 2), .push (List.replicate 9 (.int .i64 0)), none, [], false, false⟩])
 (.seq (.region false [⟨(some 13), .build [(.int .i64 0), (.int .i64 0)] [(0, 1, (.const (.int .i64 (-1)))), (1, 1, (.const (.int .i64 1)))], none, [], false, false⟩,
     ⟨(some 14), .build (List.replicate 9 (.int .i64 0)) [(4, 2, (.tmp 13))], none, [], false, false⟩,
     ⟨(some 3), .push (List.replicate 9 (.int .i64 0)), none, [], false, false⟩,
     ⟨none, .store 9 (.tmp 3) (.tmp 14), none, [], false, false⟩])
  (.seq (.seq (.region false [⟨(some 4), .move (.const (.int .i64 0)), none, [], false, false⟩])
    (.block 0 (.loop (some [0, 2, 3, 4]) (
      .seq (.seq (.region false [⟨(some 15), .move (.tmp 4), none, [], false, false⟩,
           ⟨(some 16), .move (.tmp 0), none, [], false, false⟩,
           ⟨(some 17), .len false (.tmp 16), none, [], false, false⟩,
           ⟨(some 18), .bin .lss (.tmp 15) (.tmp 17), none, [], false, false⟩])
        (.cond (.tmp 18) (.skip)
         (.exit 0)))
       (.seq (.block 1 (.seq (.region false [⟨(some 21), .move (.tmp 4), none, [], false, false⟩,
             ⟨(some 22), .bin .add (.tmp 21) (.const (.int .i64 1)), none, [], false, false⟩,
             ⟨(some 5), .move (.tmp 22), none, [], false, false⟩])
          (.block 2 (.loop (some [0, 2, 3, 4, 5]) (
            .seq (.seq (.region false [⟨(some 23), .move (.tmp 5), none, [], false, false⟩,
                 ⟨(some 24), .move (.tmp 0), none, [], false, false⟩,
                 ⟨(some 25), .len false (.tmp 24), none, [], false, false⟩,
                 ⟨(some 26), .bin .lss (.tmp 23) (.tmp 25), none, [], false, false⟩])
              (.cond (.tmp 26) (.skip)
               (.exit 2)))
             (.seq (.block 3 (.seq (.region false [⟨(some 29), .move (.tmp 5), none, [], false, false⟩,
                   ⟨(some 30), .bin .add (.tmp 29) (.const (.int .i64 1)), none, [], false, false⟩,
                   ⟨(some 6), .move (.tmp 30), none, [], false, false⟩])
                (.block 4 (.loop (some [0, 2, 3, 4, 5, 6]) (
                  .seq (.seq (.region false [⟨(some 31), .move (.tmp 6), none, [], false, false⟩,
                       ⟨(some 32), .move (.tmp 0), none, [], false, false⟩,
                       ⟨(some 33), .len false (.tmp 32), none, [], false, false⟩,
                       ⟨(some 34), .bin .lss (.tmp 31) (.tmp 33), none, [], false, false⟩])
                    (.cond (.tmp 34) (.skip)
                     (.exit 4)))
                   (.seq (.block 5 (.seq (.region true [⟨(some 37), .move (.tmp 0), none, [], false, false⟩,
                         ⟨(some 38), .move (.tmp 4), none, [], false, false⟩,
                         ⟨(some 39), .indexAddr none 2 (.tmp 37) (.tmp 38), none, [], false, false⟩,
                         ⟨(some 40), .load true 2 (.tmp 39), none, [], false, false⟩,
                         ⟨(some 41), .move (.tmp 0), none, [], false, false⟩,
                         ⟨(some 42), .move (.tmp 5), none, [], false, false⟩,
                         ⟨(some 43), .indexAddr none 2 (.tmp 41) (.tmp 42), none, [], false, false⟩,
                         ⟨(some 44), .load true 2 (.tmp 43), none, [], true, false⟩,
                         ⟨(some 45), .move (.tmp 0), none, [], false, false⟩,
                         ⟨(some 46), .move (.tmp 6), none, [], false, false⟩,
                         ⟨(some 47), .indexAddr none 2 (.tmp 45) (.tmp 46), none, [], false, false⟩,
                         ⟨(some 48), .load true 2 (.tmp 47), none, [], true, false⟩,
                         ⟨(some 7), .push [(.int .i64 0), (.int .i64 0)], none, [], false, false⟩,
                         ⟨(some 8), .push [(.int .i64 0), (.int .i64 0)], none, [], false, false⟩,
                         ⟨(some 9), .push [(.int .i64 0), (.int .i64 0)], none, [], false, false⟩,
                         ⟨none, .store 2 (.tmp 7) (.tmp 40), none, [7, 11], false, false⟩,
                         ⟨none, .store 2 (.tmp 8) (.tmp 44), none, [11], false, false⟩,
                         ⟨none, .store 2 (.tmp 9) (.tmp 48), none, [], false, false⟩])
                      (.seq (.region false [⟨(some 49), .fieldAddr 0 (.tmp 9), none, [], false, false⟩,
                          ⟨(some 50), .load false 1 (.tmp 49), none, [], false, false⟩,
                          ⟨(some 51), .fieldAddr 0 (.tmp 7), none, [], false, false⟩,
                          ⟨(some 52), .load false 1 (.tmp 51), none, [], false, false⟩,
                          ⟨(some 53), .bin .sub (.tmp 50) (.tmp 52), none, [], false, false⟩,
                          ⟨(some 10), .move (.tmp 53), none, [], false, false⟩])
                       (.seq (.region false [⟨(some 54), .fieldAddr 1 (.tmp 8), none, [], false, false⟩,
                           ⟨(some 55), .load false 1 (.tmp 54), none, [], false, false⟩,
                           ⟨(some 56), .fieldAddr 1 (.tmp 7), none, [], false, false⟩,
                           ⟨(some 57), .load false 1 (.tmp 56), none, [], false, false⟩,
                           ⟨(some 58), .bin .sub (.tmp 55) (.tmp 57), none, [], false, false⟩,
                           ⟨(some 59), .move (.tmp 10), none, [], false, false⟩,
                           ⟨(some 60), .bin .mul (.tmp 58) (.tmp 59), none, [], false, false⟩,
                           ⟨(some 61), .fieldAddr 1 (.tmp 9), none, [], false, false⟩,
                           ⟨(some 62), .load false 1 (.tmp 61), none, [], false, false⟩,
                           ⟨(some 63), .fieldAddr 1 (.tmp 7), none, [], false, false⟩,
                           ⟨(some 64), .load false 1 (.tmp 63), none, [], false, false⟩,
                           ⟨(some 65), .bin .sub (.tmp 62) (.tmp 64), none, [], false, false⟩,
                           ⟨(some 66), .fieldAddr 0 (.tmp 8), none, [], false, false⟩,
                           ⟨(some 67), .load false 1 (.tmp 66), none, [], false, false⟩,
                           ⟨(some 68), .fieldAddr 0 (.tmp 7), none, [], false, false⟩,
                           ⟨(some 69), .load false 1 (.tmp 68), none, [], false, false⟩,
                           ⟨(some 70), .bin .sub (.tmp 67) (.tmp 69), none, [], false, false⟩,
                           ⟨(some 71), .bin .mul (.tmp 65) (.tmp 70), none, [], false, false⟩,
                           ⟨(some 72), .bin .sub (.tmp 60) (.tmp 71), none, [], false, false⟩,
                           ⟨(some 11), .move (.tmp 72), none, [], false, false⟩])
                        (.seq (.region false [⟨(some 73), .move (.tmp 11), none, [], false, false⟩,
                            ⟨(some 74), .call 26 [(.tmp 73)], none, [], false, false⟩,
                            ⟨(some 75), .move (.tmp 10), none, [], false, false⟩,
                            ⟨(some 76), .bin .mul (.const (.int .i64 2)) (.tmp 75), none, [], false, false⟩,
                            ⟨(some 77), .call 114 [(.tmp 74), (.tmp 76)], none, [], false, false⟩,
                            ⟨(some 12), .push [(.int .i64 0), (.int .i64 0)], none, [], false, false⟩,
                            ⟨none, .store 2 (.tmp 12) (.tmp 77), none, [], false, false⟩])
                         (.seq (.region false [⟨(some 78), .load true 2 (.tmp 12), none, [], false, false⟩,
                             ⟨(some 79), .fieldAddr 4 (.tmp 3), none, [], false, false⟩,
                             ⟨(some 80), .load true 2 (.tmp 79), none, [], false, false⟩,
                             ⟨(some 81), .call 69 [(.tmp 78), (.tmp 80)], none, [], false, false⟩,
                             ⟨(some 82), .bin .gtr (.tmp 81) (.const (.int .i64 0)), none, [], false, false⟩])
                          (.cond (.tmp 82) (.region true [⟨(some 83), .fieldAddr 1 (.tmp 9), none, [], false, false⟩,
                              ⟨(some 84), .load false 1 (.tmp 83), none, [], false, false⟩,
                              ⟨(some 85), .fieldAddr 1 (.tmp 7), none, [], false, false⟩,
                              ⟨(some 86), .load false 1 (.tmp 85), none, [], false, false⟩,
                              ⟨(some 87), .bin .sub (.tmp 84) (.tmp 86), none, [], false, false⟩,
                              ⟨(some 88), .move (.tmp 10), none, [], false, false⟩,
                              ⟨(some 89), .call 114 [(.tmp 87), (.tmp 88)], none, [], false, true⟩,
                              ⟨(some 90), .fieldAddr 1 (.tmp 7), none, [], false, false⟩,
                              ⟨(some 91), .load false 1 (.tmp 90), none, [], false, false⟩,
                              ⟨(some 92), .bin .mul (.const (.int .i64 2)) (.tmp 91), none, [], false, false⟩,
                              ⟨(some 93), .move (.tmp 10), none, [], false, false⟩,
                              ⟨(some 94), .bin .mul (.tmp 92) (.tmp 93), none, [], false, false⟩,
                              ⟨(some 95), .move (.tmp 11), none, [], false, false⟩,
                              ⟨(some 96), .bin .add (.tmp 94) (.tmp 95), none, [], false, false⟩,
                              ⟨(some 97), .fieldAddr 1 (.tmp 9), none, [], false, false⟩,
                              ⟨(some 98), .load false 1 (.tmp 97), none, [], false, false⟩,
                              ⟨(some 99), .fieldAddr 1 (.tmp 7), none, [], false, false⟩,
                              ⟨(some 100), .load false 1 (.tmp 99), none, [], false, false⟩,
                              ⟨(some 101), .bin .sub (.tmp 98) (.tmp 100), none, [], false, false⟩,
                              ⟨(some 102), .bin .mul (.const (.int .i64 2)) (.tmp 101), none, [], false, false⟩,
                              ⟨(some 103), .fieldAddr 0 (.tmp 7), none, [], false, false⟩,
                              ⟨(some 104), .load false 1 (.tmp 103), none, [], false, false⟩,
                              ⟨(some 105), .bin .mul (.tmp 102) (.tmp 104), none, [], false, false⟩,
                              ⟨(some 106), .bin .sub (.tmp 96) (.tmp 105), none, [], false, false⟩,
                              ⟨(some 107), .move (.tmp 10), none, [], false, false⟩,
                              ⟨(some 108), .bin .mul (.const (.int .i64 2)) (.tmp 107), none, [], false, false⟩,
                              ⟨(some 109), .call 114 [(.tmp 106), (.tmp 108)], none, [], false, true⟩,
                              ⟨(some 110), .load true 2 (.tmp 12), none, [], false, false⟩,
                              ⟨(some 111), .move (.tmp 4), none, [], false, false⟩,
                              ⟨(some 112), .move (.tmp 5), none, [], false, false⟩,
                              ⟨(some 113), .move (.tmp 6), none, [], false, false⟩,
                              ⟨(some 114), .build [(.int .i64 0), (.int .i64 0), (.int .i64 0)] [(0, 1, (.tmp 111)), (1, 1, (.tmp 112)), (2, 1, (.tmp 113))], none, [], false, false⟩,
                              ⟨(some 115), .build (List.replicate 9 (.int .i64 0)) [(2, 2, (.tmp 89)), (0, 2, (.tmp 109)), (4, 2, (.tmp 110)), (6, 3, (.tmp 114))], none, [], false, false⟩,
                              ⟨none, .store 9 (.tmp 3) (.tmp 115), none, [], false, false⟩])
                           (.skip))))))))
                    (.region false [⟨(some 35), .move (.tmp 6), none, [], false, false⟩,
                       ⟨(some 36), .bin .add (.tmp 35) (.const (.int .i64 1)), none, [], false, false⟩,
                       ⟨(some 6), .move (.tmp 36), none, [], false, false⟩])))))))
              (.region false [⟨(some 27), .move (.tmp 5), none, [], false, false⟩,
                 ⟨(some 28), .bin .add (.tmp 27) (.const (.int .i64 1)), none, [], false, false⟩,
                 ⟨(some 5), .move (.tmp 28), none, [], false, false⟩])))))))
        (.region false [⟨(some 19), .move (.tmp 4), none, [], false, false⟩,
           ⟨(some 20), .bin .add (.tmp 19) (.const (.int .i64 1)), none, [], false, false⟩,
           ⟨(some 4), .move (.tmp 20), none, [], false, false⟩]))))))
   (.seq (.region false [⟨(some 116), .load true 9 (.tmp 3), none, [], false, false⟩,
       ⟨none, .store 9 (.tmp 2) (.tmp 116), none, [], false, false⟩])
    (.ret)))),
 [.cell 2 true 9], .pure, 117⟩

/-- agraffe/agrafferef01.CheckLine -/
def ef57 : EFun := ⟨
 .seq (.region false [⟨(some 3), .box (.tmp 1), none, [], false, false⟩,
    ⟨(some 4), .move (.const (.int .i64 0)), none, [], false, false⟩])
 (.seq (.region false [⟨(some 5), .move (.const (.int .i64 1)), none, [], false, false⟩])
  (.seq (.seq (.region false [⟨(some 17), .fieldAddr 0 (.tmp 3), none, [], false, false⟩,
       ⟨(some 18), .load true 2 (.tmp 17), none, [], false, false⟩,
       ⟨(some 19), .fieldAddr 2 (.tmp 3), none, [], false, false⟩,
       ⟨(some 20), .load true 2 (.tmp 19), none, [], false, false⟩,
       ⟨(some 21), .fieldAddr 4 (.tmp 3), none, [], false, false⟩,
       ⟨(some 22), .load true 2 (.tmp 21), none, [], false, false⟩,
       ⟨(some 23), .build [(.int .i64 0), (.int .i64 0), (.int .i64 0), (.int .i64 0), (.int .i64 0), (.int .i64 0)] [(0, 2, (.tmp 18)), (2, 2, (.tmp 20)), (4, 2, (.tmp 22))], none, [], false, false⟩,
       ⟨(some 24), .move (.const (.int .i64 0)), none, [], false, false⟩])
    (.block 0 (.loop (some [0, 3, 5, 23, 24]) (
      .seq (.region false [⟨(some 25), .bin .lss (.tmp 24) (.const (.int .i64 3)), none, [], false, false⟩])
       (.seq (.cond (.tmp 25) (.skip)
         (.exit 0))
        (.seq (.block 1 (.seq (.region false [⟨(some 26), .index 3 2 true (.tmp 23) (.tmp 24), none, [], false, false⟩,
              ⟨(some 7), .push [(.int .i64 0), (.int .i64 0)], none, [], false, false⟩,
              ⟨none, .store 2 (.tmp 7) (.tmp 26), none, [], false, false⟩])
           (.seq (.seq (.region false [⟨(some 27), .fieldAddr 1 (.tmp 7), none, [], false, false⟩,
                ⟨(some 28), .load false 1 (.tmp 27), none, [], false, false⟩,
                ⟨(some 29), .bin .gtr (.tmp 28) (.const (.int .i64 40000)), none, [], false, false⟩])
             (.cond (.tmp 29) (.seq (.region false [⟨(some 4), .move (.const (.int .i64 8)), none, [], false, false⟩])
               (.ret))
              (.skip)))
            (.seq (.region true [⟨(some 30), .move (.tmp 5), none, [], false, false⟩,
                ⟨(some 31), .move (.tmp 5), none, [], false, false⟩,
                ⟨(some 32), .fieldAddr 1 (.tmp 7), none, [], false, false⟩,
                ⟨(some 33), .load false 1 (.tmp 32), none, [], false, false⟩,
                ⟨(some 34), .call 111 [(.tmp 31), (.tmp 33)], none, [], false, true⟩,
                ⟨(some 35), .bin .quo (.tmp 30) (.tmp 34), none, [], false, false⟩,
                ⟨(some 36), .fieldAddr 1 (.tmp 7), none, [], false, false⟩,
                ⟨(some 37), .load false 1 (.tmp 36), none, [], false, false⟩,
                ⟨(some 38), .bin .mul (.tmp 35) (.tmp 37), none, [], false, false⟩,
                ⟨(some 5), .move (.tmp 38), none, [], false, false⟩])
             (.seq (.region false [⟨(some 39), .move (.tmp 5), none, [], false, false⟩,
                 ⟨(some 40), .bin .gtr (.tmp 39) (.const (.int .i64 40000)), none, [], false, false⟩])
              (.cond (.tmp 40) (.seq (.region false [⟨(some 4), .move (.const (.int .i64 8)), none, [], false, false⟩])
                (.ret))
               (.skip)))))))
         (.region false [⟨(some 41), .bin .add (.tmp 24) (.const (.int .i64 1)), none, [], false, false⟩,
            ⟨(some 24), .move (.tmp 41), none, [], false, false⟩])))))))
   (.seq (.seq (.region false [⟨(some 8), .move (.const (.int .i64 0)), none, [], false, false⟩])
     (.block 2 (.loop (some [0, 3, 5, 8]) (
       .seq (.seq (.region false [⟨(some 42), .move (.tmp 8), none, [], false, false⟩,
            ⟨(some 43), .bin .lss (.tmp 42) (.const (.int .i64 3)), none, [], false, false⟩])
         (.cond (.tmp 43) (.skip)
          (.exit 2)))
        (.seq (.block 3 (.seq (.region false [⟨(some 46), .move (.tmp 8), none, [], false, false⟩,
              ⟨(some 47), .fieldAddr 6 (.tmp 3), none, [], false, false⟩,
              ⟨(some 48), .indexAddr (some 3) 1 (.tmp 47) (.tmp 46), none, [], false, false⟩,
              ⟨(some 49), .load false 1 (.tmp 48), none, [], false, false⟩,
              ⟨(some 50), .move (.tmp 0), none, [], false, false⟩,
              ⟨(some 51), .len false (.tmp 50), none, [], false, false⟩,
              ⟨(some 52), .bin .sub (.tmp 51) (.const (.int .i64 1)), none, [], false, false⟩,
              ⟨(some 53), .call 22 [(.tmp 49), (.const (.int .i64 0)), (.tmp 52)], none, [], false, false⟩,
              ⟨(some 54), .un .not (.tmp 53), none, [], false, false⟩])
           (.cond (.tmp 54) (.seq (.region false [⟨(some 4), .move (.const (.int .i64 6)), none, [], false, false⟩])
             (.ret))
            (.skip))))
         (.region false [⟨(some 44), .move (.tmp 8), none, [], false, false⟩,
            ⟨(some 45), .bin .add (.tmp 44) (.const (.int .i64 1)), none, [], false, false⟩,
            ⟨(some 8), .move (.tmp 45), none, [], false, false⟩]))))))
    (.seq (.seq (.region false [⟨(some 55), .fieldAddr 6 (.tmp 3), none, [], false, false⟩,
         ⟨(some 56), .indexAddr (some 3) 1 (.tmp 55) (.const (.int .i64 0)), none, [], false, false⟩,
         ⟨(some 57), .load false 1 (.tmp 56), none, [], false, false⟩,
         ⟨(some 58), .fieldAddr 6 (.tmp 3), none, [], false, false⟩,
         ⟨(some 59), .indexAddr (some 3) 1 (.tmp 58) (.const (.int .i64 1)), none, [], false, false⟩,
         ⟨(some 60), .load false 1 (.tmp 59), none, [], false, false⟩,
         ⟨(some 61), .bin .geq (.tmp 57) (.tmp 60), none, [], false, false⟩,
         ⟨(some 62), .move (.tmp 61), none, [], false, false⟩,
         ⟨(some 63), .fieldAddr 6 (.tmp 3), (some (62, false)), [], false, false⟩,
         ⟨(some 64), .indexAddr (some 3) 1 (.tmp 63) (.const (.int .i64 1)), (some (62, false)), [], false, false⟩,
         ⟨(some 65), .load false 1 (.tmp 64), (some (62, false)), [], false, false⟩,
         ⟨(some 66), .fieldAddr 6 (.tmp 3), (some (62, false)), [], false, false⟩,
         ⟨(some 67), .indexAddr (some 3) 1 (.tmp 66) (.const (.int .i64 2)), (some (62, false)), [], false, false⟩,
         ⟨(some 68), .load false 1 (.tmp 67), (some (62, false)), [], false, false⟩,
         ⟨(some 69), .bin .geq (.tmp 65) (.tmp 68), (some (62, false)), [], false, false⟩,
         ⟨(some 70), .pick (.tmp 62) (.const (.bool true)) (.tmp 69), none, [], false, false⟩])
      (.cond (.tmp 70) (.seq (.region false [⟨(some 4), .move (.const (.int .i64 9)), none, [], false, false⟩])
        (.ret))
       (.skip)))
     (.seq (.region true [⟨(some 71), .fieldAddr 0 (.tmp 3), none, [], false, false⟩,
         ⟨(some 72), .fieldAddr 0 (.tmp 71), none, [], false, false⟩,
         ⟨(some 73), .load false 1 (.tmp 72), none, [], false, false⟩,
         ⟨(some 74), .move (.tmp 5), none, [], false, false⟩,
         ⟨(some 75), .fieldAddr 0 (.tmp 3), none, [], false, false⟩,
         ⟨(some 76), .fieldAddr 1 (.tmp 75), none, [], false, false⟩,
         ⟨(some 77), .load false 1 (.tmp 76), none, [], false, false⟩,
         ⟨(some 78), .bin .quo (.tmp 74) (.tmp 77), none, [], false, false⟩,
         ⟨(some 79), .bin .mul (.tmp 73) (.tmp 78), none, [], false, false⟩,
         ⟨(some 80), .fieldAddr 2 (.tmp 3), none, [], false, false⟩,
         ⟨(some 81), .fieldAddr 0 (.tmp 80), none, [], false, false⟩,
         ⟨(some 82), .load false 1 (.tmp 81), none, [], false, false⟩,
         ⟨(some 83), .move (.tmp 5), none, [], false, false⟩,
         ⟨(some 84), .fieldAddr 2 (.tmp 3), none, [], false, false⟩,
         ⟨(some 85), .fieldAddr 1 (.tmp 84), none, [], false, false⟩,
         ⟨(some 86), .load false 1 (.tmp 85), none, [], false, false⟩,
         ⟨(some 87), .bin .quo (.tmp 83) (.tmp 86), none, [], false, false⟩,
         ⟨(some 88), .bin .mul (.tmp 82) (.tmp 87), none, [], false, false⟩,
         ⟨(some 89), .fieldAddr 4 (.tmp 3), none, [], false, false⟩,
         ⟨(some 90), .fieldAddr 0 (.tmp 89), none, [], false, false⟩,
         ⟨(some 91), .load false 1 (.tmp 90), none, [], false, false⟩,
         ⟨(some 92), .move (.tmp 5), none, [], false, false⟩,
         ⟨(some 93), .fieldAddr 4 (.tmp 3), none, [], false, false⟩,
         ⟨(some 94), .fieldAddr 1 (.tmp 93), none, [], false, false⟩,
         ⟨(some 95), .load false 1 (.tmp 94), none, [], false, false⟩,
         ⟨(some 96), .bin .quo (.tmp 92) (.tmp 95), none, [], false, false⟩,
         ⟨(some 97), .bin .mul (.tmp 91) (.tmp 96), none, [], false, false⟩,
         ⟨(some 9), .move (.tmp 79), none, [], false, false⟩,
         ⟨(some 10), .move (.tmp 88), none, [], false, false⟩,
         ⟨(some 11), .move (.tmp 97), none, [], false, false⟩])
      (.seq (.region false [⟨(some 12), .move (.const (.slice none 0 0)), none, [], false, false⟩])
       (.seq (.seq (.region false [⟨(some 13), .move (.const (.int .i64 0)), none, [], false, false⟩])
         (.block 4 (.loop (some [0, 3, 5, 9, 10, 11, 12, 13]) (
           .seq (.seq (.region false [⟨(some 98), .move (.tmp 13), none, [], false, false⟩,
                ⟨(some 99), .move (.tmp 0), none, [], false, false⟩,
                ⟨(some 100), .len false (.tmp 99), none, [], false, false⟩,
                ⟨(some 101), .bin .lss (.tmp 98) (.tmp 100), none, [], false, false⟩])
             (.cond (.tmp 101) (.skip)
              (.exit 4)))
            (.seq (.block 5 (.seq (.region true [⟨(some 104), .move (.tmp 12), none, [], false, false⟩,
                  ⟨(some 105), .move (.tmp 0), none, [], false, false⟩,
                  ⟨(some 106), .move (.tmp 13), none, [], false, false⟩,
                  ⟨(some 107), .indexAddr none 2 (.tmp 105) (.tmp 106), none, [], false, false⟩,
                  ⟨(some 108), .fieldAddr 1 (.tmp 107), none, [], false, false⟩,
                  ⟨(some 109), .load false 1 (.tmp 108), none, [], false, false⟩,
                  ⟨(some 110), .move (.tmp 5), none, [], false, false⟩,
                  ⟨(some 111), .bin .mul (.tmp 109) (.tmp 110), none, [], false, false⟩,
                  ⟨(some 112), .move (.tmp 9), none, [], false, false⟩,
                  ⟨(some 113), .bin .sub (.tmp 111) (.tmp 112), none, [], false, false⟩,
                  ⟨(some 114), .move (.tmp 10), none, [], false, false⟩,
                  ⟨(some 115), .move (.tmp 0), none, [], false, false⟩,
                  ⟨(some 116), .move (.tmp 13), none, [], false, false⟩,
                  ⟨(some 117), .indexAddr none 2 (.tmp 115) (.tmp 116), none, [], false, false⟩,
                  ⟨(some 118), .fieldAddr 0 (.tmp 117), none, [], false, false⟩,
                  ⟨(some 119), .load false 1 (.tmp 118), none, [], false, false⟩,
                  ⟨(some 120), .bin .mul (.tmp 114) (.tmp 119), none, [], false, false⟩,
                  ⟨(some 121), .bin .sub (.tmp 113) (.tmp 120), none, [], false, false⟩,
                  ⟨(some 122), .buildSlice 1 1 [(.int .i64 0)] [(0, 1, (.tmp 121))], none, [], false, false⟩,
                  ⟨(some 123), .append 1 8 (.tmp 104) (.tmp 122), none, [], false, false⟩,
                  ⟨(some 12), .move (.tmp 123), none, [], false, false⟩])
               (.seq (.region false [⟨(some 124), .move (.tmp 12), none, [], false, false⟩,
                   ⟨(some 125), .move (.tmp 13), none, [], false, false⟩,
                   ⟨(some 126), .indexAddr none 1 (.tmp 124) (.tmp 125), none, [], false, false⟩,
                   ⟨(some 127), .load false 1 (.tmp 126), none, [], false, false⟩,
                   ⟨(some 128), .call 26 [(.tmp 127)], none, [], false, false⟩,
                   ⟨(some 129), .move (.tmp 11), none, [], false, false⟩,
                   ⟨(some 130), .bin .gtr (.tmp 128) (.tmp 129), none, [], false, false⟩])
                (.cond (.tmp 130) (.seq (.region false [⟨(some 4), .move (.const (.int .i64 26)), none, [], false, false⟩])
                  (.ret))
                 (.skip)))))
             (.region false [⟨(some 102), .move (.tmp 13), none, [], false, false⟩,
                ⟨(some 103), .bin .add (.tmp 102) (.const (.int .i64 1)), none, [], false, false⟩,
                ⟨(some 13), .move (.tmp 103), none, [], false, false⟩]))))))
        (.seq (.region true [⟨(some 131), .move (.tmp 12), none, [], false, false⟩,
            ⟨(some 132), .fieldAddr 6 (.tmp 3), none, [], false, false⟩,
            ⟨(some 133), .indexAddr (some 3) 1 (.tmp 132) (.const (.int .i64 0)), none, [], false, false⟩,
            ⟨(some 134), .load false 1 (.tmp 133), none, [], false, false⟩,
            ⟨(some 135), .indexAddr none 1 (.tmp 131) (.tmp 134), none, [], false, false⟩,
            ⟨(some 136), .load false 1 (.tmp 135), none, [], false, false⟩,
            ⟨(some 137), .move (.tmp 12), none, [], false, false⟩,
            ⟨(some 138), .fieldAddr 6 (.tmp 3), none, [], false, false⟩,
            ⟨(some 139), .indexAddr (some 3) 1 (.tmp 138) (.const (.int .i64 1)), none, [], false, false⟩,
            ⟨(some 140), .load false 1 (.tmp 139), none, [], false, false⟩,
            ⟨(some 141), .indexAddr none 1 (.tmp 137) (.tmp 140), none, [], false, false⟩,
            ⟨(some 142), .load false 1 (.tmp 141), none, [], false, false⟩,
            ⟨(some 143), .move (.tmp 12), none, [], false, false⟩,
            ⟨(some 144), .fieldAddr 6 (.tmp 3), none, [], false, false⟩,
            ⟨(some 145), .indexAddr (some 3) 1 (.tmp 144) (.const (.int .i64 2)), none, [], false, false⟩,
            ⟨(some 146), .load false 1 (.tmp 145), none, [], false, false⟩,
            ⟨(some 147), .indexAddr none 1 (.tmp 143) (.tmp 146), none, [], false, false⟩,
            ⟨(some 148), .load false 1 (.tmp 147), none, [], false, false⟩,
            ⟨(some 14), .move (.tmp 136), none, [], false, false⟩,
            ⟨(some 15), .move (.tmp 142), none, [], false, false⟩,
            ⟨(some 16), .move (.tmp 148), none, [], false, false⟩])
         (.seq (.seq (.region false [⟨(some 149), .move (.tmp 14), none, [], false, false⟩,
              ⟨(some 150), .call 26 [(.tmp 149)], none, [], false, false⟩,
              ⟨(some 151), .move (.tmp 11), none, [], false, false⟩,
              ⟨(some 152), .bin .neq (.tmp 150) (.tmp 151), none, [], false, false⟩,
              ⟨(some 153), .move (.tmp 152), none, [], false, false⟩,
              ⟨(some 154), .move (.tmp 14), (some (153, false)), [], false, false⟩,
              ⟨(some 155), .move (.tmp 15), (some (153, false)), [], false, false⟩,
              ⟨(some 156), .un .neg (.tmp 155), (some (153, false)), [], false, false⟩,
              ⟨(some 157), .bin .neq (.tmp 154) (.tmp 156), (some (153, false)), [], false, false⟩,
              ⟨(some 158), .pick (.tmp 153) (.const (.bool true)) (.tmp 157), none, [], false, false⟩,
              ⟨(some 159), .move (.tmp 158), none, [], false, false⟩,
              ⟨(some 160), .move (.tmp 15), (some (159, false)), [], false, false⟩,
              ⟨(some 161), .move (.tmp 16), (some (159, false)), [], false, false⟩,
              ⟨(some 162), .un .neg (.tmp 161), (some (159, false)), [], false, false⟩,
              ⟨(some 163), .bin .neq (.tmp 160) (.tmp 162), (some (159, false)), [], false, false⟩,
              ⟨(some 164), .pick (.tmp 159) (.const (.bool true)) (.tmp 163), none, [], false, false⟩])
           (.cond (.tmp 164) (.seq (.region false [⟨(some 4), .move (.const (.int .i64 22)), none, [], false, false⟩])
             (.ret))
            (.skip)))
          (.seq (.region false [⟨(some 4), .move (.const (.int .i64 0)), none, [], false, false⟩])
           (.ret))))))))))),
 [.tmp 4], .pure, 165⟩

/-- agraffe/number.CheckLine -/
def ef58 : EFun := ⟨
 .seq (.region false [⟨(some 3), .box (.tmp 1), none, [], false, false⟩,
    ⟨(some 4), .move (.const (.int .i64 0)), none, [], false, false⟩])
 (.seq (.seq (.region false [⟨(some 22), .move (.tmp 0), none, [], false, false⟩,
      ⟨(some 23), .call 91 [(.tmp 22)], none, [], false, false⟩,
      ⟨(some 5), .move (.tmp 23), none, [], false, false⟩])
   (.seq (.region false [⟨(some 24), .move (.tmp 5), none, [], false, false⟩,
       ⟨(some 25), .bin .neq (.tmp 24) (.const (.int .i64 0)), none, [], false, false⟩])
    (.cond (.tmp 25) (.seq (.region false [⟨(some 26), .move (.tmp 5), none, [], false, false⟩,
         ⟨(some 4), .move (.tmp 26), none, [], false, false⟩])
      (.ret))
     (.skip))))
  (.seq (.seq (.region false [⟨(some 27), .fieldAddr 0 (.tmp 3), none, [], false, false⟩,
       ⟨(some 28), .load true 2 (.tmp 27), none, [], false, false⟩,
       ⟨(some 29), .fieldAddr 2 (.tmp 3), none, [], false, false⟩,
       ⟨(some 30), .load true 2 (.tmp 29), none, [], false, false⟩,
       ⟨(some 31), .fieldAddr 4 (.tmp 3), none, [], false, false⟩,
       ⟨(some 32), .load true 2 (.tmp 31), none, [], false, false⟩,
       ⟨(some 33), .build [(.int .i64 0), (.int .i64 0), (.int .i64 0), (.int .i64 0), (.int .i64 0), (.int .i64 0)] [(0, 2, (.tmp 28)), (2, 2, (.tmp 30)), (4, 2, (.tmp 32))], none, [], false, false⟩,
       ⟨(some 34), .move (.const (.int .i64 0)), none, [], false, false⟩])
    (.block 0 (.loop (some [0, 3, 33, 34]) (
      .seq (.region false [⟨(some 35), .bin .lss (.tmp 34) (.const (.int .i64 3)), none, [], false, false⟩])
       (.seq (.cond (.tmp 35) (.skip)
         (.exit 0))
        (.seq (.block 1 (.seq (.region false [⟨(some 36), .index 3 2 true (.tmp 33) (.tmp 34), none, [], false, false⟩,
              ⟨(some 7), .push [(.int .i64 0), (.int .i64 0)], none, [], false, false⟩,
              ⟨none, .store 2 (.tmp 7) (.tmp 36), none, [], false, false⟩])
           (.seq (.region false [⟨(some 37), .load true 2 (.tmp 7), none, [], false, false⟩,
               ⟨(some 38), .call 64 [(.tmp 37)], none, [], false, false⟩,
               ⟨(some 8), .move (.tmp 38), none, [], false, false⟩])
            (.seq (.region false [⟨(some 39), .move (.tmp 8), none, [], false, false⟩,
                ⟨(some 40), .bin .neq (.tmp 39) (.const (.int .i64 0)), none, [], false, false⟩])
             (.cond (.tmp 40) (.seq (.region false [⟨(some 41), .move (.tmp 8), none, [], false, false⟩,
                  ⟨(some 4), .move (.tmp 41), none, [], false, false⟩])
               (.ret))
              (.skip))))))
         (.region false [⟨(some 42), .bin .add (.tmp 34) (.const (.int .i64 1)), none, [], false, false⟩,
            ⟨(some 34), .move (.tmp 42), none, [], false, false⟩])))))))
   (.seq (.region false [⟨(some 44), .fieldAddr 0 (.tmp 3), none, [], false, false⟩,
       ⟨(some 45), .load true 2 (.tmp 44), none, [], false, false⟩,
       ⟨(some 46), .fieldAddr 2 (.tmp 3), none, [], false, false⟩,
       ⟨(some 47), .load true 2 (.tmp 46), none, [], false, false⟩,
       ⟨(some 48), .fieldAddr 4 (.tmp 3), none, [], false, false⟩,
       ⟨(some 49), .load true 2 (.tmp 48), none, [], false, false⟩,
       ⟨(some 50), .buildSlice 2 3 [(.int .i64 0), (.int .i64 0), (.int .i64 0), (.int .i64 0), (.int .i64 0), (.int .i64 0)] [(0, 2, (.tmp 45)), (2, 2, (.tmp 47)), (4, 2, (.tmp 49))], none, [], false, false⟩,
       ⟨(some 51), .call 115 [(.tmp 50)], none, [], false, false⟩,
       ⟨(some 43), .move (.tmp 51), none, [], false, false⟩,
       ⟨(some 52), .extract (.tmp 43) 0, none, [], false, false⟩,
       ⟨(some 53), .extract (.tmp 43) 1, none, [], false, false⟩,
       ⟨(some 9), .push [(.int .i64 0)], none, [], false, false⟩,
       ⟨none, .store 1 (.tmp 9) (.tmp 52), none, [], false, false⟩,
       ⟨(some 10), .move (.tmp 53), none, [], false, false⟩])
    (.seq (.seq (.region false [⟨(some 54), .move (.tmp 10), none, [], false, false⟩,
         ⟨(some 55), .bin .neq (.tmp 54) (.const (.int .i64 0)), none, [], false, false⟩])
      (.cond (.tmp 55) (.seq (.region false [⟨(some 56), .move (.tmp 10), none, [], false, false⟩,
           ⟨(some 4), .move (.tmp 56), none, [], false, false⟩])
        (.ret))
       (.skip)))
     (.seq (.seq (.region false [⟨(some 57), .fieldAddr 6 (.tmp 3), none, [], false, false⟩,
          ⟨(some 58), .load true 3 (.tmp 57), none, [], false, false⟩,
          ⟨(some 59), .move (.const (.int .i64 0)), none, [], false, false⟩])
       (.block 2 (.loop (some [0, 3, 9, 58, 59]) (
         .seq (.region false [⟨(some 60), .bin .lss (.tmp 59) (.const (.int .i64 3)), none, [], false, false⟩])
          (.seq (.cond (.tmp 60) (.skip)
            (.exit 2))
           (.seq (.block 3 (.seq (.region false [⟨(some 61), .index 3 1 false (.tmp 58) (.tmp 59), none, [], false, false⟩,
                 ⟨(some 12), .move (.tmp 61), none, [], false, false⟩])
              (.seq (.region false [⟨(some 62), .move (.tmp 12), none, [], false, false⟩,
                  ⟨(some 63), .move (.tmp 0), none, [], false, false⟩,
                  ⟨(some 64), .len false (.tmp 63), none, [], false, false⟩,
                  ⟨(some 65), .bin .sub (.tmp 64) (.const (.int .i64 1)), none, [], false, false⟩,
                  ⟨(some 66), .call 77 [(.tmp 62), (.const (.int .i64 0)), (.tmp 65)], none, [], false, false⟩,
                  ⟨(some 67), .un .not (.tmp 66), none, [], false, false⟩])
               (.cond (.tmp 67) (.seq (.region false [⟨(some 4), .move (.const (.int .i64 6)), none, [], false, false⟩])
                 (.ret))
                (.skip)))))
            (.region false [⟨(some 68), .bin .add (.tmp 59) (.const (.int .i64 1)), none, [], false, false⟩,
               ⟨(some 59), .move (.tmp 68), none, [], false, false⟩])))))))
      (.seq (.seq (.region false [⟨(some 69), .fieldAddr 6 (.tmp 3), none, [], false, false⟩,
           ⟨(some 70), .indexAddr (some 3) 1 (.tmp 69) (.const (.int .i64 0)), none, [], false, false⟩,
           ⟨(some 71), .load false 1 (.tmp 70), none, [], false, false⟩,
           ⟨(some 72), .fieldAddr 6 (.tmp 3), none, [], false, false⟩,
           ⟨(some 73), .indexAddr (some 3) 1 (.tmp 72) (.const (.int .i64 1)), none, [], false, false⟩,
           ⟨(some 74), .load false 1 (.tmp 73), none, [], false, false⟩,
           ⟨(some 75), .bin .geq (.tmp 71) (.tmp 74), none, [], false, false⟩,
           ⟨(some 76), .move (.tmp 75), none, [], false, false⟩,
           ⟨(some 77), .fieldAddr 6 (.tmp 3), (some (76, false)), [], false, false⟩,
           ⟨(some 78), .indexAddr (some 3) 1 (.tmp 77) (.const (.int .i64 1)), (some (76, false)), [], false, false⟩,
           ⟨(some 79), .load false 1 (.tmp 78), (some (76, false)), [], false, false⟩,
           ⟨(some 80), .fieldAddr 6 (.tmp 3), (some (76, false)), [], false, false⟩,
           ⟨(some 81), .indexAddr (some 3) 1 (.tmp 80) (.const (.int .i64 2)), (some (76, false)), [], false, false⟩,
           ⟨(some 82), .load false 1 (.tmp 81), (some (76, false)), [], false, false⟩,
           ⟨(some 83), .bin .geq (.tmp 79) (.tmp 82), (some (76, false)), [], false, false⟩,
           ⟨(some 84), .pick (.tmp 76) (.const (.bool true)) (.tmp 83), none, [], false, false⟩])
        (.cond (.tmp 84) (.seq (.region false [⟨(some 4), .move (.const (.int .i64 9)), none, [], false, false⟩])
          (.ret))
         (.skip)))
       (.seq (.region false [⟨(some 85), .makeFunc (.func 116) [(.tmp 9)], none, [], false, false⟩,
           ⟨(some 13), .push [.nilFunc], none, [], false, false⟩,
           ⟨none, .store 1 (.tmp 13) (.tmp 85), none, [], false, false⟩])
        (.seq (.region false [⟨(some 86), .makeFunc (.func 117) [(.tmp 9), (.tmp 13), (.tmp 3)], none, [], false, false⟩,
            ⟨(some 14), .move (.tmp 86), none, [], false, false⟩])
         (.seq (.region false [⟨(some 87), .load false 1 (.tmp 13), none, [], false, false⟩,
             ⟨(some 88), .fieldAddr 4 (.tmp 3), none, [], false, false⟩,
             ⟨(some 89), .load true 2 (.tmp 88), none, [], false, false⟩,
             ⟨(some 90), .callVal (.tmp 87) [(.tmp 89)], none, [], false, false⟩,
             ⟨(some 15), .move (.tmp 90), none, [], false, false⟩])
          (.seq (.seq (.region false [⟨(some 91), .move (.tmp 0), none, [], false, false⟩,
               ⟨(some 92), .len false (.tmp 91), none, [], false, false⟩,
               ⟨(some 93), .move (.const (.int .i64 0)), none, [], false, false⟩])
            (.block 4 (.loop (some [0, 3, 14, 15, 91, 92, 93]) (
              .seq (.region false [⟨(some 94), .bin .lss (.tmp 93) (.tmp 92), none, [], false, false⟩])
               (.seq (.cond (.tmp 94) (.skip)
                 (.exit 4))
                (.seq (.block 5 (.seq (.region false [⟨(some 95), .indexAddr none 2 (.tmp 91) (.tmp 93), none, [], false, false⟩,
                      ⟨(some 96), .load true 2 (.tmp 95), none, [], false, false⟩,
                      ⟨(some 17), .push [(.int .i64 0), (.int .i64 0)], none, [], false, false⟩,
                      ⟨none, .store 2 (.tmp 17) (.tmp 96), none, [], false, false⟩])
                   (.seq (.region false [⟨(some 97), .move (.tmp 14), none, [], false, false⟩,
                       ⟨(some 98), .load true 2 (.tmp 17), none, [], false, false⟩,
                       ⟨(some 99), .callVal (.tmp 97) [(.tmp 98)], none, [], false, false⟩,
                       ⟨(some 18), .move (.tmp 99), none, [], false, false⟩])
                    (.seq (.region false [⟨(some 100), .move (.tmp 18), none, [], false, false⟩,
                        ⟨(some 101), .move (.tmp 18), none, [], false, false⟩,
                        ⟨(some 102), .un .neg (.tmp 101), none, [], false, false⟩,
                        ⟨(some 103), .max [(.tmp 100), (.tmp 102)], none, [], false, false⟩,
                        ⟨(some 104), .move (.tmp 15), none, [], false, false⟩,
                        ⟨(some 105), .bin .gtr (.tmp 103) (.tmp 104), none, [], false, false⟩])
                     (.cond (.tmp 105) (.seq (.region false [⟨(some 4), .move (.const (.int .i64 26)), none, [], false, false⟩])
                       (.ret))
                      (.skip))))))
                 (.region false [⟨(some 106), .bin .add (.tmp 93) (.const (.int .i64 1)), none, [], false, false⟩,
                    ⟨(some 93), .move (.tmp 106), none, [], false, false⟩])))))))
           (.seq (.region true [⟨(some 107), .move (.tmp 14), none, [], false, false⟩,
               ⟨(some 108), .move (.tmp 0), none, [], false, false⟩,
               ⟨(some 109), .fieldAddr 6 (.tmp 3), none, [], false, false⟩,
               ⟨(some 110), .indexAddr (some 3) 1 (.tmp 109) (.const (.int .i64 0)), none, [], false, false⟩,
               ⟨(some 111), .load false 1 (.tmp 110), none, [], false, false⟩,
               ⟨(some 112), .indexAddr none 2 (.tmp 108) (.tmp 111), none, [], false, false⟩,
               ⟨(some 113), .load true 2 (.tmp 112), none, [], false, false⟩,
               ⟨(some 114), .callVal (.tmp 107) [(.tmp 113)], none, [], false, true⟩,
               ⟨(some 115), .move (.tmp 14), none, [], false, false⟩,
               ⟨(some 116), .move (.tmp 0), none, [], false, false⟩,
               ⟨(some 117), .fieldAddr 6 (.tmp 3), none, [], false, false⟩,
               ⟨(some 118), .indexAddr (some 3) 1 (.tmp 117) (.const (.int .i64 1)), none, [], false, false⟩,
               ⟨(some 119), .load false 1 (.tmp 118), none, [], false, false⟩,
               ⟨(some 120), .indexAddr none 2 (.tmp 116) (.tmp 119), none, [], false, false⟩,
               ⟨(some 121), .load true 2 (.tmp 120), none, [], false, false⟩,
               ⟨(some 122), .callVal (.tmp 115) [(.tmp 121)], none, [], false, true⟩,
               ⟨(some 123), .move (.tmp 14), none, [], false, false⟩,
               ⟨(some 124), .move (.tmp 0), none, [], false, false⟩,
               ⟨(some 125), .fieldAddr 6 (.tmp 3), none, [], false, false⟩,
               ⟨(some 126), .indexAddr (some 3) 1 (.tmp 125) (.const (.int .i64 2)), none, [], false, false⟩,
               ⟨(some 127), .load false 1 (.tmp 126), none, [], false, false⟩,
               ⟨(some 128), .indexAddr none 2 (.tmp 124) (.tmp 127), none, [], false, false⟩,
               ⟨(some 129), .load true 2 (.tmp 128), none, [], false, false⟩,
               ⟨(some 130), .callVal (.tmp 123) [(.tmp 129)], none, [], false, false⟩,
               ⟨(some 19), .move (.tmp 114), none, [], false, false⟩,
               ⟨(some 20), .move (.tmp 122), none, [], false, false⟩,
               ⟨(some 21), .move (.tmp 130), none, [], false, false⟩])
            (.seq (.seq (.region false [⟨(some 131), .move (.tmp 19), none, [], false, false⟩,
                 ⟨(some 132), .move (.tmp 19), none, [], false, false⟩,
                 ⟨(some 133), .un .neg (.tmp 132), none, [], false, false⟩,
                 ⟨(some 134), .max [(.tmp 131), (.tmp 133)], none, [], false, false⟩,
                 ⟨(some 135), .move (.tmp 15), none, [], false, false⟩,
                 ⟨(some 136), .bin .neq (.tmp 134) (.tmp 135), none, [], false, false⟩,
                 ⟨(some 137), .move (.tmp 136), none, [], false, false⟩,
                 ⟨(some 138), .move (.tmp 20), (some (137, false)), [], false, false⟩,
                 ⟨(some 139), .move (.tmp 19), (some (137, false)), [], false, false⟩,
                 ⟨(some 140), .un .neg (.tmp 139), (some (137, false)), [], false, false⟩,
                 ⟨(some 141), .bin .neq (.tmp 138) (.tmp 140), (some (137, false)), [], false, false⟩,
                 ⟨(some 142), .pick (.tmp 137) (.const (.bool true)) (.tmp 141), none, [], false, false⟩,
                 ⟨(some 143), .move (.tmp 142), none, [], false, false⟩,
                 ⟨(some 144), .move (.tmp 21), (some (143, false)), [], false, false⟩,
                 ⟨(some 145), .move (.tmp 19), (some (143, false)), [], false, false⟩,
                 ⟨(some 146), .bin .neq (.tmp 144) (.tmp 145), (some (143, false)), [], false, false⟩,
                 ⟨(some 147), .pick (.tmp 143) (.const (.bool true)) (.tmp 146), none, [], false, false⟩])
              (.cond (.tmp 147) (.seq (.region false [⟨(some 4), .move (.const (.int .i64 22)), none, [], false, false⟩])
                (.ret))
               (.skip)))
             (.seq (.region false [⟨(some 4), .move (.const (.int .i64 0)), none, [], false, false⟩])
              (.ret)))))))))))))),
 [.tmp 4], .pure, 148⟩

/-- agraffe/agraffetop.counts -/
def ef59 : EFun := ⟨
 .seq (.region false [⟨(some 0), .move (.const (.bool false)), none, [], false, false⟩])
 (.seq (.region false [⟨(some 7), .call 76 [], none, [], false, false⟩,
     ⟨(some 8), .call 20 [(.tmp 7), (.const (.int .i64 1000))], none, [], false, false⟩,
     ⟨(some 6), .move (.tmp 8), none, [], false, false⟩,
     ⟨(some 9), .extract (.tmp 6) 0, none, [], false, false⟩,
     ⟨(some 10), .extract (.tmp 6) 1, none, [], false, false⟩,
     ⟨(some 1), .push [(.int .i64 0), (.int .i64 0)], none, [], false, false⟩,
     ⟨none, .store 2 (.tmp 1) (.tmp 9), none, [], false, false⟩,
     ⟨(some 2), .move (.tmp 10), none, [], false, false⟩])
  (.seq (.region false [⟨(some 12), .build [(.int .i64 0), (.int .i64 0), (.int .i64 0)] [(0, 1, (.const (.int .i64 0))), (1, 1, (.const (.int .i64 1))), (2, 1, (.const (.int .i64 (-2))))], none, [], false, false⟩,
      ⟨(some 13), .buildSlice 3 1 [(.int .i64 0), (.int .i64 0), (.int .i64 0)] [(0, 3, (.tmp 12))], none, [], false, false⟩,
      ⟨(some 14), .call 35 [(.const (.int .i64 2)), (.tmp 13)], none, [], false, false⟩,
      ⟨(some 11), .move (.tmp 14), none, [], false, false⟩,
      ⟨(some 15), .extract (.tmp 11) 0, none, [], false, false⟩,
      ⟨(some 16), .extract (.tmp 11) 1, none, [], false, false⟩,
      ⟨(some 17), .extract (.tmp 11) 2, none, [], false, false⟩,
      ⟨(some 3), .move (.tmp 15), none, [], false, false⟩,
      ⟨(some 4), .move (.tmp 16), none, [], false, false⟩,
      ⟨(some 5), .move (.tmp 17), none, [], false, false⟩])
   (.seq (.region false [⟨(some 18), .move (.tmp 2), none, [], false, false⟩,
       ⟨(some 19), .bin .eql (.tmp 18) (.const (.int .i64 0)), none, [], false, false⟩,
       ⟨(some 20), .move (.tmp 19), none, [], false, false⟩,
       ⟨(some 21), .load true 2 (.tmp 1), (some (20, true)), [], false, false⟩,
       ⟨(some 22), .build [(.int .i64 0), (.int .i64 0)] [(0, 1, (.const (.int .i64 1013))), (1, 1, (.const (.int .i64 1014)))], (some (20, true)), [], false, false⟩,
       ⟨(some 23), .eqAgg false [(.int .i64), (.int .i64)] (.tmp 21) (.tmp 22), (some (20, true)), [], false, false⟩,
       ⟨(some 24), .pick (.tmp 20) (.tmp 23) (.const (.bool false)), none, [], false, false⟩,
       ⟨(some 25), .move (.tmp 24), none, [], false, false⟩,
       ⟨(some 26), .move (.tmp 5), (some (25, true)), [], false, false⟩,
       ⟨(some 27), .bin .eql (.tmp 26) (.const (.int .i64 0)), (some (25, true)), [], false, false⟩,
       ⟨(some 28), .pick (.tmp 25) (.tmp 27) (.const (.bool false)), none, [], false, false⟩,
       ⟨(some 29), .move (.tmp 28), none, [], false, false⟩,
       ⟨(some 30), .move (.tmp 3), (some (29, true)), [], false, false⟩,
       ⟨(some 31), .buildSlice 1 2 [(.int .i64 0), (.int .i64 0)] [(0, 1, (.const (.int .i64 0))), (1, 1, (.const (.int .i64 (-2))))], (some (29, true)), [], false, false⟩,
       ⟨(some 32), .call 38 [(.tmp 30), (.tmp 31)], (some (29, true)), [], false, false⟩,
       ⟨(some 33), .pick (.tmp 29) (.tmp 32) (.const (.bool false)), none, [], false, false⟩,
       ⟨(some 0), .move (.tmp 33), none, [], false, false⟩])
    (.ret)))),
 [.tmp 0], .pure, 34⟩

/-- agraffe/number.Add -/
def ef60 : EFun := ⟨
 .seq (.region false [⟨(some 2), .box (.tmp 0), none, [], false, false⟩,
    ⟨(some 3), .box (.tmp 1), none, [], false, false⟩,
    ⟨(some 4), .push [(.int .i64 0), (.int .i64 0)], none, [], false, false⟩,
    ⟨(some 5), .move (.const (.int .i64 0)), none, [], false, false⟩])
 (.seq (.seq (.region false [⟨(some 7), .load true 2 (.tmp 2), none, [], false, false⟩,
      ⟨(some 8), .load true 2 (.tmp 3), none, [], false, false⟩,
      ⟨(some 9), .call 118 [(.tmp 7), (.tmp 8)], none, [], false, false⟩,
      ⟨(some 6), .move (.tmp 9), none, [], false, false⟩])
   (.seq (.region false [⟨(some 10), .move (.tmp 6), none, [], false, false⟩,
       ⟨(some 11), .bin .neq (.tmp 10) (.const (.int .i64 0)), none, [], false, false⟩])
    (.cond (.tmp 11) (.seq (.region false [⟨(some 12), .build [(.int .i64 0), (.int .i64 0)] [], none, [], false, false⟩,
         ⟨(some 13), .move (.tmp 6), none, [], false, false⟩,
         ⟨none, .store 2 (.tmp 4) (.tmp 12), none, [], false, false⟩,
         ⟨(some 5), .move (.tmp 13), none, [], false, false⟩])
      (.ret))
     (.skip))))
  (.seq (.region false [⟨(some 14), .fieldAddr 0 (.tmp 2), none, [], false, false⟩,
      ⟨(some 15), .load false 1 (.tmp 14), none, [], false, false⟩,
      ⟨(some 16), .fieldAddr 1 (.tmp 3), none, [], false, false⟩,
      ⟨(some 17), .load false 1 (.tmp 16), none, [], false, false⟩,
      ⟨(some 18), .bin .mul (.tmp 15) (.tmp 17), none, [], false, false⟩,
      ⟨(some 19), .fieldAddr 0 (.tmp 3), none, [], false, false⟩,
      ⟨(some 20), .load false 1 (.tmp 19), none, [], false, false⟩,
      ⟨(some 21), .fieldAddr 1 (.tmp 2), none, [], false, false⟩,
      ⟨(some 22), .load false 1 (.tmp 21), none, [], false, false⟩,
      ⟨(some 23), .bin .mul (.tmp 20) (.tmp 22), none, [], false, false⟩,
      ⟨(some 24), .bin .add (.tmp 18) (.tmp 23), none, [], false, false⟩,
      ⟨(some 25), .fieldAddr 1 (.tmp 2), none, [], false, false⟩,
      ⟨(some 26), .load false 1 (.tmp 25), none, [], false, false⟩,
      ⟨(some 27), .fieldAddr 1 (.tmp 3), none, [], false, false⟩,
      ⟨(some 28), .load false 1 (.tmp 27), none, [], false, false⟩,
      ⟨(some 29), .bin .mul (.tmp 26) (.tmp 28), none, [], false, false⟩,
      ⟨(some 30), .call 119 [(.tmp 24), (.tmp 29)], none, [], false, false⟩,
      ⟨(some 31), .extract (.tmp 30) 0, none, [], false, false⟩,
      ⟨(some 32), .extract (.tmp 30) 1, none, [], false, false⟩,
      ⟨none, .store 2 (.tmp 4) (.tmp 31), none, [], false, false⟩,
      ⟨(some 5), .move (.tmp 32), none, [], false, false⟩])
   (.ret))),
 [.cell 4 true 2, .tmp 5], .pure, 33⟩

/-- agraffe/number.Times -/
def ef61 : EFun := ⟨
 .seq (.region false [⟨(some 2), .box (.tmp 0), none, [], false, false⟩,
    ⟨(some 3), .box (.tmp 1), none, [], false, false⟩,
    ⟨(some 4), .push [(.int .i64 0), (.int .i64 0)], none, [], false, false⟩,
    ⟨(some 5), .move (.const (.int .i64 0)), none, [], false, false⟩])
 (.seq (.seq (.region false [⟨(some 7), .load true 2 (.tmp 2), none, [], false, false⟩,
      ⟨(some 8), .load true 2 (.tmp 3), none, [], false, false⟩,
      ⟨(some 9), .call 118 [(.tmp 7), (.tmp 8)], none, [], false, false⟩,
      ⟨(some 6), .move (.tmp 9), none, [], false, false⟩])
   (.seq (.region false [⟨(some 10), .move (.tmp 6), none, [], false, false⟩,
       ⟨(some 11), .bin .neq (.tmp 10) (.const (.int .i64 0)), none, [], false, false⟩])
    (.cond (.tmp 11) (.seq (.region false [⟨(some 12), .build [(.int .i64 0), (.int .i64 0)] [], none, [], false, false⟩,
         ⟨(some 13), .move (.tmp 6), none, [], false, false⟩,
         ⟨none, .store 2 (.tmp 4) (.tmp 12), none, [], false, false⟩,
         ⟨(some 5), .move (.tmp 13), none, [], false, false⟩])
      (.ret))
     (.skip))))
  (.seq (.region false [⟨(some 14), .fieldAddr 0 (.tmp 2), none, [], false, false⟩,
      ⟨(some 15), .load false 1 (.tmp 14), none, [], false, false⟩,
      ⟨(some 16), .fieldAddr 0 (.tmp 3), none, [], false, false⟩,
      ⟨(some 17), .load false 1 (.tmp 16), none, [], false, false⟩,
      ⟨(some 18), .bin .mul (.tmp 15) (.tmp 17), none, [], false, false⟩,
      ⟨(some 19), .fieldAddr 1 (.tmp 2), none, [], false, false⟩,
      ⟨(some 20), .load false 1 (.tmp 19), none, [], false, false⟩,
      ⟨(some 21), .fieldAddr 1 (.tmp 3), none, [], false, false⟩,
      ⟨(some 22), .load false 1 (.tmp 21), none, [], false, false⟩,
      ⟨(some 23), .bin .mul (.tmp 20) (.tmp 22), none, [], false, false⟩,
      ⟨(some 24), .call 119 [(.tmp 18), (.tmp 23)], none, [], false, false⟩,
      ⟨(some 25), .extract (.tmp 24) 0, none, [], false, false⟩,
      ⟨(some 26), .extract (.tmp 24) 1, none, [], false, false⟩,
      ⟨none, .store 2 (.tmp 4) (.tmp 25), none, [], false, false⟩,
      ⟨(some 5), .move (.tmp 26), none, [], false, false⟩])
   (.ret))),
 [.cell 4 true 2, .tmp 5], .pure, 27⟩

/-- agraffe/number.Divide -/
def ef62 : EFun := ⟨
 .seq (.region false [⟨(some 2), .box (.tmp 0), none, [], false, false⟩,
    ⟨(some 3), .box (.tmp 1), none, [], false, false⟩,
    ⟨(some 4), .push [(.int .i64 0), (.int .i64 0)], none, [], false, false⟩,
    ⟨(some 5), .move (.const (.int .i64 0)), none, [], false, false⟩])
 (.seq (.seq (.region false [⟨(some 7), .load true 2 (.tmp 2), none, [], false, false⟩,
      ⟨(some 8), .load true 2 (.tmp 3), none, [], false, false⟩,
      ⟨(some 9), .call 118 [(.tmp 7), (.tmp 8)], none, [], false, false⟩,
      ⟨(some 6), .move (.tmp 9), none, [], false, false⟩])
   (.seq (.region false [⟨(some 10), .move (.tmp 6), none, [], false, false⟩,
       ⟨(some 11), .bin .neq (.tmp 10) (.const (.int .i64 0)), none, [], false, false⟩])
    (.cond (.tmp 11) (.seq (.region false [⟨(some 12), .build [(.int .i64 0), (.int .i64 0)] [], none, [], false, false⟩,
         ⟨(some 13), .move (.tmp 6), none, [], false, false⟩,
         ⟨none, .store 2 (.tmp 4) (.tmp 12), none, [], false, false⟩,
         ⟨(some 5), .move (.tmp 13), none, [], false, false⟩])
      (.ret))
     (.skip))))
  (.seq (.seq (.region false [⟨(some 14), .fieldAddr 0 (.tmp 3), none, [], false, false⟩,
       ⟨(some 15), .load false 1 (.tmp 14), none, [], false, false⟩,
       ⟨(some 16), .bin .eql (.tmp 15) (.const (.int .i64 0)), none, [], false, false⟩])
    (.cond (.tmp 16) (.seq (.region false [⟨(some 17), .build [(.int .i64 0), (.int .i64 0)] [], none, [], false, false⟩,
         ⟨none, .store 2 (.tmp 4) (.tmp 17), none, [], false, false⟩,
         ⟨(some 5), .move (.const (.int .i64 11)), none, [], false, false⟩])
      (.ret))
     (.skip)))
   (.seq (.region false [⟨(some 18), .fieldAddr 0 (.tmp 2), none, [], false, false⟩,
       ⟨(some 19), .load false 1 (.tmp 18), none, [], false, false⟩,
       ⟨(some 20), .fieldAddr 1 (.tmp 3), none, [], false, false⟩,
       ⟨(some 21), .load false 1 (.tmp 20), none, [], false, false⟩,
       ⟨(some 22), .bin .mul (.tmp 19) (.tmp 21), none, [], false, false⟩,
       ⟨(some 23), .fieldAddr 1 (.tmp 2), none, [], false, false⟩,
       ⟨(some 24), .load false 1 (.tmp 23), none, [], false, false⟩,
       ⟨(some 25), .fieldAddr 0 (.tmp 3), none, [], false, false⟩,
       ⟨(some 26), .load false 1 (.tmp 25), none, [], false, false⟩,
       ⟨(some 27), .bin .mul (.tmp 24) (.tmp 26), none, [], false, false⟩,
       ⟨(some 28), .call 119 [(.tmp 22), (.tmp 27)], none, [], false, false⟩,
       ⟨(some 29), .extract (.tmp 28) 0, none, [], false, false⟩,
       ⟨(some 30), .extract (.tmp 28) 1, none, [], false, false⟩,
       ⟨none, .store 2 (.tmp 4) (.tmp 29), none, [], false, false⟩,
       ⟨(some 5), .move (.tmp 30), none, [], false, false⟩])
    (.ret)))),
 [.cell 4 true 2, .tmp 5], .pure, 31⟩

/-- agraffe/number.Compare -/
def ef63 : EFun := ⟨
 .seq (.region false [⟨(some 2), .box (.tmp 0), none, [], false, false⟩,
    ⟨(some 3), .box (.tmp 1), none, [], false, false⟩,
    ⟨(some 4), .move (.const (.int .i64 0)), none, [], false, false⟩,
    ⟨(some 5), .move (.const (.int .i64 0)), none, [], false, false⟩])
 (.seq (.seq (.region false [⟨(some 9), .load true 2 (.tmp 2), none, [], false, false⟩,
      ⟨(some 10), .load true 2 (.tmp 3), none, [], false, false⟩,
      ⟨(some 11), .call 118 [(.tmp 9), (.tmp 10)], none, [], false, false⟩,
      ⟨(some 6), .move (.tmp 11), none, [], false, false⟩])
   (.seq (.region false [⟨(some 12), .move (.tmp 6), none, [], false, false⟩,
       ⟨(some 13), .bin .neq (.tmp 12) (.const (.int .i64 0)), none, [], false, false⟩])
    (.cond (.tmp 13) (.seq (.region false [⟨(some 14), .move (.tmp 6), none, [], false, false⟩,
         ⟨(some 4), .move (.const (.int .i64 0)), none, [], false, false⟩,
         ⟨(some 5), .move (.tmp 14), none, [], false, false⟩])
      (.ret))
     (.skip))))
  (.seq (.region true [⟨(some 15), .fieldAddr 0 (.tmp 2), none, [], false, false⟩,
      ⟨(some 16), .load false 1 (.tmp 15), none, [], false, false⟩,
      ⟨(some 17), .fieldAddr 1 (.tmp 3), none, [], false, false⟩,
      ⟨(some 18), .load false 1 (.tmp 17), none, [], false, false⟩,
      ⟨(some 19), .bin .mul (.tmp 16) (.tmp 18), none, [], false, false⟩,
      ⟨(some 20), .fieldAddr 0 (.tmp 3), none, [], false, false⟩,
      ⟨(some 21), .load false 1 (.tmp 20), none, [], false, false⟩,
      ⟨(some 22), .fieldAddr 1 (.tmp 2), none, [], false, false⟩,
      ⟨(some 23), .load false 1 (.tmp 22), none, [], false, false⟩,
      ⟨(some 24), .bin .mul (.tmp 21) (.tmp 23), none, [], false, false⟩,
      ⟨(some 7), .move (.tmp 19), none, [], false, false⟩,
      ⟨(some 8), .move (.tmp 24), none, [], false, false⟩])
   (.seq (.block 0 (.seq (.region false [⟨(some 26), .move (.tmp 7), none, [], false, false⟩,
         ⟨(some 27), .move (.tmp 8), none, [], false, false⟩,
         ⟨(some 28), .bin .lss (.tmp 26) (.tmp 27), none, [], false, false⟩,
         ⟨(some 25), .move (.tmp 28), none, [], false, false⟩])
      (.cond (.tmp 25) (.seq (.region false [⟨(some 4), .move (.const (.int .i64 (-1))), none, [], false, false⟩,
           ⟨(some 5), .move (.const (.int .i64 0)), none, [], false, false⟩])
        (.ret))
       (.seq (.region false [⟨(some 30), .move (.tmp 7), none, [], false, false⟩,
           ⟨(some 31), .move (.tmp 8), none, [], false, false⟩,
           ⟨(some 32), .bin .gtr (.tmp 30) (.tmp 31), none, [], false, false⟩,
           ⟨(some 29), .move (.tmp 32), none, [], false, false⟩])
        (.cond (.tmp 29) (.seq (.region false [⟨(some 4), .move (.const (.int .i64 1)), none, [], false, false⟩,
             ⟨(some 5), .move (.const (.int .i64 0)), none, [], false, false⟩])
          (.ret))
         (.skip))))))
    (.seq (.region false [⟨(some 4), .move (.const (.int .i64 0)), none, [], false, false⟩,
        ⟨(some 5), .move (.const (.int .i64 0)), none, [], false, false⟩])
     (.ret))))),
 [.tmp 4, .tmp 5], .pure, 33⟩

/-- agraffe/number.CheckFrac -/
def ef64 : EFun := ⟨
 .seq (.region false [⟨(some 1), .box (.tmp 0), none, [], false, false⟩,
    ⟨(some 2), .move (.const (.int .i64 0)), none, [], false, false⟩])
 (.seq (.block 0 (.seq (.region false [⟨(some 4), .fieldAddr 1 (.tmp 1), none, [], false, false⟩,
       ⟨(some 5), .load false 1 (.tmp 4), none, [], false, false⟩,
       ⟨(some 6), .bin .lss (.tmp 5) (.const (.int .i64 1)), none, [], false, false⟩,
       ⟨(some 7), .move (.tmp 6), none, [], false, false⟩,
       ⟨(some 8), .fieldAddr 0 (.tmp 1), (some (7, false)), [], false, false⟩,
       ⟨(some 9), .load false 1 (.tmp 8), (some (7, false)), [], false, false⟩,
       ⟨(some 10), .fieldAddr 1 (.tmp 1), (some (7, false)), [], false, false⟩,
       ⟨(some 11), .load false 1 (.tmp 10), (some (7, false)), [], false, false⟩,
       ⟨(some 12), .call 120 [(.tmp 9), (.tmp 11)], (some (7, false)), [], false, false⟩,
       ⟨(some 13), .bin .neq (.tmp 12) (.const (.int .i64 1)), (some (7, false)), [], false, false⟩,
       ⟨(some 14), .pick (.tmp 7) (.const (.bool true)) (.tmp 13), none, [], false, false⟩,
       ⟨(some 3), .move (.tmp 14), none, [], false, false⟩])
    (.cond (.tmp 3) (.seq (.region false [⟨(some 2), .move (.const (.int .i64 3)), none, [], false, false⟩])
      (.ret))
     (.seq (.region false [⟨(some 16), .fieldAddr 0 (.tmp 1), none, [], false, false⟩,
         ⟨(some 17), .load false 1 (.tmp 16), none, [], false, false⟩,
         ⟨(some 18), .call 77 [(.tmp 17), (.const (.int .i64 (-1000000000))), (.const (.int .i64 1000000000))], none, [], false, false⟩,
         ⟨(some 19), .un .not (.tmp 18), none, [], false, false⟩,
         ⟨(some 20), .move (.tmp 19), none, [], false, false⟩,
         ⟨(some 21), .fieldAddr 1 (.tmp 1), (some (20, false)), [], false, false⟩,
         ⟨(some 22), .load false 1 (.tmp 21), (some (20, false)), [], false, false⟩,
         ⟨(some 23), .bin .gtr (.tmp 22) (.const (.int .i64 1000000000)), (some (20, false)), [], false, false⟩,
         ⟨(some 24), .pick (.tmp 20) (.const (.bool true)) (.tmp 23), none, [], false, false⟩,
         ⟨(some 15), .move (.tmp 24), none, [], false, false⟩])
      (.cond (.tmp 15) (.seq (.region false [⟨(some 2), .move (.const (.int .i64 2)), none, [], false, false⟩])
        (.ret))
       (.skip))))))
  (.seq (.region false [⟨(some 2), .move (.const (.int .i64 0)), none, [], false, false⟩])
   (.ret))),
 [.tmp 2], .pure, 25⟩

/-- agraffe/agraffelaw01.fracs -/
def ef65 : EFun := ⟨
 .seq (.region false [⟨(some 2), .box (.tmp 0), none, [], false, false⟩,
    ⟨(some 3), .box (.tmp 1), none, [], false, false⟩,
    ⟨(some 4), .move (.const (.int .i64 0)), none, [], false, false⟩])
 (.seq (.seq (.region false [⟨(some 6), .load true 2 (.tmp 2), none, [], false, false⟩,
      ⟨(some 7), .call 43 [(.tmp 6)], none, [], false, false⟩,
      ⟨(some 5), .move (.tmp 7), none, [], false, false⟩])
   (.seq (.region false [⟨(some 8), .move (.tmp 5), none, [], false, false⟩,
       ⟨(some 9), .bin .neq (.tmp 8) (.const (.int .i64 0)), none, [], false, false⟩])
    (.cond (.tmp 9) (.seq (.region false [⟨(some 10), .move (.tmp 5), none, [], false, false⟩,
         ⟨(some 4), .move (.tmp 10), none, [], false, false⟩])
      (.ret))
     (.skip))))
  (.seq (.region false [⟨(some 11), .load true 2 (.tmp 3), none, [], false, false⟩,
      ⟨(some 12), .call 43 [(.tmp 11)], none, [], false, false⟩,
      ⟨(some 4), .move (.tmp 12), none, [], false, false⟩])
   (.ret))),
 [.tmp 4], .pure, 13⟩

/-- agraffe/agrafferef01.Add -/
def ef66 : EFun := ⟨
 .seq (.region false [⟨(some 2), .box (.tmp 0), none, [], false, false⟩,
    ⟨(some 3), .box (.tmp 1), none, [], false, false⟩,
    ⟨(some 4), .push [(.int .i64 0), (.int .i64 0)], none, [], false, false⟩,
    ⟨(some 5), .move (.const (.int .i64 0)), none, [], false, false⟩])
 (.seq (.region false [⟨(some 6), .fieldAddr 0 (.tmp 2), none, [], false, false⟩,
     ⟨(some 7), .load false 1 (.tmp 6), none, [], false, false⟩,
     ⟨(some 8), .fieldAddr 1 (.tmp 3), none, [], false, false⟩,
     ⟨(some 9), .load false 1 (.tmp 8), none, [], false, false⟩,
     ⟨(some 10), .bin .mul (.tmp 7) (.tmp 9), none, [], false, false⟩,
     ⟨(some 11), .fieldAddr 0 (.tmp 3), none, [], false, false⟩,
     ⟨(some 12), .load false 1 (.tmp 11), none, [], false, false⟩,
     ⟨(some 13), .fieldAddr 1 (.tmp 2), none, [], false, false⟩,
     ⟨(some 14), .load false 1 (.tmp 13), none, [], false, false⟩,
     ⟨(some 15), .bin .mul (.tmp 12) (.tmp 14), none, [], false, false⟩,
     ⟨(some 16), .bin .add (.tmp 10) (.tmp 15), none, [], false, false⟩,
     ⟨(some 17), .fieldAddr 1 (.tmp 2), none, [], false, false⟩,
     ⟨(some 18), .load false 1 (.tmp 17), none, [], false, false⟩,
     ⟨(some 19), .fieldAddr 1 (.tmp 3), none, [], false, false⟩,
     ⟨(some 20), .load false 1 (.tmp 19), none, [], false, false⟩,
     ⟨(some 21), .bin .mul (.tmp 18) (.tmp 20), none, [], false, false⟩,
     ⟨(some 22), .call 121 [(.tmp 16), (.tmp 21)], none, [], false, false⟩,
     ⟨(some 23), .extract (.tmp 22) 0, none, [], false, false⟩,
     ⟨(some 24), .extract (.tmp 22) 1, none, [], false, false⟩,
     ⟨none, .store 2 (.tmp 4) (.tmp 23), none, [], false, false⟩,
     ⟨(some 5), .move (.tmp 24), none, [], false, false⟩])
  (.ret)),
 [.cell 4 true 2, .tmp 5], .pure, 25⟩

/-- agraffe/agrafferef01.Times -/
def ef67 : EFun := ⟨
 .seq (.region false [⟨(some 2), .box (.tmp 0), none, [], false, false⟩,
    ⟨(some 3), .box (.tmp 1), none, [], false, false⟩,
    ⟨(some 4), .push [(.int .i64 0), (.int .i64 0)], none, [], false, false⟩,
    ⟨(some 5), .move (.const (.int .i64 0)), none, [], false, false⟩])
 (.seq (.region false [⟨(some 6), .fieldAddr 0 (.tmp 2), none, [], false, false⟩,
     ⟨(some 7), .load false 1 (.tmp 6), none, [], false, false⟩,
     ⟨(some 8), .fieldAddr 0 (.tmp 3), none, [], false, false⟩,
     ⟨(some 9), .load false 1 (.tmp 8), none, [], false, false⟩,
     ⟨(some 10), .bin .mul (.tmp 7) (.tmp 9), none, [], false, false⟩,
     ⟨(some 11), .fieldAddr 1 (.tmp 2), none, [], false, false⟩,
     ⟨(some 12), .load false 1 (.tmp 11), none, [], false, false⟩,
     ⟨(some 13), .fieldAddr 1 (.tmp 3), none, [], false, false⟩,
     ⟨(some 14), .load false 1 (.tmp 13), none, [], false, false⟩,
     ⟨(some 15), .bin .mul (.tmp 12) (.tmp 14), none, [], false, false⟩,
     ⟨(some 16), .call 121 [(.tmp 10), (.tmp 15)], none, [], false, false⟩,
     ⟨(some 17), .extract (.tmp 16) 0, none, [], false, false⟩,
     ⟨(some 18), .extract (.tmp 16) 1, none, [], false, false⟩,
     ⟨none, .store 2 (.tmp 4) (.tmp 17), none, [], false, false⟩,
     ⟨(some 5), .move (.tmp 18), none, [], false, false⟩])
  (.ret)),
 [.cell 4 true 2, .tmp 5], .pure, 19⟩

/-- agraffe/agrafferef01.Divide -/
def ef68 : EFun := ⟨
 .seq (.region false [⟨(some 2), .box (.tmp 0), none, [], false, false⟩,
    ⟨(some 3), .box (.tmp 1), none, [], false, false⟩,
    ⟨(some 4), .push [(.int .i64 0), (.int .i64 0)], none, [], false, false⟩,
    ⟨(some 5), .move (.const (.int .i64 0)), none, [], false, false⟩])
 (.seq (.seq (.region false [⟨(some 6), .fieldAddr 0 (.tmp 3), none, [], false, false⟩,
      ⟨(some 7), .load false 1 (.tmp 6), none, [], false, false⟩,
      ⟨(some 8), .bin .eql (.tmp 7) (.const (.int .i64 0)), none, [], false, false⟩])
   (.cond (.tmp 8) (.seq (.region false [⟨(some 9), .build [(.int .i64 0), (.int .i64 0)] [], none, [], false, false⟩,
        ⟨none, .store 2 (.tmp 4) (.tmp 9), none, [], false, false⟩,
        ⟨(some 5), .move (.const (.int .i64 11)), none, [], false, false⟩])
     (.ret))
    (.skip)))
  (.seq (.seq (.region false [⟨(some 10), .fieldAddr 0 (.tmp 3), none, [], false, false⟩,
       ⟨(some 11), .load false 1 (.tmp 10), none, [], false, false⟩,
       ⟨(some 12), .bin .lss (.tmp 11) (.const (.int .i64 0)), none, [], false, false⟩])
    (.cond (.tmp 12) (.region true [⟨(some 13), .fieldAddr 0 (.tmp 2), none, [], false, false⟩,
        ⟨(some 14), .load false 1 (.tmp 13), none, [], false, false⟩,
        ⟨(some 15), .un .neg (.tmp 14), none, [], false, false⟩,
        ⟨(some 16), .fieldAddr 0 (.tmp 3), none, [], false, false⟩,
        ⟨(some 17), .load false 1 (.tmp 16), none, [], true, false⟩,
        ⟨(some 18), .un .neg (.tmp 17), none, [], false, false⟩,
        ⟨(some 19), .fieldAddr 0 (.tmp 2), none, [], false, false⟩,
        ⟨none, .store 1 (.tmp 19) (.tmp 15), none, [4], false, false⟩,
        ⟨(some 20), .fieldAddr 0 (.tmp 3), none, [], false, false⟩,
        ⟨none, .store 1 (.tmp 20) (.tmp 18), none, [], false, false⟩])
     (.skip)))
   (.seq (.region false [⟨(some 21), .fieldAddr 0 (.tmp 2), none, [], false, false⟩,
       ⟨(some 22), .load false 1 (.tmp 21), none, [], false, false⟩,
       ⟨(some 23), .fieldAddr 1 (.tmp 3), none, [], false, false⟩,
       ⟨(some 24), .load false 1 (.tmp 23), none, [], false, false⟩,
       ⟨(some 25), .bin .mul (.tmp 22) (.tmp 24), none, [], false, false⟩,
       ⟨(some 26), .fieldAddr 1 (.tmp 2), none, [], false, false⟩,
       ⟨(some 27), .load false 1 (.tmp 26), none, [], false, false⟩,
       ⟨(some 28), .fieldAddr 0 (.tmp 3), none, [], false, false⟩,
       ⟨(some 29), .load false 1 (.tmp 28), none, [], false, false⟩,
       ⟨(some 30), .bin .mul (.tmp 27) (.tmp 29), none, [], false, false⟩,
       ⟨(some 31), .call 121 [(.tmp 25), (.tmp 30)], none, [], false, false⟩,
       ⟨(some 32), .extract (.tmp 31) 0, none, [], false, false⟩,
       ⟨(some 33), .extract (.tmp 31) 1, none, [], false, false⟩,
       ⟨none, .store 2 (.tmp 4) (.tmp 32), none, [], false, false⟩,
       ⟨(some 5), .move (.tmp 33), none, [], false, false⟩])
    (.ret)))),
 [.cell 4 true 2, .tmp 5], .pure, 34⟩

/-- agraffe/agraffebase.Cmp -/
def ef69 : EFun := ⟨
 .seq (.region false [⟨(some 2), .box (.tmp 0), none, [], false, false⟩,
    ⟨(some 3), .box (.tmp 1), none, [], false, false⟩,
    ⟨(some 4), .move (.const (.int .i64 0)), none, [], false, false⟩])
 (.seq (.region true [⟨(some 7), .fieldAddr 0 (.tmp 2), none, [], false, false⟩,
     ⟨(some 8), .load false 1 (.tmp 7), none, [], false, false⟩,
     ⟨(some 9), .fieldAddr 1 (.tmp 3), none, [], false, false⟩,
     ⟨(some 10), .load false 1 (.tmp 9), none, [], false, false⟩,
     ⟨(some 11), .bin .mul (.tmp 8) (.tmp 10), none, [], false, false⟩,
     ⟨(some 12), .fieldAddr 0 (.tmp 3), none, [], false, false⟩,
     ⟨(some 13), .load false 1 (.tmp 12), none, [], false, false⟩,
     ⟨(some 14), .fieldAddr 1 (.tmp 2), none, [], false, false⟩,
     ⟨(some 15), .load false 1 (.tmp 14), none, [], false, false⟩,
     ⟨(some 16), .bin .mul (.tmp 13) (.tmp 15), none, [], false, false⟩,
     ⟨(some 5), .move (.tmp 11), none, [], false, false⟩,
     ⟨(some 6), .move (.tmp 16), none, [], false, false⟩])
  (.seq (.seq (.region false [⟨(some 17), .move (.tmp 5), none, [], false, false⟩,
       ⟨(some 18), .move (.tmp 6), none, [], false, false⟩,
       ⟨(some 19), .bin .lss (.tmp 17) (.tmp 18), none, [], false, false⟩])
    (.cond (.tmp 19) (.seq (.region false [⟨(some 4), .move (.const (.int .i64 (-1))), none, [], false, false⟩])
      (.ret))
     (.skip)))
   (.seq (.seq (.region false [⟨(some 20), .move (.tmp 5), none, [], false, false⟩,
        ⟨(some 21), .move (.tmp 6), none, [], false, false⟩,
        ⟨(some 22), .bin .gtr (.tmp 20) (.tmp 21), none, [], false, false⟩])
     (.cond (.tmp 22) (.seq (.region false [⟨(some 4), .move (.const (.int .i64 1)), none, [], false, false⟩])
       (.ret))
      (.skip)))
    (.seq (.region false [⟨(some 4), .move (.const (.int .i64 0)), none, [], false, false⟩])
     (.ret))))),
 [.tmp 4], .pure, 23⟩

/-- agraffe/number.Octave -/
def ef70 : EFun := ⟨
 .seq (.region false [⟨(some 1), .box (.tmp 0), none, [], false, false⟩,
    ⟨(some 2), .push [(.int .i64 0), (.int .i64 0), (.int .i64 0), (.int .i64 0)], none, [], false, false⟩,
    ⟨(some 3), .move (.const (.int .i64 0)), none, [], false, false⟩,
    ⟨(some 4), .move (.const (.int .i64 0)), none, [], false, false⟩])
 (.seq (.seq (.region false [⟨(some 11), .load true 4 (.tmp 1), none, [], false, false⟩,
      ⟨(some 12), .call 51 [(.tmp 11)], none, [], false, false⟩,
      ⟨(some 5), .move (.tmp 12), none, [], false, false⟩])
   (.seq (.region false [⟨(some 13), .move (.tmp 5), none, [], false, false⟩,
       ⟨(some 14), .bin .neq (.tmp 13) (.const (.int .i64 0)), none, [], false, false⟩])
    (.cond (.tmp 14) (.seq (.region false [⟨(some 15), .build [(.int .i64 0), (.int .i64 0), (.int .i64 0), (.int .i64 0)] [], none, [], false, false⟩,
         ⟨(some 16), .move (.tmp 5), none, [], false, false⟩,
         ⟨none, .store 4 (.tmp 2) (.tmp 15), none, [], false, false⟩,
         ⟨(some 3), .move (.const (.int .i64 0)), none, [], false, false⟩,
         ⟨(some 4), .move (.tmp 16), none, [], false, false⟩])
      (.ret))
     (.skip))))
  (.seq (.region false [⟨(some 6), .move (.const (.int .i64 (-2500))), none, [], false, false⟩,
      ⟨(some 7), .move (.const (.int .i64 2500)), none, [], false, false⟩])
   (.seq (.block 0 (.loop (some [1, 2, 6, 7]) (
      .seq (.seq (.region false [⟨(some 17), .move (.tmp 6), none, [], false, false⟩,
           ⟨(some 18), .move (.tmp 7), none, [], false, false⟩,
           ⟨(some 19), .bin .lss (.tmp 17) (.tmp 18), none, [], false, false⟩])
        (.cond (.tmp 19) (.skip)
         (.exit 0)))
       (.block 1 (.seq (.region false [⟨(some 20), .move (.tmp 7), none, [], false, false⟩,
            ⟨(some 21), .move (.tmp 7), none, [], false, false⟩,
            ⟨(some 22), .move (.tmp 6), none, [], false, false⟩,
            ⟨(some 23), .bin .sub (.tmp 21) (.tmp 22), none, [], false, false⟩,
            ⟨(some 24), .bin .quo (.tmp 23) (.const (.int .i64 2)), none, [], false, false⟩,
            ⟨(some 25), .bin .sub (.tmp 20) (.tmp 24), none, [], false, false⟩,
            ⟨(some 8), .move (.tmp 25), none, [], false, false⟩])
         (.seq (.region false [⟨(some 26), .load true 4 (.tmp 1), none, [], false, false⟩,
             ⟨(some 27), .move (.tmp 8), none, [], false, false⟩,
             ⟨(some 28), .build [(.int .i64 0), (.int .i64 0), (.int .i64 0), (.int .i64 0)] [(0, 1, (.tmp 27)), (3, 1, (.const (.int .i64 1)))], none, [], false, false⟩,
             ⟨(some 29), .call 113 [(.tmp 26), (.tmp 28)], none, [], false, false⟩,
             ⟨(some 30), .bin .geq (.tmp 29) (.const (.int .i64 0)), none, [], false, false⟩])
          (.cond (.tmp 30) (.region false [⟨(some 31), .move (.tmp 8), none, [], false, false⟩,
              ⟨(some 6), .move (.tmp 31), none, [], false, false⟩])
           (.region false [⟨(some 32), .move (.tmp 8), none, [], false, false⟩,
              ⟨(some 33), .bin .sub (.tmp 32) (.const (.int .i64 1)), none, [], false, false⟩,
              ⟨(some 7), .move (.tmp 33), none, [], false, false⟩]))))))))
    (.seq (.region false [⟨(some 35), .load true 4 (.tmp 1), none, [], false, false⟩,
        ⟨(some 36), .move (.tmp 6), none, [], false, false⟩,
        ⟨(some 37), .build [(.int .i64 0), (.int .i64 0), (.int .i64 0), (.int .i64 0)] [(0, 1, (.tmp 36)), (3, 1, (.const (.int .i64 1)))], none, [], false, false⟩,
        ⟨(some 38), .call 110 [(.tmp 35), (.tmp 37), (.const (.int .i64 (-1)))], none, [], false, false⟩,
        ⟨(some 39), .call 100 [(.tmp 38)], none, [], false, false⟩,
        ⟨(some 34), .move (.tmp 39), none, [], false, false⟩,
        ⟨(some 40), .extract (.tmp 34) 0, none, [], false, false⟩,
        ⟨(some 41), .extract (.tmp 34) 1, none, [], false, false⟩,
        ⟨(some 9), .push [(.int .i64 0), (.int .i64 0), (.int .i64 0), (.int .i64 0)], none, [], false, false⟩,
        ⟨none, .store 4 (.tmp 9) (.tmp 40), none, [], false, false⟩,
        ⟨(some 10), .move (.tmp 41), none, [], false, false⟩])
     (.seq (.seq (.region false [⟨(some 42), .move (.tmp 10), none, [], false, false⟩,
          ⟨(some 43), .bin .neq (.tmp 42) (.const (.int .i64 0)), none, [], false, false⟩])
       (.cond (.tmp 43) (.seq (.region false [⟨(some 44), .build [(.int .i64 0), (.int .i64 0), (.int .i64 0), (.int .i64 0)] [], none, [], false, false⟩,
            ⟨(some 45), .move (.tmp 10), none, [], false, false⟩,
            ⟨none, .store 4 (.tmp 2) (.tmp 44), none, [], false, false⟩,
            ⟨(some 3), .move (.const (.int .i64 0)), none, [], false, false⟩,
            ⟨(some 4), .move (.tmp 45), none, [], false, false⟩])
         (.ret))
        (.skip)))
      (.seq (.region false [⟨(some 46), .load true 4 (.tmp 9), none, [], false, false⟩,
          ⟨(some 47), .move (.tmp 6), none, [], false, false⟩,
          ⟨none, .store 4 (.tmp 2) (.tmp 46), none, [], false, false⟩,
          ⟨(some 3), .move (.tmp 47), none, [], false, false⟩,
          ⟨(some 4), .move (.const (.int .i64 0)), none, [], false, false⟩])
       (.ret))))))),
 [.cell 2 true 4, .tmp 3, .tmp 4], .pure, 48⟩

/-- agraffe/agrafferef01.Octave -/
def ef71 : EFun := ⟨
 .seq (.region false [⟨(some 1), .box (.tmp 0), none, [], false, false⟩,
    ⟨(some 2), .push [(.int .i64 0), (.int .i64 0), (.int .i64 0), (.int .i64 0)], none, [], false, false⟩,
    ⟨(some 3), .move (.const (.int .i64 0)), none, [], false, false⟩,
    ⟨(some 4), .move (.const (.int .i64 0)), none, [], false, false⟩])
 (.seq (.region true [⟨(some 11), .fieldAddr 0 (.tmp 1), none, [], false, false⟩,
     ⟨(some 12), .load false 1 (.tmp 11), none, [], false, false⟩,
     ⟨(some 13), .call 26 [(.tmp 12)], none, [], false, true⟩,
     ⟨(some 14), .fieldAddr 1 (.tmp 1), none, [], false, false⟩,
     ⟨(some 15), .load false 1 (.tmp 14), none, [], false, false⟩,
     ⟨(some 16), .call 26 [(.tmp 15)], none, [], false, true⟩,
     ⟨(some 17), .bin .mul (.const (.int .i64 2)) (.tmp 16), none, [], false, false⟩,
     ⟨(some 18), .bin .add (.tmp 13) (.tmp 17), none, [], false, false⟩,
     ⟨(some 19), .fieldAddr 2 (.tmp 1), none, [], false, false⟩,
     ⟨(some 20), .load false 1 (.tmp 19), none, [], false, false⟩,
     ⟨(some 21), .call 26 [(.tmp 20)], none, [], false, true⟩,
     ⟨(some 22), .bin .mul (.const (.int .i64 3)) (.tmp 21), none, [], false, false⟩,
     ⟨(some 23), .bin .add (.tmp 18) (.tmp 22), none, [], false, false⟩,
     ⟨(some 24), .fieldAddr 3 (.tmp 1), none, [], false, false⟩,
     ⟨(some 25), .load false 1 (.tmp 24), none, [], false, false⟩,
     ⟨(some 26), .bin .quo (.tmp 23) (.tmp 25), none, [], false, false⟩,
     ⟨(some 27), .bin .add (.tmp 26) (.const (.int .i64 1)), none, [], false, false⟩,
     ⟨(some 5), .move (.tmp 27), none, [], false, false⟩])
  (.seq (.region false [⟨(some 28), .move (.tmp 5), none, [], false, false⟩,
      ⟨(some 29), .un .neg (.tmp 28), none, [], false, false⟩,
      ⟨(some 30), .move (.tmp 5), none, [], false, false⟩,
      ⟨(some 6), .move (.tmp 29), none, [], false, false⟩,
      ⟨(some 7), .move (.tmp 30), none, [], false, false⟩])
   (.seq (.block 0 (.loop (some [1, 2, 6, 7]) (
      .seq (.seq (.region false [⟨(some 31), .move (.tmp 6), none, [], false, false⟩,
           ⟨(some 32), .move (.tmp 7), none, [], false, false⟩,
           ⟨(some 33), .bin .lss (.tmp 31) (.tmp 32), none, [], false, false⟩])
        (.cond (.tmp 33) (.skip)
         (.exit 0)))
       (.block 1 (.seq (.region false [⟨(some 34), .move (.tmp 7), none, [], false, false⟩,
            ⟨(some 35), .move (.tmp 7), none, [], false, false⟩,
            ⟨(some 36), .move (.tmp 6), none, [], false, false⟩,
            ⟨(some 37), .bin .sub (.tmp 35) (.tmp 36), none, [], false, false⟩,
            ⟨(some 38), .call 105 [(.tmp 37), (.const (.int .i64 2))], none, [], false, false⟩,
            ⟨(some 39), .bin .sub (.tmp 34) (.tmp 38), none, [], false, false⟩,
            ⟨(some 8), .move (.tmp 39), none, [], false, false⟩])
         (.seq (.region false [⟨(some 40), .load true 4 (.tmp 1), none, [], false, false⟩,
             ⟨(some 41), .move (.tmp 8), none, [], false, false⟩,
             ⟨(some 42), .build [(.int .i64 0), (.int .i64 0), (.int .i64 0), (.int .i64 0)] [(0, 1, (.tmp 41)), (3, 1, (.const (.int .i64 1)))], none, [], false, false⟩,
             ⟨(some 43), .call 55 [(.tmp 40), (.tmp 42)], none, [], false, false⟩,
             ⟨(some 44), .bin .geq (.tmp 43) (.const (.int .i64 0)), none, [], false, false⟩])
          (.cond (.tmp 44) (.region false [⟨(some 45), .move (.tmp 8), none, [], false, false⟩,
              ⟨(some 6), .move (.tmp 45), none, [], false, false⟩])
           (.region false [⟨(some 46), .move (.tmp 8), none, [], false, false⟩,
              ⟨(some 47), .bin .sub (.tmp 46) (.const (.int .i64 1)), none, [], false, false⟩,
              ⟨(some 7), .move (.tmp 47), none, [], false, false⟩]))))))))
    (.seq (.region false [⟨(some 49), .load true 4 (.tmp 1), none, [], false, false⟩,
        ⟨(some 50), .move (.tmp 6), none, [], false, false⟩,
        ⟨(some 51), .build [(.int .i64 0), (.int .i64 0), (.int .i64 0), (.int .i64 0)] [(0, 1, (.tmp 50)), (3, 1, (.const (.int .i64 1)))], none, [], false, false⟩,
        ⟨(some 52), .call 112 [(.tmp 49), (.tmp 51), (.const (.int .i64 (-1)))], none, [], false, false⟩,
        ⟨(some 53), .call 102 [(.tmp 52)], none, [], false, false⟩,
        ⟨(some 48), .move (.tmp 53), none, [], false, false⟩,
        ⟨(some 54), .extract (.tmp 48) 0, none, [], false, false⟩,
        ⟨(some 55), .extract (.tmp 48) 1, none, [], false, false⟩,
        ⟨(some 9), .push [(.int .i64 0), (.int .i64 0), (.int .i64 0), (.int .i64 0)], none, [], false, false⟩,
        ⟨none, .store 4 (.tmp 9) (.tmp 54), none, [], false, false⟩,
        ⟨(some 10), .move (.tmp 55), none, [], false, false⟩])
     (.seq (.seq (.region false [⟨(some 56), .move (.tmp 10), none, [], false, false⟩,
          ⟨(some 57), .bin .neq (.tmp 56) (.const (.int .i64 0)), none, [], false, false⟩])
       (.cond (.tmp 57) (.seq (.region false [⟨(some 58), .build [(.int .i64 0), (.int .i64 0), (.int .i64 0), (.int .i64 0)] [], none, [], false, false⟩,
            ⟨(some 59), .move (.tmp 10), none, [], false, false⟩,
            ⟨none, .store 4 (.tmp 2) (.tmp 58), none, [], false, false⟩,
            ⟨(some 3), .move (.const (.int .i64 0)), none, [], false, false⟩,
            ⟨(some 4), .move (.tmp 59), none, [], false, false⟩])
         (.ret))
        (.skip)))
      (.seq (.region false [⟨(some 60), .load true 4 (.tmp 9), none, [], false, false⟩,
          ⟨(some 61), .move (.tmp 6), none, [], false, false⟩,
          ⟨none, .store 4 (.tmp 2) (.tmp 60), none, [], false, false⟩,
          ⟨(some 3), .move (.tmp 61), none, [], false, false⟩,
          ⟨(some 4), .move (.const (.int .i64 0)), none, [], false, false⟩])
       (.ret))))))),
 [.cell 2 true 4, .tmp 3, .tmp 4], .pure, 62⟩

/-- agraffe/agraffelaw01.Comma -/
def ef76 : EFun := ⟨
 .seq (.region false [⟨(some 0), .push [(.int .i64 0), (.int .i64 0), (.int .i64 0), (.int .i64 0)], none, [], false, false⟩])
 (.seq (.region false [⟨(some 1), .build [(.int .i64 0), (.int .i64 0), (.int .i64 0), (.int .i64 0)] [(0, 1, (.const (.int .i64 (-19)))), (1, 1, (.const (.int .i64 12))), (3, 1, (.const (.int .i64 1)))], none, [], false, false⟩,
     ⟨none, .store 4 (.tmp 0) (.tmp 1), none, [], false, false⟩])
  (.ret)),
 [.cell 0 true 4], .pure, 2⟩

/-- agraffe/number.within -/
def ef77 : EFun := ⟨
 .seq (.region false [⟨(some 6), .move (.const (.bool false)), none, [], false, false⟩])
 (.seq (.region false [⟨(some 7), .move (.tmp 0), none, [], false, false⟩,
     ⟨(some 8), .move (.tmp 1), none, [], false, false⟩,
     ⟨(some 9), .bin .geq (.tmp 7) (.tmp 8), none, [], false, false⟩,
     ⟨(some 10), .move (.tmp 9), none, [], false, false⟩,
     ⟨(some 11), .move (.tmp 0), (some (10, true)), [], false, false⟩,
     ⟨(some 12), .move (.tmp 2), (some (10, true)), [], false, false⟩,
     ⟨(some 13), .bin .leq (.tmp 11) (.tmp 12), (some (10, true)), [], false, false⟩,
     ⟨(some 14), .pick (.tmp 10) (.tmp 13) (.const (.bool false)), none, [], false, false⟩,
     ⟨(some 6), .move (.tmp 14), none, [], false, false⟩])
  (.ret)),
 [.tmp 6], .pure, 15⟩

/-- agraffe/number.reduced -/
def ef78 : EFun := ⟨
 .seq (.region false [⟨(some 1), .box (.tmp 0), none, [], false, false⟩,
    ⟨(some 2), .push [(.int .i64 0), (.int .i64 0), (.int .i64 0), (.int .i64 0)], none, [], false, false⟩])
 (.seq (.region true [⟨(some 4), .fieldAddr 0 (.tmp 1), none, [], false, false⟩,
     ⟨(some 5), .load false 1 (.tmp 4), none, [], false, false⟩,
     ⟨(some 6), .fieldAddr 1 (.tmp 1), none, [], false, false⟩,
     ⟨(some 7), .load false 1 (.tmp 6), none, [], false, false⟩,
     ⟨(some 8), .call 120 [(.tmp 5), (.tmp 7)], none, [], false, true⟩,
     ⟨(some 9), .fieldAddr 2 (.tmp 1), none, [], false, false⟩,
     ⟨(some 10), .load false 1 (.tmp 9), none, [], false, false⟩,
     ⟨(some 11), .fieldAddr 3 (.tmp 1), none, [], false, false⟩,
     ⟨(some 12), .load false 1 (.tmp 11), none, [], false, false⟩,
     ⟨(some 13), .call 120 [(.tmp 10), (.tmp 12)], none, [], false, false⟩,
     ⟨(some 14), .call 120 [(.tmp 8), (.tmp 13)], none, [], false, false⟩,
     ⟨(some 3), .move (.tmp 14), none, [], false, false⟩])
  (.seq (.region true [⟨(some 15), .fieldAddr 0 (.tmp 1), none, [], false, false⟩,
      ⟨(some 16), .load false 1 (.tmp 15), none, [], false, false⟩,
      ⟨(some 17), .move (.tmp 3), none, [], false, false⟩,
      ⟨(some 18), .bin .quo (.tmp 16) (.tmp 17), none, [], false, false⟩,
      ⟨(some 19), .fieldAddr 1 (.tmp 1), none, [], false, false⟩,
      ⟨(some 20), .load false 1 (.tmp 19), none, [], false, false⟩,
      ⟨(some 21), .move (.tmp 3), none, [], false, false⟩,
      ⟨(some 22), .bin .quo (.tmp 20) (.tmp 21), none, [], false, false⟩,
      ⟨(some 23), .fieldAddr 2 (.tmp 1), none, [], false, false⟩,
      ⟨(some 24), .load false 1 (.tmp 23), none, [], false, false⟩,
      ⟨(some 25), .move (.tmp 3), none, [], false, false⟩,
      ⟨(some 26), .bin .quo (.tmp 24) (.tmp 25), none, [], false, false⟩,
      ⟨(some 27), .fieldAddr 3 (.tmp 1), none, [], false, false⟩,
      ⟨(some 28), .load false 1 (.tmp 27), none, [], false, false⟩,
      ⟨(some 29), .move (.tmp 3), none, [], false, false⟩,
      ⟨(some 30), .bin .quo (.tmp 28) (.tmp 29), none, [], false, false⟩,
      ⟨(some 31), .build [(.int .i64 0), (.int .i64 0), (.int .i64 0), (.int .i64 0)] [(0, 1, (.tmp 18)), (1, 1, (.tmp 22)), (2, 1, (.tmp 26)), (3, 1, (.tmp 30))], none, [], false, false⟩,
      ⟨none, .store 4 (.tmp 2) (.tmp 31), none, [], false, false⟩])
   (.ret))),
 [.cell 2 true 4], .pure, 32⟩

/-- agraffe/number.quotientOf -/
def ef79 : EFun := ⟨
 .seq (.region false [⟨(some 1), .box (.tmp 0), none, [], false, false⟩,
    ⟨(some 2), .push [(.slice none 0 0), (.slice none 0 0)], none, [], false, false⟩])
 (.seq (.region false [⟨(some 6), .buildSlice 1 1 [(.int .u64 0)] [(0, 1, (.const (.int .u64 1)))], none, [], false, false⟩,
     ⟨(some 7), .buildSlice 1 1 [(.int .u64 0)] [(0, 1, (.const (.int .u64 1)))], none, [], false, false⟩,
     ⟨(some 8), .build [(.slice none 0 0), (.slice none 0 0)] [(0, 1, (.tmp 6)), (1, 1, (.tmp 7))], none, [], false, false⟩,
     ⟨(some 3), .push [(.slice none 0 0), (.slice none 0 0)], none, [], false, false⟩,
     ⟨none, .store 2 (.tmp 3) (.tmp 8), none, [], false, false⟩])
  (.seq (.seq (.region false [⟨(some 9), .load true 3 (.tmp 1), none, [], false, false⟩,
       ⟨(some 10), .move (.const (.int .i64 0)), none, [], false, false⟩])
    (.block 0 (.loop (some [2, 3, 9, 10]) (
      .seq (.region false [⟨(some 11), .bin .lss (.tmp 10) (.const (.int .i64 3)), none, [], false, false⟩])
       (.seq (.cond (.tmp 11) (.skip)
         (.exit 0))
        (.seq (.block 1 (.seq (.region false [⟨(some 12), .move (.tmp 10), none, [], false, false⟩,
              ⟨(some 13), .index 3 1 false (.tmp 9) (.tmp 10), none, [], false, false⟩,
              ⟨(some 4), .move (.tmp 12), none, [], false, false⟩,
              ⟨(some 5), .move (.tmp 13), none, [], false, false⟩])
           (.seq (.region true [⟨(some 14), .move (.tmp 4), none, [], false, false⟩,
               ⟨(some 15), .indexAddr (some 3) 1 (.global 0) (.tmp 14), none, [], false, false⟩,
               ⟨(some 16), .load false 1 (.tmp 15), none, [], false, false⟩,
               ⟨(some 17), .move (.tmp 5), none, [], false, false⟩,
               ⟨(some 18), .max [(.tmp 17), (.const (.int .i64 0))], none, [], false, false⟩,
               ⟨(some 19), .fieldAddr 0 (.tmp 3), none, [], false, false⟩,
               ⟨(some 20), .load false 1 (.tmp 19), none, [], false, false⟩,
               ⟨(some 21), .call 81 [(.tmp 16), (.tmp 18), (.tmp 20)], none, [], false, false⟩,
               ⟨(some 22), .fieldAddr 0 (.tmp 3), none, [], false, false⟩,
               ⟨none, .store 1 (.tmp 22) (.tmp 21), none, [], false, false⟩])
            (.region true [⟨(some 23), .move (.tmp 4), none, [], false, false⟩,
               ⟨(some 24), .indexAddr (some 3) 1 (.global 0) (.tmp 23), none, [], false, false⟩,
               ⟨(some 25), .load false 1 (.tmp 24), none, [], false, false⟩,
               ⟨(some 26), .move (.tmp 5), none, [], false, false⟩,
               ⟨(some 27), .un .neg (.tmp 26), none, [], false, false⟩,
               ⟨(some 28), .max [(.tmp 27), (.const (.int .i64 0))], none, [], false, false⟩,
               ⟨(some 29), .fieldAddr 1 (.tmp 3), none, [], false, false⟩,
               ⟨(some 30), .load false 1 (.tmp 29), none, [], false, false⟩,
               ⟨(some 31), .call 81 [(.tmp 25), (.tmp 28), (.tmp 30)], none, [], false, false⟩,
               ⟨(some 32), .fieldAddr 1 (.tmp 3), none, [], false, false⟩,
               ⟨none, .store 1 (.tmp 32) (.tmp 31), none, [], false, false⟩]))))
         (.region false [⟨(some 33), .bin .add (.tmp 10) (.const (.int .i64 1)), none, [], false, false⟩,
            ⟨(some 10), .move (.tmp 33), none, [], false, false⟩])))))))
   (.seq (.region false [⟨(some 34), .load true 2 (.tmp 3), none, [], false, false⟩,
       ⟨none, .store 2 (.tmp 2) (.tmp 34), none, [], false, false⟩])
    (.ret)))),
 [.cell 2 true 2], .pure, 35⟩

/-- agraffe/number.exponents -/
def ef80 : EFun := ⟨
 .seq (.region false [⟨(some 1), .box (.tmp 0), none, [], false, false⟩,
    ⟨(some 2), .push [(.int .i64 0), (.int .i64 0), (.int .i64 0)], none, [], false, false⟩])
 (.seq (.region false [⟨(some 3), .fieldAddr 0 (.tmp 1), none, [], false, false⟩,
     ⟨(some 4), .load false 1 (.tmp 3), none, [], false, false⟩,
     ⟨(some 5), .fieldAddr 1 (.tmp 1), none, [], false, false⟩,
     ⟨(some 6), .load false 1 (.tmp 5), none, [], false, false⟩,
     ⟨(some 7), .fieldAddr 2 (.tmp 1), none, [], false, false⟩,
     ⟨(some 8), .load false 1 (.tmp 7), none, [], false, false⟩,
     ⟨(some 9), .build [(.int .i64 0), (.int .i64 0), (.int .i64 0)] [(0, 1, (.tmp 4)), (1, 1, (.tmp 6)), (2, 1, (.tmp 8))], none, [], false, false⟩,
     ⟨none, .store 3 (.tmp 2) (.tmp 9), none, [], false, false⟩])
  (.ret)),
 [.cell 2 true 3], .pure, 10⟩

/-- agraffe/number.power -/
def ef81 : EFun := ⟨
 .seq (.region false [⟨(some 6), .move (.const (.slice none 0 0)), none, [], false, false⟩])
 (.seq (.block 0 (.loop (some [0, 1, 2]) (
    .seq (.seq (.region false [⟨(some 10), .move (.tmp 1), none, [], false, false⟩,
         ⟨(some 11), .bin .gtr (.tmp 10) (.const (.int .i64 0)), none, [], false, false⟩])
      (.cond (.tmp 11) (.skip)
       (.exit 0)))
     (.block 1 (.seq (.region false [⟨(some 7), .move (.const (.int .u64 1)), none, [], false, false⟩])
       (.seq (.block 2 (.loop (some [0, 1, 2, 7]) (
          .seq (.seq (.region false [⟨(some 12), .move (.tmp 1), none, [], false, false⟩,
               ⟨(some 13), .bin .gtr (.tmp 12) (.const (.int .i64 0)), none, [], false, false⟩])
            (.cond (.tmp 13) (.skip)
             (.exit 2)))
           (.block 3 (.seq (.region false [⟨(some 15), .move (.tmp 7), none, [], false, false⟩,
                ⟨(some 16), .move (.tmp 0), none, [], false, false⟩,
                ⟨(some 17), .call 128 [(.tmp 15), (.tmp 16)], none, [], false, false⟩,
                ⟨(some 14), .move (.tmp 17), none, [], false, false⟩,
                ⟨(some 18), .extract (.tmp 14) 0, none, [], false, false⟩,
                ⟨(some 19), .extract (.tmp 14) 1, none, [], false, false⟩,
                ⟨(some 8), .move (.tmp 18), none, [], false, false⟩,
                ⟨(some 9), .move (.tmp 19), none, [], false, false⟩])
             (.seq (.seq (.region false [⟨(some 20), .move (.tmp 8), none, [], false, false⟩,
                  ⟨(some 21), .bin .neq (.tmp 20) (.const (.int .u64 0)), none, [], false, false⟩])
               (.cond (.tmp 21) (.exit 2)
                (.skip)))
              (.region false [⟨(some 22), .move (.tmp 9), none, [], false, false⟩,
                 ⟨(some 23), .move (.tmp 1), none, [], false, false⟩,
                 ⟨(some 24), .bin .sub (.tmp 23) (.const (.int .i64 1)), none, [], false, false⟩,
                 ⟨(some 7), .move (.tmp 22), none, [], false, false⟩,
                 ⟨(some 1), .move (.tmp 24), none, [], false, false⟩])))))))
        (.region false [⟨(some 25), .move (.tmp 2), none, [], false, false⟩,
           ⟨(some 26), .move (.tmp 7), none, [], false, false⟩,
           ⟨(some 27), .call 129 [(.tmp 25), (.tmp 26)], none, [], false, false⟩,
           ⟨(some 2), .move (.tmp 27), none, [], false, false⟩])))))))
  (.seq (.region false [⟨(some 28), .move (.tmp 2), none, [], false, false⟩,
      ⟨(some 6), .move (.tmp 28), none, [], false, false⟩])
   (.ret))),
 [.tmp 6], .pure, 29⟩

/-- agraffe/number.Enclose$1 -/
def ef82 : EFun := ⟨
 .seq (.region false [⟨(some 4), .move (.const (.int .i64 0)), none, [], false, false⟩])
 (.seq (.region true [⟨(some 5), .move (.tmp 0), none, [], false, false⟩,
     ⟨(some 6), .conv .u64 (.tmp 5), none, [], false, false⟩,
     ⟨(some 7), .fieldAddr 3 (.tmp 1), none, [], false, false⟩,
     ⟨(some 8), .load false 1 (.tmp 7), none, [], false, false⟩,
     ⟨(some 9), .fieldAddr 1 (.tmp 2), none, [], false, false⟩,
     ⟨(some 10), .load false 1 (.tmp 9), none, [], false, false⟩,
     ⟨(some 11), .call 81 [(.tmp 6), (.tmp 8), (.tmp 10)], none, [], false, true⟩,
     ⟨(some 12), .fieldAddr 0 (.tmp 2), none, [], false, false⟩,
     ⟨(some 13), .load false 1 (.tmp 12), none, [], false, false⟩,
     ⟨(some 14), .call 83 [(.tmp 11), (.tmp 13)], none, [], false, false⟩,
     ⟨(some 4), .move (.tmp 14), none, [], false, false⟩])
  (.ret)),
 [.tmp 4], .pure, 15⟩

/-- (agraffe/number.natural).cmp -/
def ef83 : EFun := ⟨
 .seq (.region false [⟨(some 4), .move (.const (.int .i64 0)), none, [], false, false⟩])
 (.seq (.seq (.region false [⟨(some 6), .move (.tmp 0), none, [], false, false⟩,
      ⟨(some 7), .len false (.tmp 6), none, [], false, false⟩,
      ⟨(some 8), .move (.tmp 1), none, [], false, false⟩,
      ⟨(some 9), .len false (.tmp 8), none, [], false, false⟩,
      ⟨(some 10), .bin .neq (.tmp 7) (.tmp 9), none, [], false, false⟩])
   (.cond (.tmp 10) (.seq (.seq (.region false [⟨(some 11), .move (.tmp 0), none, [], false, false⟩,
         ⟨(some 12), .len false (.tmp 11), none, [], false, false⟩,
         ⟨(some 13), .move (.tmp 1), none, [], false, false⟩,
         ⟨(some 14), .len false (.tmp 13), none, [], false, false⟩,
         ⟨(some 15), .bin .lss (.tmp 12) (.tmp 14), none, [], false, false⟩])
      (.cond (.tmp 15) (.seq (.region false [⟨(some 4), .move (.const (.int .i64 (-1))), none, [], false, false⟩])
        (.ret))
       (.skip)))
     (.seq (.region false [⟨(some 4), .move (.const (.int .i64 1)), none, [], false, false⟩])
      (.ret)))
    (.skip)))
  (.seq (.seq (.region false [⟨(some 16), .move (.tmp 0), none, [], false, false⟩,
       ⟨(some 17), .len false (.tmp 16), none, [], false, false⟩,
       ⟨(some 18), .bin .sub (.tmp 17) (.const (.int .i64 1)), none, [], false, false⟩,
       ⟨(some 5), .move (.tmp 18), none, [], false, false⟩])
    (.block 0 (.loop (some [0, 1, 5]) (
      .seq (.seq (.region false [⟨(some 19), .move (.tmp 5), none, [], false, false⟩,
           ⟨(some 20), .bin .geq (.tmp 19) (.const (.int .i64 0)), none, [], false, false⟩])
        (.cond (.tmp 20) (.skip)
         (.exit 0)))
       (.seq (.block 1 (.block 2 (.seq (.region true [⟨(some 24), .move (.tmp 0), none, [], false, false⟩,
              ⟨(some 25), .move (.tmp 5), none, [], false, false⟩,
              ⟨(some 26), .indexAddr none 1 (.tmp 24) (.tmp 25), none, [], false, false⟩,
              ⟨(some 27), .load false 1 (.tmp 26), none, [], false, false⟩,
              ⟨(some 28), .move (.tmp 1), none, [], false, false⟩,
              ⟨(some 29), .move (.tmp 5), none, [], false, false⟩,
              ⟨(some 30), .indexAddr none 1 (.tmp 28) (.tmp 29), none, [], false, false⟩,
              ⟨(some 31), .load false 1 (.tmp 30), none, [], false, false⟩,
              ⟨(some 32), .bin .lss (.tmp 27) (.tmp 31), none, [], false, false⟩,
              ⟨(some 23), .move (.tmp 32), none, [], false, false⟩])
           (.cond (.tmp 23) (.seq (.region false [⟨(some 4), .move (.const (.int .i64 (-1))), none, [], false, false⟩])
             (.ret))
            (.seq (.region true [⟨(some 34), .move (.tmp 0), none, [], false, false⟩,
                ⟨(some 35), .move (.tmp 5), none, [], false, false⟩,
                ⟨(some 36), .indexAddr none 1 (.tmp 34) (.tmp 35), none, [], false, false⟩,
                ⟨(some 37), .load false 1 (.tmp 36), none, [], false, false⟩,
                ⟨(some 38), .move (.tmp 1), none, [], false, false⟩,
                ⟨(some 39), .move (.tmp 5), none, [], false, false⟩,
                ⟨(some 40), .indexAddr none 1 (.tmp 38) (.tmp 39), none, [], false, false⟩,
                ⟨(some 41), .load false 1 (.tmp 40), none, [], false, false⟩,
                ⟨(some 42), .bin .gtr (.tmp 37) (.tmp 41), none, [], false, false⟩,
                ⟨(some 33), .move (.tmp 42), none, [], false, false⟩])
             (.cond (.tmp 33) (.seq (.region false [⟨(some 4), .move (.const (.int .i64 1)), none, [], false, false⟩])
               (.ret))
              (.skip)))))))
        (.region false [⟨(some 21), .move (.tmp 5), none, [], false, false⟩,
           ⟨(some 22), .bin .sub (.tmp 21) (.const (.int .i64 1)), none, [], false, false⟩,
           ⟨(some 5), .move (.tmp 22), none, [], false, false⟩]))))))
   (.seq (.region false [⟨(some 4), .move (.const (.int .i64 0)), none, [], false, false⟩])
    (.ret)))),
 [.tmp 4], .pure, 43⟩

/-- agraffe/number.small -/
def ef84 : EFun := ⟨
 .seq (.region false [⟨(some 1), .box (.tmp 0), none, [], false, false⟩,
    ⟨(some 2), .push [(.int .i64 0), (.int .i64 0)], none, [], false, false⟩,
    ⟨(some 3), .move (.const (.int .i64 0)), none, [], false, false⟩])
 (.seq (.seq (.region false [⟨(some 4), .load true 2 (.tmp 1), none, [], false, false⟩,
      ⟨(some 5), .call 29 [(.tmp 4)], none, [], false, false⟩,
      ⟨(some 6), .bin .neq (.tmp 5) (.const (.int .i64 0)), none, [], false, false⟩])
   (.cond (.tmp 6) (.seq (.region false [⟨(some 7), .build [(.int .i64 0), (.int .i64 0)] [], none, [], false, false⟩,
        ⟨none, .store 2 (.tmp 2) (.tmp 7), none, [], false, false⟩,
        ⟨(some 3), .move (.const (.int .i64 8)), none, [], false, false⟩])
     (.ret))
    (.skip)))
  (.seq (.region false [⟨(some 8), .load true 2 (.tmp 1), none, [], false, false⟩,
      ⟨none, .store 2 (.tmp 2) (.tmp 8), none, [], false, false⟩,
      ⟨(some 3), .move (.const (.int .i64 0)), none, [], false, false⟩])
   (.ret))),
 [.cell 2 true 2, .tmp 3], .pure, 9⟩

/-- agraffe/agrafferef01.IsPitch -/
def ef85 : EFun := ⟨
 .seq (.region false [⟨(some 1), .box (.tmp 0), none, [], false, false⟩,
    ⟨(some 2), .move (.const (.bool false)), none, [], false, false⟩])
 (.seq (.seq (.region false [⟨(some 5), .fieldAddr 0 (.tmp 1), none, [], false, false⟩,
      ⟨(some 6), .load false 1 (.tmp 5), none, [], false, false⟩,
      ⟨(some 7), .fieldAddr 1 (.tmp 1), none, [], false, false⟩,
      ⟨(some 8), .load false 1 (.tmp 7), none, [], false, false⟩,
      ⟨(some 9), .fieldAddr 2 (.tmp 1), none, [], false, false⟩,
      ⟨(some 10), .load false 1 (.tmp 9), none, [], false, false⟩,
      ⟨(some 11), .build [(.int .i64 0), (.int .i64 0), (.int .i64 0)] [(0, 1, (.tmp 6)), (1, 1, (.tmp 8)), (2, 1, (.tmp 10))], none, [], false, false⟩,
      ⟨(some 12), .move (.const (.int .i64 0)), none, [], false, false⟩])
   (.block 0 (.loop (some [1, 11, 12]) (
     .seq (.region false [⟨(some 13), .bin .lss (.tmp 12) (.const (.int .i64 3)), none, [], false, false⟩])
      (.seq (.cond (.tmp 13) (.skip)
        (.exit 0))
       (.seq (.block 1 (.seq (.region false [⟨(some 14), .index 3 1 false (.tmp 11) (.tmp 12), none, [], false, false⟩,
             ⟨(some 4), .move (.tmp 14), none, [], false, false⟩])
          (.seq (.region false [⟨(some 15), .move (.tmp 4), none, [], false, false⟩,
              ⟨(some 16), .call 22 [(.tmp 15), (.const (.int .i64 (-400))), (.const (.int .i64 400))], none, [], false, false⟩,
              ⟨(some 17), .un .not (.tmp 16), none, [], false, false⟩])
           (.cond (.tmp 17) (.seq (.region false [⟨(some 2), .move (.const (.bool false)), none, [], false, false⟩])
             (.ret))
            (.skip)))))
        (.region false [⟨(some 18), .bin .add (.tmp 12) (.const (.int .i64 1)), none, [], false, false⟩,
           ⟨(some 12), .move (.tmp 18), none, [], false, false⟩])))))))
  (.seq (.region false [⟨(some 19), .fieldAddr 3 (.tmp 1), none, [], false, false⟩,
      ⟨(some 20), .load false 1 (.tmp 19), none, [], false, false⟩,
      ⟨(some 21), .call 22 [(.tmp 20), (.const (.int .i64 1)), (.const (.int .i64 12))], none, [], false, false⟩,
      ⟨(some 2), .move (.tmp 21), none, [], false, false⟩])
   (.ret))),
 [.tmp 2], .pure, 22⟩

/-- agraffe/agrafferef01.parts -/
def ef86 : EFun := ⟨
 .seq (.region false [⟨(some 6), .move (.const (.slice none 0 0)), none, [], false, false⟩,
    ⟨(some 7), .move (.const (.slice none 0 0)), none, [], false, false⟩])
 (.seq (.region false [⟨(some 13), .buildSlice 1 1 [(.int .i64 0)] [(0, 1, (.const (.int .i64 1)))], none, [], false, false⟩,
     ⟨(some 14), .buildSlice 1 1 [(.int .i64 0)] [(0, 1, (.const (.int .i64 1)))], none, [], false, false⟩,
     ⟨(some 8), .move (.tmp 13), none, [], false, false⟩,
     ⟨(some 9), .move (.tmp 14), none, [], false, false⟩])
  (.seq (.seq (.region false [⟨(some 15), .move (.tmp 0), none, [], false, false⟩,
       ⟨(some 16), .move (.tmp 1), none, [], false, false⟩,
       ⟨(some 17), .move (.tmp 2), none, [], false, false⟩,
       ⟨(some 18), .build [(.int .i64 0), (.int .i64 0), (.int .i64 0)] [(0, 1, (.tmp 15)), (1, 1, (.tmp 16)), (2, 1, (.tmp 17))], none, [], false, false⟩,
       ⟨(some 19), .move (.const (.int .i64 0)), none, [], false, false⟩])
    (.block 0 (.loop (some [8, 9, 18, 19]) (
      .seq (.region false [⟨(some 20), .bin .lss (.tmp 19) (.const (.int .i64 3)), none, [], false, false⟩])
       (.seq (.cond (.tmp 20) (.skip)
         (.exit 0))
        (.seq (.block 1 (.seq (.region false [⟨(some 21), .move (.tmp 19), none, [], false, false⟩,
              ⟨(some 22), .index 3 1 false (.tmp 18) (.tmp 19), none, [], false, false⟩,
              ⟨(some 10), .move (.tmp 21), none, [], false, false⟩,
              ⟨(some 11), .move (.tmp 22), none, [], false, false⟩])
           (.seq (.region false [⟨(some 23), .build [(.int .i64 0), (.int .i64 0), (.int .i64 0)] [(0, 1, (.const (.int .i64 2))), (1, 1, (.const (.int .i64 3))), (2, 1, (.const (.int .i64 5)))], none, [], false, false⟩,
               ⟨(some 24), .move (.tmp 10), none, [], false, false⟩,
               ⟨(some 25), .index 3 1 false (.tmp 23) (.tmp 24), none, [], false, false⟩,
               ⟨(some 26), .call 89 [(.tmp 25)], none, [], false, false⟩,
               ⟨(some 12), .move (.tmp 26), none, [], false, false⟩])
            (.seq (.region false [⟨(some 27), .move (.tmp 11), none, [], false, false⟩,
                ⟨(some 28), .bin .gtr (.tmp 27) (.const (.int .i64 0)), none, [], false, false⟩])
             (.cond (.tmp 28) (.region false [⟨(some 29), .move (.tmp 8), none, [], false, false⟩,
                 ⟨(some 30), .move (.tmp 12), none, [], false, false⟩,
                 ⟨(some 31), .move (.tmp 11), none, [], false, false⟩,
                 ⟨(some 32), .call 88 [(.tmp 30), (.tmp 31)], none, [], false, false⟩,
                 ⟨(some 33), .call 87 [(.tmp 29), (.tmp 32)], none, [], false, false⟩,
                 ⟨(some 8), .move (.tmp 33), none, [], false, false⟩])
              (.region false [⟨(some 34), .move (.tmp 9), none, [], false, false⟩,
                 ⟨(some 35), .move (.tmp 12), none, [], false, false⟩,
                 ⟨(some 36), .move (.tmp 11), none, [], false, false⟩,
                 ⟨(some 37), .un .neg (.tmp 36), none, [], false, false⟩,
                 ⟨(some 38), .call 88 [(.tmp 35), (.tmp 37)], none, [], false, false⟩,
                 ⟨(some 39), .call 87 [(.tmp 34), (.tmp 38)], none, [], false, false⟩,
                 ⟨(some 9), .move (.tmp 39), none, [], false, false⟩]))))))
         (.region false [⟨(some 40), .bin .add (.tmp 19) (.const (.int .i64 1)), none, [], false, false⟩,
            ⟨(some 19), .move (.tmp 40), none, [], false, false⟩])))))))
   (.seq (.region false [⟨(some 41), .move (.tmp 8), none, [], false, false⟩,
       ⟨(some 42), .move (.tmp 9), none, [], false, false⟩,
       ⟨(some 6), .move (.tmp 41), none, [], false, false⟩,
       ⟨(some 7), .move (.tmp 42), none, [], false, false⟩])
    (.ret)))),
 [.tmp 6, .tmp 7], .pure, 43⟩

/-- agraffe/agrafferef01.mul -/
def ef87 : EFun := ⟨
 .seq (.region false [⟨(some 4), .move (.const (.slice none 0 0)), none, [], false, false⟩])
 (.seq (.region false [⟨(some 10), .move (.tmp 0), none, [], false, false⟩,
     ⟨(some 11), .len false (.tmp 10), none, [], false, false⟩,
     ⟨(some 12), .move (.tmp 1), none, [], false, false⟩,
     ⟨(some 13), .len false (.tmp 12), none, [], false, false⟩,
     ⟨(some 14), .bin .add (.tmp 11) (.tmp 13), none, [], false, false⟩,
     ⟨(some 15), .bin .add (.tmp 14) (.const (.int .i64 1)), none, [], false, false⟩,
     ⟨(some 16), .makeSlice 1 8 [(.int .i64 0)] (.tmp 15) (.tmp 15), none, [], false, false⟩,
     ⟨(some 5), .move (.tmp 16), none, [], false, false⟩])
  (.seq (.seq (.region false [⟨(some 6), .move (.const (.int .i64 0)), none, [], false, false⟩])
    (.block 0 (.loop (some [0, 1, 5, 6]) (
      .seq (.seq (.region false [⟨(some 17), .move (.tmp 6), none, [], false, false⟩,
           ⟨(some 18), .move (.tmp 0), none, [], false, false⟩,
           ⟨(some 19), .len false (.tmp 18), none, [], false, false⟩,
           ⟨(some 20), .bin .lss (.tmp 17) (.tmp 19), none, [], false, false⟩])
        (.cond (.tmp 20) (.skip)
         (.exit 0)))
       (.seq (.block 1 (.seq (.region false [⟨(some 7), .move (.const (.int .i64 0)), none, [], false, false⟩])
          (.seq (.region false [⟨(some 8), .move (.const (.int .i64 0)), none, [], false, false⟩])
           (.block 2 (.loop (some [0, 1, 5, 6, 7, 8]) (
             .seq (.seq (.region false [⟨(some 23), .move (.tmp 8), none, [], false, false⟩,
                  ⟨(some 24), .move (.tmp 1), none, [], false, false⟩,
                  ⟨(some 25), .len false (.tmp 24), none, [], false, false⟩,
                  ⟨(some 26), .bin .lss (.tmp 23) (.tmp 25), none, [], false, false⟩,
                  ⟨(some 27), .move (.tmp 26), none, [], false, false⟩,
                  ⟨(some 28), .move (.tmp 7), (some (27, false)), [], false, false⟩,
                  ⟨(some 29), .bin .gtr (.tmp 28) (.const (.int .i64 0)), (some (27, false)), [], false, false⟩,
                  ⟨(some 30), .pick (.tmp 27) (.const (.bool true)) (.tmp 29), none, [], false, false⟩])
               (.cond (.tmp 30) (.skip)
                (.exit 2)))
              (.seq (.block 3 (.seq (.region false [⟨(some 33), .move (.tmp 5), none, [], false, false⟩,
                    ⟨(some 34), .move (.tmp 6), none, [], false, false⟩,
                    ⟨(some 35), .move (.tmp 8), none, [], false, false⟩,
                    ⟨(some 36), .bin .add (.tmp 34) (.tmp 35), none, [], false, false⟩,
                    ⟨(some 37), .indexAddr none 1 (.tmp 33) (.tmp 36), none, [], false, false⟩,
                    ⟨(some 38), .load false 1 (.tmp 37), none, [], false, false⟩,
                    ⟨(some 39), .move (.tmp 7), none, [], false, false⟩,
                    ⟨(some 40), .bin .add (.tmp 38) (.tmp 39), none, [], false, false⟩,
                    ⟨(some 9), .move (.tmp 40), none, [], false, false⟩])
                 (.seq (.seq (.region false [⟨(some 41), .move (.tmp 8), none, [], false, false⟩,
                      ⟨(some 42), .move (.tmp 1), none, [], false, false⟩,
                      ⟨(some 43), .len false (.tmp 42), none, [], false, false⟩,
                      ⟨(some 44), .bin .lss (.tmp 41) (.tmp 43), none, [], false, false⟩])
                   (.cond (.tmp 44) (.region true [⟨(some 45), .move (.tmp 9), none, [], false, false⟩,
                       ⟨(some 46), .move (.tmp 0), none, [], false, false⟩,
                       ⟨(some 47), .move (.tmp 6), none, [], false, false⟩,
                       ⟨(some 48), .indexAddr none 1 (.tmp 46) (.tmp 47), none, [], false, false⟩,
                       ⟨(some 49), .load false 1 (.tmp 48), none, [], false, false⟩,
                       ⟨(some 50), .move (.tmp 1), none, [], false, false⟩,
                       ⟨(some 51), .move (.tmp 8), none, [], false, false⟩,
                       ⟨(some 52), .indexAddr none 1 (.tmp 50) (.tmp 51), none, [], false, false⟩,
                       ⟨(some 53), .load false 1 (.tmp 52), none, [], false, false⟩,
                       ⟨(some 54), .bin .mul (.tmp 49) (.tmp 53), none, [], false, false⟩,
                       ⟨(some 55), .bin .add (.tmp 45) (.tmp 54), none, [], false, false⟩,
                       ⟨(some 9), .move (.tmp 55), none, [], false, false⟩])
                    (.skip)))
                  (.region false [⟨(some 56), .move (.tmp 5), none, [], false, false⟩,
                     ⟨(some 57), .move (.tmp 6), none, [], false, false⟩,
                     ⟨(some 58), .move (.tmp 8), none, [], false, false⟩,
                     ⟨(some 59), .bin .add (.tmp 57) (.tmp 58), none, [], false, false⟩,
                     ⟨(some 60), .move (.tmp 9), none, [], false, false⟩,
                     ⟨(some 61), .bin .rem (.tmp 60) (.const (.int .i64 10000)), none, [], false, false⟩,
                     ⟨(some 62), .move (.tmp 9), none, [], false, false⟩,
                     ⟨(some 63), .bin .quo (.tmp 62) (.const (.int .i64 10000)), none, [], false, false⟩,
                     ⟨(some 64), .indexAddr none 1 (.tmp 56) (.tmp 59), none, [], false, false⟩,
                     ⟨none, .store 1 (.tmp 64) (.tmp 61), none, [], false, false⟩,
                     ⟨(some 7), .move (.tmp 63), none, [], false, false⟩]))))
               (.region false [⟨(some 31), .move (.tmp 8), none, [], false, false⟩,
                  ⟨(some 32), .bin .add (.tmp 31) (.const (.int .i64 1)), none, [], false, false⟩,
                  ⟨(some 8), .move (.tmp 32), none, [], false, false⟩]))))))))
        (.region false [⟨(some 21), .move (.tmp 6), none, [], false, false⟩,
           ⟨(some 22), .bin .add (.tmp 21) (.const (.int .i64 1)), none, [], false, false⟩,
           ⟨(some 6), .move (.tmp 22), none, [], false, false⟩]))))))
   (.seq (.block 4 (.loop (some [5]) (
      .seq (.seq (.region false [⟨(some 65), .move (.tmp 5), none, [], false, false⟩,
           ⟨(some 66), .len false (.tmp 65), none, [], false, false⟩,
           ⟨(some 67), .bin .gtr (.tmp 66) (.const (.int .i64 0)), none, [], false, false⟩,
           ⟨(some 68), .move (.tmp 67), none, [], false, false⟩,
           ⟨(some 69), .move (.tmp 5), (some (68, true)), [], false, false⟩,
           ⟨(some 70), .move (.tmp 5), (some (68, true)), [], false, false⟩,
           ⟨(some 71), .len false (.tmp 70), (some (68, true)), [], false, false⟩,
           ⟨(some 72), .bin .sub (.tmp 71) (.const (.int .i64 1)), (some (68, true)), [], false, false⟩,
           ⟨(some 73), .indexAddr none 1 (.tmp 69) (.tmp 72), (some (68, true)), [], false, false⟩,
           ⟨(some 74), .load false 1 (.tmp 73), (some (68, true)), [], false, false⟩,
           ⟨(some 75), .bin .eql (.tmp 74) (.const (.int .i64 0)), (some (68, true)), [], false, false⟩,
           ⟨(some 76), .pick (.tmp 68) (.tmp 75) (.const (.bool false)), none, [], false, false⟩])
        (.cond (.tmp 76) (.skip)
         (.exit 4)))
       (.block 5 (.region false [⟨(some 77), .move (.tmp 5), none, [], false, false⟩,
           ⟨(some 78), .move (.tmp 5), none, [], false, false⟩,
           ⟨(some 79), .len false (.tmp 78), none, [], false, false⟩,
           ⟨(some 80), .bin .sub (.tmp 79) (.const (.int .i64 1)), none, [], false, false⟩,
           ⟨(some 81), .slice 1 (.tmp 77) none (some (.tmp 80)), none, [], false, false⟩,
           ⟨(some 5), .move (.tmp 81), none, [], false, false⟩])))))
    (.seq (.region false [⟨(some 82), .move (.tmp 5), none, [], false, false⟩,
        ⟨(some 4), .move (.tmp 82), none, [], false, false⟩])
     (.ret))))),
 [.tmp 4], .pure, 83⟩

/-- agraffe/agrafferef01.pow -/
def ef88 : EFun := ⟨
 .seq (.region false [⟨(some 4), .move (.const (.slice none 0 0)), none, [], false, false⟩])
 (.seq (.region false [⟨(some 6), .buildSlice 1 1 [(.int .i64 0)] [(0, 1, (.const (.int .i64 1)))], none, [], false, false⟩,
     ⟨(some 5), .move (.tmp 6), none, [], false, false⟩])
  (.seq (.block 0 (.loop (some [0, 1, 5]) (
     .seq (.seq (.region false [⟨(some 7), .move (.tmp 1), none, [], false, false⟩,
          ⟨(some 8), .bin .gtr (.tmp 7) (.const (.int .i64 0)), none, [], false, false⟩])
       (.cond (.tmp 8) (.skip)
        (.exit 0)))
      (.block 1 (.seq (.seq (.region false [⟨(some 9), .move (.tmp 1), none, [], false, false⟩,
            ⟨(some 10), .bin .rem (.tmp 9) (.const (.int .i64 2)), none, [], false, false⟩,
            ⟨(some 11), .bin .eql (.tmp 10) (.const (.int .i64 1)), none, [], false, false⟩])
         (.cond (.tmp 11) (.region false [⟨(some 12), .move (.tmp 5), none, [], false, false⟩,
             ⟨(some 13), .move (.tmp 0), none, [], false, false⟩,
             ⟨(some 14), .call 87 [(.tmp 12), (.tmp 13)], none, [], false, false⟩,
             ⟨(some 5), .move (.tmp 14), none, [], false, false⟩])
          (.skip)))
        (.region false [⟨(some 15), .move (.tmp 0), none, [], false, false⟩,
           ⟨(some 16), .move (.tmp 0), none, [], false, false⟩,
           ⟨(some 17), .call 87 [(.tmp 15), (.tmp 16)], none, [], false, false⟩,
           ⟨(some 18), .move (.tmp 1), none, [], false, false⟩,
           ⟨(some 19), .bin .quo (.tmp 18) (.const (.int .i64 2)), none, [], false, false⟩,
           ⟨(some 0), .move (.tmp 17), none, [], false, false⟩,
           ⟨(some 1), .move (.tmp 19), none, [], false, false⟩]))))))
   (.seq (.region false [⟨(some 20), .move (.tmp 5), none, [], false, false⟩,
       ⟨(some 4), .move (.tmp 20), none, [], false, false⟩])
    (.ret)))),
 [.tmp 4], .pure, 21⟩

/-- agraffe/agrafferef01.of -/
def ef89 : EFun := ⟨
 .seq (.region false [⟨(some 2), .move (.const (.slice none 0 0)), none, [], false, false⟩])
 (.seq (.region false [⟨(some 3), .move (.const (.slice none 0 0)), none, [], false, false⟩])
  (.seq (.block 0 (.loop (some [0, 3]) (
     .seq (.seq (.region false [⟨(some 4), .move (.tmp 0), none, [], false, false⟩,
          ⟨(some 5), .bin .gtr (.tmp 4) (.const (.int .i64 0)), none, [], false, false⟩])
       (.cond (.tmp 5) (.skip)
        (.exit 0)))
      (.block 1 (.seq (.region false [⟨(some 6), .move (.tmp 3), none, [], false, false⟩,
           ⟨(some 7), .move (.tmp 0), none, [], false, false⟩,
           ⟨(some 8), .bin .rem (.tmp 7) (.const (.int .i64 10000)), none, [], false, false⟩,
           ⟨(some 9), .buildSlice 1 1 [(.int .i64 0)] [(0, 1, (.tmp 8))], none, [], false, false⟩,
           ⟨(some 10), .append 1 8 (.tmp 6) (.tmp 9), none, [], false, false⟩,
           ⟨(some 3), .move (.tmp 10), none, [], false, false⟩])
        (.region false [⟨(some 11), .move (.tmp 0), none, [], false, false⟩,
           ⟨(some 12), .bin .quo (.tmp 11) (.const (.int .i64 10000)), none, [], false, false⟩,
           ⟨(some 0), .move (.tmp 12), none, [], false, false⟩]))))))
   (.seq (.region false [⟨(some 13), .move (.tmp 3), none, [], false, false⟩,
       ⟨(some 2), .move (.tmp 13), none, [], false, false⟩])
    (.ret)))),
 [.tmp 2], .pure, 14⟩

/-- agraffe/agrafferef01.cmp -/
def ef90 : EFun := ⟨
 .seq (.region false [⟨(some 4), .move (.const (.int .i64 0)), none, [], false, false⟩])
 (.seq (.seq (.region false [⟨(some 6), .move (.tmp 0), none, [], false, false⟩,
      ⟨(some 7), .len false (.tmp 6), none, [], false, false⟩,
      ⟨(some 8), .move (.tmp 1), none, [], false, false⟩,
      ⟨(some 9), .len false (.tmp 8), none, [], false, false⟩,
      ⟨(some 10), .bin .neq (.tmp 7) (.tmp 9), none, [], false, false⟩])
   (.cond (.tmp 10) (.seq (.seq (.region false [⟨(some 11), .move (.tmp 0), none, [], false, false⟩,
         ⟨(some 12), .len false (.tmp 11), none, [], false, false⟩,
         ⟨(some 13), .move (.tmp 1), none, [], false, false⟩,
         ⟨(some 14), .len false (.tmp 13), none, [], false, false⟩,
         ⟨(some 15), .bin .lss (.tmp 12) (.tmp 14), none, [], false, false⟩])
      (.cond (.tmp 15) (.seq (.region false [⟨(some 4), .move (.const (.int .i64 (-1))), none, [], false, false⟩])
        (.ret))
       (.skip)))
     (.seq (.region false [⟨(some 4), .move (.const (.int .i64 1)), none, [], false, false⟩])
      (.ret)))
    (.skip)))
  (.seq (.seq (.region false [⟨(some 16), .move (.tmp 0), none, [], false, false⟩,
       ⟨(some 17), .len false (.tmp 16), none, [], false, false⟩,
       ⟨(some 18), .bin .sub (.tmp 17) (.const (.int .i64 1)), none, [], false, false⟩,
       ⟨(some 5), .move (.tmp 18), none, [], false, false⟩])
    (.block 0 (.loop (some [0, 1, 5]) (
      .seq (.seq (.region false [⟨(some 19), .move (.tmp 5), none, [], false, false⟩,
           ⟨(some 20), .bin .geq (.tmp 19) (.const (.int .i64 0)), none, [], false, false⟩])
        (.cond (.tmp 20) (.skip)
         (.exit 0)))
       (.seq (.block 1 (.seq (.seq (.region true [⟨(some 23), .move (.tmp 0), none, [], false, false⟩,
              ⟨(some 24), .move (.tmp 5), none, [], false, false⟩,
              ⟨(some 25), .indexAddr none 1 (.tmp 23) (.tmp 24), none, [], false, false⟩,
              ⟨(some 26), .load false 1 (.tmp 25), none, [], false, false⟩,
              ⟨(some 27), .move (.tmp 1), none, [], false, false⟩,
              ⟨(some 28), .move (.tmp 5), none, [], false, false⟩,
              ⟨(some 29), .indexAddr none 1 (.tmp 27) (.tmp 28), none, [], false, false⟩,
              ⟨(some 30), .load false 1 (.tmp 29), none, [], false, false⟩,
              ⟨(some 31), .bin .lss (.tmp 26) (.tmp 30), none, [], false, false⟩])
           (.cond (.tmp 31) (.seq (.region false [⟨(some 4), .move (.const (.int .i64 (-1))), none, [], false, false⟩])
             (.ret))
            (.skip)))
          (.seq (.region true [⟨(some 32), .move (.tmp 0), none, [], false, false⟩,
              ⟨(some 33), .move (.tmp 5), none, [], false, false⟩,
              ⟨(some 34), .indexAddr none 1 (.tmp 32) (.tmp 33), none, [], false, false⟩,
              ⟨(some 35), .load false 1 (.tmp 34), none, [], false, false⟩,
              ⟨(some 36), .move (.tmp 1), none, [], false, false⟩,
              ⟨(some 37), .move (.tmp 5), none, [], false, false⟩,
              ⟨(some 38), .indexAddr none 1 (.tmp 36) (.tmp 37), none, [], false, false⟩,
              ⟨(some 39), .load false 1 (.tmp 38), none, [], false, false⟩,
              ⟨(some 40), .bin .gtr (.tmp 35) (.tmp 39), none, [], false, false⟩])
           (.cond (.tmp 40) (.seq (.region false [⟨(some 4), .move (.const (.int .i64 1)), none, [], false, false⟩])
             (.ret))
            (.skip)))))
        (.region false [⟨(some 21), .move (.tmp 5), none, [], false, false⟩,
           ⟨(some 22), .bin .sub (.tmp 21) (.const (.int .i64 1)), none, [], false, false⟩,
           ⟨(some 5), .move (.tmp 22), none, [], false, false⟩]))))))
   (.seq (.region false [⟨(some 4), .move (.const (.int .i64 0)), none, [], false, false⟩])
    (.ret)))),
 [.tmp 4], .pure, 41⟩

/-- agraffe/number.checkDots -/
def ef91 : EFun := ⟨
 .seq (.region false [⟨(some 2), .move (.const (.int .i64 0)), none, [], false, false⟩])
 (.seq (.seq (.region false [⟨(some 5), .move (.tmp 0), none, [], false, false⟩,
      ⟨(some 6), .len false (.tmp 5), none, [], false, false⟩,
      ⟨(some 7), .call 77 [(.tmp 6), (.const (.int .i64 3)), (.const (.int .i64 60))], none, [], false, false⟩,
      ⟨(some 8), .un .not (.tmp 7), none, [], false, false⟩])
   (.cond (.tmp 8) (.seq (.region false [⟨(some 2), .move (.const (.int .i64 10)), none, [], false, false⟩])
     (.ret))
    (.skip)))
  (.seq (.seq (.region false [⟨(some 9), .move (.tmp 0), none, [], false, false⟩,
       ⟨(some 10), .len false (.tmp 9), none, [], false, false⟩,
       ⟨(some 11), .move (.const (.int .i64 0)), none, [], false, false⟩])
    (.block 0 (.loop (some [0, 9, 10, 11]) (
      .seq (.region false [⟨(some 12), .bin .lss (.tmp 11) (.tmp 10), none, [], false, false⟩])
       (.seq (.cond (.tmp 12) (.skip)
         (.exit 0))
        (.seq (.block 1 (.seq (.region false [⟨(some 13), .move (.tmp 11), none, [], false, false⟩,
              ⟨(some 14), .indexAddr none 2 (.tmp 9) (.tmp 11), none, [], false, false⟩,
              ⟨(some 15), .load true 2 (.tmp 14), none, [], false, false⟩,
              ⟨(some 4), .push [(.int .i64 0), (.int .i64 0)], none, [], false, false⟩,
              ⟨(some 3), .move (.tmp 13), none, [], false, false⟩,
              ⟨none, .store 2 (.tmp 4) (.tmp 15), none, [], false, false⟩])
           (.block 2 (.seq (.region false [⟨(some 17), .fieldAddr 0 (.tmp 4), none, [], false, false⟩,
                ⟨(some 18), .load false 1 (.tmp 17), none, [], false, false⟩,
                ⟨(some 19), .call 77 [(.tmp 18), (.const (.int .i64 (-10000))), (.const (.int .i64 10000))], none, [], false, false⟩,
                ⟨(some 20), .un .not (.tmp 19), none, [], false, false⟩,
                ⟨(some 21), .move (.tmp 20), none, [], false, false⟩,
                ⟨(some 22), .fieldAddr 1 (.tmp 4), (some (21, false)), [], false, false⟩,
                ⟨(some 23), .load false 1 (.tmp 22), (some (21, false)), [], false, false⟩,
                ⟨(some 24), .call 77 [(.tmp 23), (.const (.int .i64 (-10000))), (.const (.int .i64 10000))], (some (21, false)), [], false, false⟩,
                ⟨(some 25), .un .not (.tmp 24), (some (21, false)), [], false, false⟩,
                ⟨(some 26), .pick (.tmp 21) (.const (.bool true)) (.tmp 25), none, [], false, false⟩,
                ⟨(some 16), .move (.tmp 26), none, [], false, false⟩])
             (.cond (.tmp 16) (.seq (.region false [⟨(some 2), .move (.const (.int .i64 2)), none, [], false, false⟩])
               (.ret))
              (.seq (.region true [⟨(some 28), .move (.tmp 3), none, [], false, false⟩,
                  ⟨(some 29), .bin .gtr (.tmp 28) (.const (.int .i64 0)), none, [], false, false⟩,
                  ⟨(some 30), .move (.tmp 29), none, [], false, false⟩,
                  ⟨(some 31), .fieldAddr 0 (.tmp 4), (some (30, true)), [], false, false⟩,
                  ⟨(some 32), .load false 1 (.tmp 31), (some (30, true)), [], false, false⟩,
                  ⟨(some 33), .move (.tmp 0), (some (30, true)), [], false, false⟩,
                  ⟨(some 34), .move (.tmp 3), (some (30, true)), [], false, false⟩,
                  ⟨(some 35), .bin .sub (.tmp 34) (.const (.int .i64 1)), (some (30, true)), [], false, false⟩,
                  ⟨(some 36), .indexAddr none 2 (.tmp 33) (.tmp 35), (some (30, true)), [], false, false⟩,
                  ⟨(some 37), .fieldAddr 0 (.tmp 36), (some (30, true)), [], false, false⟩,
                  ⟨(some 38), .load false 1 (.tmp 37), (some (30, true)), [], false, false⟩,
                  ⟨(some 39), .bin .leq (.tmp 32) (.tmp 38), (some (30, true)), [], false, false⟩,
                  ⟨(some 40), .pick (.tmp 30) (.tmp 39) (.const (.bool false)), none, [], false, false⟩,
                  ⟨(some 27), .move (.tmp 40), none, [], false, false⟩])
               (.cond (.tmp 27) (.seq (.region false [⟨(some 2), .move (.const (.int .i64 9)), none, [], false, false⟩])
                 (.ret))
                (.skip))))))))
         (.region false [⟨(some 41), .bin .add (.tmp 11) (.const (.int .i64 1)), none, [], false, false⟩,
            ⟨(some 11), .move (.tmp 41), none, [], false, false⟩])))))))
   (.seq (.region false [⟨(some 2), .move (.const (.int .i64 0)), none, [], false, false⟩])
    (.ret)))),
 [.tmp 2], .pure, 42⟩

/-- agraffe/number.tripleOf -/
def ef92 : EFun := ⟨
 .seq (.region false [⟨(some 8), .push [(.int .i64 0), (.int .i64 0), (.int .i64 0), (.int .i64 0), (.int .i64 0)], none, [], false, false⟩])
 (.seq (.region true [⟨(some 13), .move (.tmp 0), none, [], false, false⟩,
     ⟨(some 14), .move (.tmp 1), none, [], false, false⟩,
     ⟨(some 15), .indexAddr none 2 (.tmp 13) (.tmp 14), none, [], false, false⟩,
     ⟨(some 16), .load true 2 (.tmp 15), none, [], false, false⟩,
     ⟨(some 17), .move (.tmp 0), none, [], false, false⟩,
     ⟨(some 18), .move (.tmp 2), none, [], false, false⟩,
     ⟨(some 19), .indexAddr none 2 (.tmp 17) (.tmp 18), none, [], false, false⟩,
     ⟨(some 20), .load true 2 (.tmp 19), none, [], true, false⟩,
     ⟨(some 21), .move (.tmp 0), none, [], false, false⟩,
     ⟨(some 22), .move (.tmp 3), none, [], false, false⟩,
     ⟨(some 23), .indexAddr none 2 (.tmp 21) (.tmp 22), none, [], false, false⟩,
     ⟨(some 24), .load true 2 (.tmp 23), none, [], true, false⟩,
     ⟨(some 9), .push [(.int .i64 0), (.int .i64 0)], none, [], false, false⟩,
     ⟨(some 10), .push [(.int .i64 0), (.int .i64 0)], none, [], false, false⟩,
     ⟨(some 11), .push [(.int .i64 0), (.int .i64 0)], none, [], false, false⟩,
     ⟨none, .store 2 (.tmp 9) (.tmp 16), none, [7, 11], false, false⟩,
     ⟨none, .store 2 (.tmp 10) (.tmp 20), none, [11], false, false⟩,
     ⟨none, .store 2 (.tmp 11) (.tmp 24), none, [], false, false⟩])
  (.seq (.region false [⟨(some 25), .fieldAddr 0 (.tmp 11), none, [], false, false⟩,
      ⟨(some 26), .load false 1 (.tmp 25), none, [], false, false⟩,
      ⟨(some 27), .fieldAddr 0 (.tmp 9), none, [], false, false⟩,
      ⟨(some 28), .load false 1 (.tmp 27), none, [], false, false⟩,
      ⟨(some 29), .bin .sub (.tmp 26) (.tmp 28), none, [], false, false⟩,
      ⟨(some 12), .move (.tmp 29), none, [], false, false⟩])
   (.seq (.region false [⟨(some 30), .move (.tmp 1), none, [], false, false⟩,
       ⟨(some 31), .move (.tmp 2), none, [], false, false⟩,
       ⟨(some 32), .move (.tmp 3), none, [], false, false⟩,
       ⟨(some 33), .build [(.int .i64 0), (.int .i64 0), (.int .i64 0)] [(0, 1, (.tmp 30)), (1, 1, (.tmp 31)), (2, 1, (.tmp 32))], none, [], false, false⟩,
       ⟨(some 34), .fieldAddr 1 (.tmp 9), none, [], false, false⟩,
       ⟨(some 35), .load false 1 (.tmp 34), none, [], false, false⟩,
       ⟨(some 36), .fieldAddr 1 (.tmp 10), none, [], false, false⟩,
       ⟨(some 37), .load false 1 (.tmp 36), none, [], false, false⟩,
       ⟨(some 38), .bin .sub (.tmp 35) (.tmp 37), none, [], false, false⟩,
       ⟨(some 39), .move (.tmp 12), none, [], false, false⟩,
       ⟨(some 40), .bin .mul (.tmp 38) (.tmp 39), none, [], false, false⟩,
       ⟨(some 41), .fieldAddr 1 (.tmp 11), none, [], false, false⟩,
       ⟨(some 42), .load false 1 (.tmp 41), none, [], false, false⟩,
       ⟨(some 43), .fieldAddr 1 (.tmp 9), none, [], false, false⟩,
       ⟨(some 44), .load false 1 (.tmp 43), none, [], false, false⟩,
       ⟨(some 45), .bin .sub (.tmp 42) (.tmp 44), none, [], false, false⟩,
       ⟨(some 46), .fieldAddr 0 (.tmp 10), none, [], false, false⟩,
       ⟨(some 47), .load false 1 (.tmp 46), none, [], false, false⟩,
       ⟨(some 48), .fieldAddr 0 (.tmp 9), none, [], false, false⟩,
       ⟨(some 49), .load false 1 (.tmp 48), none, [], false, false⟩,
       ⟨(some 50), .bin .sub (.tmp 47) (.tmp 49), none, [], false, false⟩,
       ⟨(some 51), .bin .mul (.tmp 45) (.tmp 50), none, [], false, false⟩,
       ⟨(some 52), .bin .add (.tmp 40) (.tmp 51), none, [], false, false⟩,
       ⟨(some 53), .move (.tmp 12), none, [], false, false⟩,
       ⟨(some 54), .build [(.int .i64 0), (.int .i64 0), (.int .i64 0), (.int .i64 0), (.int .i64 0)] [(0, 3, (.tmp 33)), (3, 1, (.tmp 52)), (4, 1, (.tmp 53))], none, [], false, false⟩,
       ⟨none, .store 5 (.tmp 8) (.tmp 54), none, [], false, false⟩])
    (.ret)))),
 [.cell 8 true 5], .pure, 55⟩

/-- (agraffe/number.triple).flatter -/
def ef93 : EFun := ⟨
 .seq (.region false [⟨(some 2), .box (.tmp 0), none, [], false, false⟩,
    ⟨(some 3), .box (.tmp 1), none, [], false, false⟩,
    ⟨(some 4), .move (.const (.bool false)), none, [], false, false⟩])
 (.seq (.region true [⟨(some 5), .load true 5 (.tmp 2), none, [], false, false⟩,
     ⟨(some 6), .call 95 [(.tmp 5)], none, [], false, true⟩,
     ⟨(some 7), .fieldAddr 4 (.tmp 3), none, [], false, false⟩,
     ⟨(some 8), .load false 1 (.tmp 7), none, [], false, false⟩,
     ⟨(some 9), .bin .mul (.tmp 6) (.tmp 8), none, [], false, false⟩,
     ⟨(some 10), .load true 5 (.tmp 3), none, [], false, false⟩,
     ⟨(some 11), .call 95 [(.tmp 10)], none, [], false, true⟩,
     ⟨(some 12), .fieldAddr 4 (.tmp 2), none, [], false, false⟩,
     ⟨(some 13), .load false 1 (.tmp 12), none, [], false, false⟩,
     ⟨(some 14), .bin .mul (.tmp 11) (.tmp 13), none, [], false, false⟩,
     ⟨(some 15), .bin .lss (.tmp 9) (.tmp 14), none, [], false, false⟩,
     ⟨(some 4), .move (.tmp 15), none, [], false, false⟩])
  (.ret)),
 [.tmp 4], .pure, 16⟩

/-- agraffe/number.lowest -/
def ef94 : EFun := ⟨
 .seq (.region false [⟨(some 4), .push [(.int .i64 0), (.int .i64 0)], none, [], false, false⟩])
 (.seq (.region false [⟨(some 6), .move (.tmp 0), none, [], false, false⟩,
     ⟨(some 7), .move (.tmp 1), none, [], false, false⟩,
     ⟨(some 8), .call 120 [(.tmp 6), (.tmp 7)], none, [], false, false⟩,
     ⟨(some 5), .move (.tmp 8), none, [], false, false⟩])
  (.seq (.region true [⟨(some 9), .move (.tmp 0), none, [], false, false⟩,
      ⟨(some 10), .move (.tmp 5), none, [], false, false⟩,
      ⟨(some 11), .bin .quo (.tmp 9) (.tmp 10), none, [], false, false⟩,
      ⟨(some 12), .move (.tmp 1), none, [], false, false⟩,
      ⟨(some 13), .move (.tmp 5), none, [], false, false⟩,
      ⟨(some 14), .bin .quo (.tmp 12) (.tmp 13), none, [], false, false⟩,
      ⟨(some 15), .build [(.int .i64 0), (.int .i64 0)] [(0, 1, (.tmp 11)), (1, 1, (.tmp 14))], none, [], false, false⟩,
      ⟨none, .store 2 (.tmp 4) (.tmp 15), none, [], false, false⟩])
   (.ret))),
 [.cell 4 true 2], .pure, 16⟩

/-- (agraffe/number.triple).size -/
def ef95 : EFun := ⟨
 .seq (.region false [⟨(some 1), .box (.tmp 0), none, [], false, false⟩,
    ⟨(some 2), .move (.const (.int .i64 0)), none, [], false, false⟩])
 (.seq (.region false [⟨(some 3), .fieldAddr 3 (.tmp 1), none, [], false, false⟩,
     ⟨(some 4), .load false 1 (.tmp 3), none, [], false, false⟩,
     ⟨(some 5), .fieldAddr 3 (.tmp 1), none, [], false, false⟩,
     ⟨(some 6), .load false 1 (.tmp 5), none, [], false, false⟩,
     ⟨(some 7), .un .neg (.tmp 6), none, [], false, false⟩,
     ⟨(some 8), .max [(.tmp 4), (.tmp 7)], none, [], false, false⟩,
     ⟨(some 2), .move (.tmp 8), none, [], false, false⟩])
  (.ret)),
 [.tmp 2], .pure, 9⟩

/-- agraffe/number.checkRanges -/
def ef96 : EFun := ⟨
 .seq (.region false [⟨(some 2), .box (.tmp 0), none, [], false, false⟩,
    ⟨(some 3), .box (.tmp 1), none, [], false, false⟩,
    ⟨(some 4), .move (.const (.int .i64 0)), none, [], false, false⟩])
 (.seq (.seq (.region false [⟨(some 6), .load true 2 (.tmp 2), none, [], false, false⟩,
      ⟨(some 7), .call 29 [(.tmp 6)], none, [], false, false⟩,
      ⟨(some 5), .move (.tmp 7), none, [], false, false⟩])
   (.seq (.region false [⟨(some 8), .move (.tmp 5), none, [], false, false⟩,
       ⟨(some 9), .bin .neq (.tmp 8) (.const (.int .i64 0)), none, [], false, false⟩])
    (.cond (.tmp 9) (.seq (.region false [⟨(some 10), .move (.tmp 5), none, [], false, false⟩,
         ⟨(some 4), .move (.tmp 10), none, [], false, false⟩])
      (.ret))
     (.skip))))
  (.seq (.region false [⟨(some 11), .load true 2 (.tmp 3), none, [], false, false⟩,
      ⟨(some 12), .call 29 [(.tmp 11)], none, [], false, false⟩,
      ⟨(some 4), .move (.tmp 12), none, [], false, false⟩])
   (.ret))),
 [.tmp 4], .pure, 13⟩

/-- agraffe/number.relax -/
def ef97 : EFun := ⟨
 .seq (.region false [⟨(some 6), .move (.const (.int .i64 0)), none, [], false, false⟩])
 (.seq (.region false [⟨(some 7), .move (.const (.int .i64 (-1))), none, [], false, false⟩])
  (.seq (.seq (.region false [⟨(some 11), .move (.tmp 0), none, [], false, false⟩,
       ⟨(some 12), .len false (.tmp 11), none, [], false, false⟩,
       ⟨(some 13), .move (.const (.int .i64 0)), none, [], false, false⟩])
    (.block 0 (.loop (some [1, 2, 7, 11, 12, 13]) (
      .seq (.region false [⟨(some 14), .bin .lss (.tmp 13) (.tmp 12), none, [], false, false⟩])
       (.seq (.cond (.tmp 14) (.skip)
         (.exit 0))
        (.seq (.block 1 (.seq (.region false [⟨(some 15), .move (.tmp 13), none, [], false, false⟩,
              ⟨(some 16), .indexAddr none 3 (.tmp 11) (.tmp 13), none, [], false, false⟩,
              ⟨(some 17), .load true 3 (.tmp 16), none, [], false, false⟩,
              ⟨(some 9), .push [(.int .i64 0), (.int .i64 0), (.int .i64 0)], none, [], false, false⟩,
              ⟨(some 8), .move (.tmp 15), none, [], false, false⟩,
              ⟨none, .store 3 (.tmp 9) (.tmp 17), none, [], false, false⟩])
           (.seq (.region true [⟨(some 18), .move (.tmp 1), none, [], false, false⟩,
               ⟨(some 19), .fieldAddr 0 (.tmp 9), none, [], false, false⟩,
               ⟨(some 20), .load false 1 (.tmp 19), none, [], false, false⟩,
               ⟨(some 21), .indexAddr none 1 (.tmp 18) (.tmp 20), none, [], false, false⟩,
               ⟨(some 22), .load false 1 (.tmp 21), none, [], false, false⟩,
               ⟨(some 23), .fieldAddr 2 (.tmp 9), none, [], false, false⟩,
               ⟨(some 24), .load false 1 (.tmp 23), none, [], false, false⟩,
               ⟨(some 25), .bin .add (.tmp 22) (.tmp 24), none, [], false, false⟩,
               ⟨(some 10), .move (.tmp 25), none, [], false, false⟩])
            (.seq (.region false [⟨(some 26), .move (.tmp 10), none, [], false, false⟩,
                ⟨(some 27), .move (.tmp 1), none, [], false, false⟩,
                ⟨(some 28), .fieldAddr 1 (.tmp 9), none, [], false, false⟩,
                ⟨(some 29), .load false 1 (.tmp 28), none, [], false, false⟩,
                ⟨(some 30), .indexAddr none 1 (.tmp 27) (.tmp 29), none, [], false, false⟩,
                ⟨(some 31), .load false 1 (.tmp 30), none, [], false, false⟩,
                ⟨(some 32), .bin .lss (.tmp 26) (.tmp 31), none, [], false, false⟩])
             (.cond (.tmp 32) (.seq (.region true [⟨(some 33), .move (.tmp 1), none, [], false, false⟩,
                  ⟨(some 34), .fieldAddr 1 (.tmp 9), none, [], false, false⟩,
                  ⟨(some 35), .load false 1 (.tmp 34), none, [], false, false⟩,
                  ⟨(some 36), .move (.tmp 2), none, [], false, false⟩,
                  ⟨(some 37), .fieldAddr 1 (.tmp 9), none, [], false, false⟩,
                  ⟨(some 38), .load false 1 (.tmp 37), none, [], true, false⟩,
                  ⟨(some 39), .move (.tmp 10), none, [], false, false⟩,
                  ⟨(some 40), .move (.tmp 8), none, [], false, false⟩,
                  ⟨(some 41), .indexAddr none 1 (.tmp 33) (.tmp 35), none, [], false, false⟩,
                  ⟨none, .store 1 (.tmp 41) (.tmp 39), none, [5], false, false⟩,
                  ⟨(some 42), .indexAddr none 1 (.tmp 36) (.tmp 38), none, [], false, false⟩,
                  ⟨none, .store 1 (.tmp 42) (.tmp 40), none, [], false, false⟩])
               (.region false [⟨(some 43), .fieldAddr 1 (.tmp 9), none, [], false, false⟩,
                  ⟨(some 44), .load false 1 (.tmp 43), none, [], false, false⟩,
                  ⟨(some 7), .move (.tmp 44), none, [], false, false⟩]))
              (.skip))))))
         (.region false [⟨(some 45), .bin .add (.tmp 13) (.const (.int .i64 1)), none, [], false, false⟩,
            ⟨(some 13), .move (.tmp 45), none, [], false, false⟩])))))))
   (.seq (.region false [⟨(some 46), .move (.tmp 7), none, [], false, false⟩,
       ⟨(some 6), .move (.tmp 46), none, [], false, false⟩])
    (.ret)))),
 [.tmp 6], .trunc, 47⟩

/-- slices.Reverse[[]int,int] -/
def ef98 : EFun := ⟨
 .seq (.region false [⟨(some 4), .move (.tmp 0), none, [], false, false⟩,
    ⟨(some 5), .len false (.tmp 4), none, [], false, false⟩,
    ⟨(some 6), .bin .sub (.tmp 5) (.const (.int .i64 1)), none, [], false, false⟩,
    ⟨(some 2), .move (.const (.int .i64 0)), none, [], false, false⟩,
    ⟨(some 3), .move (.tmp 6), none, [], false, false⟩])
 (.block 0 (.loop (some [0, 2, 3]) (
   .seq (.seq (.region false [⟨(some 7), .move (.tmp 2), none, [], false, false⟩,
        ⟨(some 8), .move (.tmp 3), none, [], false, false⟩,
        ⟨(some 9), .bin .lss (.tmp 7) (.tmp 8), none, [], false, false⟩])
     (.cond (.tmp 9) (.skip)
      (.exit 0)))
    (.seq (.block 1 (.region true [⟨(some 14), .move (.tmp 0), none, [], false, false⟩,
         ⟨(some 15), .move (.tmp 2), none, [], false, false⟩,
         ⟨(some 16), .move (.tmp 0), none, [], false, false⟩,
         ⟨(some 17), .move (.tmp 3), none, [], false, false⟩,
         ⟨(some 18), .move (.tmp 0), none, [], false, false⟩,
         ⟨(some 19), .move (.tmp 3), none, [], false, false⟩,
         ⟨(some 20), .indexAddr none 1 (.tmp 18) (.tmp 19), none, [], false, false⟩,
         ⟨(some 21), .load false 1 (.tmp 20), none, [], false, false⟩,
         ⟨(some 22), .move (.tmp 0), none, [], false, false⟩,
         ⟨(some 23), .move (.tmp 2), none, [], false, false⟩,
         ⟨(some 24), .indexAddr none 1 (.tmp 22) (.tmp 23), none, [], false, false⟩,
         ⟨(some 25), .load false 1 (.tmp 24), none, [], false, false⟩,
         ⟨(some 26), .indexAddr none 1 (.tmp 14) (.tmp 15), none, [], false, false⟩,
         ⟨none, .store 1 (.tmp 26) (.tmp 21), none, [], false, false⟩,
         ⟨(some 27), .indexAddr none 1 (.tmp 16) (.tmp 17), none, [], false, false⟩,
         ⟨none, .store 1 (.tmp 27) (.tmp 25), none, [], false, false⟩]))
     (.region false [⟨(some 10), .move (.tmp 2), none, [], false, false⟩,
        ⟨(some 11), .bin .add (.tmp 10) (.const (.int .i64 1)), none, [], false, false⟩,
        ⟨(some 12), .move (.tmp 3), none, [], false, false⟩,
        ⟨(some 13), .bin .sub (.tmp 12) (.const (.int .i64 1)), none, [], false, false⟩,
        ⟨(some 2), .move (.tmp 11), none, [], false, false⟩,
        ⟨(some 3), .move (.tmp 13), none, [], false, false⟩]))))),
 [], .pure, 28⟩

/-- agraffe/agraffebase.Mod -/
def ef99 : EFun := ⟨
 .seq (.region false [⟨(some 4), .move (.const (.int .i64 0)), none, [], false, false⟩])
 (.seq (.region false [⟨(some 6), .move (.tmp 0), none, [], false, false⟩,
     ⟨(some 7), .move (.tmp 1), none, [], false, false⟩,
     ⟨(some 8), .bin .rem (.tmp 6) (.tmp 7), none, [], false, false⟩,
     ⟨(some 5), .move (.tmp 8), none, [], false, false⟩])
  (.seq (.seq (.region false [⟨(some 9), .move (.tmp 5), none, [], false, false⟩,
       ⟨(some 10), .bin .lss (.tmp 9) (.const (.int .i64 0)), none, [], false, false⟩])
    (.cond (.tmp 10) (.region false [⟨(some 11), .move (.tmp 5), none, [], false, false⟩,
        ⟨(some 12), .move (.tmp 1), none, [], false, false⟩,
        ⟨(some 13), .bin .add (.tmp 11) (.tmp 12), none, [], false, false⟩,
        ⟨(some 5), .move (.tmp 13), none, [], false, false⟩])
     (.skip)))
   (.seq (.region false [⟨(some 14), .move (.tmp 5), none, [], false, false⟩,
       ⟨(some 4), .move (.tmp 14), none, [], false, false⟩])
    (.ret)))),
 [.tmp 4], .pure, 15⟩

/-- agraffe/number.fitting -/
def ef100 : EFun := ⟨
 .seq (.region false [⟨(some 1), .box (.tmp 0), none, [], false, false⟩,
    ⟨(some 2), .push [(.int .i64 0), (.int .i64 0), (.int .i64 0), (.int .i64 0)], none, [], false, false⟩,
    ⟨(some 3), .move (.const (.int .i64 0)), none, [], false, false⟩])
 (.seq (.region false [⟨(some 4), .load true 4 (.tmp 1), none, [], false, false⟩,
     ⟨(some 5), .call 78 [(.tmp 4)], none, [], false, false⟩,
     ⟨none, .store 4 (.tmp 1) (.tmp 5), none, [], false, false⟩])
  (.seq (.seq (.region false [⟨(some 6), .load true 4 (.tmp 1), none, [], false, false⟩,
       ⟨(some 7), .call 51 [(.tmp 6)], none, [], false, false⟩,
       ⟨(some 8), .bin .neq (.tmp 7) (.const (.int .i64 0)), none, [], false, false⟩])
    (.cond (.tmp 8) (.seq (.region false [⟨(some 9), .build [(.int .i64 0), (.int .i64 0), (.int .i64 0), (.int .i64 0)] [], none, [], false, false⟩,
         ⟨none, .store 4 (.tmp 2) (.tmp 9), none, [], false, false⟩,
         ⟨(some 3), .move (.const (.int .i64 8)), none, [], false, false⟩])
      (.ret))
     (.skip)))
   (.seq (.region false [⟨(some 10), .load true 4 (.tmp 1), none, [], false, false⟩,
       ⟨none, .store 4 (.tmp 2) (.tmp 10), none, [], false, false⟩,
       ⟨(some 3), .move (.const (.int .i64 0)), none, [], false, false⟩])
    (.ret)))),
 [.cell 2 true 4, .tmp 3], .pure, 11⟩

/-- agraffe/agraffebase.IsLowest -/
def ef101 : EFun := ⟨
 .seq (.region false [⟨(some 1), .box (.tmp 0), none, [], false, false⟩,
    ⟨(some 2), .move (.const (.bool false)), none, [], false, false⟩])
 (.seq (.region false [⟨(some 3), .fieldAddr 1 (.tmp 1), none, [], false, false⟩,
     ⟨(some 4), .load false 1 (.tmp 3), none, [], false, false⟩,
     ⟨(some 5), .bin .gtr (.tmp 4) (.const (.int .i64 0)), none, [], false, false⟩,
     ⟨(some 6), .move (.tmp 5), none, [], false, false⟩,
     ⟨(some 7), .fieldAddr 0 (.tmp 1), (some (6, true)), [], false, false⟩,
     ⟨(some 8), .load false 1 (.tmp 7), (some (6, true)), [], false, false⟩,
     ⟨(some 9), .fieldAddr 1 (.tmp 1), (some (6, true)), [], false, false⟩,
     ⟨(some 10), .load false 1 (.tmp 9), (some (6, true)), [], false, false⟩,
     ⟨(some 11), .call 111 [(.tmp 8), (.tmp 10)], (some (6, true)), [], false, false⟩,
     ⟨(some 12), .bin .eql (.tmp 11) (.const (.int .i64 1)), (some (6, true)), [], false, false⟩,
     ⟨(some 13), .pick (.tmp 6) (.tmp 12) (.const (.bool false)), none, [], false, false⟩,
     ⟨(some 2), .move (.tmp 13), none, [], false, false⟩])
  (.ret)),
 [.tmp 2], .pure, 14⟩

/-- agraffe/agrafferef01.valid -/
def ef102 : EFun := ⟨
 .seq (.region false [⟨(some 1), .box (.tmp 0), none, [], false, false⟩,
    ⟨(some 2), .push [(.int .i64 0), (.int .i64 0), (.int .i64 0), (.int .i64 0)], none, [], false, false⟩,
    ⟨(some 3), .move (.const (.int .i64 0)), none, [], false, false⟩])
 (.seq (.region false [⟨(some 4), .load true 4 (.tmp 1), none, [], false, false⟩,
     ⟨(some 5), .call 52 [(.tmp 4)], none, [], false, false⟩,
     ⟨none, .store 4 (.tmp 1) (.tmp 5), none, [], false, false⟩])
  (.seq (.seq (.region false [⟨(some 6), .load true 4 (.tmp 1), none, [], false, false⟩,
       ⟨(some 7), .call 85 [(.tmp 6)], none, [], false, false⟩,
       ⟨(some 8), .un .not (.tmp 7), none, [], false, false⟩])
    (.cond (.tmp 8) (.seq (.region false [⟨(some 9), .build [(.int .i64 0), (.int .i64 0), (.int .i64 0), (.int .i64 0)] [], none, [], false, false⟩,
         ⟨none, .store 4 (.tmp 2) (.tmp 9), none, [], false, false⟩,
         ⟨(some 3), .move (.const (.int .i64 8)), none, [], false, false⟩])
      (.ret))
     (.skip)))
   (.seq (.region false [⟨(some 10), .load true 4 (.tmp 1), none, [], false, false⟩,
       ⟨none, .store 4 (.tmp 2) (.tmp 10), none, [], false, false⟩,
       ⟨(some 3), .move (.const (.int .i64 0)), none, [], false, false⟩])
    (.ret)))),
 [.cell 2 true 4, .tmp 3], .pure, 11⟩

/-- agraffe/number.floor -/
def ef103 : EFun := ⟨
 .seq (.region false [⟨(some 4), .move (.const (.int .i64 0)), none, [], false, false⟩])
 (.seq (.region false [⟨(some 6), .move (.tmp 0), none, [], false, false⟩,
     ⟨(some 7), .move (.tmp 1), none, [], false, false⟩,
     ⟨(some 8), .bin .quo (.tmp 6) (.tmp 7), none, [], false, false⟩,
     ⟨(some 5), .move (.tmp 8), none, [], false, false⟩])
  (.seq (.seq (.region false [⟨(some 9), .move (.tmp 0), none, [], false, false⟩,
       ⟨(some 10), .move (.tmp 1), none, [], false, false⟩,
       ⟨(some 11), .bin .rem (.tmp 9) (.tmp 10), none, [], false, false⟩,
       ⟨(some 12), .bin .lss (.tmp 11) (.const (.int .i64 0)), none, [], false, false⟩])
    (.cond (.tmp 12) (.region false [⟨(some 13), .move (.tmp 5), none, [], false, false⟩,
        ⟨(some 14), .bin .sub (.tmp 13) (.const (.int .i64 1)), none, [], false, false⟩,
        ⟨(some 5), .move (.tmp 14), none, [], false, false⟩])
     (.skip)))
   (.seq (.region false [⟨(some 15), .move (.tmp 5), none, [], false, false⟩,
       ⟨(some 4), .move (.tmp 15), none, [], false, false⟩])
    (.ret)))),
 [.tmp 4], .pure, 16⟩

/-- agraffe/number.ceil -/
def ef104 : EFun := ⟨
 .seq (.region false [⟨(some 4), .move (.const (.int .i64 0)), none, [], false, false⟩])
 (.seq (.region false [⟨(some 5), .move (.tmp 0), none, [], false, false⟩,
     ⟨(some 6), .un .neg (.tmp 5), none, [], false, false⟩,
     ⟨(some 7), .move (.tmp 1), none, [], false, false⟩,
     ⟨(some 8), .call 103 [(.tmp 6), (.tmp 7)], none, [], false, false⟩,
     ⟨(some 9), .un .neg (.tmp 8), none, [], false, false⟩,
     ⟨(some 4), .move (.tmp 9), none, [], false, false⟩])
  (.ret)),
 [.tmp 4], .pure, 10⟩

/-- agraffe/agraffebase.Floor -/
def ef105 : EFun := ⟨
 .seq (.region false [⟨(some 4), .move (.const (.int .i64 0)), none, [], false, false⟩])
 (.seq (.region false [⟨(some 6), .move (.tmp 0), none, [], false, false⟩,
     ⟨(some 7), .move (.tmp 1), none, [], false, false⟩,
     ⟨(some 8), .bin .quo (.tmp 6) (.tmp 7), none, [], false, false⟩,
     ⟨(some 5), .move (.tmp 8), none, [], false, false⟩])
  (.seq (.seq (.region false [⟨(some 9), .move (.tmp 0), none, [], false, false⟩,
       ⟨(some 10), .move (.tmp 1), none, [], false, false⟩,
       ⟨(some 11), .bin .rem (.tmp 9) (.tmp 10), none, [], false, false⟩,
       ⟨(some 12), .bin .lss (.tmp 11) (.const (.int .i64 0)), none, [], false, false⟩])
    (.cond (.tmp 12) (.region false [⟨(some 13), .move (.tmp 5), none, [], false, false⟩,
        ⟨(some 14), .bin .sub (.tmp 13) (.const (.int .i64 1)), none, [], false, false⟩,
        ⟨(some 5), .move (.tmp 14), none, [], false, false⟩])
     (.skip)))
   (.seq (.region false [⟨(some 15), .move (.tmp 5), none, [], false, false⟩,
       ⟨(some 4), .move (.tmp 15), none, [], false, false⟩])
    (.ret)))),
 [.tmp 4], .pure, 16⟩

/-- agraffe/agraffebase.Ceil -/
def ef106 : EFun := ⟨
 .seq (.region false [⟨(some 4), .move (.const (.int .i64 0)), none, [], false, false⟩])
 (.seq (.region false [⟨(some 5), .move (.tmp 0), none, [], false, false⟩,
     ⟨(some 6), .un .neg (.tmp 5), none, [], false, false⟩,
     ⟨(some 7), .move (.tmp 1), none, [], false, false⟩,
     ⟨(some 8), .call 105 [(.tmp 6), (.tmp 7)], none, [], false, false⟩,
     ⟨(some 9), .un .neg (.tmp 8), none, [], false, false⟩,
     ⟨(some 4), .move (.tmp 9), none, [], false, false⟩])
  (.ret)),
 [.tmp 4], .pure, 10⟩

/-- agraffe/number.powerAtMost -/
def ef107 : EFun := ⟨
 .seq (.region false [⟨(some 6), .move (.const (.bool false)), none, [], false, false⟩])
 (.seq (.region false [⟨(some 7), .move (.const (.int .i64 1)), none, [], false, false⟩])
  (.seq (.seq (.region false [⟨(some 10), .move (.tmp 1), none, [], false, false⟩,
       ⟨(some 11), .move (.const (.int .i64 0)), none, [], false, false⟩])
    (.block 0 (.loop (some [0, 2, 7, 10, 11]) (
      .seq (.region false [⟨(some 12), .bin .lss (.tmp 11) (.tmp 10), none, [], false, false⟩])
       (.seq (.cond (.tmp 12) (.skip)
         (.exit 0))
        (.seq (.block 1 (.seq (.region false [⟨(some 14), .move (.tmp 7), none, [], false, false⟩,
              ⟨(some 15), .conv .u64 (.tmp 14), none, [], false, false⟩,
              ⟨(some 16), .move (.tmp 0), none, [], false, false⟩,
              ⟨(some 17), .conv .u64 (.tmp 16), none, [], false, false⟩,
              ⟨(some 18), .call 128 [(.tmp 15), (.tmp 17)], none, [], false, false⟩,
              ⟨(some 13), .move (.tmp 18), none, [], false, false⟩,
              ⟨(some 19), .extract (.tmp 13) 0, none, [], false, false⟩,
              ⟨(some 20), .extract (.tmp 13) 1, none, [], false, false⟩,
              ⟨(some 8), .move (.tmp 19), none, [], false, false⟩,
              ⟨(some 9), .move (.tmp 20), none, [], false, false⟩])
           (.seq (.seq (.region false [⟨(some 21), .move (.tmp 8), none, [], false, false⟩,
                ⟨(some 22), .bin .neq (.tmp 21) (.const (.int .u64 0)), none, [], false, false⟩,
                ⟨(some 23), .move (.tmp 22), none, [], false, false⟩,
                ⟨(some 24), .move (.tmp 9), (some (23, false)), [], false, false⟩,
                ⟨(some 25), .move (.tmp 2), (some (23, false)), [], false, false⟩,
                ⟨(some 26), .conv .u64 (.tmp 25), (some (23, false)), [], false, false⟩,
                ⟨(some 27), .bin .gtr (.tmp 24) (.tmp 26), (some (23, false)), [], false, false⟩,
                ⟨(some 28), .pick (.tmp 23) (.const (.bool true)) (.tmp 27), none, [], false, false⟩])
             (.cond (.tmp 28) (.seq (.region false [⟨(some 6), .move (.const (.bool false)), none, [], false, false⟩])
               (.ret))
              (.skip)))
            (.region false [⟨(some 29), .move (.tmp 9), none, [], false, false⟩,
               ⟨(some 30), .conv .i64 (.tmp 29), none, [], false, false⟩,
               ⟨(some 7), .move (.tmp 30), none, [], false, false⟩]))))
         (.region false [⟨(some 31), .bin .add (.tmp 11) (.const (.int .i64 1)), none, [], false, false⟩,
            ⟨(some 11), .move (.tmp 31), none, [], false, false⟩])))))))
   (.seq (.region false [⟨(some 32), .move (.tmp 7), none, [], false, false⟩,
       ⟨(some 33), .move (.tmp 2), none, [], false, false⟩,
       ⟨(some 34), .bin .leq (.tmp 32) (.tmp 33), none, [], false, false⟩,
       ⟨(some 6), .move (.tmp 34), none, [], false, false⟩])
    (.ret)))),
 [.tmp 6], .pure, 35⟩

/-- agraffe/agrafferef01.atMost -/
def ef108 : EFun := ⟨
 .seq (.region false [⟨(some 6), .move (.const (.bool false)), none, [], false, false⟩])
 (.seq (.region false [⟨(some 7), .move (.const (.int .i64 1)), none, [], false, false⟩])
  (.seq (.seq (.region false [⟨(some 8), .move (.const (.int .i64 0)), none, [], false, false⟩])
    (.block 0 (.loop (some [0, 1, 2, 7, 8]) (
      .seq (.seq (.region false [⟨(some 9), .move (.tmp 8), none, [], false, false⟩,
           ⟨(some 10), .move (.tmp 1), none, [], false, false⟩,
           ⟨(some 11), .bin .lss (.tmp 9) (.tmp 10), none, [], false, false⟩])
        (.cond (.tmp 11) (.skip)
         (.exit 0)))
       (.seq (.block 1 (.seq (.seq (.region false [⟨(some 14), .move (.tmp 0), none, [], false, false⟩,
              ⟨(some 15), .bin .gtr (.tmp 14) (.const (.int .i64 0)), none, [], false, false⟩,
              ⟨(some 16), .move (.tmp 15), none, [], false, false⟩,
              ⟨(some 17), .move (.tmp 7), (some (16, true)), [], false, false⟩,
              ⟨(some 18), .move (.tmp 2), (some (16, true)), [], false, false⟩,
              ⟨(some 19), .move (.tmp 0), (some (16, true)), [], false, false⟩,
              ⟨(some 20), .bin .quo (.tmp 18) (.tmp 19), (some (16, true)), [], false, false⟩,
              ⟨(some 21), .bin .gtr (.tmp 17) (.tmp 20), (some (16, true)), [], false, false⟩,
              ⟨(some 22), .pick (.tmp 16) (.tmp 21) (.const (.bool false)), none, [], false, false⟩])
           (.cond (.tmp 22) (.seq (.region false [⟨(some 6), .move (.const (.bool false)), none, [], false, false⟩])
             (.ret))
            (.skip)))
          (.region false [⟨(some 23), .move (.tmp 7), none, [], false, false⟩,
             ⟨(some 24), .move (.tmp 0), none, [], false, false⟩,
             ⟨(some 25), .bin .mul (.tmp 23) (.tmp 24), none, [], false, false⟩,
             ⟨(some 7), .move (.tmp 25), none, [], false, false⟩])))
        (.region false [⟨(some 12), .move (.tmp 8), none, [], false, false⟩,
           ⟨(some 13), .bin .add (.tmp 12) (.const (.int .i64 1)), none, [], false, false⟩,
           ⟨(some 8), .move (.tmp 13), none, [], false, false⟩]))))))
   (.seq (.region false [⟨(some 26), .move (.tmp 7), none, [], false, false⟩,
       ⟨(some 27), .move (.tmp 2), none, [], false, false⟩,
       ⟨(some 28), .bin .leq (.tmp 26) (.tmp 27), none, [], false, false⟩,
       ⟨(some 6), .move (.tmp 28), none, [], false, false⟩])
    (.ret)))),
 [.tmp 6], .pure, 29⟩

/-- agraffe/number.checkPitches -/
def ef109 : EFun := ⟨
 .seq (.region false [⟨(some 2), .box (.tmp 0), none, [], false, false⟩,
    ⟨(some 3), .box (.tmp 1), none, [], false, false⟩,
    ⟨(some 4), .move (.const (.int .i64 0)), none, [], false, false⟩])
 (.seq (.seq (.region false [⟨(some 6), .load true 4 (.tmp 2), none, [], false, false⟩,
      ⟨(some 7), .call 51 [(.tmp 6)], none, [], false, false⟩,
      ⟨(some 5), .move (.tmp 7), none, [], false, false⟩])
   (.seq (.region false [⟨(some 8), .move (.tmp 5), none, [], false, false⟩,
       ⟨(some 9), .bin .neq (.tmp 8) (.const (.int .i64 0)), none, [], false, false⟩])
    (.cond (.tmp 9) (.seq (.region false [⟨(some 10), .move (.tmp 5), none, [], false, false⟩,
         ⟨(some 4), .move (.tmp 10), none, [], false, false⟩])
      (.ret))
     (.skip))))
  (.seq (.region false [⟨(some 11), .load true 4 (.tmp 3), none, [], false, false⟩,
      ⟨(some 12), .call 51 [(.tmp 11)], none, [], false, false⟩,
      ⟨(some 4), .move (.tmp 12), none, [], false, false⟩])
   (.ret))),
 [.tmp 4], .pure, 13⟩

/-- agraffe/number.joined -/
def ef110 : EFun := ⟨
 .seq (.region false [⟨(some 3), .box (.tmp 0), none, [], false, false⟩,
    ⟨(some 4), .box (.tmp 1), none, [], false, false⟩,
    ⟨(some 6), .push [(.int .i64 0), (.int .i64 0), (.int .i64 0), (.int .i64 0)], none, [], false, false⟩])
 (.seq (.region false [⟨(some 7), .fieldAddr 0 (.tmp 3), none, [], false, false⟩,
     ⟨(some 8), .load false 1 (.tmp 7), none, [], false, false⟩,
     ⟨(some 9), .fieldAddr 3 (.tmp 4), none, [], false, false⟩,
     ⟨(some 10), .load false 1 (.tmp 9), none, [], false, false⟩,
     ⟨(some 11), .bin .mul (.tmp 8) (.tmp 10), none, [], false, false⟩,
     ⟨(some 12), .move (.tmp 2), none, [], false, false⟩,
     ⟨(some 13), .fieldAddr 0 (.tmp 4), none, [], false, false⟩,
     ⟨(some 14), .load false 1 (.tmp 13), none, [], false, false⟩,
     ⟨(some 15), .bin .mul (.tmp 12) (.tmp 14), none, [], false, false⟩,
     ⟨(some 16), .fieldAddr 3 (.tmp 3), none, [], false, false⟩,
     ⟨(some 17), .load false 1 (.tmp 16), none, [], false, false⟩,
     ⟨(some 18), .bin .mul (.tmp 15) (.tmp 17), none, [], false, false⟩,
     ⟨(some 19), .bin .add (.tmp 11) (.tmp 18), none, [], false, false⟩,
     ⟨(some 20), .fieldAddr 1 (.tmp 3), none, [], false, false⟩,
     ⟨(some 21), .load false 1 (.tmp 20), none, [], false, false⟩,
     ⟨(some 22), .fieldAddr 3 (.tmp 4), none, [], false, false⟩,
     ⟨(some 23), .load false 1 (.tmp 22), none, [], false, false⟩,
     ⟨(some 24), .bin .mul (.tmp 21) (.tmp 23), none, [], false, false⟩,
     ⟨(some 25), .move (.tmp 2), none, [], false, false⟩,
     ⟨(some 26), .fieldAddr 1 (.tmp 4), none, [], false, false⟩,
     ⟨(some 27), .load false 1 (.tmp 26), none, [], false, false⟩,
     ⟨(some 28), .bin .mul (.tmp 25) (.tmp 27), none, [], false, false⟩,
     ⟨(some 29), .fieldAddr 3 (.tmp 3), none, [], false, false⟩,
     ⟨(some 30), .load false 1 (.tmp 29), none, [], false, false⟩,
     ⟨(some 31), .bin .mul (.tmp 28) (.tmp 30), none, [], false, false⟩,
     ⟨(some 32), .bin .add (.tmp 24) (.tmp 31), none, [], false, false⟩,
     ⟨(some 33), .fieldAddr 2 (.tmp 3), none, [], false, false⟩,
     ⟨(some 34), .load false 1 (.tmp 33), none, [], false, false⟩,
     ⟨(some 35), .fieldAddr 3 (.tmp 4), none, [], false, false⟩,
     ⟨(some 36), .load false 1 (.tmp 35), none, [], false, false⟩,
     ⟨(some 37), .bin .mul (.tmp 34) (.tmp 36), none, [], false, false⟩,
     ⟨(some 38), .move (.tmp 2), none, [], false, false⟩,
     ⟨(some 39), .fieldAddr 2 (.tmp 4), none, [], false, false⟩,
     ⟨(some 40), .load false 1 (.tmp 39), none, [], false, false⟩,
     ⟨(some 41), .bin .mul (.tmp 38) (.tmp 40), none, [], false, false⟩,
     ⟨(some 42), .fieldAddr 3 (.tmp 3), none, [], false, false⟩,
     ⟨(some 43), .load false 1 (.tmp 42), none, [], false, false⟩,
     ⟨(some 44), .bin .mul (.tmp 41) (.tmp 43), none, [], false, false⟩,
     ⟨(some 45), .bin .add (.tmp 37) (.tmp 44), none, [], false, false⟩,
     ⟨(some 46), .fieldAddr 3 (.tmp 3), none, [], false, false⟩,
     ⟨(some 47), .load false 1 (.tmp 46), none, [], false, false⟩,
     ⟨(some 48), .fieldAddr 3 (.tmp 4), none, [], false, false⟩,
     ⟨(some 49), .load false 1 (.tmp 48), none, [], false, false⟩,
     ⟨(some 50), .bin .mul (.tmp 47) (.tmp 49), none, [], false, false⟩,
     ⟨(some 51), .build [(.int .i64 0), (.int .i64 0), (.int .i64 0), (.int .i64 0)] [(0, 1, (.tmp 19)), (1, 1, (.tmp 32)), (2, 1, (.tmp 45)), (3, 1, (.tmp 50))], none, [], false, false⟩,
     ⟨none, .store 4 (.tmp 6) (.tmp 51), none, [], false, false⟩])
  (.ret)),
 [.cell 6 true 4], .pure, 52⟩

/-- agraffe/agraffebase.Gcd -/
def ef111 : EFun := ⟨
 .seq (.region false [⟨(some 4), .move (.const (.int .i64 0)), none, [], false, false⟩])
 (.seq (.block 0 (.loop (some [0, 1]) (
    .seq (.seq (.region false [⟨(some 5), .move (.tmp 1), none, [], false, false⟩,
         ⟨(some 6), .bin .neq (.tmp 5) (.const (.int .i64 0)), none, [], false, false⟩])
      (.cond (.tmp 6) (.skip)
       (.exit 0)))
     (.block 1 (.region true [⟨(some 7), .move (.tmp 1), none, [], false, false⟩,
         ⟨(some 8), .move (.tmp 0), none, [], false, false⟩,
         ⟨(some 9), .move (.tmp 1), none, [], false, false⟩,
         ⟨(some 10), .bin .rem (.tmp 8) (.tmp 9), none, [], false, false⟩,
         ⟨(some 0), .move (.tmp 7), none, [], false, false⟩,
         ⟨(some 1), .move (.tmp 10), none, [], false, false⟩])))))
  (.seq (.region false [⟨(some 11), .move (.tmp 0), none, [], false, false⟩,
      ⟨(some 12), .call 26 [(.tmp 11)], none, [], false, false⟩,
      ⟨(some 4), .move (.tmp 12), none, [], false, false⟩])
   (.ret))),
 [.tmp 4], .pure, 13⟩

/-- agraffe/agrafferef01.sum -/
def ef112 : EFun := ⟨
 .seq (.region false [⟨(some 3), .box (.tmp 0), none, [], false, false⟩,
    ⟨(some 4), .box (.tmp 1), none, [], false, false⟩,
    ⟨(some 6), .push [(.int .i64 0), (.int .i64 0), (.int .i64 0), (.int .i64 0)], none, [], false, false⟩])
 (.seq (.region false [⟨(some 7), .fieldAddr 0 (.tmp 3), none, [], false, false⟩,
     ⟨(some 8), .load false 1 (.tmp 7), none, [], false, false⟩,
     ⟨(some 9), .fieldAddr 3 (.tmp 4), none, [], false, false⟩,
     ⟨(some 10), .load false 1 (.tmp 9), none, [], false, false⟩,
     ⟨(some 11), .bin .mul (.tmp 8) (.tmp 10), none, [], false, false⟩,
     ⟨(some 12), .move (.tmp 2), none, [], false, false⟩,
     ⟨(some 13), .fieldAddr 0 (.tmp 4), none, [], false, false⟩,
     ⟨(some 14), .load false 1 (.tmp 13), none, [], false, false⟩,
     ⟨(some 15), .bin .mul (.tmp 12) (.tmp 14), none, [], false, false⟩,
     ⟨(some 16), .fieldAddr 3 (.tmp 3), none, [], false, false⟩,
     ⟨(some 17), .load false 1 (.tmp 16), none, [], false, false⟩,
     ⟨(some 18), .bin .mul (.tmp 15) (.tmp 17), none, [], false, false⟩,
     ⟨(some 19), .bin .add (.tmp 11) (.tmp 18), none, [], false, false⟩,
     ⟨(some 20), .fieldAddr 1 (.tmp 3), none, [], false, false⟩,
     ⟨(some 21), .load false 1 (.tmp 20), none, [], false, false⟩,
     ⟨(some 22), .fieldAddr 3 (.tmp 4), none, [], false, false⟩,
     ⟨(some 23), .load false 1 (.tmp 22), none, [], false, false⟩,
     ⟨(some 24), .bin .mul (.tmp 21) (.tmp 23), none, [], false, false⟩,
     ⟨(some 25), .move (.tmp 2), none, [], false, false⟩,
     ⟨(some 26), .fieldAddr 1 (.tmp 4), none, [], false, false⟩,
     ⟨(some 27), .load false 1 (.tmp 26), none, [], false, false⟩,
     ⟨(some 28), .bin .mul (.tmp 25) (.tmp 27), none, [], false, false⟩,
     ⟨(some 29), .fieldAddr 3 (.tmp 3), none, [], false, false⟩,
     ⟨(some 30), .load false 1 (.tmp 29), none, [], false, false⟩,
     ⟨(some 31), .bin .mul (.tmp 28) (.tmp 30), none, [], false, false⟩,
     ⟨(some 32), .bin .add (.tmp 24) (.tmp 31), none, [], false, false⟩,
     ⟨(some 33), .fieldAddr 2 (.tmp 3), none, [], false, false⟩,
     ⟨(some 34), .load false 1 (.tmp 33), none, [], false, false⟩,
     ⟨(some 35), .fieldAddr 3 (.tmp 4), none, [], false, false⟩,
     ⟨(some 36), .load false 1 (.tmp 35), none, [], false, false⟩,
     ⟨(some 37), .bin .mul (.tmp 34) (.tmp 36), none, [], false, false⟩,
     ⟨(some 38), .move (.tmp 2), none, [], false, false⟩,
     ⟨(some 39), .fieldAddr 2 (.tmp 4), none, [], false, false⟩,
     ⟨(some 40), .load false 1 (.tmp 39), none, [], false, false⟩,
     ⟨(some 41), .bin .mul (.tmp 38) (.tmp 40), none, [], false, false⟩,
     ⟨(some 42), .fieldAddr 3 (.tmp 3), none, [], false, false⟩,
     ⟨(some 43), .load false 1 (.tmp 42), none, [], false, false⟩,
     ⟨(some 44), .bin .mul (.tmp 41) (.tmp 43), none, [], false, false⟩,
     ⟨(some 45), .bin .add (.tmp 37) (.tmp 44), none, [], false, false⟩,
     ⟨(some 46), .fieldAddr 3 (.tmp 3), none, [], false, false⟩,
     ⟨(some 47), .load false 1 (.tmp 46), none, [], false, false⟩,
     ⟨(some 48), .fieldAddr 3 (.tmp 4), none, [], false, false⟩,
     ⟨(some 49), .load false 1 (.tmp 48), none, [], false, false⟩,
     ⟨(some 50), .bin .mul (.tmp 47) (.tmp 49), none, [], false, false⟩,
     ⟨(some 51), .build [(.int .i64 0), (.int .i64 0), (.int .i64 0), (.int .i64 0)] [(0, 1, (.tmp 19)), (1, 1, (.tmp 32)), (2, 1, (.tmp 45)), (3, 1, (.tmp 50))], none, [], false, false⟩,
     ⟨none, .store 4 (.tmp 6) (.tmp 51), none, [], false, false⟩])
  (.ret)),
 [.cell 6 true 4], .pure, 52⟩

/-- agraffe/number.order -/
def ef113 : EFun := ⟨
 .seq (.region false [⟨(some 2), .box (.tmp 0), none, [], false, false⟩,
    ⟨(some 3), .box (.tmp 1), none, [], false, false⟩,
    ⟨(some 4), .move (.const (.int .i64 0)), none, [], false, false⟩])
 (.seq (.region false [⟨(some 6), .load true 4 (.tmp 2), none, [], false, false⟩,
     ⟨(some 7), .load true 4 (.tmp 3), none, [], false, false⟩,
     ⟨(some 8), .call 110 [(.tmp 6), (.tmp 7), (.const (.int .i64 (-1)))], none, [], false, false⟩,
     ⟨(some 9), .call 78 [(.tmp 8)], none, [], false, false⟩,
     ⟨(some 10), .call 80 [(.tmp 9)], none, [], false, false⟩,
     ⟨(some 11), .call 79 [(.tmp 10)], none, [], false, false⟩,
     ⟨(some 5), .push [(.slice none 0 0), (.slice none 0 0)], none, [], false, false⟩,
     ⟨none, .store 2 (.tmp 5) (.tmp 11), none, [], false, false⟩])
  (.seq (.region false [⟨(some 12), .fieldAddr 0 (.tmp 5), none, [], false, false⟩,
      ⟨(some 13), .load false 1 (.tmp 12), none, [], false, false⟩,
      ⟨(some 14), .fieldAddr 1 (.tmp 5), none, [], false, false⟩,
      ⟨(some 15), .load false 1 (.tmp 14), none, [], false, false⟩,
      ⟨(some 16), .call 83 [(.tmp 13), (.tmp 15)], none, [], false, false⟩,
      ⟨(some 4), .move (.tmp 16), none, [], false, false⟩])
   (.ret))),
 [.tmp 4], .pure, 17⟩

/-- agraffe/agraffebase.Lowest -/
def ef114 : EFun := ⟨
 .seq (.region false [⟨(some 4), .push [(.int .i64 0), (.int .i64 0)], none, [], false, false⟩])
 (.seq (.region false [⟨(some 6), .move (.tmp 0), none, [], false, false⟩,
     ⟨(some 7), .move (.tmp 1), none, [], false, false⟩,
     ⟨(some 8), .call 111 [(.tmp 6), (.tmp 7)], none, [], false, false⟩,
     ⟨(some 5), .move (.tmp 8), none, [], false, false⟩])
  (.seq (.seq (.region false [⟨(some 9), .move (.tmp 1), none, [], false, false⟩,
       ⟨(some 10), .bin .lss (.tmp 9) (.const (.int .i64 0)), none, [], false, false⟩])
    (.cond (.tmp 10) (.region false [⟨(some 11), .move (.tmp 5), none, [], false, false⟩,
        ⟨(some 12), .un .neg (.tmp 11), none, [], false, false⟩,
        ⟨(some 5), .move (.tmp 12), none, [], false, false⟩])
     (.skip)))
   (.seq (.region true [⟨(some 13), .move (.tmp 0), none, [], false, false⟩,
       ⟨(some 14), .move (.tmp 5), none, [], false, false⟩,
       ⟨(some 15), .bin .quo (.tmp 13) (.tmp 14), none, [], false, false⟩,
       ⟨(some 16), .move (.tmp 1), none, [], false, false⟩,
       ⟨(some 17), .move (.tmp 5), none, [], false, false⟩,
       ⟨(some 18), .bin .quo (.tmp 16) (.tmp 17), none, [], false, false⟩,
       ⟨(some 19), .build [(.int .i64 0), (.int .i64 0)] [(0, 1, (.tmp 15)), (1, 1, (.tmp 18))], none, [], false, false⟩,
       ⟨none, .store 2 (.tmp 4) (.tmp 19), none, [], false, false⟩])
    (.ret)))),
 [.cell 4 true 2], .pure, 20⟩

/-- agraffe/number.common -/
def ef115 : EFun := ⟨
 .seq (.region false [⟨(some 2), .move (.const (.int .i64 0)), none, [], false, false⟩,
    ⟨(some 3), .move (.const (.int .i64 0)), none, [], false, false⟩])
 (.seq (.region false [⟨(some 4), .move (.const (.int .i64 1)), none, [], false, false⟩])
  (.seq (.seq (.region false [⟨(some 7), .move (.tmp 0), none, [], false, false⟩,
       ⟨(some 8), .len false (.tmp 7), none, [], false, false⟩,
       ⟨(some 9), .move (.const (.int .i64 0)), none, [], false, false⟩])
    (.block 0 (.loop (some [4, 7, 8, 9]) (
      .seq (.region false [⟨(some 10), .bin .lss (.tmp 9) (.tmp 8), none, [], false, false⟩])
       (.seq (.cond (.tmp 10) (.skip)
         (.exit 0))
        (.seq (.block 1 (.seq (.region false [⟨(some 11), .indexAddr none 2 (.tmp 7) (.tmp 9), none, [], false, false⟩,
              ⟨(some 12), .load true 2 (.tmp 11), none, [], false, false⟩,
              ⟨(some 6), .push [(.int .i64 0), (.int .i64 0)], none, [], false, false⟩,
              ⟨none, .store 2 (.tmp 6) (.tmp 12), none, [], false, false⟩])
           (.seq (.region true [⟨(some 13), .move (.tmp 4), none, [], false, false⟩,
               ⟨(some 14), .fieldAddr 1 (.tmp 6), none, [], false, false⟩,
               ⟨(some 15), .load false 1 (.tmp 14), none, [], false, false⟩,
               ⟨(some 16), .move (.tmp 4), none, [], false, false⟩,
               ⟨(some 17), .fieldAddr 1 (.tmp 6), none, [], false, false⟩,
               ⟨(some 18), .load false 1 (.tmp 17), none, [], false, false⟩,
               ⟨(some 19), .call 120 [(.tmp 16), (.tmp 18)], none, [], false, true⟩,
               ⟨(some 20), .bin .quo (.tmp 15) (.tmp 19), none, [], false, false⟩,
               ⟨(some 21), .bin .mul (.tmp 13) (.tmp 20), none, [], false, false⟩,
               ⟨(some 4), .move (.tmp 21), none, [], false, false⟩])
            (.seq (.region false [⟨(some 22), .move (.tmp 4), none, [], false, false⟩,
                ⟨(some 23), .bin .gtr (.tmp 22) (.const (.int .i64 40000)), none, [], false, false⟩])
             (.cond (.tmp 23) (.seq (.region false [⟨(some 2), .move (.const (.int .i64 0)), none, [], false, false⟩,
                  ⟨(some 3), .move (.const (.int .i64 8)), none, [], false, false⟩])
               (.ret))
              (.skip))))))
         (.region false [⟨(some 24), .bin .add (.tmp 9) (.const (.int .i64 1)), none, [], false, false⟩,
            ⟨(some 9), .move (.tmp 24), none, [], false, false⟩])))))))
   (.seq (.region false [⟨(some 25), .move (.tmp 4), none, [], false, false⟩,
       ⟨(some 2), .move (.tmp 25), none, [], false, false⟩,
       ⟨(some 3), .move (.const (.int .i64 0)), none, [], false, false⟩])
    (.ret)))),
 [.tmp 2, .tmp 3], .pure, 26⟩

/-- agraffe/number.CheckLine$1 -/
def ef116 : EFun := ⟨
 .seq (.region false [⟨(some 2), .box (.tmp 0), none, [], false, false⟩,
    ⟨(some 3), .move (.const (.int .i64 0)), none, [], false, false⟩])
 (.seq (.region true [⟨(some 4), .fieldAddr 0 (.tmp 2), none, [], false, false⟩,
     ⟨(some 5), .load false 1 (.tmp 4), none, [], false, false⟩,
     ⟨(some 6), .load false 1 (.tmp 1), none, [], false, false⟩,
     ⟨(some 7), .fieldAddr 1 (.tmp 2), none, [], false, false⟩,
     ⟨(some 8), .load false 1 (.tmp 7), none, [], false, false⟩,
     ⟨(some 9), .bin .quo (.tmp 6) (.tmp 8), none, [], false, false⟩,
     ⟨(some 10), .bin .mul (.tmp 5) (.tmp 9), none, [], false, false⟩,
     ⟨(some 3), .move (.tmp 10), none, [], false, false⟩])
  (.ret)),
 [.tmp 3], .pure, 11⟩

/-- agraffe/number.CheckLine$2 -/
def ef117 : EFun := ⟨
 .seq (.region false [⟨(some 4), .box (.tmp 0), none, [], false, false⟩,
    ⟨(some 5), .move (.const (.int .i64 0)), none, [], false, false⟩])
 (.seq (.region true [⟨(some 6), .fieldAddr 1 (.tmp 4), none, [], false, false⟩,
     ⟨(some 7), .load false 1 (.tmp 6), none, [], false, false⟩,
     ⟨(some 8), .load false 1 (.tmp 1), none, [], false, false⟩,
     ⟨(some 9), .bin .mul (.tmp 7) (.tmp 8), none, [], false, false⟩,
     ⟨(some 10), .load false 1 (.tmp 2), none, [], false, false⟩,
     ⟨(some 11), .fieldAddr 0 (.tmp 3), none, [], false, false⟩,
     ⟨(some 12), .load true 2 (.tmp 11), none, [], false, false⟩,
     ⟨(some 13), .callVal (.tmp 10) [(.tmp 12)], none, [], false, true⟩,
     ⟨(some 14), .bin .sub (.tmp 9) (.tmp 13), none, [], false, false⟩,
     ⟨(some 15), .load false 1 (.tmp 2), none, [], false, false⟩,
     ⟨(some 16), .fieldAddr 2 (.tmp 3), none, [], false, false⟩,
     ⟨(some 17), .load true 2 (.tmp 16), none, [], false, false⟩,
     ⟨(some 18), .callVal (.tmp 15) [(.tmp 17)], none, [], false, true⟩,
     ⟨(some 19), .fieldAddr 0 (.tmp 4), none, [], false, false⟩,
     ⟨(some 20), .load false 1 (.tmp 19), none, [], false, false⟩,
     ⟨(some 21), .bin .mul (.tmp 18) (.tmp 20), none, [], false, false⟩,
     ⟨(some 22), .bin .sub (.tmp 14) (.tmp 21), none, [], false, false⟩,
     ⟨(some 5), .move (.tmp 22), none, [], false, false⟩])
  (.ret)),
 [.tmp 5], .pure, 23⟩

/-- agraffe/number.checkTwo -/
def ef118 : EFun := ⟨
 .seq (.region false [⟨(some 2), .box (.tmp 0), none, [], false, false⟩,
    ⟨(some 3), .box (.tmp 1), none, [], false, false⟩,
    ⟨(some 4), .move (.const (.int .i64 0)), none, [], false, false⟩])
 (.seq (.seq (.region false [⟨(some 6), .load true 2 (.tmp 2), none, [], false, false⟩,
      ⟨(some 7), .call 64 [(.tmp 6)], none, [], false, false⟩,
      ⟨(some 5), .move (.tmp 7), none, [], false, false⟩])
   (.seq (.region false [⟨(some 8), .move (.tmp 5), none, [], false, false⟩,
       ⟨(some 9), .bin .neq (.tmp 8) (.const (.int .i64 0)), none, [], false, false⟩])
    (.cond (.tmp 9) (.seq (.region false [⟨(some 10), .move (.tmp 5), none, [], false, false⟩,
         ⟨(some 4), .move (.tmp 10), none, [], false, false⟩])
      (.ret))
     (.skip))))
  (.seq (.region false [⟨(some 11), .load true 2 (.tmp 3), none, [], false, false⟩,
      ⟨(some 12), .call 64 [(.tmp 11)], none, [], false, false⟩,
      ⟨(some 4), .move (.tmp 12), none, [], false, false⟩])
   (.ret))),
 [.tmp 4], .pure, 13⟩

/-- agraffe/number.fit -/
def ef119 : EFun := ⟨
 .seq (.region false [⟨(some 4), .push [(.int .i64 0), (.int .i64 0)], none, [], false, false⟩,
    ⟨(some 5), .move (.const (.int .i64 0)), none, [], false, false⟩])
 (.seq (.region false [⟨(some 8), .move (.tmp 0), none, [], false, false⟩,
     ⟨(some 9), .move (.tmp 1), none, [], false, false⟩,
     ⟨(some 10), .call 120 [(.tmp 8), (.tmp 9)], none, [], false, false⟩,
     ⟨(some 6), .move (.tmp 10), none, [], false, false⟩])
  (.seq (.seq (.region false [⟨(some 11), .move (.tmp 1), none, [], false, false⟩,
       ⟨(some 12), .bin .lss (.tmp 11) (.const (.int .i64 0)), none, [], false, false⟩])
    (.cond (.tmp 12) (.region false [⟨(some 13), .move (.tmp 6), none, [], false, false⟩,
        ⟨(some 14), .un .neg (.tmp 13), none, [], false, false⟩,
        ⟨(some 6), .move (.tmp 14), none, [], false, false⟩])
     (.skip)))
   (.seq (.region true [⟨(some 15), .move (.tmp 0), none, [], false, false⟩,
       ⟨(some 16), .move (.tmp 6), none, [], false, false⟩,
       ⟨(some 17), .bin .quo (.tmp 15) (.tmp 16), none, [], false, false⟩,
       ⟨(some 18), .move (.tmp 1), none, [], false, false⟩,
       ⟨(some 19), .move (.tmp 6), none, [], false, false⟩,
       ⟨(some 20), .bin .quo (.tmp 18) (.tmp 19), none, [], false, false⟩,
       ⟨(some 21), .build [(.int .i64 0), (.int .i64 0)] [(0, 1, (.tmp 17)), (1, 1, (.tmp 20))], none, [], false, false⟩,
       ⟨(some 7), .push [(.int .i64 0), (.int .i64 0)], none, [], false, false⟩,
       ⟨none, .store 2 (.tmp 7) (.tmp 21), none, [], false, false⟩])
    (.seq (.seq (.region false [⟨(some 22), .load true 2 (.tmp 7), none, [], false, false⟩,
         ⟨(some 23), .call 64 [(.tmp 22)], none, [], false, false⟩,
         ⟨(some 24), .bin .neq (.tmp 23) (.const (.int .i64 0)), none, [], false, false⟩])
      (.cond (.tmp 24) (.seq (.region false [⟨(some 25), .build [(.int .i64 0), (.int .i64 0)] [], none, [], false, false⟩,
           ⟨none, .store 2 (.tmp 4) (.tmp 25), none, [], false, false⟩,
           ⟨(some 5), .move (.const (.int .i64 8)), none, [], false, false⟩])
        (.ret))
       (.skip)))
     (.seq (.region false [⟨(some 26), .load true 2 (.tmp 7), none, [], false, false⟩,
         ⟨none, .store 2 (.tmp 4) (.tmp 26), none, [], false, false⟩,
         ⟨(some 5), .move (.const (.int .i64 0)), none, [], false, false⟩])
      (.ret)))))),
 [.cell 4 true 2, .tmp 5], .pure, 27⟩

/-- agraffe/number.gcd -/
def ef120 : EFun := ⟨
 .seq (.region false [⟨(some 4), .move (.const (.int .i64 0)), none, [], false, false⟩])
 (.seq (.block 0 (.loop (some [0, 1]) (
    .seq (.seq (.region false [⟨(some 5), .move (.tmp 1), none, [], false, false⟩,
         ⟨(some 6), .bin .neq (.tmp 5) (.const (.int .i64 0)), none, [], false, false⟩])
      (.cond (.tmp 6) (.skip)
       (.exit 0)))
     (.block 1 (.region true [⟨(some 7), .move (.tmp 1), none, [], false, false⟩,
         ⟨(some 8), .move (.tmp 0), none, [], false, false⟩,
         ⟨(some 9), .move (.tmp 1), none, [], false, false⟩,
         ⟨(some 10), .bin .rem (.tmp 8) (.tmp 9), none, [], false, false⟩,
         ⟨(some 0), .move (.tmp 7), none, [], false, false⟩,
         ⟨(some 1), .move (.tmp 10), none, [], false, false⟩])))))
  (.seq (.seq (.region false [⟨(some 11), .move (.tmp 0), none, [], false, false⟩,
       ⟨(some 12), .bin .lss (.tmp 11) (.const (.int .i64 0)), none, [], false, false⟩])
    (.cond (.tmp 12) (.seq (.region false [⟨(some 13), .move (.tmp 0), none, [], false, false⟩,
         ⟨(some 14), .un .neg (.tmp 13), none, [], false, false⟩,
         ⟨(some 4), .move (.tmp 14), none, [], false, false⟩])
      (.ret))
     (.skip)))
   (.seq (.region false [⟨(some 15), .move (.tmp 0), none, [], false, false⟩,
       ⟨(some 4), .move (.tmp 15), none, [], false, false⟩])
    (.ret)))),
 [.tmp 4], .pure, 16⟩

/-- agraffe/agrafferef01.fit -/
def ef121 : EFun := ⟨
 .seq (.region false [⟨(some 4), .push [(.int .i64 0), (.int .i64 0)], none, [], false, false⟩,
    ⟨(some 5), .move (.const (.int .i64 0)), none, [], false, false⟩])
 (.seq (.region false [⟨(some 7), .move (.tmp 0), none, [], false, false⟩,
     ⟨(some 8), .move (.tmp 1), none, [], false, false⟩,
     ⟨(some 9), .call 114 [(.tmp 7), (.tmp 8)], none, [], false, false⟩,
     ⟨(some 6), .push [(.int .i64 0), (.int .i64 0)], none, [], false, false⟩,
     ⟨none, .store 2 (.tmp 6) (.tmp 9), none, [], false, false⟩])
  (.seq (.seq (.region false [⟨(some 10), .load true 2 (.tmp 6), none, [], false, false⟩,
       ⟨(some 11), .call 43 [(.tmp 10)], none, [], false, false⟩,
       ⟨(some 12), .bin .neq (.tmp 11) (.const (.int .i64 0)), none, [], false, false⟩])
    (.cond (.tmp 12) (.seq (.region false [⟨(some 13), .build [(.int .i64 0), (.int .i64 0)] [], none, [], false, false⟩,
         ⟨none, .store 2 (.tmp 4) (.tmp 13), none, [], false, false⟩,
         ⟨(some 5), .move (.const (.int .i64 8)), none, [], false, false⟩])
      (.ret))
     (.skip)))
   (.seq (.region false [⟨(some 14), .load true 2 (.tmp 6), none, [], false, false⟩,
       ⟨none, .store 2 (.tmp 4) (.tmp 14), none, [], false, false⟩,
       ⟨(some 5), .move (.const (.int .i64 0)), none, [], false, false⟩])
    (.ret)))),
 [.cell 4 true 2, .tmp 5], .pure, 15⟩

/-- math/bits.Mul64 -/
def ef128 : EFun := ⟨
 .seq (.region false [⟨(some 4), .move (.const (.int .u64 0)), none, [], false, false⟩,
    ⟨(some 5), .move (.const (.int .u64 0)), none, [], false, false⟩])
 (.seq (.region false [⟨(some 14), .move (.tmp 0), none, [], false, false⟩,
     ⟨(some 15), .bin .and (.tmp 14) (.const (.int .u64 4294967295)), none, [], false, false⟩,
     ⟨(some 6), .move (.tmp 15), none, [], false, false⟩])
  (.seq (.region false [⟨(some 16), .move (.tmp 0), none, [], false, false⟩,
      ⟨(some 17), .bin .shr (.tmp 16) (.const (.int .u64 32)), none, [], false, false⟩,
      ⟨(some 7), .move (.tmp 17), none, [], false, false⟩])
   (.seq (.region false [⟨(some 18), .move (.tmp 1), none, [], false, false⟩,
       ⟨(some 19), .bin .and (.tmp 18) (.const (.int .u64 4294967295)), none, [], false, false⟩,
       ⟨(some 8), .move (.tmp 19), none, [], false, false⟩])
    (.seq (.region false [⟨(some 20), .move (.tmp 1), none, [], false, false⟩,
        ⟨(some 21), .bin .shr (.tmp 20) (.const (.int .u64 32)), none, [], false, false⟩,
        ⟨(some 9), .move (.tmp 21), none, [], false, false⟩])
     (.seq (.region false [⟨(some 22), .move (.tmp 6), none, [], false, false⟩,
         ⟨(some 23), .move (.tmp 8), none, [], false, false⟩,
         ⟨(some 24), .bin .mul (.tmp 22) (.tmp 23), none, [], false, false⟩,
         ⟨(some 10), .move (.tmp 24), none, [], false, false⟩])
      (.seq (.region false [⟨(some 25), .move (.tmp 7), none, [], false, false⟩,
          ⟨(some 26), .move (.tmp 8), none, [], false, false⟩,
          ⟨(some 27), .bin .mul (.tmp 25) (.tmp 26), none, [], false, false⟩,
          ⟨(some 28), .move (.tmp 10), none, [], false, false⟩,
          ⟨(some 29), .bin .shr (.tmp 28) (.const (.int .u64 32)), none, [], false, false⟩,
          ⟨(some 30), .bin .add (.tmp 27) (.tmp 29), none, [], false, false⟩,
          ⟨(some 11), .move (.tmp 30), none, [], false, false⟩])
       (.seq (.region false [⟨(some 31), .move (.tmp 11), none, [], false, false⟩,
           ⟨(some 32), .bin .and (.tmp 31) (.const (.int .u64 4294967295)), none, [], false, false⟩,
           ⟨(some 12), .move (.tmp 32), none, [], false, false⟩])
        (.seq (.region false [⟨(some 33), .move (.tmp 11), none, [], false, false⟩,
            ⟨(some 34), .bin .shr (.tmp 33) (.const (.int .u64 32)), none, [], false, false⟩,
            ⟨(some 13), .move (.tmp 34), none, [], false, false⟩])
         (.seq (.region false [⟨(some 35), .move (.tmp 12), none, [], false, false⟩,
             ⟨(some 36), .move (.tmp 6), none, [], false, false⟩,
             ⟨(some 37), .move (.tmp 9), none, [], false, false⟩,
             ⟨(some 38), .bin .mul (.tmp 36) (.tmp 37), none, [], false, false⟩,
             ⟨(some 39), .bin .add (.tmp 35) (.tmp 38), none, [], false, false⟩,
             ⟨(some 12), .move (.tmp 39), none, [], false, false⟩])
          (.seq (.region false [⟨(some 40), .move (.tmp 7), none, [], false, false⟩,
              ⟨(some 41), .move (.tmp 9), none, [], false, false⟩,
              ⟨(some 42), .bin .mul (.tmp 40) (.tmp 41), none, [], false, false⟩,
              ⟨(some 43), .move (.tmp 13), none, [], false, false⟩,
              ⟨(some 44), .bin .add (.tmp 42) (.tmp 43), none, [], false, false⟩,
              ⟨(some 45), .move (.tmp 12), none, [], false, false⟩,
              ⟨(some 46), .bin .shr (.tmp 45) (.const (.int .u64 32)), none, [], false, false⟩,
              ⟨(some 47), .bin .add (.tmp 44) (.tmp 46), none, [], false, false⟩,
              ⟨(some 4), .move (.tmp 47), none, [], false, false⟩])
           (.seq (.region false [⟨(some 48), .move (.tmp 0), none, [], false, false⟩,
               ⟨(some 49), .move (.tmp 1), none, [], false, false⟩,
               ⟨(some 50), .bin .mul (.tmp 48) (.tmp 49), none, [], false, false⟩,
               ⟨(some 5), .move (.tmp 50), none, [], false, false⟩])
            (.ret)))))))))))),
 [.tmp 4, .tmp 5], .pure, 51⟩

/-- (agraffe/number.natural).times -/
def ef129 : EFun := ⟨
 .seq (.region false [⟨(some 4), .move (.const (.slice none 0 0)), none, [], false, false⟩])
 (.seq (.region false [⟨(some 13), .move (.tmp 0), none, [], false, false⟩,
     ⟨(some 14), .len false (.tmp 13), none, [], false, false⟩,
     ⟨(some 15), .bin .add (.tmp 14) (.const (.int .i64 1)), none, [], false, false⟩,
     ⟨(some 16), .makeSlice 1 8 [(.int .u64 0)] (.const (.int .i64 0)) (.tmp 15), none, [], false, false⟩,
     ⟨(some 5), .move (.tmp 16), none, [], false, false⟩])
  (.seq (.region false [⟨(some 6), .move (.const (.int .u64 0)), none, [], false, false⟩])
   (.seq (.seq (.region false [⟨(some 17), .move (.tmp 0), none, [], false, false⟩,
        ⟨(some 18), .len false (.tmp 17), none, [], false, false⟩,
        ⟨(some 19), .move (.const (.int .i64 0)), none, [], false, false⟩])
     (.block 0 (.loop (some [1, 5, 6, 17, 18, 19]) (
       .seq (.region false [⟨(some 20), .bin .lss (.tmp 19) (.tmp 18), none, [], false, false⟩])
        (.seq (.cond (.tmp 20) (.skip)
          (.exit 0))
         (.seq (.block 1 (.seq (.region false [⟨(some 21), .indexAddr none 1 (.tmp 17) (.tmp 19), none, [], false, false⟩,
               ⟨(some 22), .load false 1 (.tmp 21), none, [], false, false⟩,
               ⟨(some 8), .move (.tmp 22), none, [], false, false⟩])
            (.seq (.region false [⟨(some 24), .move (.tmp 8), none, [], false, false⟩,
                ⟨(some 25), .move (.tmp 1), none, [], false, false⟩,
                ⟨(some 26), .call 128 [(.tmp 24), (.tmp 25)], none, [], false, false⟩,
                ⟨(some 23), .move (.tmp 26), none, [], false, false⟩,
                ⟨(some 27), .extract (.tmp 23) 0, none, [], false, false⟩,
                ⟨(some 28), .extract (.tmp 23) 1, none, [], false, false⟩,
                ⟨(some 9), .move (.tmp 27), none, [], false, false⟩,
                ⟨(some 10), .move (.tmp 28), none, [], false, false⟩])
             (.seq (.region false [⟨(some 30), .move (.tmp 10), none, [], false, false⟩,
                 ⟨(some 31), .move (.tmp 6), none, [], false, false⟩,
                 ⟨(some 32), .add64 (.tmp 30) (.tmp 31) (.const (.int .u64 0)), none, [], false, false⟩,
                 ⟨(some 29), .move (.tmp 32), none, [], false, false⟩,
                 ⟨(some 33), .extract (.tmp 29) 0, none, [], false, false⟩,
                 ⟨(some 34), .extract (.tmp 29) 1, none, [], false, false⟩,
                 ⟨(some 11), .move (.tmp 33), none, [], false, false⟩,
                 ⟨(some 12), .move (.tmp 34), none, [], false, false⟩])
              (.seq (.region false [⟨(some 35), .move (.tmp 5), none, [], false, false⟩,
                  ⟨(some 36), .move (.tmp 11), none, [], false, false⟩,
                  ⟨(some 37), .buildSlice 1 1 [(.int .u64 0)] [(0, 1, (.tmp 36))], none, [], false, false⟩,
                  ⟨(some 38), .append 1 8 (.tmp 35) (.tmp 37), none, [], false, false⟩,
                  ⟨(some 5), .move (.tmp 38), none, [], false, false⟩])
               (.region false [⟨(some 39), .move (.tmp 9), none, [], false, false⟩,
                  ⟨(some 40), .move (.tmp 12), none, [], false, false⟩,
                  ⟨(some 41), .bin .add (.tmp 39) (.tmp 40), none, [], false, false⟩,
                  ⟨(some 6), .move (.tmp 41), none, [], false, false⟩]))))))
          (.region false [⟨(some 42), .bin .add (.tmp 19) (.const (.int .i64 1)), none, [], false, false⟩,
             ⟨(some 19), .move (.tmp 42), none, [], false, false⟩])))))))
    (.seq (.seq (.region false [⟨(some 43), .move (.tmp 6), none, [], false, false⟩,
         ⟨(some 44), .bin .gtr (.tmp 43) (.const (.int .u64 0)), none, [], false, false⟩])
      (.cond (.tmp 44) (.region false [⟨(some 45), .move (.tmp 5), none, [], false, false⟩,
          ⟨(some 46), .move (.tmp 6), none, [], false, false⟩,
          ⟨(some 47), .buildSlice 1 1 [(.int .u64 0)] [(0, 1, (.tmp 46))], none, [], false, false⟩,
          ⟨(some 48), .append 1 8 (.tmp 45) (.tmp 47), none, [], false, false⟩,
          ⟨(some 5), .move (.tmp 48), none, [], false, false⟩])
       (.skip)))
     (.seq (.region false [⟨(some 49), .move (.tmp 5), none, [], false, false⟩,
         ⟨(some 4), .move (.tmp 49), none, [], false, false⟩])
      (.ret)))))),
 [.tmp 4], .pure, 50⟩

end Go.Abs.N
