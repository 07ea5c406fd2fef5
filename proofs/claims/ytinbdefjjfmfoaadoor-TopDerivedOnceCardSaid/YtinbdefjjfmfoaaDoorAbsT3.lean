/- The functions, compiled for the abstract evaluator. Written by wip/abs/Print.lean. -/
import Derived.Test.YtinbdefjjfmfoaaDoorAbsT0
set_option linter.unusedSimpArgs false
set_option linter.unusedVariables false
set_option maxRecDepth 100000
set_option maxHeartbeats 0
namespace Go.Abs.T
open Go Go.Abs
/-- (*agraffe/temper.circle).sounds -/
def ef96 : EFun := ⟨
 .seq (.region false [⟨(some 6), .push [(.int .i64 0), (.int .i64 0)], none, [], false, false⟩,
    ⟨(some 7), .move (.const (.int .i64 0)), none, [], false, false⟩])
 (.seq (.region false [⟨(some 8), .move (.tmp 0), none, [], false, false⟩,
     ⟨(some 9), .move (.tmp 2), none, [], false, false⟩,
     ⟨(some 10), .call 86 [(.tmp 8), (.const (.int .i64 48)), (.tmp 9)], none, [], false, false⟩,
     ⟨(some 11), .call 87 [(.tmp 10)], none, [], false, false⟩,
     ⟨(some 12), .move (.tmp 1), none, [], false, false⟩,
     ⟨(some 13), .call 82 [(.tmp 11), (.tmp 12)], none, [], false, false⟩,
     ⟨(some 14), .extract (.tmp 13) 0, none, [], false, false⟩,
     ⟨(some 15), .extract (.tmp 13) 1, none, [], false, false⟩,
     ⟨none, .store 2 (.tmp 6) (.tmp 14), none, [], false, false⟩,
     ⟨(some 7), .move (.tmp 15), none, [], false, false⟩])
  (.ret)),
 [.cell 6 true 2, .tmp 7], .pure, 16⟩

/-- agraffe/temper.isPartial -/
def ef97 : EFun := ⟨
 .seq (.region false [⟨(some 2), .move (.const (.bool false)), none, [], false, false⟩])
 (.seq (.region false [⟨(some 3), .move (.tmp 0), none, [], false, false⟩,
     ⟨(some 4), .bin .geq (.tmp 3) (.const (.int .i64 1)), none, [], false, false⟩,
     ⟨(some 5), .move (.tmp 4), none, [], false, false⟩,
     ⟨(some 6), .move (.tmp 0), (some (5, true)), [], false, false⟩,
     ⟨(some 7), .bin .leq (.tmp 6) (.const (.int .i64 16)), (some (5, true)), [], false, false⟩,
     ⟨(some 8), .pick (.tmp 5) (.tmp 7) (.const (.bool false)), none, [], false, false⟩,
     ⟨(some 2), .move (.tmp 8), none, [], false, false⟩])
  (.ret)),
 [.tmp 2], .pure, 9⟩

/-- agraffe/temper.factors -/
def ef98 : EFun := ⟨
 .seq (.region false [⟨(some 2), .push [(.int .i64 0), (.int .i64 0), (.int .i64 0)], none, [], false, false⟩,
    ⟨(some 3), .move (.const (.bool false)), none, [], false, false⟩])
 (.seq (.region false [⟨(some 4), .push [(.int .i64 0), (.int .i64 0), (.int .i64 0)], none, [], false, false⟩])
  (.seq (.seq (.region false [⟨(some 7), .build [(.int .i64 0), (.int .i64 0), (.int .i64 0)] [(0, 1, (.const (.int .i64 2))), (1, 1, (.const (.int .i64 3))), (2, 1, (.const (.int .i64 5)))], none, [], false, false⟩,
       ⟨(some 8), .move (.const (.int .i64 0)), none, [], false, false⟩])
    (.block 0 (.loop (some [0, 2, 4, 7, 8]) (
      .seq (.region false [⟨(some 9), .bin .lss (.tmp 8) (.const (.int .i64 3)), none, [], false, false⟩])
       (.seq (.cond (.tmp 9) (.skip)
         (.exit 0))
        (.seq (.block 1 (.seq (.region false [⟨(some 10), .move (.tmp 8), none, [], false, false⟩,
              ⟨(some 11), .index 3 1 false (.tmp 7) (.tmp 8), none, [], false, false⟩,
              ⟨(some 5), .move (.tmp 10), none, [], false, false⟩,
              ⟨(some 6), .move (.tmp 11), none, [], false, false⟩])
           (.block 2 (.loop (some [0, 2, 4, 5, 6, 7, 8]) (
             .seq (.seq (.region false [⟨(some 12), .move (.tmp 0), none, [], false, false⟩,
                  ⟨(some 13), .move (.tmp 6), none, [], false, false⟩,
                  ⟨(some 14), .bin .rem (.tmp 12) (.tmp 13), none, [], false, false⟩,
                  ⟨(some 15), .bin .eql (.tmp 14) (.const (.int .i64 0)), none, [], false, false⟩])
               (.cond (.tmp 15) (.skip)
                (.exit 2)))
              (.seq (.block 3 (.region false [⟨(some 19), .move (.tmp 5), none, [], false, false⟩,
                   ⟨(some 20), .indexAddr (some 3) 1 (.tmp 4) (.tmp 19), none, [], false, false⟩,
                   ⟨(some 21), .load false 1 (.tmp 20), none, [], false, false⟩,
                   ⟨(some 22), .bin .add (.tmp 21) (.const (.int .i64 12)), none, [], false, false⟩,
                   ⟨(some 23), .indexAddr (some 3) 1 (.tmp 4) (.tmp 19), none, [], false, false⟩,
                   ⟨none, .store 1 (.tmp 23) (.tmp 22), none, [], false, false⟩]))
               (.region false [⟨(some 16), .move (.tmp 0), none, [], false, false⟩,
                  ⟨(some 17), .move (.tmp 6), none, [], false, false⟩,
                  ⟨(some 18), .bin .quo (.tmp 16) (.tmp 17), none, [], false, false⟩,
                  ⟨(some 0), .move (.tmp 18), none, [], false, false⟩])))))))
         (.region false [⟨(some 24), .bin .add (.tmp 8) (.const (.int .i64 1)), none, [], false, false⟩,
            ⟨(some 8), .move (.tmp 24), none, [], false, false⟩])))))))
   (.seq (.region false [⟨(some 25), .load true 3 (.tmp 4), none, [], false, false⟩,
       ⟨(some 26), .move (.tmp 0), none, [], false, false⟩,
       ⟨(some 27), .bin .eql (.tmp 26) (.const (.int .i64 1)), none, [], false, false⟩,
       ⟨none, .store 3 (.tmp 2) (.tmp 25), none, [], false, false⟩,
       ⟨(some 3), .move (.tmp 27), none, [], false, false⟩])
    (.ret)))),
 [.cell 2 true 3, .tmp 3], .pure, 28⟩

/-- agraffe/agrafferef06.powers -/
def ef99 : EFun := ⟨
 .seq (.region false [⟨(some 2), .push [(.int .i64 0), (.int .i64 0), (.int .i64 0)], none, [], false, false⟩,
    ⟨(some 3), .move (.const (.bool false)), none, [], false, false⟩])
 (.seq (.region false [⟨(some 4), .push [(.int .i64 0), (.int .i64 0), (.int .i64 0)], none, [], false, false⟩])
  (.seq (.seq (.region false [⟨(some 5), .move (.const (.int .i64 0)), none, [], false, false⟩])
    (.block 0 (.loop (some [0, 2, 4, 5]) (
      .seq (.seq (.region false [⟨(some 7), .move (.tmp 5), none, [], false, false⟩,
           ⟨(some 8), .bin .lss (.tmp 7) (.const (.int .i64 3)), none, [], false, false⟩])
        (.cond (.tmp 8) (.skip)
         (.exit 0)))
       (.seq (.block 1 (.seq (.region false [⟨(some 11), .build [(.int .i64 0), (.int .i64 0), (.int .i64 0)] [(0, 1, (.const (.int .i64 2))), (1, 1, (.const (.int .i64 3))), (2, 1, (.const (.int .i64 5)))], none, [], false, false⟩,
             ⟨(some 12), .move (.tmp 5), none, [], false, false⟩,
             ⟨(some 13), .index 3 1 false (.tmp 11) (.tmp 12), none, [], false, false⟩,
             ⟨(some 6), .move (.tmp 13), none, [], false, false⟩])
          (.block 2 (.loop (some [0, 2, 4, 5, 6]) (
            .seq (.seq (.region false [⟨(some 14), .move (.tmp 0), none, [], false, false⟩,
                 ⟨(some 15), .move (.tmp 6), none, [], false, false⟩,
                 ⟨(some 16), .bin .rem (.tmp 14) (.tmp 15), none, [], false, false⟩,
                 ⟨(some 17), .bin .eql (.tmp 16) (.const (.int .i64 0)), none, [], false, false⟩])
              (.cond (.tmp 17) (.skip)
               (.exit 2)))
             (.block 3 (.region true [⟨(some 18), .move (.tmp 5), none, [], false, false⟩,
                 ⟨(some 19), .move (.tmp 0), none, [], false, false⟩,
                 ⟨(some 20), .move (.tmp 6), none, [], false, false⟩,
                 ⟨(some 21), .bin .quo (.tmp 19) (.tmp 20), none, [], false, false⟩,
                 ⟨(some 22), .move (.tmp 5), none, [], false, false⟩,
                 ⟨(some 23), .indexAddr (some 3) 1 (.tmp 4) (.tmp 22), none, [], false, false⟩,
                 ⟨(some 24), .load false 1 (.tmp 23), none, [], false, false⟩,
                 ⟨(some 25), .bin .add (.tmp 24) (.const (.int .i64 12)), none, [], false, false⟩,
                 ⟨(some 0), .move (.tmp 21), none, [], false, false⟩,
                 ⟨(some 26), .indexAddr (some 3) 1 (.tmp 4) (.tmp 18), none, [], false, false⟩,
                 ⟨none, .store 1 (.tmp 26) (.tmp 25), none, [], false, false⟩])))))))
        (.region false [⟨(some 9), .move (.tmp 5), none, [], false, false⟩,
           ⟨(some 10), .bin .add (.tmp 9) (.const (.int .i64 1)), none, [], false, false⟩,
           ⟨(some 5), .move (.tmp 10), none, [], false, false⟩]))))))
   (.seq (.region false [⟨(some 27), .load true 3 (.tmp 4), none, [], false, false⟩,
       ⟨(some 28), .move (.tmp 0), none, [], false, false⟩,
       ⟨(some 29), .bin .eql (.tmp 28) (.const (.int .i64 1)), none, [], false, false⟩,
       ⟨none, .store 3 (.tmp 2) (.tmp 27), none, [], false, false⟩,
       ⟨(some 3), .move (.tmp 29), none, [], false, false⟩])
    (.ret)))),
 [.cell 2 true 3, .tmp 3], .pure, 30⟩

/-- agraffe/temper.ratios -/
def ef100 : EFun := ⟨
 .seq (.region false [⟨(some 0), .move (.const (.map none)), none, [], false, false⟩])
 (.seq (.region false [⟨(some 1), .makeMap, none, [], false, false⟩,
     ⟨(some 2), .build [(.int .i64 0), (.int .i64 0)] [(0, 1, (.const (.int .i64 6))), (1, 1, (.const (.int .i64 5)))], none, [], false, false⟩,
     ⟨none, .mapSet (.int .i64) (.tmp 1) (.const (.int .i64 3)) (.tmp 2), none, [], false, false⟩,
     ⟨(some 3), .build [(.int .i64 0), (.int .i64 0)] [(0, 1, (.const (.int .i64 5))), (1, 1, (.const (.int .i64 4)))], none, [], false, false⟩,
     ⟨none, .mapSet (.int .i64) (.tmp 1) (.const (.int .i64 4)) (.tmp 3), none, [], false, false⟩,
     ⟨(some 4), .build [(.int .i64 0), (.int .i64 0)] [(0, 1, (.const (.int .i64 4))), (1, 1, (.const (.int .i64 3)))], none, [], false, false⟩,
     ⟨none, .mapSet (.int .i64) (.tmp 1) (.const (.int .i64 5)) (.tmp 4), none, [], false, false⟩,
     ⟨(some 5), .build [(.int .i64 0), (.int .i64 0)] [(0, 1, (.const (.int .i64 3))), (1, 1, (.const (.int .i64 2)))], none, [], false, false⟩,
     ⟨none, .mapSet (.int .i64) (.tmp 1) (.const (.int .i64 7)) (.tmp 5), none, [], false, false⟩,
     ⟨(some 6), .build [(.int .i64 0), (.int .i64 0)] [(0, 1, (.const (.int .i64 8))), (1, 1, (.const (.int .i64 5)))], none, [], false, false⟩,
     ⟨none, .mapSet (.int .i64) (.tmp 1) (.const (.int .i64 8)) (.tmp 6), none, [], false, false⟩,
     ⟨(some 7), .build [(.int .i64 0), (.int .i64 0)] [(0, 1, (.const (.int .i64 5))), (1, 1, (.const (.int .i64 3)))], none, [], false, false⟩,
     ⟨none, .mapSet (.int .i64) (.tmp 1) (.const (.int .i64 9)) (.tmp 7), none, [], false, false⟩,
     ⟨(some 8), .build [(.int .i64 0), (.int .i64 0)] [(0, 1, (.const (.int .i64 2))), (1, 1, (.const (.int .i64 1)))], none, [], false, false⟩,
     ⟨none, .mapSet (.int .i64) (.tmp 1) (.const (.int .i64 12)) (.tmp 8), none, [], false, false⟩,
     ⟨(some 9), .build [(.int .i64 0), (.int .i64 0)] [(0, 1, (.const (.int .i64 12))), (1, 1, (.const (.int .i64 5)))], none, [], false, false⟩,
     ⟨none, .mapSet (.int .i64) (.tmp 1) (.const (.int .i64 15)) (.tmp 9), none, [], false, false⟩,
     ⟨(some 10), .build [(.int .i64 0), (.int .i64 0)] [(0, 1, (.const (.int .i64 5))), (1, 1, (.const (.int .i64 2)))], none, [], false, false⟩,
     ⟨none, .mapSet (.int .i64) (.tmp 1) (.const (.int .i64 16)) (.tmp 10), none, [], false, false⟩,
     ⟨(some 11), .build [(.int .i64 0), (.int .i64 0)] [(0, 1, (.const (.int .i64 8))), (1, 1, (.const (.int .i64 3)))], none, [], false, false⟩,
     ⟨none, .mapSet (.int .i64) (.tmp 1) (.const (.int .i64 17)) (.tmp 11), none, [], false, false⟩,
     ⟨(some 12), .build [(.int .i64 0), (.int .i64 0)] [(0, 1, (.const (.int .i64 3))), (1, 1, (.const (.int .i64 1)))], none, [], false, false⟩,
     ⟨none, .mapSet (.int .i64) (.tmp 1) (.const (.int .i64 19)) (.tmp 12), none, [], false, false⟩,
     ⟨(some 13), .build [(.int .i64 0), (.int .i64 0)] [(0, 1, (.const (.int .i64 4))), (1, 1, (.const (.int .i64 1)))], none, [], false, false⟩,
     ⟨none, .mapSet (.int .i64) (.tmp 1) (.const (.int .i64 24)) (.tmp 13), none, [], false, false⟩,
     ⟨(some 14), .build [(.int .i64 0), (.int .i64 0)] [(0, 1, (.const (.int .i64 5))), (1, 1, (.const (.int .i64 1)))], none, [], false, false⟩,
     ⟨none, .mapSet (.int .i64) (.tmp 1) (.const (.int .i64 28)) (.tmp 14), none, [], false, false⟩,
     ⟨(some 15), .move (.tmp 1), none, [], false, false⟩,
     ⟨(some 0), .move (.tmp 15), none, [], false, false⟩])
  (.ret)),
 [.tmp 0], .pure, 16⟩

/-- agraffe/agraffebase.Mod -/
def ef103 : EFun := ⟨
 .seq (.region false [⟨(some 4), .move (.const (.int .i64 0)), none, [], false, false⟩])
 (.seq (.region false [⟨(some 6), .move (.tmp 0), none, [], false, false⟩,
     ⟨(some 7), .move (.tmp 1), none, [], false, false⟩,
     ⟨(some 8), .bin .rem (.tmp 6) (.tmp 7), none, [], false, false⟩,
     ⟨(some 5), .move (.tmp 8), none, [], false, false⟩])
  (.seq (.seq (.region false [⟨(some 9), .move (.tmp 5), none, [], false, false⟩,
       ⟨(some 10), .bin .lss (.tmp 9) (.const (.int .i64 0)), none, [], false, false⟩])
    (.cond (.tmp 10) (.region false [⟨(some 11), .move (.tmp 5), none, [], false, false⟩,
        ⟨(some 12), .move (.tmp 1), none, [], false, false⟩,
        ⟨(some 13), .bin .add (.tmp 11) (.tmp 12), none, [], false, false⟩,
        ⟨(some 5), .move (.tmp 13), none, [], false, false⟩])
     (.skip)))
   (.seq (.region false [⟨(some 14), .move (.tmp 5), none, [], false, false⟩,
       ⟨(some 4), .move (.tmp 14), none, [], false, false⟩])
    (.ret)))),
 [.tmp 4], .pure, 15⟩

/-- agraffe/agrafferef06.Place -/
def ef104 : EFun := ⟨
 .seq (.region false [⟨(some 2), .move (.const (.int .i64 0)), none, [], false, false⟩])
 (.seq (.region false [⟨(some 3), .move (.tmp 0), none, [], false, false⟩,
     ⟨(some 4), .bin .mul (.const (.int .i64 7)) (.tmp 3), none, [], false, false⟩,
     ⟨(some 5), .call 103 [(.tmp 4), (.const (.int .i64 12))], none, [], false, false⟩,
     ⟨(some 2), .move (.tmp 5), none, [], false, false⟩])
  (.ret)),
 [.tmp 2], .pure, 6⟩

/-- agraffe/agrafferef06.octave -/
def ef105 : EFun := ⟨
 .seq (.region false [⟨(some 0), .push [(.int .i64 0), (.int .i64 0), (.int .i64 0)], none, [], false, false⟩])
 (.seq (.region false [⟨(some 1), .build [(.int .i64 0), (.int .i64 0), (.int .i64 0)] [(0, 1, (.const (.int .i64 12))), (1, 1, (.const (.int .i64 0))), (2, 1, (.const (.int .i64 0)))], none, [], false, false⟩,
     ⟨none, .store 3 (.tmp 0) (.tmp 1), none, [], false, false⟩])
  (.ret)),
 [.cell 0 true 3], .pure, 2⟩

/-- agraffe/temper.CheckTemperament$1 -/
def ef108 : EFun := ⟨
 .seq (.region false [⟨(some 2), .move (.const (.bool false)), none, [], false, false⟩])
 (.seq (.region false [⟨(some 3), .move (.tmp 0), none, [], false, false⟩,
     ⟨(some 4), .bin .lss (.tmp 3) (.const (.int .i64 (-48))), none, [], false, false⟩,
     ⟨(some 5), .move (.tmp 4), none, [], false, false⟩,
     ⟨(some 6), .move (.tmp 0), (some (5, false)), [], false, false⟩,
     ⟨(some 7), .bin .gtr (.tmp 6) (.const (.int .i64 48)), (some (5, false)), [], false, false⟩,
     ⟨(some 8), .pick (.tmp 5) (.const (.bool true)) (.tmp 7), none, [], false, false⟩,
     ⟨(some 2), .move (.tmp 8), none, [], false, false⟩])
  (.ret)),
 [.tmp 2], .pure, 9⟩

/-- agraffe/temper.isName -/
def ef109 : EFun := ⟨
 .seq (.region false [⟨(some 2), .move (.const (.bool false)), none, [], false, false⟩])
 (.seq (.seq (.region false [⟨(some 6), .move (.tmp 0), none, [], false, false⟩,
      ⟨(some 7), .bytesOf (.tmp 6), none, [], false, false⟩,
      ⟨(some 8), .len false (.tmp 7), none, [], false, false⟩,
      ⟨(some 9), .move (.const (.int .i64 0)), none, [], false, false⟩])
   (.block 0 (.loop (some [0, 7, 8, 9]) (
     .seq (.region false [⟨(some 10), .bin .lss (.tmp 9) (.tmp 8), none, [], false, false⟩])
      (.seq (.cond (.tmp 10) (.skip)
        (.exit 0))
       (.seq (.block 1 (.seq (.region false [⟨(some 11), .move (.tmp 9), none, [], false, false⟩,
             ⟨(some 12), .indexAddr none 1 (.tmp 7) (.tmp 9), none, [], false, false⟩,
             ⟨(some 13), .load false 1 (.tmp 12), none, [], false, false⟩,
             ⟨(some 3), .move (.tmp 11), none, [], false, false⟩,
             ⟨(some 4), .move (.tmp 13), none, [], false, false⟩])
          (.seq (.region false [⟨(some 14), .move (.tmp 4), none, [], false, false⟩,
              ⟨(some 15), .bin .geq (.tmp 14) (.const (.int .u8 97)), none, [], false, false⟩,
              ⟨(some 16), .move (.tmp 15), none, [], false, false⟩,
              ⟨(some 17), .move (.tmp 4), (some (16, true)), [], false, false⟩,
              ⟨(some 18), .bin .leq (.tmp 17) (.const (.int .u8 122)), (some (16, true)), [], false, false⟩,
              ⟨(some 19), .pick (.tmp 16) (.tmp 18) (.const (.bool false)), none, [], false, false⟩,
              ⟨(some 20), .move (.tmp 19), none, [], false, false⟩,
              ⟨(some 21), .move (.tmp 4), (some (20, false)), [], false, false⟩,
              ⟨(some 22), .bin .geq (.tmp 21) (.const (.int .u8 65)), (some (20, false)), [], false, false⟩,
              ⟨(some 23), .move (.tmp 22), (some (20, false)), [], false, false⟩,
              ⟨(some 24), .move (.tmp 4), (some (23, true)), [], false, false⟩,
              ⟨(some 25), .bin .leq (.tmp 24) (.const (.int .u8 90)), (some (23, true)), [], false, false⟩,
              ⟨(some 26), .pick (.tmp 23) (.tmp 25) (.const (.bool false)), (some (20, false)), [], false, false⟩,
              ⟨(some 27), .pick (.tmp 20) (.const (.bool true)) (.tmp 26), none, [], false, false⟩,
              ⟨(some 5), .move (.tmp 27), none, [], false, false⟩])
           (.seq (.region false [⟨(some 28), .move (.tmp 5), none, [], false, false⟩,
               ⟨(some 29), .un .not (.tmp 28), none, [], false, false⟩,
               ⟨(some 30), .move (.tmp 29), none, [], false, false⟩,
               ⟨(some 31), .move (.tmp 3), (some (30, true)), [], false, false⟩,
               ⟨(some 32), .bin .eql (.tmp 31) (.const (.int .i64 0)), (some (30, true)), [], false, false⟩,
               ⟨(some 33), .move (.tmp 32), (some (30, true)), [], false, false⟩,
               ⟨(some 34), .move (.tmp 4), (some (33, false)), [], false, false⟩,
               ⟨(some 35), .bin .neq (.tmp 34) (.const (.int .u8 45)), (some (33, false)), [], false, false⟩,
               ⟨(some 36), .move (.tmp 35), (some (33, false)), [], false, false⟩,
               ⟨(some 37), .move (.tmp 4), (some (36, true)), [], false, false⟩,
               ⟨(some 38), .bin .lss (.tmp 37) (.const (.int .u8 48)), (some (36, true)), [], false, false⟩,
               ⟨(some 39), .move (.tmp 38), (some (36, true)), [], false, false⟩,
               ⟨(some 40), .move (.tmp 4), (some (39, false)), [], false, false⟩,
               ⟨(some 41), .bin .gtr (.tmp 40) (.const (.int .u8 57)), (some (39, false)), [], false, false⟩,
               ⟨(some 42), .pick (.tmp 39) (.const (.bool true)) (.tmp 41), (some (36, true)), [], false, false⟩,
               ⟨(some 43), .pick (.tmp 36) (.tmp 42) (.const (.bool false)), (some (33, false)), [], false, false⟩,
               ⟨(some 44), .pick (.tmp 33) (.const (.bool true)) (.tmp 43), (some (30, true)), [], false, false⟩,
               ⟨(some 45), .pick (.tmp 30) (.tmp 44) (.const (.bool false)), none, [], false, false⟩])
            (.cond (.tmp 45) (.seq (.region false [⟨(some 2), .move (.const (.bool false)), none, [], false, false⟩])
              (.ret))
             (.skip))))))
        (.region false [⟨(some 46), .bin .add (.tmp 9) (.const (.int .i64 1)), none, [], false, false⟩,
           ⟨(some 9), .move (.tmp 46), none, [], false, false⟩])))))))
  (.seq (.region false [⟨(some 47), .move (.tmp 0), none, [], false, false⟩,
      ⟨(some 48), .bin .neq (.tmp 47) (.const (.string ⟨#[]⟩)), none, [], false, false⟩,
      ⟨(some 49), .move (.tmp 48), none, [], false, false⟩,
      ⟨(some 50), .move (.tmp 0), (some (49, true)), [], false, false⟩,
      ⟨(some 51), .len true (.tmp 50), (some (49, true)), [], false, false⟩,
      ⟨(some 52), .bin .leq (.tmp 51) (.const (.int .i64 12)), (some (49, true)), [], false, false⟩,
      ⟨(some 53), .pick (.tmp 49) (.tmp 52) (.const (.bool false)), none, [], false, false⟩,
      ⟨(some 2), .move (.tmp 53), none, [], false, false⟩])
   (.ret))),
 [.tmp 2], .pure, 54⟩

/-- slices.ContainsFunc[[]int,int] -/
def ef110 : EFun := ⟨
 .seq (.region false [⟨(some 4), .move (.const (.bool false)), none, [], false, false⟩])
 (.seq (.region false [⟨(some 5), .move (.tmp 0), none, [], false, false⟩,
     ⟨(some 6), .move (.tmp 1), none, [], false, false⟩,
     ⟨(some 7), .call 148 [(.tmp 5), (.tmp 6)], none, [], false, false⟩,
     ⟨(some 8), .bin .geq (.tmp 7) (.const (.int .i64 0)), none, [], false, false⟩,
     ⟨(some 4), .move (.tmp 8), none, [], false, false⟩])
  (.ret)),
 [.tmp 4], .pure, 9⟩

/-- agraffe/temper.sum -/
def ef111 : EFun := ⟨
 .seq (.region false [⟨(some 2), .move (.const (.int .i64 0)), none, [], false, false⟩])
 (.seq (.region false [⟨(some 3), .move (.const (.int .i64 0)), none, [], false, false⟩])
  (.seq (.seq (.region false [⟨(some 6), .move (.tmp 0), none, [], false, false⟩,
       ⟨(some 7), .len false (.tmp 6), none, [], false, false⟩,
       ⟨(some 8), .move (.const (.int .i64 0)), none, [], false, false⟩])
    (.block 0 (.loop (some [3, 6, 7, 8]) (
      .seq (.region false [⟨(some 9), .bin .lss (.tmp 8) (.tmp 7), none, [], false, false⟩])
       (.seq (.cond (.tmp 9) (.skip)
         (.exit 0))
        (.seq (.block 1 (.seq (.region false [⟨(some 10), .indexAddr none 1 (.tmp 6) (.tmp 8), none, [], false, false⟩,
              ⟨(some 11), .load false 1 (.tmp 10), none, [], false, false⟩,
              ⟨(some 5), .move (.tmp 11), none, [], false, false⟩])
           (.region false [⟨(some 12), .move (.tmp 3), none, [], false, false⟩,
              ⟨(some 13), .move (.tmp 5), none, [], false, false⟩,
              ⟨(some 14), .bin .add (.tmp 12) (.tmp 13), none, [], false, false⟩,
              ⟨(some 3), .move (.tmp 14), none, [], false, false⟩])))
         (.region false [⟨(some 15), .bin .add (.tmp 8) (.const (.int .i64 1)), none, [], false, false⟩,
            ⟨(some 8), .move (.tmp 15), none, [], false, false⟩])))))))
   (.seq (.region false [⟨(some 16), .move (.tmp 3), none, [], false, false⟩,
       ⟨(some 2), .move (.tmp 16), none, [], false, false⟩])
    (.ret)))),
 [.tmp 2], .pure, 17⟩

/-- agraffe/temper.round -/
def ef112 : EFun := ⟨
 .seq (.region false [⟨(some 1), .box (.tmp 0), none, [], false, false⟩,
    ⟨(some 2), .move (.const (.pointer none)), none, [], false, false⟩])
 (.seq (.region false [⟨(some 3), .push (List.replicate 72 (.int .i64 0)), none, [], false, false⟩])
  (.seq (.region false [⟨(some 4), .push [(.int .i64 0), (.int .i64 0), (.int .i64 0)], none, [], false, false⟩])
   (.seq (.seq (.region false [⟨(some 8), .move (.const (.int .i64 0)), none, [], false, false⟩])
     (.block 0 (.loop (some [1, 3, 4, 8]) (
       .seq (.region false [⟨(some 9), .bin .lss (.tmp 8) (.const (.int .i64 12)), none, [], false, false⟩])
        (.seq (.cond (.tmp 9) (.skip)
          (.exit 0))
         (.seq (.block 1 (.seq (.region false [⟨(some 10), .move (.tmp 8), none, [], false, false⟩,
               ⟨(some 5), .move (.tmp 10), none, [], false, false⟩])
            (.seq (.region true [⟨(some 11), .move (.tmp 5), none, [], false, false⟩,
                ⟨(some 12), .fieldAddr 1 (.tmp 1), none, [], false, false⟩,
                ⟨(some 13), .indexAddr (some 12) 1 (.tmp 12) (.tmp 11), none, [], false, false⟩,
                ⟨(some 14), .load false 1 (.tmp 13), none, [], false, false⟩,
                ⟨(some 15), .move (.tmp 5), none, [], false, false⟩,
                ⟨(some 16), .fieldAddr 13 (.tmp 1), none, [], false, false⟩,
                ⟨(some 17), .indexAddr (some 12) 1 (.tmp 16) (.tmp 15), none, [], false, false⟩,
                ⟨(some 18), .load false 1 (.tmp 17), none, [], false, false⟩,
                ⟨(some 6), .move (.tmp 14), none, [], false, false⟩,
                ⟨(some 7), .move (.tmp 18), none, [], false, false⟩])
             (.seq (.region false [⟨(some 19), .move (.tmp 5), none, [], false, false⟩,
                 ⟨(some 20), .move (.tmp 6), none, [], false, false⟩,
                 ⟨(some 21), .bin .mul (.const (.int .i64 19)) (.tmp 20), none, [], false, false⟩,
                 ⟨(some 22), .bin .add (.const (.int .i64 (-12))) (.tmp 21), none, [], false, false⟩,
                 ⟨(some 23), .move (.tmp 7), none, [], false, false⟩,
                 ⟨(some 24), .bin .mul (.const (.int .i64 4)) (.tmp 23), none, [], false, false⟩,
                 ⟨(some 25), .bin .add (.tmp 22) (.tmp 24), none, [], false, false⟩,
                 ⟨(some 26), .move (.tmp 6), none, [], false, false⟩,
                 ⟨(some 27), .bin .mul (.const (.int .i64 12)) (.tmp 26), none, [], false, false⟩,
                 ⟨(some 28), .bin .sub (.const (.int .i64 12)) (.tmp 27), none, [], false, false⟩,
                 ⟨(some 29), .move (.tmp 7), none, [], false, false⟩,
                 ⟨(some 30), .bin .mul (.const (.int .i64 4)) (.tmp 29), none, [], false, false⟩,
                 ⟨(some 31), .bin .sub (.tmp 28) (.tmp 30), none, [], false, false⟩,
                 ⟨(some 32), .move (.tmp 7), none, [], false, false⟩,
                 ⟨(some 33), .build [(.int .i64 0), (.int .i64 0), (.int .i64 0)] [(0, 1, (.tmp 25)), (1, 1, (.tmp 31)), (2, 1, (.tmp 32))], none, [], false, false⟩,
                 ⟨(some 34), .fieldAddr 0 (.tmp 3), none, [], false, false⟩,
                 ⟨(some 35), .indexAddr (some 12) 3 (.tmp 34) (.tmp 19), none, [], false, false⟩,
                 ⟨none, .store 3 (.tmp 35) (.tmp 33), none, [], false, false⟩])
              (.seq (.region true [⟨(some 36), .move (.tmp 5), none, [], false, false⟩,
                  ⟨(some 37), .bin .mul (.const (.int .i64 7)) (.tmp 36), none, [], false, false⟩,
                  ⟨(some 38), .bin .rem (.tmp 37) (.const (.int .i64 12)), none, [], false, false⟩,
                  ⟨(some 39), .load true 3 (.tmp 4), none, [], false, false⟩,
                  ⟨(some 40), .call 147 [], none, [], false, true⟩,
                  ⟨(some 41), .move (.tmp 5), none, [], false, false⟩,
                  ⟨(some 42), .bin .mul (.const (.int .i64 7)) (.tmp 41), none, [], false, false⟩,
                  ⟨(some 43), .bin .quo (.tmp 42) (.const (.int .i64 12)), none, [], false, false⟩,
                  ⟨(some 44), .un .neg (.tmp 43), none, [], false, false⟩,
                  ⟨(some 45), .call 122 [(.tmp 39), (.tmp 40), (.tmp 44)], none, [], false, false⟩,
                  ⟨(some 46), .fieldAddr 36 (.tmp 3), none, [], false, false⟩,
                  ⟨(some 47), .indexAddr (some 12) 3 (.tmp 46) (.tmp 38), none, [], false, false⟩,
                  ⟨none, .store 3 (.tmp 47) (.tmp 45), none, [], false, false⟩])
               (.region true [⟨(some 48), .load true 3 (.tmp 4), none, [], false, false⟩,
                  ⟨(some 49), .move (.tmp 5), none, [], false, false⟩,
                  ⟨(some 50), .fieldAddr 0 (.tmp 3), none, [], false, false⟩,
                  ⟨(some 51), .indexAddr (some 12) 3 (.tmp 50) (.tmp 49), none, [], false, false⟩,
                  ⟨(some 52), .load true 3 (.tmp 51), none, [], false, false⟩,
                  ⟨(some 53), .call 122 [(.tmp 48), (.tmp 52), (.const (.int .i64 1))], none, [], false, false⟩,
                  ⟨none, .store 3 (.tmp 4) (.tmp 53), none, [], false, false⟩]))))))
          (.region false [⟨(some 54), .bin .add (.tmp 8) (.const (.int .i64 1)), none, [], false, false⟩,
             ⟨(some 8), .move (.tmp 54), none, [], false, false⟩])))))))
    (.seq (.region false [⟨(some 2), .move (.tmp 3), none, [], false, false⟩])
     (.ret))))),
 [.tmp 2], .pure, 55⟩

/-- (*agraffe/temper.circle).spread -/
def ef113 : EFun := ⟨
 .seq (.region false [⟨(some 2), .move (.const (.int .i64 0)), none, [], false, false⟩])
 (.seq (.region false [⟨(some 3), .move (.const (.int .i64 0)), none, [], false, false⟩])
  (.seq (.seq (.region false [⟨(some 9), .move (.const (.int .i64 0)), none, [], false, false⟩])
    (.block 0 (.loop (some [0, 3, 9]) (
      .seq (.region false [⟨(some 10), .bin .lss (.tmp 9) (.const (.int .i64 3)), none, [], false, false⟩])
       (.seq (.cond (.tmp 10) (.skip)
         (.exit 0))
        (.seq (.block 1 (.seq (.region false [⟨(some 11), .move (.tmp 9), none, [], false, false⟩,
              ⟨(some 4), .move (.tmp 11), none, [], false, false⟩])
           (.seq (.region true [⟨(some 12), .move (.tmp 0), none, [], false, false⟩,
               ⟨(some 13), .move (.tmp 4), none, [], false, false⟩,
               ⟨(some 14), .nilCheck (.tmp 12), none, [], false, false⟩,
               ⟨(some 15), .fieldAddr 36 (.tmp 14), none, [], false, false⟩,
               ⟨(some 16), .indexAddr (some 12) 3 (.tmp 15) (.const (.int .i64 0)), none, [], false, false⟩,
               ⟨(some 17), .indexAddr (some 3) 1 (.tmp 16) (.tmp 13), none, [], false, false⟩,
               ⟨(some 18), .load false 1 (.tmp 17), none, [], false, false⟩,
               ⟨(some 19), .move (.tmp 0), none, [], false, false⟩,
               ⟨(some 20), .move (.tmp 4), none, [], false, false⟩,
               ⟨(some 21), .nilCheck (.tmp 19), none, [], false, false⟩,
               ⟨(some 22), .fieldAddr 36 (.tmp 21), none, [], false, false⟩,
               ⟨(some 23), .indexAddr (some 12) 3 (.tmp 22) (.const (.int .i64 0)), none, [], false, false⟩,
               ⟨(some 24), .indexAddr (some 3) 1 (.tmp 23) (.tmp 20), none, [], false, false⟩,
               ⟨(some 25), .load false 1 (.tmp 24), none, [], false, false⟩,
               ⟨(some 5), .move (.tmp 18), none, [], false, false⟩,
               ⟨(some 6), .move (.tmp 25), none, [], false, false⟩])
            (.seq (.seq (.region false [⟨(some 26), .move (.tmp 0), none, [], false, false⟩,
                 ⟨(some 27), .nilCheck (.tmp 26), none, [], false, false⟩,
                 ⟨(some 28), .fieldAddr 36 (.tmp 27), none, [], false, false⟩,
                 ⟨(some 29), .load true 36 (.tmp 28), none, [], false, false⟩,
                 ⟨(some 30), .move (.const (.int .i64 0)), none, [], false, false⟩])
              (.block 2 (.loop (some [0, 3, 4, 5, 6, 9, 29, 30]) (
                .seq (.region false [⟨(some 31), .bin .lss (.tmp 30) (.const (.int .i64 12)), none, [], false, false⟩])
                 (.seq (.cond (.tmp 31) (.skip)
                   (.exit 2))
                  (.seq (.block 3 (.seq (.region false [⟨(some 32), .index 12 3 true (.tmp 29) (.tmp 30), none, [], false, false⟩,
                        ⟨(some 8), .push [(.int .i64 0), (.int .i64 0), (.int .i64 0)], none, [], false, false⟩,
                        ⟨none, .store 3 (.tmp 8) (.tmp 32), none, [], false, false⟩])
                     (.region true [⟨(some 33), .move (.tmp 5), none, [], false, false⟩,
                        ⟨(some 34), .move (.tmp 4), none, [], false, false⟩,
                        ⟨(some 35), .indexAddr (some 3) 1 (.tmp 8) (.tmp 34), none, [], false, false⟩,
                        ⟨(some 36), .load false 1 (.tmp 35), none, [], false, false⟩,
                        ⟨(some 37), .min [(.tmp 33), (.tmp 36)], none, [], false, false⟩,
                        ⟨(some 38), .move (.tmp 6), none, [], false, false⟩,
                        ⟨(some 39), .move (.tmp 4), none, [], false, false⟩,
                        ⟨(some 40), .indexAddr (some 3) 1 (.tmp 8) (.tmp 39), none, [], false, false⟩,
                        ⟨(some 41), .load false 1 (.tmp 40), none, [], false, false⟩,
                        ⟨(some 42), .max [(.tmp 38), (.tmp 41)], none, [], false, false⟩,
                        ⟨(some 5), .move (.tmp 37), none, [], false, false⟩,
                        ⟨(some 6), .move (.tmp 42), none, [], false, false⟩])))
                   (.region false [⟨(some 43), .bin .add (.tmp 30) (.const (.int .i64 1)), none, [], false, false⟩,
                      ⟨(some 30), .move (.tmp 43), none, [], false, false⟩])))))))
             (.region false [⟨(some 44), .move (.tmp 3), none, [], false, false⟩,
                ⟨(some 45), .move (.tmp 6), none, [], false, false⟩,
                ⟨(some 46), .move (.tmp 5), none, [], false, false⟩,
                ⟨(some 47), .bin .sub (.tmp 45) (.tmp 46), none, [], false, false⟩,
                ⟨(some 48), .max [(.tmp 44), (.tmp 47)], none, [], false, false⟩,
                ⟨(some 3), .move (.tmp 48), none, [], false, false⟩])))))
         (.region false [⟨(some 49), .bin .add (.tmp 9) (.const (.int .i64 1)), none, [], false, false⟩,
            ⟨(some 9), .move (.tmp 49), none, [], false, false⟩])))))))
   (.seq (.region false [⟨(some 50), .move (.tmp 3), none, [], false, false⟩,
       ⟨(some 2), .move (.tmp 50), none, [], false, false⟩])
    (.ret)))),
 [.tmp 2], .pure, 51⟩

/-- agraffe/number.checkPitches -/
def ef114 : EFun := ⟨
 .seq (.region false [⟨(some 2), .box (.tmp 0), none, [], false, false⟩,
    ⟨(some 3), .box (.tmp 1), none, [], false, false⟩,
    ⟨(some 4), .move (.const (.int .i64 0)), none, [], false, false⟩])
 (.seq (.seq (.region false [⟨(some 6), .load true 4 (.tmp 2), none, [], false, false⟩,
      ⟨(some 7), .call 129 [(.tmp 6)], none, [], false, false⟩,
      ⟨(some 5), .move (.tmp 7), none, [], false, false⟩])
   (.seq (.region false [⟨(some 8), .move (.tmp 5), none, [], false, false⟩,
       ⟨(some 9), .bin .neq (.tmp 8) (.const (.int .i64 0)), none, [], false, false⟩])
    (.cond (.tmp 9) (.seq (.region false [⟨(some 10), .move (.tmp 5), none, [], false, false⟩,
         ⟨(some 4), .move (.tmp 10), none, [], false, false⟩])
      (.ret))
     (.skip))))
  (.seq (.region false [⟨(some 11), .load true 4 (.tmp 3), none, [], false, false⟩,
      ⟨(some 12), .call 129 [(.tmp 11)], none, [], false, false⟩,
      ⟨(some 4), .move (.tmp 12), none, [], false, false⟩])
   (.ret))),
 [.tmp 4], .pure, 13⟩

/-- agraffe/number.fitting -/
def ef115 : EFun := ⟨
 .seq (.region false [⟨(some 1), .box (.tmp 0), none, [], false, false⟩,
    ⟨(some 2), .push [(.int .i64 0), (.int .i64 0), (.int .i64 0), (.int .i64 0)], none, [], false, false⟩,
    ⟨(some 3), .move (.const (.int .i64 0)), none, [], false, false⟩])
 (.seq (.region false [⟨(some 4), .load true 4 (.tmp 1), none, [], false, false⟩,
     ⟨(some 5), .call 131 [(.tmp 4)], none, [], false, false⟩,
     ⟨none, .store 4 (.tmp 1) (.tmp 5), none, [], false, false⟩])
  (.seq (.seq (.region false [⟨(some 6), .load true 4 (.tmp 1), none, [], false, false⟩,
       ⟨(some 7), .call 129 [(.tmp 6)], none, [], false, false⟩,
       ⟨(some 8), .bin .neq (.tmp 7) (.const (.int .i64 0)), none, [], false, false⟩])
    (.cond (.tmp 8) (.seq (.region false [⟨(some 9), .build [(.int .i64 0), (.int .i64 0), (.int .i64 0), (.int .i64 0)] [], none, [], false, false⟩,
         ⟨none, .store 4 (.tmp 2) (.tmp 9), none, [], false, false⟩,
         ⟨(some 3), .move (.const (.int .i64 8)), none, [], false, false⟩])
      (.ret))
     (.skip)))
   (.seq (.region false [⟨(some 10), .load true 4 (.tmp 1), none, [], false, false⟩,
       ⟨none, .store 4 (.tmp 2) (.tmp 10), none, [], false, false⟩,
       ⟨(some 3), .move (.const (.int .i64 0)), none, [], false, false⟩])
    (.ret)))),
 [.cell 2 true 4, .tmp 3], .pure, 11⟩

/-- agraffe/number.joined -/
def ef116 : EFun := ⟨
 .seq (.region false [⟨(some 3), .box (.tmp 0), none, [], false, false⟩,
    ⟨(some 4), .box (.tmp 1), none, [], false, false⟩,
    ⟨(some 6), .push [(.int .i64 0), (.int .i64 0), (.int .i64 0), (.int .i64 0)], none, [], false, false⟩])
 (.seq (.region false [⟨(some 7), .fieldAddr 0 (.tmp 3), none, [], false, false⟩,
     ⟨(some 8), .load false 1 (.tmp 7), none, [], false, false⟩,
     ⟨(some 9), .fieldAddr 3 (.tmp 4), none, [], false, false⟩,
     ⟨(some 10), .load false 1 (.tmp 9), none, [], false, false⟩,
     ⟨(some 11), .bin .mul (.tmp 8) (.tmp 10), none, [], false, false⟩,
     ⟨(some 12), .move (.tmp 2), none, [], false, false⟩,
     ⟨(some 13), .fieldAddr 0 (.tmp 4), none, [], false, false⟩,
     ⟨(some 14), .load false 1 (.tmp 13), none, [], false, false⟩,
     ⟨(some 15), .bin .mul (.tmp 12) (.tmp 14), none, [], false, false⟩,
     ⟨(some 16), .fieldAddr 3 (.tmp 3), none, [], false, false⟩,
     ⟨(some 17), .load false 1 (.tmp 16), none, [], false, false⟩,
     ⟨(some 18), .bin .mul (.tmp 15) (.tmp 17), none, [], false, false⟩,
     ⟨(some 19), .bin .add (.tmp 11) (.tmp 18), none, [], false, false⟩,
     ⟨(some 20), .fieldAddr 1 (.tmp 3), none, [], false, false⟩,
     ⟨(some 21), .load false 1 (.tmp 20), none, [], false, false⟩,
     ⟨(some 22), .fieldAddr 3 (.tmp 4), none, [], false, false⟩,
     ⟨(some 23), .load false 1 (.tmp 22), none, [], false, false⟩,
     ⟨(some 24), .bin .mul (.tmp 21) (.tmp 23), none, [], false, false⟩,
     ⟨(some 25), .move (.tmp 2), none, [], false, false⟩,
     ⟨(some 26), .fieldAddr 1 (.tmp 4), none, [], false, false⟩,
     ⟨(some 27), .load false 1 (.tmp 26), none, [], false, false⟩,
     ⟨(some 28), .bin .mul (.tmp 25) (.tmp 27), none, [], false, false⟩,
     ⟨(some 29), .fieldAddr 3 (.tmp 3), none, [], false, false⟩,
     ⟨(some 30), .load false 1 (.tmp 29), none, [], false, false⟩,
     ⟨(some 31), .bin .mul (.tmp 28) (.tmp 30), none, [], false, false⟩,
     ⟨(some 32), .bin .add (.tmp 24) (.tmp 31), none, [], false, false⟩,
     ⟨(some 33), .fieldAddr 2 (.tmp 3), none, [], false, false⟩,
     ⟨(some 34), .load false 1 (.tmp 33), none, [], false, false⟩,
     ⟨(some 35), .fieldAddr 3 (.tmp 4), none, [], false, false⟩,
     ⟨(some 36), .load false 1 (.tmp 35), none, [], false, false⟩,
     ⟨(some 37), .bin .mul (.tmp 34) (.tmp 36), none, [], false, false⟩,
     ⟨(some 38), .move (.tmp 2), none, [], false, false⟩,
     ⟨(some 39), .fieldAddr 2 (.tmp 4), none, [], false, false⟩,
     ⟨(some 40), .load false 1 (.tmp 39), none, [], false, false⟩,
     ⟨(some 41), .bin .mul (.tmp 38) (.tmp 40), none, [], false, false⟩,
     ⟨(some 42), .fieldAddr 3 (.tmp 3), none, [], false, false⟩,
     ⟨(some 43), .load false 1 (.tmp 42), none, [], false, false⟩,
     ⟨(some 44), .bin .mul (.tmp 41) (.tmp 43), none, [], false, false⟩,
     ⟨(some 45), .bin .add (.tmp 37) (.tmp 44), none, [], false, false⟩,
     ⟨(some 46), .fieldAddr 3 (.tmp 3), none, [], false, false⟩,
     ⟨(some 47), .load false 1 (.tmp 46), none, [], false, false⟩,
     ⟨(some 48), .fieldAddr 3 (.tmp 4), none, [], false, false⟩,
     ⟨(some 49), .load false 1 (.tmp 48), none, [], false, false⟩,
     ⟨(some 50), .bin .mul (.tmp 47) (.tmp 49), none, [], false, false⟩,
     ⟨(some 51), .build [(.int .i64 0), (.int .i64 0), (.int .i64 0), (.int .i64 0)] [(0, 1, (.tmp 19)), (1, 1, (.tmp 32)), (2, 1, (.tmp 45)), (3, 1, (.tmp 50))], none, [], false, false⟩,
     ⟨none, .store 4 (.tmp 6) (.tmp 51), none, [], false, false⟩])
  (.ret)),
 [.cell 6 true 4], .pure, 52⟩

/-- (agraffe/temper.exponents).plus -/
def ef122 : EFun := ⟨
 .seq (.region false [⟨(some 3), .box (.tmp 0), none, [], false, false⟩,
    ⟨(some 4), .box (.tmp 1), none, [], false, false⟩,
    ⟨(some 6), .push [(.int .i64 0), (.int .i64 0), (.int .i64 0)], none, [], false, false⟩])
 (.seq (.seq (.region false [⟨(some 8), .move (.const (.int .i64 0)), none, [], false, false⟩])
   (.block 0 (.loop (some [2, 3, 4, 6, 8]) (
     .seq (.region false [⟨(some 9), .bin .lss (.tmp 8) (.const (.int .i64 3)), none, [], false, false⟩])
      (.seq (.cond (.tmp 9) (.skip)
        (.exit 0))
       (.seq (.block 1 (.seq (.region false [⟨(some 10), .move (.tmp 8), none, [], false, false⟩,
             ⟨(some 7), .move (.tmp 10), none, [], false, false⟩])
          (.region true [⟨(some 11), .move (.tmp 7), none, [], false, false⟩,
             ⟨(some 12), .indexAddr (some 3) 1 (.tmp 3) (.tmp 11), none, [], false, false⟩,
             ⟨(some 13), .load false 1 (.tmp 12), none, [], false, false⟩,
             ⟨(some 14), .move (.tmp 2), none, [], false, false⟩,
             ⟨(some 15), .move (.tmp 7), none, [], false, false⟩,
             ⟨(some 16), .indexAddr (some 3) 1 (.tmp 4) (.tmp 15), none, [], false, false⟩,
             ⟨(some 17), .load false 1 (.tmp 16), none, [], false, false⟩,
             ⟨(some 18), .bin .mul (.tmp 14) (.tmp 17), none, [], false, false⟩,
             ⟨(some 19), .bin .add (.tmp 13) (.tmp 18), none, [], false, false⟩,
             ⟨(some 20), .indexAddr (some 3) 1 (.tmp 3) (.tmp 11), none, [], false, false⟩,
             ⟨none, .store 1 (.tmp 20) (.tmp 19), none, [], false, false⟩])))
        (.region false [⟨(some 21), .bin .add (.tmp 8) (.const (.int .i64 1)), none, [], false, false⟩,
           ⟨(some 8), .move (.tmp 21), none, [], false, false⟩])))))))
  (.seq (.region false [⟨(some 22), .load true 3 (.tmp 3), none, [], false, false⟩,
      ⟨none, .store 3 (.tmp 6) (.tmp 22), none, [], false, false⟩])
   (.ret))),
 [.cell 6 true 3], .pure, 23⟩

/-- agraffe/temper.each -/
def ef124 : EFun := ⟨
 .seq (.region false [⟨(some 8), .move (.tmp 2), none, [], false, false⟩,
    ⟨(some 9), .len false (.tmp 8), none, [], false, false⟩,
    ⟨(some 10), .move (.const (.int .i64 0)), none, [], false, false⟩])
 (.block 0 (.loop (some [0, 1, 8, 9, 10]) (
   .seq (.region false [⟨(some 11), .bin .lss (.tmp 10) (.tmp 9), none, [], false, false⟩])
    (.seq (.cond (.tmp 11) (.skip)
      (.exit 0))
     (.seq (.block 1 (.seq (.region false [⟨(some 12), .indexAddr none 1 (.tmp 8) (.tmp 10), none, [], false, false⟩,
           ⟨(some 13), .load false 1 (.tmp 12), none, [], false, false⟩,
           ⟨(some 7), .move (.tmp 13), none, [], false, false⟩])
        (.region false [⟨(some 14), .move (.tmp 0), none, [], false, false⟩,
           ⟨(some 15), .move (.tmp 7), none, [], false, false⟩,
           ⟨(some 16), .move (.tmp 1), none, [], false, false⟩,
           ⟨(some 17), .nilCheck (.tmp 14), none, [], false, false⟩,
           ⟨(some 18), .indexAddr (some 12) 1 (.tmp 17) (.tmp 15), none, [], false, false⟩,
           ⟨none, .store 1 (.tmp 18) (.tmp 16), none, [], false, false⟩])))
      (.region false [⟨(some 19), .bin .add (.tmp 10) (.const (.int .i64 1)), none, [], false, false⟩,
         ⟨(some 10), .move (.tmp 19), none, [], false, false⟩])))))),
 [], .trunc, 20⟩

/-- agraffe/temper.follow -/
def ef125 : EFun := ⟨
 .seq (.region false [⟨(some 4), .box (.tmp 1), none, [], false, false⟩,
    ⟨(some 5), .box (.tmp 2), none, [], false, false⟩,
    ⟨(some 6), .move (.const (.map none)), none, [], false, false⟩,
    ⟨(some 7), .move (.const (.int .i64 0)), none, [], false, false⟩])
 (.seq (.seq (.region false [⟨(some 19), .move (.tmp 0), none, [], false, false⟩,
      ⟨(some 20), .len false (.tmp 19), none, [], false, false⟩,
      ⟨(some 21), .bin .gtr (.tmp 20) (.const (.int .i64 100)), none, [], false, false⟩])
   (.cond (.tmp 21) (.seq (.region false [⟨(some 6), .move (.const (.map none)), none, [], false, false⟩,
        ⟨(some 7), .move (.const (.int .i64 8)), none, [], false, false⟩])
     (.ret))
    (.skip)))
  (.seq (.region false [⟨(some 22), .makeFunc (.func 149) [(.tmp 4), (.tmp 5)], none, [], false, false⟩,
      ⟨(some 8), .move (.tmp 22), none, [], false, false⟩])
   (.seq (.region false [⟨(some 23), .makeMap, none, [], false, false⟩,
       ⟨none, .mapSet (.int .i64) (.tmp 23) (.const (.int .i64 48)) (.const (.int .i64 48)), none, [], false, false⟩,
       ⟨(some 24), .move (.tmp 23), none, [], false, false⟩,
       ⟨(some 9), .move (.tmp 24), none, [], false, false⟩])
    (.seq (.seq (.region false [⟨(some 25), .move (.tmp 0), none, [], false, false⟩,
         ⟨(some 26), .len false (.tmp 25), none, [], false, false⟩,
         ⟨(some 27), .move (.const (.int .i64 0)), none, [], false, false⟩])
      (.block 0 (.loop (some [8, 9, 25, 26, 27]) (
        .seq (.region false [⟨(some 28), .bin .lss (.tmp 27) (.tmp 26), none, [], false, false⟩])
         (.seq (.cond (.tmp 28) (.skip)
           (.exit 0))
          (.seq (.block 1 (.seq (.region false [⟨(some 29), .indexAddr none 2 (.tmp 25) (.tmp 27), none, [], false, false⟩,
                ⟨(some 30), .load true 2 (.tmp 29), none, [], false, false⟩,
                ⟨(some 11), .push [(.int .i64 0), (.int .i64 0)], none, [], false, false⟩,
                ⟨none, .store 2 (.tmp 11) (.tmp 30), none, [], false, false⟩])
             (.seq (.seq (.region false [⟨(some 31), .move (.tmp 8), none, [], false, false⟩,
                  ⟨(some 32), .fieldAddr 0 (.tmp 11), none, [], false, false⟩,
                  ⟨(some 33), .load false 1 (.tmp 32), none, [], false, false⟩,
                  ⟨(some 34), .callVal (.tmp 31) [(.tmp 33)], none, [], false, false⟩,
                  ⟨(some 35), .un .not (.tmp 34), none, [], false, false⟩,
                  ⟨(some 36), .move (.tmp 35), none, [], false, false⟩,
                  ⟨(some 37), .move (.tmp 8), (some (36, false)), [], false, false⟩,
                  ⟨(some 38), .fieldAddr 1 (.tmp 11), (some (36, false)), [], false, false⟩,
                  ⟨(some 39), .load false 1 (.tmp 38), (some (36, false)), [], false, false⟩,
                  ⟨(some 40), .callVal (.tmp 37) [(.tmp 39)], (some (36, false)), [], false, false⟩,
                  ⟨(some 41), .un .not (.tmp 40), (some (36, false)), [], false, false⟩,
                  ⟨(some 42), .pick (.tmp 36) (.const (.bool true)) (.tmp 41), none, [], false, false⟩])
               (.cond (.tmp 42) (.seq (.region false [⟨(some 6), .move (.const (.map none)), none, [], false, false⟩,
                    ⟨(some 7), .move (.const (.int .i64 2)), none, [], false, false⟩])
                 (.ret))
                (.skip)))
              (.seq (.seq (.region false [⟨(some 44), .move (.tmp 9), none, [], false, false⟩,
                   ⟨(some 45), .fieldAddr 0 (.tmp 11), none, [], false, false⟩,
                   ⟨(some 46), .load false 1 (.tmp 45), none, [], false, false⟩,
                   ⟨(some 47), .mapGet (.int .i64) (.int .i64 0) true (.tmp 44) (.tmp 46), none, [], false, false⟩,
                   ⟨(some 43), .move (.tmp 47), none, [], false, false⟩,
                   ⟨(some 48), .extract (.tmp 43) 0, none, [], false, false⟩,
                   ⟨(some 49), .extract (.tmp 43) 1, none, [], false, false⟩,
                   ⟨(some 12), .move (.tmp 48), none, [], false, false⟩,
                   ⟨(some 13), .move (.tmp 49), none, [], false, false⟩])
                (.seq (.region false [⟨(some 50), .move (.tmp 13), none, [], false, false⟩,
                    ⟨(some 51), .un .not (.tmp 50), none, [], false, false⟩])
                 (.cond (.tmp 51) (.seq (.region false [⟨(some 6), .move (.const (.map none)), none, [], false, false⟩,
                      ⟨(some 7), .move (.const (.int .i64 24)), none, [], false, false⟩])
                   (.ret))
                  (.skip))))
               (.seq (.seq (.region false [⟨(some 53), .move (.tmp 9), none, [], false, false⟩,
                    ⟨(some 54), .fieldAddr 1 (.tmp 11), none, [], false, false⟩,
                    ⟨(some 55), .load false 1 (.tmp 54), none, [], false, false⟩,
                    ⟨(some 56), .mapGet (.int .i64) (.int .i64 0) true (.tmp 53) (.tmp 55), none, [], false, false⟩,
                    ⟨(some 52), .move (.tmp 56), none, [], false, false⟩,
                    ⟨(some 57), .extract (.tmp 52) 0, none, [], false, false⟩,
                    ⟨(some 58), .extract (.tmp 52) 1, none, [], false, false⟩,
                    ⟨(some 14), .move (.tmp 57), none, [], false, false⟩,
                    ⟨(some 15), .move (.tmp 58), none, [], false, false⟩])
                 (.seq (.region false [⟨(some 59), .move (.tmp 15), none, [], false, false⟩])
                  (.cond (.tmp 59) (.seq (.region false [⟨(some 6), .move (.const (.map none)), none, [], false, false⟩,
                       ⟨(some 7), .move (.const (.int .i64 5)), none, [], false, false⟩])
                    (.ret))
                   (.skip))))
                (.seq (.seq (.region false [⟨(some 61), .fieldAddr 0 (.tmp 11), none, [], false, false⟩,
                     ⟨(some 62), .load false 1 (.tmp 61), none, [], false, false⟩,
                     ⟨(some 63), .fieldAddr 1 (.tmp 11), none, [], false, false⟩,
                     ⟨(some 64), .load false 1 (.tmp 63), none, [], false, false⟩,
                     ⟨(some 65), .bin .sub (.tmp 62) (.tmp 64), none, [], false, false⟩,
                     ⟨(some 66), .fieldAddr 1 (.tmp 11), none, [], false, false⟩,
                     ⟨(some 67), .load false 1 (.tmp 66), none, [], false, false⟩,
                     ⟨(some 68), .fieldAddr 0 (.tmp 11), none, [], false, false⟩,
                     ⟨(some 69), .load false 1 (.tmp 68), none, [], false, false⟩,
                     ⟨(some 70), .bin .sub (.tmp 67) (.tmp 69), none, [], false, false⟩,
                     ⟨(some 71), .max [(.tmp 65), (.tmp 70)], none, [], false, false⟩,
                     ⟨(some 72), .call 37 [(.tmp 71)], none, [], false, false⟩,
                     ⟨(some 60), .move (.tmp 72), none, [], false, false⟩,
                     ⟨(some 73), .extract (.tmp 60) 0, none, [], false, false⟩,
                     ⟨(some 74), .extract (.tmp 60) 1, none, [], false, false⟩,
                     ⟨(some 75), .extract (.tmp 60) 2, none, [], false, false⟩,
                     ⟨(some 16), .move (.tmp 73), none, [], false, false⟩,
                     ⟨(some 17), .move (.tmp 74), none, [], false, false⟩,
                     ⟨(some 18), .move (.tmp 75), none, [], false, false⟩])
                  (.seq (.region false [⟨(some 76), .move (.tmp 18), none, [], false, false⟩,
                      ⟨(some 77), .bin .neq (.tmp 76) (.const (.int .i64 0)), none, [], false, false⟩])
                   (.cond (.tmp 77) (.seq (.region false [⟨(some 6), .move (.const (.map none)), none, [], false, false⟩,
                        ⟨(some 7), .move (.const (.int .i64 15)), none, [], false, false⟩])
                     (.ret))
                    (.skip))))
                 (.region false [⟨(some 78), .move (.tmp 9), none, [], false, false⟩,
                    ⟨(some 79), .fieldAddr 1 (.tmp 11), none, [], false, false⟩,
                    ⟨(some 80), .load false 1 (.tmp 79), none, [], false, false⟩,
                    ⟨(some 81), .fieldAddr 0 (.tmp 11), none, [], false, false⟩,
                    ⟨(some 82), .load false 1 (.tmp 81), none, [], false, false⟩,
                    ⟨none, .mapSet (.int .i64) (.tmp 78) (.tmp 80) (.tmp 82), none, [], false, false⟩])))))))
           (.region false [⟨(some 83), .bin .add (.tmp 27) (.const (.int .i64 1)), none, [], false, false⟩,
              ⟨(some 27), .move (.tmp 83), none, [], false, false⟩])))))))
     (.seq (.region false [⟨(some 84), .move (.tmp 9), none, [], false, false⟩,
         ⟨(some 6), .move (.tmp 84), none, [], false, false⟩,
         ⟨(some 7), .move (.const (.int .i64 0)), none, [], false, false⟩])
      (.ret)))))),
 [.tmp 6, .tmp 7], .pure, 85⟩

/-- slices.Reverse[[]int,int] -/
def ef126 : EFun := ⟨
 .seq (.region false [⟨(some 4), .move (.tmp 0), none, [], false, false⟩,
    ⟨(some 5), .len false (.tmp 4), none, [], false, false⟩,
    ⟨(some 6), .bin .sub (.tmp 5) (.const (.int .i64 1)), none, [], false, false⟩,
    ⟨(some 2), .move (.const (.int .i64 0)), none, [], false, false⟩,
    ⟨(some 3), .move (.tmp 6), none, [], false, false⟩])
 (.block 0 (.loop (some [0, 2, 3]) (
   .seq (.seq (.region false [⟨(some 7), .move (.tmp 2), none, [], false, false⟩,
        ⟨(some 8), .move (.tmp 3), none, [], false, false⟩,
        ⟨(some 9), .bin .lss (.tmp 7) (.tmp 8), none, [], false, false⟩])
     (.cond (.tmp 9) (.skip)
      (.exit 0)))
    (.seq (.block 1 (.region true [⟨(some 14), .move (.tmp 0), none, [], false, false⟩,
         ⟨(some 15), .move (.tmp 2), none, [], false, false⟩,
         ⟨(some 16), .move (.tmp 0), none, [], false, false⟩,
         ⟨(some 17), .move (.tmp 3), none, [], false, false⟩,
         ⟨(some 18), .move (.tmp 0), none, [], false, false⟩,
         ⟨(some 19), .move (.tmp 3), none, [], false, false⟩,
         ⟨(some 20), .indexAddr none 1 (.tmp 18) (.tmp 19), none, [], false, false⟩,
         ⟨(some 21), .load false 1 (.tmp 20), none, [], false, false⟩,
         ⟨(some 22), .move (.tmp 0), none, [], false, false⟩,
         ⟨(some 23), .move (.tmp 2), none, [], false, false⟩,
         ⟨(some 24), .indexAddr none 1 (.tmp 22) (.tmp 23), none, [], false, false⟩,
         ⟨(some 25), .load false 1 (.tmp 24), none, [], false, false⟩,
         ⟨(some 26), .indexAddr none 1 (.tmp 14) (.tmp 15), none, [], false, false⟩,
         ⟨none, .store 1 (.tmp 26) (.tmp 21), none, [], false, false⟩,
         ⟨(some 27), .indexAddr none 1 (.tmp 16) (.tmp 17), none, [], false, false⟩,
         ⟨none, .store 1 (.tmp 27) (.tmp 25), none, [], false, false⟩]))
     (.region false [⟨(some 10), .move (.tmp 2), none, [], false, false⟩,
        ⟨(some 11), .bin .add (.tmp 10) (.const (.int .i64 1)), none, [], false, false⟩,
        ⟨(some 12), .move (.tmp 3), none, [], false, false⟩,
        ⟨(some 13), .bin .sub (.tmp 12) (.const (.int .i64 1)), none, [], false, false⟩,
        ⟨(some 2), .move (.tmp 11), none, [], false, false⟩,
        ⟨(some 3), .move (.tmp 13), none, [], false, false⟩]))))),
 [], .trunc, 28⟩

/-- agraffe/agraffebase.Has -/
def ef127 : EFun := ⟨
 .seq (.region false [⟨(some 4), .move (.const (.bool false)), none, [], false, false⟩])
 (.seq (.seq (.region false [⟨(some 5), .move (.const (.int .i64 0)), none, [], false, false⟩])
   (.block 0 (.loop (some [0, 1, 5]) (
     .seq (.seq (.region false [⟨(some 6), .move (.tmp 5), none, [], false, false⟩,
          ⟨(some 7), .move (.tmp 0), none, [], false, false⟩,
          ⟨(some 8), .len false (.tmp 7), none, [], false, false⟩,
          ⟨(some 9), .bin .lss (.tmp 6) (.tmp 8), none, [], false, false⟩])
       (.cond (.tmp 9) (.skip)
        (.exit 0)))
      (.seq (.block 1 (.seq (.region false [⟨(some 12), .move (.tmp 0), none, [], false, false⟩,
            ⟨(some 13), .move (.tmp 5), none, [], false, false⟩,
            ⟨(some 14), .indexAddr none 1 (.tmp 12) (.tmp 13), none, [], false, false⟩,
            ⟨(some 15), .load false 1 (.tmp 14), none, [], false, false⟩,
            ⟨(some 16), .move (.tmp 1), none, [], false, false⟩,
            ⟨(some 17), .bin .eql (.tmp 15) (.tmp 16), none, [], false, false⟩])
         (.cond (.tmp 17) (.seq (.region false [⟨(some 4), .move (.const (.bool true)), none, [], false, false⟩])
           (.ret))
          (.skip))))
       (.region false [⟨(some 10), .move (.tmp 5), none, [], false, false⟩,
          ⟨(some 11), .bin .add (.tmp 10) (.const (.int .i64 1)), none, [], false, false⟩,
          ⟨(some 5), .move (.tmp 11), none, [], false, false⟩]))))))
  (.seq (.region false [⟨(some 4), .move (.const (.bool false)), none, [], false, false⟩])
   (.ret))),
 [.tmp 4], .pure, 18⟩

/-- agraffe/agraffebase.Abs -/
def ef128 : EFun := ⟨
 .seq (.region false [⟨(some 2), .move (.const (.int .i64 0)), none, [], false, false⟩])
 (.seq (.seq (.region false [⟨(some 3), .move (.tmp 0), none, [], false, false⟩,
      ⟨(some 4), .bin .lss (.tmp 3) (.const (.int .i64 0)), none, [], false, false⟩])
   (.cond (.tmp 4) (.seq (.region false [⟨(some 5), .move (.tmp 0), none, [], false, false⟩,
        ⟨(some 6), .un .neg (.tmp 5), none, [], false, false⟩,
        ⟨(some 2), .move (.tmp 6), none, [], false, false⟩])
     (.ret))
    (.skip)))
  (.seq (.region false [⟨(some 7), .move (.tmp 0), none, [], false, false⟩,
      ⟨(some 2), .move (.tmp 7), none, [], false, false⟩])
   (.ret))),
 [.tmp 2], .pure, 8⟩

/-- agraffe/number.CheckPitch -/
def ef129 : EFun := ⟨
 .seq (.region false [⟨(some 1), .box (.tmp 0), none, [], false, false⟩,
    ⟨(some 2), .move (.const (.int .i64 0)), none, [], false, false⟩])
 (.seq (.seq (.region false [⟨(some 5), .load true 4 (.tmp 1), none, [], false, false⟩,
      ⟨(some 6), .call 133 [(.tmp 5)], none, [], false, false⟩,
      ⟨(some 7), .move (.const (.int .i64 0)), none, [], false, false⟩])
   (.block 0 (.loop (some [1, 6, 7]) (
     .seq (.region false [⟨(some 8), .bin .lss (.tmp 7) (.const (.int .i64 3)), none, [], false, false⟩])
      (.seq (.cond (.tmp 8) (.skip)
        (.exit 0))
       (.seq (.block 1 (.seq (.region false [⟨(some 9), .index 3 1 false (.tmp 6) (.tmp 7), none, [], false, false⟩,
             ⟨(some 4), .move (.tmp 9), none, [], false, false⟩])
          (.seq (.region false [⟨(some 10), .move (.tmp 4), none, [], false, false⟩,
              ⟨(some 11), .call 130 [(.tmp 10), (.const (.int .i64 (-400))), (.const (.int .i64 400))], none, [], false, false⟩,
              ⟨(some 12), .un .not (.tmp 11), none, [], false, false⟩])
           (.cond (.tmp 12) (.seq (.region false [⟨(some 2), .move (.const (.int .i64 2)), none, [], false, false⟩])
             (.ret))
            (.skip)))))
        (.region false [⟨(some 13), .bin .add (.tmp 7) (.const (.int .i64 1)), none, [], false, false⟩,
           ⟨(some 7), .move (.tmp 13), none, [], false, false⟩])))))))
  (.seq (.seq (.region false [⟨(some 14), .fieldAddr 3 (.tmp 1), none, [], false, false⟩,
       ⟨(some 15), .load false 1 (.tmp 14), none, [], false, false⟩,
       ⟨(some 16), .call 130 [(.tmp 15), (.const (.int .i64 1)), (.const (.int .i64 12))], none, [], false, false⟩,
       ⟨(some 17), .un .not (.tmp 16), none, [], false, false⟩])
    (.cond (.tmp 17) (.seq (.region false [⟨(some 2), .move (.const (.int .i64 2)), none, [], false, false⟩])
      (.ret))
     (.skip)))
   (.seq (.region false [⟨(some 2), .move (.const (.int .i64 0)), none, [], false, false⟩])
    (.ret)))),
 [.tmp 2], .pure, 18⟩

/-- agraffe/number.within -/
def ef130 : EFun := ⟨
 .seq (.region false [⟨(some 6), .move (.const (.bool false)), none, [], false, false⟩])
 (.seq (.region false [⟨(some 7), .move (.tmp 0), none, [], false, false⟩,
     ⟨(some 8), .move (.tmp 1), none, [], false, false⟩,
     ⟨(some 9), .bin .geq (.tmp 7) (.tmp 8), none, [], false, false⟩,
     ⟨(some 10), .move (.tmp 9), none, [], false, false⟩,
     ⟨(some 11), .move (.tmp 0), (some (10, true)), [], false, false⟩,
     ⟨(some 12), .move (.tmp 2), (some (10, true)), [], false, false⟩,
     ⟨(some 13), .bin .leq (.tmp 11) (.tmp 12), (some (10, true)), [], false, false⟩,
     ⟨(some 14), .pick (.tmp 10) (.tmp 13) (.const (.bool false)), none, [], false, false⟩,
     ⟨(some 6), .move (.tmp 14), none, [], false, false⟩])
  (.ret)),
 [.tmp 6], .pure, 15⟩

/-- agraffe/number.reduced -/
def ef131 : EFun := ⟨
 .seq (.region false [⟨(some 1), .box (.tmp 0), none, [], false, false⟩,
    ⟨(some 2), .push [(.int .i64 0), (.int .i64 0), (.int .i64 0), (.int .i64 0)], none, [], false, false⟩])
 (.seq (.region true [⟨(some 4), .fieldAddr 0 (.tmp 1), none, [], false, false⟩,
     ⟨(some 5), .load false 1 (.tmp 4), none, [], false, false⟩,
     ⟨(some 6), .fieldAddr 1 (.tmp 1), none, [], false, false⟩,
     ⟨(some 7), .load false 1 (.tmp 6), none, [], false, false⟩,
     ⟨(some 8), .call 150 [(.tmp 5), (.tmp 7)], none, [], false, true⟩,
     ⟨(some 9), .fieldAddr 2 (.tmp 1), none, [], false, false⟩,
     ⟨(some 10), .load false 1 (.tmp 9), none, [], false, false⟩,
     ⟨(some 11), .fieldAddr 3 (.tmp 1), none, [], false, false⟩,
     ⟨(some 12), .load false 1 (.tmp 11), none, [], false, false⟩,
     ⟨(some 13), .call 150 [(.tmp 10), (.tmp 12)], none, [], false, false⟩,
     ⟨(some 14), .call 150 [(.tmp 8), (.tmp 13)], none, [], false, false⟩,
     ⟨(some 3), .move (.tmp 14), none, [], false, false⟩])
  (.seq (.region true [⟨(some 15), .fieldAddr 0 (.tmp 1), none, [], false, false⟩,
      ⟨(some 16), .load false 1 (.tmp 15), none, [], false, false⟩,
      ⟨(some 17), .move (.tmp 3), none, [], false, false⟩,
      ⟨(some 18), .bin .quo (.tmp 16) (.tmp 17), none, [], false, false⟩,
      ⟨(some 19), .fieldAddr 1 (.tmp 1), none, [], false, false⟩,
      ⟨(some 20), .load false 1 (.tmp 19), none, [], false, false⟩,
      ⟨(some 21), .move (.tmp 3), none, [], false, false⟩,
      ⟨(some 22), .bin .quo (.tmp 20) (.tmp 21), none, [], false, false⟩,
      ⟨(some 23), .fieldAddr 2 (.tmp 1), none, [], false, false⟩,
      ⟨(some 24), .load false 1 (.tmp 23), none, [], false, false⟩,
      ⟨(some 25), .move (.tmp 3), none, [], false, false⟩,
      ⟨(some 26), .bin .quo (.tmp 24) (.tmp 25), none, [], false, false⟩,
      ⟨(some 27), .fieldAddr 3 (.tmp 1), none, [], false, false⟩,
      ⟨(some 28), .load false 1 (.tmp 27), none, [], false, false⟩,
      ⟨(some 29), .move (.tmp 3), none, [], false, false⟩,
      ⟨(some 30), .bin .quo (.tmp 28) (.tmp 29), none, [], false, false⟩,
      ⟨(some 31), .build [(.int .i64 0), (.int .i64 0), (.int .i64 0), (.int .i64 0)] [(0, 1, (.tmp 18)), (1, 1, (.tmp 22)), (2, 1, (.tmp 26)), (3, 1, (.tmp 30))], none, [], false, false⟩,
      ⟨none, .store 4 (.tmp 2) (.tmp 31), none, [], false, false⟩])
   (.ret))),
 [.cell 2 true 4], .pure, 32⟩

/-- agraffe/number.quotientOf -/
def ef132 : EFun := ⟨
 .seq (.region false [⟨(some 1), .box (.tmp 0), none, [], false, false⟩,
    ⟨(some 2), .push [(.slice none 0 0), (.slice none 0 0)], none, [], false, false⟩])
 (.seq (.region false [⟨(some 6), .buildSlice 1 1 [(.int .u64 0)] [(0, 1, (.const (.int .u64 1)))], none, [], false, false⟩,
     ⟨(some 7), .buildSlice 1 1 [(.int .u64 0)] [(0, 1, (.const (.int .u64 1)))], none, [], false, false⟩,
     ⟨(some 8), .build [(.slice none 0 0), (.slice none 0 0)] [(0, 1, (.tmp 6)), (1, 1, (.tmp 7))], none, [], false, false⟩,
     ⟨(some 3), .push [(.slice none 0 0), (.slice none 0 0)], none, [], false, false⟩,
     ⟨none, .store 2 (.tmp 3) (.tmp 8), none, [], false, false⟩])
  (.seq (.seq (.region false [⟨(some 9), .load true 3 (.tmp 1), none, [], false, false⟩,
       ⟨(some 10), .move (.const (.int .i64 0)), none, [], false, false⟩])
    (.block 0 (.loop (some [2, 3, 9, 10]) (
      .seq (.region false [⟨(some 11), .bin .lss (.tmp 10) (.const (.int .i64 3)), none, [], false, false⟩])
       (.seq (.cond (.tmp 11) (.skip)
         (.exit 0))
        (.seq (.block 1 (.seq (.region false [⟨(some 12), .move (.tmp 10), none, [], false, false⟩,
              ⟨(some 13), .index 3 1 false (.tmp 9) (.tmp 10), none, [], false, false⟩,
              ⟨(some 4), .move (.tmp 12), none, [], false, false⟩,
              ⟨(some 5), .move (.tmp 13), none, [], false, false⟩])
           (.seq (.region true [⟨(some 14), .move (.tmp 4), none, [], false, false⟩,
               ⟨(some 15), .indexAddr (some 3) 1 (.global 0) (.tmp 14), none, [], false, false⟩,
               ⟨(some 16), .load false 1 (.tmp 15), none, [], false, false⟩,
               ⟨(some 17), .move (.tmp 5), none, [], false, false⟩,
               ⟨(some 18), .max [(.tmp 17), (.const (.int .i64 0))], none, [], false, false⟩,
               ⟨(some 19), .fieldAddr 0 (.tmp 3), none, [], false, false⟩,
               ⟨(some 20), .load false 1 (.tmp 19), none, [], false, false⟩,
               ⟨(some 21), .call 134 [(.tmp 16), (.tmp 18), (.tmp 20)], none, [], false, false⟩,
               ⟨(some 22), .fieldAddr 0 (.tmp 3), none, [], false, false⟩,
               ⟨none, .store 1 (.tmp 22) (.tmp 21), none, [], false, false⟩])
            (.region true [⟨(some 23), .move (.tmp 4), none, [], false, false⟩,
               ⟨(some 24), .indexAddr (some 3) 1 (.global 0) (.tmp 23), none, [], false, false⟩,
               ⟨(some 25), .load false 1 (.tmp 24), none, [], false, false⟩,
               ⟨(some 26), .move (.tmp 5), none, [], false, false⟩,
               ⟨(some 27), .un .neg (.tmp 26), none, [], false, false⟩,
               ⟨(some 28), .max [(.tmp 27), (.const (.int .i64 0))], none, [], false, false⟩,
               ⟨(some 29), .fieldAddr 1 (.tmp 3), none, [], false, false⟩,
               ⟨(some 30), .load false 1 (.tmp 29), none, [], false, false⟩,
               ⟨(some 31), .call 134 [(.tmp 25), (.tmp 28), (.tmp 30)], none, [], false, false⟩,
               ⟨(some 32), .fieldAddr 1 (.tmp 3), none, [], false, false⟩,
               ⟨none, .store 1 (.tmp 32) (.tmp 31), none, [], false, false⟩]))))
         (.region false [⟨(some 33), .bin .add (.tmp 10) (.const (.int .i64 1)), none, [], false, false⟩,
            ⟨(some 10), .move (.tmp 33), none, [], false, false⟩])))))))
   (.seq (.region false [⟨(some 34), .load true 2 (.tmp 3), none, [], false, false⟩,
       ⟨none, .store 2 (.tmp 2) (.tmp 34), none, [], false, false⟩])
    (.ret)))),
 [.cell 2 true 2], .pure, 35⟩

/-- agraffe/number.exponents -/
def ef133 : EFun := ⟨
 .seq (.region false [⟨(some 1), .box (.tmp 0), none, [], false, false⟩,
    ⟨(some 2), .push [(.int .i64 0), (.int .i64 0), (.int .i64 0)], none, [], false, false⟩])
 (.seq (.region false [⟨(some 3), .fieldAddr 0 (.tmp 1), none, [], false, false⟩,
     ⟨(some 4), .load false 1 (.tmp 3), none, [], false, false⟩,
     ⟨(some 5), .fieldAddr 1 (.tmp 1), none, [], false, false⟩,
     ⟨(some 6), .load false 1 (.tmp 5), none, [], false, false⟩,
     ⟨(some 7), .fieldAddr 2 (.tmp 1), none, [], false, false⟩,
     ⟨(some 8), .load false 1 (.tmp 7), none, [], false, false⟩,
     ⟨(some 9), .build [(.int .i64 0), (.int .i64 0), (.int .i64 0)] [(0, 1, (.tmp 4)), (1, 1, (.tmp 6)), (2, 1, (.tmp 8))], none, [], false, false⟩,
     ⟨none, .store 3 (.tmp 2) (.tmp 9), none, [], false, false⟩])
  (.ret)),
 [.cell 2 true 3], .pure, 10⟩

/-- agraffe/number.power -/
def ef134 : EFun := ⟨
 .seq (.region false [⟨(some 6), .move (.const (.slice none 0 0)), none, [], false, false⟩])
 (.seq (.block 0 (.loop (some [0, 1, 2]) (
    .seq (.seq (.region false [⟨(some 10), .move (.tmp 1), none, [], false, false⟩,
         ⟨(some 11), .bin .gtr (.tmp 10) (.const (.int .i64 0)), none, [], false, false⟩])
      (.cond (.tmp 11) (.skip)
       (.exit 0)))
     (.block 1 (.seq (.region false [⟨(some 7), .move (.const (.int .u64 1)), none, [], false, false⟩])
       (.seq (.block 2 (.loop (some [0, 1, 2, 7]) (
          .seq (.seq (.region false [⟨(some 12), .move (.tmp 1), none, [], false, false⟩,
               ⟨(some 13), .bin .gtr (.tmp 12) (.const (.int .i64 0)), none, [], false, false⟩])
            (.cond (.tmp 13) (.skip)
             (.exit 2)))
           (.block 3 (.seq (.region false [⟨(some 15), .move (.tmp 7), none, [], false, false⟩,
                ⟨(some 16), .move (.tmp 0), none, [], false, false⟩,
                ⟨(some 17), .call 151 [(.tmp 15), (.tmp 16)], none, [], false, false⟩,
                ⟨(some 14), .move (.tmp 17), none, [], false, false⟩,
                ⟨(some 18), .extract (.tmp 14) 0, none, [], false, false⟩,
                ⟨(some 19), .extract (.tmp 14) 1, none, [], false, false⟩,
                ⟨(some 8), .move (.tmp 18), none, [], false, false⟩,
                ⟨(some 9), .move (.tmp 19), none, [], false, false⟩])
             (.seq (.seq (.region false [⟨(some 20), .move (.tmp 8), none, [], false, false⟩,
                  ⟨(some 21), .bin .neq (.tmp 20) (.const (.int .u64 0)), none, [], false, false⟩])
               (.cond (.tmp 21) (.exit 2)
                (.skip)))
              (.region false [⟨(some 22), .move (.tmp 9), none, [], false, false⟩,
                 ⟨(some 23), .move (.tmp 1), none, [], false, false⟩,
                 ⟨(some 24), .bin .sub (.tmp 23) (.const (.int .i64 1)), none, [], false, false⟩,
                 ⟨(some 7), .move (.tmp 22), none, [], false, false⟩,
                 ⟨(some 1), .move (.tmp 24), none, [], false, false⟩])))))))
        (.region false [⟨(some 25), .move (.tmp 2), none, [], false, false⟩,
           ⟨(some 26), .move (.tmp 7), none, [], false, false⟩,
           ⟨(some 27), .call 152 [(.tmp 25), (.tmp 26)], none, [], false, false⟩,
           ⟨(some 2), .move (.tmp 27), none, [], false, false⟩])))))))
  (.seq (.region false [⟨(some 28), .move (.tmp 2), none, [], false, false⟩,
      ⟨(some 6), .move (.tmp 28), none, [], false, false⟩])
   (.ret))),
 [.tmp 6], .pure, 29⟩

/-- agraffe/number.Enclose$1 -/
def ef135 : EFun := ⟨
 .seq (.region false [⟨(some 4), .move (.const (.int .i64 0)), none, [], false, false⟩])
 (.seq (.region true [⟨(some 5), .move (.tmp 0), none, [], false, false⟩,
     ⟨(some 6), .conv .u64 (.tmp 5), none, [], false, false⟩,
     ⟨(some 7), .fieldAddr 3 (.tmp 1), none, [], false, false⟩,
     ⟨(some 8), .load false 1 (.tmp 7), none, [], false, false⟩,
     ⟨(some 9), .fieldAddr 1 (.tmp 2), none, [], false, false⟩,
     ⟨(some 10), .load false 1 (.tmp 9), none, [], false, false⟩,
     ⟨(some 11), .call 134 [(.tmp 6), (.tmp 8), (.tmp 10)], none, [], false, true⟩,
     ⟨(some 12), .fieldAddr 0 (.tmp 2), none, [], false, false⟩,
     ⟨(some 13), .load false 1 (.tmp 12), none, [], false, false⟩,
     ⟨(some 14), .call 136 [(.tmp 11), (.tmp 13)], none, [], false, false⟩,
     ⟨(some 4), .move (.tmp 14), none, [], false, false⟩])
  (.ret)),
 [.tmp 4], .pure, 15⟩

/-- (agraffe/number.natural).cmp -/
def ef136 : EFun := ⟨
 .seq (.region false [⟨(some 4), .move (.const (.int .i64 0)), none, [], false, false⟩])
 (.seq (.seq (.region false [⟨(some 6), .move (.tmp 0), none, [], false, false⟩,
      ⟨(some 7), .len false (.tmp 6), none, [], false, false⟩,
      ⟨(some 8), .move (.tmp 1), none, [], false, false⟩,
      ⟨(some 9), .len false (.tmp 8), none, [], false, false⟩,
      ⟨(some 10), .bin .neq (.tmp 7) (.tmp 9), none, [], false, false⟩])
   (.cond (.tmp 10) (.seq (.seq (.region false [⟨(some 11), .move (.tmp 0), none, [], false, false⟩,
         ⟨(some 12), .len false (.tmp 11), none, [], false, false⟩,
         ⟨(some 13), .move (.tmp 1), none, [], false, false⟩,
         ⟨(some 14), .len false (.tmp 13), none, [], false, false⟩,
         ⟨(some 15), .bin .lss (.tmp 12) (.tmp 14), none, [], false, false⟩])
      (.cond (.tmp 15) (.seq (.region false [⟨(some 4), .move (.const (.int .i64 (-1))), none, [], false, false⟩])
        (.ret))
       (.skip)))
     (.seq (.region false [⟨(some 4), .move (.const (.int .i64 1)), none, [], false, false⟩])
      (.ret)))
    (.skip)))
  (.seq (.seq (.region false [⟨(some 16), .move (.tmp 0), none, [], false, false⟩,
       ⟨(some 17), .len false (.tmp 16), none, [], false, false⟩,
       ⟨(some 18), .bin .sub (.tmp 17) (.const (.int .i64 1)), none, [], false, false⟩,
       ⟨(some 5), .move (.tmp 18), none, [], false, false⟩])
    (.block 0 (.loop (some [0, 1, 5]) (
      .seq (.seq (.region false [⟨(some 19), .move (.tmp 5), none, [], false, false⟩,
           ⟨(some 20), .bin .geq (.tmp 19) (.const (.int .i64 0)), none, [], false, false⟩])
        (.cond (.tmp 20) (.skip)
         (.exit 0)))
       (.seq (.block 1 (.block 2 (.seq (.region true [⟨(some 24), .move (.tmp 0), none, [], false, false⟩,
              ⟨(some 25), .move (.tmp 5), none, [], false, false⟩,
              ⟨(some 26), .indexAddr none 1 (.tmp 24) (.tmp 25), none, [], false, false⟩,
              ⟨(some 27), .load false 1 (.tmp 26), none, [], false, false⟩,
              ⟨(some 28), .move (.tmp 1), none, [], false, false⟩,
              ⟨(some 29), .move (.tmp 5), none, [], false, false⟩,
              ⟨(some 30), .indexAddr none 1 (.tmp 28) (.tmp 29), none, [], false, false⟩,
              ⟨(some 31), .load false 1 (.tmp 30), none, [], false, false⟩,
              ⟨(some 32), .bin .lss (.tmp 27) (.tmp 31), none, [], false, false⟩,
              ⟨(some 23), .move (.tmp 32), none, [], false, false⟩])
           (.cond (.tmp 23) (.seq (.region false [⟨(some 4), .move (.const (.int .i64 (-1))), none, [], false, false⟩])
             (.ret))
            (.seq (.region true [⟨(some 34), .move (.tmp 0), none, [], false, false⟩,
                ⟨(some 35), .move (.tmp 5), none, [], false, false⟩,
                ⟨(some 36), .indexAddr none 1 (.tmp 34) (.tmp 35), none, [], false, false⟩,
                ⟨(some 37), .load false 1 (.tmp 36), none, [], false, false⟩,
                ⟨(some 38), .move (.tmp 1), none, [], false, false⟩,
                ⟨(some 39), .move (.tmp 5), none, [], false, false⟩,
                ⟨(some 40), .indexAddr none 1 (.tmp 38) (.tmp 39), none, [], false, false⟩,
                ⟨(some 41), .load false 1 (.tmp 40), none, [], false, false⟩,
                ⟨(some 42), .bin .gtr (.tmp 37) (.tmp 41), none, [], false, false⟩,
                ⟨(some 33), .move (.tmp 42), none, [], false, false⟩])
             (.cond (.tmp 33) (.seq (.region false [⟨(some 4), .move (.const (.int .i64 1)), none, [], false, false⟩])
               (.ret))
              (.skip)))))))
        (.region false [⟨(some 21), .move (.tmp 5), none, [], false, false⟩,
           ⟨(some 22), .bin .sub (.tmp 21) (.const (.int .i64 1)), none, [], false, false⟩,
           ⟨(some 5), .move (.tmp 22), none, [], false, false⟩]))))))
   (.seq (.region false [⟨(some 4), .move (.const (.int .i64 0)), none, [], false, false⟩])
    (.ret)))),
 [.tmp 4], .pure, 43⟩

/-- agraffe/number.small -/
def ef137 : EFun := ⟨
 .seq (.region false [⟨(some 1), .box (.tmp 0), none, [], false, false⟩,
    ⟨(some 2), .push [(.int .i64 0), (.int .i64 0)], none, [], false, false⟩,
    ⟨(some 3), .move (.const (.int .i64 0)), none, [], false, false⟩])
 (.seq (.seq (.region false [⟨(some 4), .load true 2 (.tmp 1), none, [], false, false⟩,
      ⟨(some 5), .call 153 [(.tmp 4)], none, [], false, false⟩,
      ⟨(some 6), .bin .neq (.tmp 5) (.const (.int .i64 0)), none, [], false, false⟩])
   (.cond (.tmp 6) (.seq (.region false [⟨(some 7), .build [(.int .i64 0), (.int .i64 0)] [], none, [], false, false⟩,
        ⟨none, .store 2 (.tmp 2) (.tmp 7), none, [], false, false⟩,
        ⟨(some 3), .move (.const (.int .i64 8)), none, [], false, false⟩])
     (.ret))
    (.skip)))
  (.seq (.region false [⟨(some 8), .load true 2 (.tmp 1), none, [], false, false⟩,
      ⟨none, .store 2 (.tmp 2) (.tmp 8), none, [], false, false⟩,
      ⟨(some 3), .move (.const (.int .i64 0)), none, [], false, false⟩])
   (.ret))),
 [.cell 2 true 2, .tmp 3], .pure, 9⟩

/-- slices.Contains[[]bool,bool] -/
def ef138 : EFun := ⟨
 .seq (.region false [⟨(some 4), .move (.const (.bool false)), none, [], false, false⟩])
 (.seq (.region false [⟨(some 5), .move (.tmp 0), none, [], false, false⟩,
     ⟨(some 6), .move (.tmp 1), none, [], false, false⟩,
     ⟨(some 7), .call 154 [(.tmp 5), (.tmp 6)], none, [], false, false⟩,
     ⟨(some 8), .bin .geq (.tmp 7) (.const (.int .i64 0)), none, [], false, false⟩,
     ⟨(some 4), .move (.tmp 8), none, [], false, false⟩])
  (.ret)),
 [.tmp 4], .pure, 9⟩

/-- (*agraffe/temper.circle).note -/
def ef139 : EFun := ⟨
 .seq (.region false [⟨(some 4), .push [(.int .i64 0), (.int .i64 0), (.int .i64 0)], none, [], false, false⟩])
 (.seq (.region false [⟨(some 8), .move (.tmp 1), none, [], false, false⟩,
     ⟨(some 9), .call 155 [(.tmp 8)], none, [], false, false⟩,
     ⟨(some 7), .move (.tmp 9), none, [], false, false⟩,
     ⟨(some 10), .extract (.tmp 7) 0, none, [], false, false⟩,
     ⟨(some 11), .extract (.tmp 7) 1, none, [], false, false⟩,
     ⟨(some 5), .move (.tmp 10), none, [], false, false⟩,
     ⟨(some 6), .move (.tmp 11), none, [], false, false⟩])
  (.seq (.region true [⟨(some 12), .move (.tmp 0), none, [], false, false⟩,
      ⟨(some 13), .move (.tmp 5), none, [], false, false⟩,
      ⟨(some 14), .nilCheck (.tmp 12), none, [], false, false⟩,
      ⟨(some 15), .fieldAddr 36 (.tmp 14), none, [], false, false⟩,
      ⟨(some 16), .indexAddr (some 12) 3 (.tmp 15) (.tmp 13), none, [], false, false⟩,
      ⟨(some 17), .load true 3 (.tmp 16), none, [], false, false⟩,
      ⟨(some 18), .call 147 [], none, [], false, true⟩,
      ⟨(some 19), .move (.tmp 6), none, [], false, false⟩,
      ⟨(some 20), .call 122 [(.tmp 17), (.tmp 18), (.tmp 19)], none, [], false, false⟩,
      ⟨none, .store 3 (.tmp 4) (.tmp 20), none, [], false, false⟩])
   (.ret))),
 [.cell 4 true 3], .pure, 21⟩

/-- agraffe/number.Normal -/
def ef140 : EFun := ⟨
 .seq (.region false [⟨(some 1), .box (.tmp 0), none, [], false, false⟩,
    ⟨(some 2), .push [(.int .i64 0), (.int .i64 0), (.int .i64 0), (.int .i64 0)], none, [], false, false⟩,
    ⟨(some 3), .move (.const (.int .i64 0)), none, [], false, false⟩])
 (.seq (.seq (.region false [⟨(some 5), .load true 4 (.tmp 1), none, [], false, false⟩,
      ⟨(some 6), .call 129 [(.tmp 5)], none, [], false, false⟩,
      ⟨(some 4), .move (.tmp 6), none, [], false, false⟩])
   (.seq (.region false [⟨(some 7), .move (.tmp 4), none, [], false, false⟩,
       ⟨(some 8), .bin .neq (.tmp 7) (.const (.int .i64 0)), none, [], false, false⟩])
    (.cond (.tmp 8) (.seq (.region false [⟨(some 9), .build [(.int .i64 0), (.int .i64 0), (.int .i64 0), (.int .i64 0)] [], none, [], false, false⟩,
         ⟨(some 10), .move (.tmp 4), none, [], false, false⟩,
         ⟨none, .store 4 (.tmp 2) (.tmp 9), none, [], false, false⟩,
         ⟨(some 3), .move (.tmp 10), none, [], false, false⟩])
      (.ret))
     (.skip))))
  (.seq (.region false [⟨(some 11), .load true 4 (.tmp 1), none, [], false, false⟩,
      ⟨(some 12), .call 131 [(.tmp 11)], none, [], false, false⟩,
      ⟨none, .store 4 (.tmp 2) (.tmp 12), none, [], false, false⟩,
      ⟨(some 3), .move (.const (.int .i64 0)), none, [], false, false⟩])
   (.ret))),
 [.cell 2 true 4, .tmp 3], .pure, 13⟩

/-- agraffe/agraffebase.isLetter -/
def ef141 : EFun := ⟨
 .seq (.region false [⟨(some 2), .move (.const (.bool false)), none, [], false, false⟩])
 (.seq (.region false [⟨(some 3), .move (.tmp 0), none, [], false, false⟩,
     ⟨(some 4), .bin .geq (.tmp 3) (.const (.int .u8 97)), none, [], false, false⟩,
     ⟨(some 5), .move (.tmp 4), none, [], false, false⟩,
     ⟨(some 6), .move (.tmp 0), (some (5, true)), [], false, false⟩,
     ⟨(some 7), .bin .leq (.tmp 6) (.const (.int .u8 122)), (some (5, true)), [], false, false⟩,
     ⟨(some 8), .pick (.tmp 5) (.tmp 7) (.const (.bool false)), none, [], false, false⟩,
     ⟨(some 9), .move (.tmp 8), none, [], false, false⟩,
     ⟨(some 10), .move (.tmp 0), (some (9, false)), [], false, false⟩,
     ⟨(some 11), .bin .geq (.tmp 10) (.const (.int .u8 65)), (some (9, false)), [], false, false⟩,
     ⟨(some 12), .move (.tmp 11), (some (9, false)), [], false, false⟩,
     ⟨(some 13), .move (.tmp 0), (some (12, true)), [], false, false⟩,
     ⟨(some 14), .bin .leq (.tmp 13) (.const (.int .u8 90)), (some (12, true)), [], false, false⟩,
     ⟨(some 15), .pick (.tmp 12) (.tmp 14) (.const (.bool false)), (some (9, false)), [], false, false⟩,
     ⟨(some 16), .pick (.tmp 9) (.const (.bool true)) (.tmp 15), none, [], false, false⟩,
     ⟨(some 2), .move (.tmp 16), none, [], false, false⟩])
  (.ret)),
 [.tmp 2], .pure, 17⟩

/-- agraffe/agraffebase.isDigit -/
def ef142 : EFun := ⟨
 .seq (.region false [⟨(some 2), .move (.const (.bool false)), none, [], false, false⟩])
 (.seq (.region false [⟨(some 3), .move (.tmp 0), none, [], false, false⟩,
     ⟨(some 4), .bin .geq (.tmp 3) (.const (.int .u8 48)), none, [], false, false⟩,
     ⟨(some 5), .move (.tmp 4), none, [], false, false⟩,
     ⟨(some 6), .move (.tmp 0), (some (5, true)), [], false, false⟩,
     ⟨(some 7), .bin .leq (.tmp 6) (.const (.int .u8 57)), (some (5, true)), [], false, false⟩,
     ⟨(some 8), .pick (.tmp 5) (.tmp 7) (.const (.bool false)), none, [], false, false⟩,
     ⟨(some 2), .move (.tmp 8), none, [], false, false⟩])
  (.ret)),
 [.tmp 2], .pure, 9⟩

/-- agraffe/agraffebase.Gcd -/
def ef143 : EFun := ⟨
 .seq (.region false [⟨(some 4), .move (.const (.int .i64 0)), none, [], false, false⟩])
 (.seq (.block 0 (.loop (some [0, 1]) (
    .seq (.seq (.region false [⟨(some 5), .move (.tmp 1), none, [], false, false⟩,
         ⟨(some 6), .bin .neq (.tmp 5) (.const (.int .i64 0)), none, [], false, false⟩])
      (.cond (.tmp 6) (.skip)
       (.exit 0)))
     (.block 1 (.region true [⟨(some 7), .move (.tmp 1), none, [], false, false⟩,
         ⟨(some 8), .move (.tmp 0), none, [], false, false⟩,
         ⟨(some 9), .move (.tmp 1), none, [], false, false⟩,
         ⟨(some 10), .bin .rem (.tmp 8) (.tmp 9), none, [], false, false⟩,
         ⟨(some 0), .move (.tmp 7), none, [], false, false⟩,
         ⟨(some 1), .move (.tmp 10), none, [], false, false⟩])))))
  (.seq (.region false [⟨(some 11), .move (.tmp 0), none, [], false, false⟩,
      ⟨(some 12), .call 128 [(.tmp 11)], none, [], false, false⟩,
      ⟨(some 4), .move (.tmp 12), none, [], false, false⟩])
   (.ret))),
 [.tmp 4], .pure, 13⟩

/-- agraffe/temper.octave -/
def ef147 : EFun := ⟨
 .seq (.region false [⟨(some 0), .push [(.int .i64 0), (.int .i64 0), (.int .i64 0)], none, [], false, false⟩])
 (.seq (.region false [⟨(some 1), .build [(.int .i64 0), (.int .i64 0), (.int .i64 0)] [(0, 1, (.const (.int .i64 12)))], none, [], false, false⟩,
     ⟨none, .store 3 (.tmp 0) (.tmp 1), none, [], false, false⟩])
  (.ret)),
 [.cell 0 true 3], .pure, 2⟩

/-- slices.IndexFunc[[]int,int] -/
def ef148 : EFun := ⟨
 .seq (.region false [⟨(some 4), .move (.const (.int .i64 0)), none, [], false, false⟩])
 (.seq (.seq (.region false [⟨(some 6), .move (.tmp 0), none, [], false, false⟩,
      ⟨(some 7), .len false (.tmp 6), none, [], false, false⟩,
      ⟨(some 8), .move (.const (.int .i64 0)), none, [], false, false⟩])
   (.block 0 (.loop (some [0, 1, 7, 8]) (
     .seq (.region false [⟨(some 9), .bin .lss (.tmp 8) (.tmp 7), none, [], false, false⟩])
      (.seq (.cond (.tmp 9) (.skip)
        (.exit 0))
       (.seq (.block 1 (.seq (.region false [⟨(some 10), .move (.tmp 8), none, [], false, false⟩,
             ⟨(some 5), .move (.tmp 10), none, [], false, false⟩])
          (.seq (.region false [⟨(some 11), .move (.tmp 1), none, [], false, false⟩,
              ⟨(some 12), .move (.tmp 0), none, [], false, false⟩,
              ⟨(some 13), .move (.tmp 5), none, [], false, false⟩,
              ⟨(some 14), .indexAddr none 1 (.tmp 12) (.tmp 13), none, [], false, false⟩,
              ⟨(some 15), .load false 1 (.tmp 14), none, [], false, false⟩,
              ⟨(some 16), .callVal (.tmp 11) [(.tmp 15)], none, [], false, false⟩])
           (.cond (.tmp 16) (.seq (.region false [⟨(some 17), .move (.tmp 5), none, [], false, false⟩,
                ⟨(some 4), .move (.tmp 17), none, [], false, false⟩])
             (.ret))
            (.skip)))))
        (.region false [⟨(some 18), .bin .add (.tmp 8) (.const (.int .i64 1)), none, [], false, false⟩,
           ⟨(some 8), .move (.tmp 18), none, [], false, false⟩])))))))
  (.seq (.region false [⟨(some 4), .move (.const (.int .i64 (-1))), none, [], false, false⟩])
   (.ret))),
 [.tmp 4], .pure, 19⟩

/-- agraffe/temper.follow$1 -/
def ef149 : EFun := ⟨
 .seq (.region false [⟨(some 4), .move (.const (.bool false)), none, [], false, false⟩])
 (.seq (.region false [⟨(some 5), .move (.tmp 0), none, [], false, false⟩,
     ⟨(some 6), .load false 1 (.tmp 1), none, [], false, false⟩,
     ⟨(some 7), .bin .geq (.tmp 5) (.tmp 6), none, [], false, false⟩,
     ⟨(some 8), .move (.tmp 7), none, [], false, false⟩,
     ⟨(some 9), .move (.tmp 0), (some (8, true)), [], false, false⟩,
     ⟨(some 10), .load false 1 (.tmp 2), (some (8, true)), [], false, false⟩,
     ⟨(some 11), .bin .leq (.tmp 9) (.tmp 10), (some (8, true)), [], false, false⟩,
     ⟨(some 12), .pick (.tmp 8) (.tmp 11) (.const (.bool false)), none, [], false, false⟩,
     ⟨(some 4), .move (.tmp 12), none, [], false, false⟩])
  (.ret)),
 [.tmp 4], .pure, 13⟩

/-- agraffe/number.gcd -/
def ef150 : EFun := ⟨
 .seq (.region false [⟨(some 4), .move (.const (.int .i64 0)), none, [], false, false⟩])
 (.seq (.block 0 (.loop (some [0, 1]) (
    .seq (.seq (.region false [⟨(some 5), .move (.tmp 1), none, [], false, false⟩,
         ⟨(some 6), .bin .neq (.tmp 5) (.const (.int .i64 0)), none, [], false, false⟩])
      (.cond (.tmp 6) (.skip)
       (.exit 0)))
     (.block 1 (.region true [⟨(some 7), .move (.tmp 1), none, [], false, false⟩,
         ⟨(some 8), .move (.tmp 0), none, [], false, false⟩,
         ⟨(some 9), .move (.tmp 1), none, [], false, false⟩,
         ⟨(some 10), .bin .rem (.tmp 8) (.tmp 9), none, [], false, false⟩,
         ⟨(some 0), .move (.tmp 7), none, [], false, false⟩,
         ⟨(some 1), .move (.tmp 10), none, [], false, false⟩])))))
  (.seq (.seq (.region false [⟨(some 11), .move (.tmp 0), none, [], false, false⟩,
       ⟨(some 12), .bin .lss (.tmp 11) (.const (.int .i64 0)), none, [], false, false⟩])
    (.cond (.tmp 12) (.seq (.region false [⟨(some 13), .move (.tmp 0), none, [], false, false⟩,
         ⟨(some 14), .un .neg (.tmp 13), none, [], false, false⟩,
         ⟨(some 4), .move (.tmp 14), none, [], false, false⟩])
      (.ret))
     (.skip)))
   (.seq (.region false [⟨(some 15), .move (.tmp 0), none, [], false, false⟩,
       ⟨(some 4), .move (.tmp 15), none, [], false, false⟩])
    (.ret)))),
 [.tmp 4], .pure, 16⟩

/-- math/bits.Mul64 -/
def ef151 : EFun := ⟨
 .seq (.region false [⟨(some 4), .move (.const (.int .u64 0)), none, [], false, false⟩,
    ⟨(some 5), .move (.const (.int .u64 0)), none, [], false, false⟩])
 (.seq (.region false [⟨(some 14), .move (.tmp 0), none, [], false, false⟩,
     ⟨(some 15), .bin .and (.tmp 14) (.const (.int .u64 4294967295)), none, [], false, false⟩,
     ⟨(some 6), .move (.tmp 15), none, [], false, false⟩])
  (.seq (.region false [⟨(some 16), .move (.tmp 0), none, [], false, false⟩,
      ⟨(some 17), .bin .shr (.tmp 16) (.const (.int .u64 32)), none, [], false, false⟩,
      ⟨(some 7), .move (.tmp 17), none, [], false, false⟩])
   (.seq (.region false [⟨(some 18), .move (.tmp 1), none, [], false, false⟩,
       ⟨(some 19), .bin .and (.tmp 18) (.const (.int .u64 4294967295)), none, [], false, false⟩,
       ⟨(some 8), .move (.tmp 19), none, [], false, false⟩])
    (.seq (.region false [⟨(some 20), .move (.tmp 1), none, [], false, false⟩,
        ⟨(some 21), .bin .shr (.tmp 20) (.const (.int .u64 32)), none, [], false, false⟩,
        ⟨(some 9), .move (.tmp 21), none, [], false, false⟩])
     (.seq (.region false [⟨(some 22), .move (.tmp 6), none, [], false, false⟩,
         ⟨(some 23), .move (.tmp 8), none, [], false, false⟩,
         ⟨(some 24), .bin .mul (.tmp 22) (.tmp 23), none, [], false, false⟩,
         ⟨(some 10), .move (.tmp 24), none, [], false, false⟩])
      (.seq (.region false [⟨(some 25), .move (.tmp 7), none, [], false, false⟩,
          ⟨(some 26), .move (.tmp 8), none, [], false, false⟩,
          ⟨(some 27), .bin .mul (.tmp 25) (.tmp 26), none, [], false, false⟩,
          ⟨(some 28), .move (.tmp 10), none, [], false, false⟩,
          ⟨(some 29), .bin .shr (.tmp 28) (.const (.int .u64 32)), none, [], false, false⟩,
          ⟨(some 30), .bin .add (.tmp 27) (.tmp 29), none, [], false, false⟩,
          ⟨(some 11), .move (.tmp 30), none, [], false, false⟩])
       (.seq (.region false [⟨(some 31), .move (.tmp 11), none, [], false, false⟩,
           ⟨(some 32), .bin .and (.tmp 31) (.const (.int .u64 4294967295)), none, [], false, false⟩,
           ⟨(some 12), .move (.tmp 32), none, [], false, false⟩])
        (.seq (.region false [⟨(some 33), .move (.tmp 11), none, [], false, false⟩,
            ⟨(some 34), .bin .shr (.tmp 33) (.const (.int .u64 32)), none, [], false, false⟩,
            ⟨(some 13), .move (.tmp 34), none, [], false, false⟩])
         (.seq (.region false [⟨(some 35), .move (.tmp 12), none, [], false, false⟩,
             ⟨(some 36), .move (.tmp 6), none, [], false, false⟩,
             ⟨(some 37), .move (.tmp 9), none, [], false, false⟩,
             ⟨(some 38), .bin .mul (.tmp 36) (.tmp 37), none, [], false, false⟩,
             ⟨(some 39), .bin .add (.tmp 35) (.tmp 38), none, [], false, false⟩,
             ⟨(some 12), .move (.tmp 39), none, [], false, false⟩])
          (.seq (.region false [⟨(some 40), .move (.tmp 7), none, [], false, false⟩,
              ⟨(some 41), .move (.tmp 9), none, [], false, false⟩,
              ⟨(some 42), .bin .mul (.tmp 40) (.tmp 41), none, [], false, false⟩,
              ⟨(some 43), .move (.tmp 13), none, [], false, false⟩,
              ⟨(some 44), .bin .add (.tmp 42) (.tmp 43), none, [], false, false⟩,
              ⟨(some 45), .move (.tmp 12), none, [], false, false⟩,
              ⟨(some 46), .bin .shr (.tmp 45) (.const (.int .u64 32)), none, [], false, false⟩,
              ⟨(some 47), .bin .add (.tmp 44) (.tmp 46), none, [], false, false⟩,
              ⟨(some 4), .move (.tmp 47), none, [], false, false⟩])
           (.seq (.region false [⟨(some 48), .move (.tmp 0), none, [], false, false⟩,
               ⟨(some 49), .move (.tmp 1), none, [], false, false⟩,
               ⟨(some 50), .bin .mul (.tmp 48) (.tmp 49), none, [], false, false⟩,
               ⟨(some 5), .move (.tmp 50), none, [], false, false⟩])
            (.ret)))))))))))),
 [.tmp 4, .tmp 5], .pure, 51⟩

/-- (agraffe/number.natural).times -/
def ef152 : EFun := ⟨
 .seq (.region false [⟨(some 4), .move (.const (.slice none 0 0)), none, [], false, false⟩])
 (.seq (.region false [⟨(some 13), .move (.tmp 0), none, [], false, false⟩,
     ⟨(some 14), .len false (.tmp 13), none, [], false, false⟩,
     ⟨(some 15), .bin .add (.tmp 14) (.const (.int .i64 1)), none, [], false, false⟩,
     ⟨(some 16), .makeSlice 1 8 [(.int .u64 0)] (.const (.int .i64 0)) (.tmp 15), none, [], false, false⟩,
     ⟨(some 5), .move (.tmp 16), none, [], false, false⟩])
  (.seq (.region false [⟨(some 6), .move (.const (.int .u64 0)), none, [], false, false⟩])
   (.seq (.seq (.region false [⟨(some 17), .move (.tmp 0), none, [], false, false⟩,
        ⟨(some 18), .len false (.tmp 17), none, [], false, false⟩,
        ⟨(some 19), .move (.const (.int .i64 0)), none, [], false, false⟩])
     (.block 0 (.loop (some [1, 5, 6, 17, 18, 19]) (
       .seq (.region false [⟨(some 20), .bin .lss (.tmp 19) (.tmp 18), none, [], false, false⟩])
        (.seq (.cond (.tmp 20) (.skip)
          (.exit 0))
         (.seq (.block 1 (.seq (.region false [⟨(some 21), .indexAddr none 1 (.tmp 17) (.tmp 19), none, [], false, false⟩,
               ⟨(some 22), .load false 1 (.tmp 21), none, [], false, false⟩,
               ⟨(some 8), .move (.tmp 22), none, [], false, false⟩])
            (.seq (.region false [⟨(some 24), .move (.tmp 8), none, [], false, false⟩,
                ⟨(some 25), .move (.tmp 1), none, [], false, false⟩,
                ⟨(some 26), .call 151 [(.tmp 24), (.tmp 25)], none, [], false, false⟩,
                ⟨(some 23), .move (.tmp 26), none, [], false, false⟩,
                ⟨(some 27), .extract (.tmp 23) 0, none, [], false, false⟩,
                ⟨(some 28), .extract (.tmp 23) 1, none, [], false, false⟩,
                ⟨(some 9), .move (.tmp 27), none, [], false, false⟩,
                ⟨(some 10), .move (.tmp 28), none, [], false, false⟩])
             (.seq (.region false [⟨(some 30), .move (.tmp 10), none, [], false, false⟩,
                 ⟨(some 31), .move (.tmp 6), none, [], false, false⟩,
                 ⟨(some 32), .add64 (.tmp 30) (.tmp 31) (.const (.int .u64 0)), none, [], false, false⟩,
                 ⟨(some 29), .move (.tmp 32), none, [], false, false⟩,
                 ⟨(some 33), .extract (.tmp 29) 0, none, [], false, false⟩,
                 ⟨(some 34), .extract (.tmp 29) 1, none, [], false, false⟩,
                 ⟨(some 11), .move (.tmp 33), none, [], false, false⟩,
                 ⟨(some 12), .move (.tmp 34), none, [], false, false⟩])
              (.seq (.region false [⟨(some 35), .move (.tmp 5), none, [], false, false⟩,
                  ⟨(some 36), .move (.tmp 11), none, [], false, false⟩,
                  ⟨(some 37), .buildSlice 1 1 [(.int .u64 0)] [(0, 1, (.tmp 36))], none, [], false, false⟩,
                  ⟨(some 38), .append 1 8 (.tmp 35) (.tmp 37), none, [], false, false⟩,
                  ⟨(some 5), .move (.tmp 38), none, [], false, false⟩])
               (.region false [⟨(some 39), .move (.tmp 9), none, [], false, false⟩,
                  ⟨(some 40), .move (.tmp 12), none, [], false, false⟩,
                  ⟨(some 41), .bin .add (.tmp 39) (.tmp 40), none, [], false, false⟩,
                  ⟨(some 6), .move (.tmp 41), none, [], false, false⟩]))))))
          (.region false [⟨(some 42), .bin .add (.tmp 19) (.const (.int .i64 1)), none, [], false, false⟩,
             ⟨(some 19), .move (.tmp 42), none, [], false, false⟩])))))))
    (.seq (.seq (.region false [⟨(some 43), .move (.tmp 6), none, [], false, false⟩,
         ⟨(some 44), .bin .gtr (.tmp 43) (.const (.int .u64 0)), none, [], false, false⟩])
      (.cond (.tmp 44) (.region false [⟨(some 45), .move (.tmp 5), none, [], false, false⟩,
          ⟨(some 46), .move (.tmp 6), none, [], false, false⟩,
          ⟨(some 47), .buildSlice 1 1 [(.int .u64 0)] [(0, 1, (.tmp 46))], none, [], false, false⟩,
          ⟨(some 48), .append 1 8 (.tmp 45) (.tmp 47), none, [], false, false⟩,
          ⟨(some 5), .move (.tmp 48), none, [], false, false⟩])
       (.skip)))
     (.seq (.region false [⟨(some 49), .move (.tmp 5), none, [], false, false⟩,
         ⟨(some 4), .move (.tmp 49), none, [], false, false⟩])
      (.ret)))))),
 [.tmp 4], .pure, 50⟩

/-- agraffe/number.CheckRange -/
def ef153 : EFun := ⟨
 .seq (.region false [⟨(some 1), .box (.tmp 0), none, [], false, false⟩,
    ⟨(some 2), .move (.const (.int .i64 0)), none, [], false, false⟩])
 (.seq (.block 0 (.seq (.region false [⟨(some 4), .fieldAddr 0 (.tmp 1), none, [], false, false⟩,
       ⟨(some 5), .load false 1 (.tmp 4), none, [], false, false⟩,
       ⟨(some 6), .call 130 [(.tmp 5), (.const (.int .i64 (-1000000000000000))), (.const (.int .i64 1000000000000000))], none, [], false, false⟩,
       ⟨(some 7), .un .not (.tmp 6), none, [], false, false⟩,
       ⟨(some 8), .move (.tmp 7), none, [], false, false⟩,
       ⟨(some 9), .fieldAddr 1 (.tmp 1), (some (8, false)), [], false, false⟩,
       ⟨(some 10), .load false 1 (.tmp 9), (some (8, false)), [], false, false⟩,
       ⟨(some 11), .call 130 [(.tmp 10), (.const (.int .i64 (-1000000000000000))), (.const (.int .i64 1000000000000000))], (some (8, false)), [], false, false⟩,
       ⟨(some 12), .un .not (.tmp 11), (some (8, false)), [], false, false⟩,
       ⟨(some 13), .pick (.tmp 8) (.const (.bool true)) (.tmp 12), none, [], false, false⟩,
       ⟨(some 3), .move (.tmp 13), none, [], false, false⟩])
    (.cond (.tmp 3) (.seq (.region false [⟨(some 2), .move (.const (.int .i64 2)), none, [], false, false⟩])
      (.ret))
     (.seq (.region false [⟨(some 15), .fieldAddr 0 (.tmp 1), none, [], false, false⟩,
         ⟨(some 16), .load false 1 (.tmp 15), none, [], false, false⟩,
         ⟨(some 17), .fieldAddr 1 (.tmp 1), none, [], false, false⟩,
         ⟨(some 18), .load false 1 (.tmp 17), none, [], false, false⟩,
         ⟨(some 19), .bin .gtr (.tmp 16) (.tmp 18), none, [], false, false⟩,
         ⟨(some 14), .move (.tmp 19), none, [], false, false⟩])
      (.cond (.tmp 14) (.seq (.region false [⟨(some 2), .move (.const (.int .i64 9)), none, [], false, false⟩])
        (.ret))
       (.skip))))))
  (.seq (.region false [⟨(some 2), .move (.const (.int .i64 0)), none, [], false, false⟩])
   (.ret))),
 [.tmp 2], .pure, 20⟩

/-- slices.Index[[]bool,bool] -/
def ef154 : EFun := ⟨
 .seq (.region false [⟨(some 4), .move (.const (.int .i64 0)), none, [], false, false⟩])
 (.seq (.seq (.region false [⟨(some 6), .move (.tmp 0), none, [], false, false⟩,
      ⟨(some 7), .len false (.tmp 6), none, [], false, false⟩,
      ⟨(some 8), .move (.const (.int .i64 0)), none, [], false, false⟩])
   (.block 0 (.loop (some [0, 1, 7, 8]) (
     .seq (.region false [⟨(some 9), .bin .lss (.tmp 8) (.tmp 7), none, [], false, false⟩])
      (.seq (.cond (.tmp 9) (.skip)
        (.exit 0))
       (.seq (.block 1 (.seq (.region false [⟨(some 10), .move (.tmp 8), none, [], false, false⟩,
             ⟨(some 5), .move (.tmp 10), none, [], false, false⟩])
          (.seq (.region false [⟨(some 11), .move (.tmp 1), none, [], false, false⟩,
              ⟨(some 12), .move (.tmp 0), none, [], false, false⟩,
              ⟨(some 13), .move (.tmp 5), none, [], false, false⟩,
              ⟨(some 14), .indexAddr none 1 (.tmp 12) (.tmp 13), none, [], false, false⟩,
              ⟨(some 15), .load false 1 (.tmp 14), none, [], false, false⟩,
              ⟨(some 16), .eqBool false (.tmp 11) (.tmp 15), none, [], false, false⟩])
           (.cond (.tmp 16) (.seq (.region false [⟨(some 17), .move (.tmp 5), none, [], false, false⟩,
                ⟨(some 4), .move (.tmp 17), none, [], false, false⟩])
             (.ret))
            (.skip)))))
        (.region false [⟨(some 18), .bin .add (.tmp 8) (.const (.int .i64 1)), none, [], false, false⟩,
           ⟨(some 8), .move (.tmp 18), none, [], false, false⟩])))))))
  (.seq (.region false [⟨(some 4), .move (.const (.int .i64 (-1))), none, [], false, false⟩])
   (.ret))),
 [.tmp 4], .pure, 19⟩

/-- agraffe/temper.place -/
def ef155 : EFun := ⟨
 .seq (.region false [⟨(some 2), .move (.const (.int .i64 0)), none, [], false, false⟩,
    ⟨(some 3), .move (.const (.int .i64 0)), none, [], false, false⟩])
 (.seq (.region false [⟨(some 4), .move (.tmp 0), none, [], false, false⟩,
     ⟨(some 5), .bin .add (.tmp 4) (.const (.int .i64 9)), none, [], false, false⟩,
     ⟨(some 6), .bin .rem (.tmp 5) (.const (.int .i64 12)), none, [], false, false⟩,
     ⟨(some 7), .move (.tmp 0), none, [], false, false⟩,
     ⟨(some 8), .bin .add (.tmp 7) (.const (.int .i64 9)), none, [], false, false⟩,
     ⟨(some 9), .bin .quo (.tmp 8) (.const (.int .i64 12)), none, [], false, false⟩,
     ⟨(some 2), .move (.tmp 6), none, [], false, false⟩,
     ⟨(some 3), .move (.tmp 9), none, [], false, false⟩])
  (.ret)),
 [.tmp 2, .tmp 3], .pure, 10⟩

end Go.Abs.T
