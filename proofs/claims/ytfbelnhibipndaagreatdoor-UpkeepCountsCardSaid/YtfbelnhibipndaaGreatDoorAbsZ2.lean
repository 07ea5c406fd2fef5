/- The functions, compiled for the abstract evaluator. Written by wip/abs/Print.lean. -/
import Derived.Test.YtfbelnhibipndaaGreatDoorAbsZ0
set_option linter.unusedSimpArgs false
set_option linter.unusedVariables false
set_option maxRecDepth 100000
set_option maxHeartbeats 0
namespace Go.Abs.Z
open Go Go.Abs
/-- agraffe/agraffebase.isLetter -/
def ef108 : EFun := ⟨
 .seq (.region false [⟨(some 2), .move (.const (.bool false)), none, [], false, false⟩])
 (.seq (.region false [⟨(some 3), .move (.tmp 0), none, [], false, false⟩,
     ⟨(some 4), .bin .geq (.tmp 3) (.const (.int .u8 97)), none, [], false, false⟩,
     ⟨(some 5), .move (.tmp 4), none, [], false, false⟩,
     ⟨(some 6), .move (.tmp 0), (some (5, true)), [], false, false⟩,
     ⟨(some 7), .bin .leq (.tmp 6) (.const (.int .u8 122)), (some (5, true)), [], false, false⟩,
     ⟨(some 8), .pick (.tmp 5) (.tmp 7) (.const (.bool false)), none, [], false, false⟩,
     ⟨(some 9), .move (.tmp 8), none, [], false, false⟩,
     ⟨(some 10), .move (.tmp 0), (some (9, false)), [], false, false⟩,
     ⟨(some 11), .bin .geq (.tmp 10) (.const (.int .u8 65)), (some (9, false)), [], false, false⟩,
     ⟨(some 12), .move (.tmp 11), (some (9, false)), [], false, false⟩,
     ⟨(some 13), .move (.tmp 0), (some (12, true)), [], false, false⟩,
     ⟨(some 14), .bin .leq (.tmp 13) (.const (.int .u8 90)), (some (12, true)), [], false, false⟩,
     ⟨(some 15), .pick (.tmp 12) (.tmp 14) (.const (.bool false)), (some (9, false)), [], false, false⟩,
     ⟨(some 16), .pick (.tmp 9) (.const (.bool true)) (.tmp 15), none, [], false, false⟩,
     ⟨(some 2), .move (.tmp 16), none, [], false, false⟩])
  (.ret)),
 [.tmp 2], .pure, 17⟩

/-- agraffe/agraffebase.isDigit -/
def ef109 : EFun := ⟨
 .seq (.region false [⟨(some 2), .move (.const (.bool false)), none, [], false, false⟩])
 (.seq (.region false [⟨(some 3), .move (.tmp 0), none, [], false, false⟩,
     ⟨(some 4), .bin .geq (.tmp 3) (.const (.int .u8 48)), none, [], false, false⟩,
     ⟨(some 5), .move (.tmp 4), none, [], false, false⟩,
     ⟨(some 6), .move (.tmp 0), (some (5, true)), [], false, false⟩,
     ⟨(some 7), .bin .leq (.tmp 6) (.const (.int .u8 57)), (some (5, true)), [], false, false⟩,
     ⟨(some 8), .pick (.tmp 5) (.tmp 7) (.const (.bool false)), none, [], false, false⟩,
     ⟨(some 2), .move (.tmp 8), none, [], false, false⟩])
  (.ret)),
 [.tmp 2], .pure, 9⟩

/-- agraffe/agrafferef06.Class -/
def ef110 : EFun := ⟨
 .seq (.region false [⟨(some 2), .box (.tmp 0), none, [], false, false⟩,
    ⟨(some 4), .push [(.int .i64 0), (.int .i64 0), (.int .i64 0)], none, [], false, false⟩])
 (.seq (.region false [⟨(some 8), .move (.tmp 1), none, [], false, false⟩,
     ⟨(some 9), .call 149 [(.tmp 8)], none, [], false, false⟩,
     ⟨(some 5), .move (.tmp 9), none, [], false, false⟩])
  (.seq (.region false [⟨(some 6), .push [(.int .i64 0), (.int .i64 0), (.int .i64 0)], none, [], false, false⟩])
   (.seq (.seq (.region false [⟨(some 7), .move (.const (.int .i64 0)), none, [], false, false⟩])
     (.block 0 (.loop (some [2, 4, 5, 6, 7]) (
       .seq (.seq (.region false [⟨(some 10), .move (.tmp 7), none, [], false, false⟩,
            ⟨(some 11), .move (.tmp 5), none, [], false, false⟩,
            ⟨(some 12), .bin .lss (.tmp 10) (.tmp 11), none, [], false, false⟩])
         (.cond (.tmp 12) (.skip)
          (.exit 0)))
        (.seq (.block 1 (.region true [⟨(some 15), .load true 3 (.tmp 6), none, [], false, false⟩,
             ⟨(some 16), .load true 25 (.tmp 2), none, [], false, false⟩,
             ⟨(some 17), .move (.tmp 7), none, [], false, false⟩,
             ⟨(some 18), .call 151 [(.tmp 16), (.tmp 17)], none, [], false, true⟩,
             ⟨(some 19), .call 150 [(.tmp 15), (.const (.int .i64 1)), (.tmp 18)], none, [], false, false⟩,
             ⟨none, .store 3 (.tmp 6) (.tmp 19), none, [], false, false⟩]))
         (.region false [⟨(some 13), .move (.tmp 7), none, [], false, false⟩,
            ⟨(some 14), .bin .add (.tmp 13) (.const (.int .i64 1)), none, [], false, false⟩,
            ⟨(some 7), .move (.tmp 14), none, [], false, false⟩]))))))
    (.seq (.region true [⟨(some 20), .load true 3 (.tmp 6), none, [], false, false⟩,
        ⟨(some 21), .move (.tmp 5), none, [], false, false⟩,
        ⟨(some 22), .bin .mul (.const (.int .i64 7)) (.tmp 21), none, [], false, false⟩,
        ⟨(some 23), .bin .quo (.tmp 22) (.const (.int .i64 12)), none, [], false, false⟩,
        ⟨(some 24), .un .neg (.tmp 23), none, [], false, false⟩,
        ⟨(some 25), .call 152 [], none, [], false, true⟩,
        ⟨(some 26), .call 150 [(.tmp 20), (.tmp 24), (.tmp 25)], none, [], false, false⟩,
        ⟨none, .store 3 (.tmp 4) (.tmp 26), none, [], false, false⟩])
     (.ret))))),
 [.cell 4 true 3], .pure, 27⟩

/-- (*agraffe/temper.circle).sounds -/
def ef111 : EFun := ⟨
 .seq (.region false [⟨(some 6), .push [(.int .i64 0), (.int .i64 0)], none, [], false, false⟩,
    ⟨(some 7), .move (.const (.int .i64 0)), none, [], false, false⟩])
 (.seq (.region false [⟨(some 8), .move (.tmp 0), none, [], false, false⟩,
     ⟨(some 9), .move (.tmp 2), none, [], false, false⟩,
     ⟨(some 10), .call 154 [(.tmp 8), (.const (.int .i64 48)), (.tmp 9)], none, [], false, false⟩,
     ⟨(some 11), .call 155 [(.tmp 10)], none, [], false, false⟩,
     ⟨(some 12), .move (.tmp 1), none, [], false, false⟩,
     ⟨(some 13), .call 153 [(.tmp 11), (.tmp 12)], none, [], false, false⟩,
     ⟨(some 14), .extract (.tmp 13) 0, none, [], false, false⟩,
     ⟨(some 15), .extract (.tmp 13) 1, none, [], false, false⟩,
     ⟨none, .store 2 (.tmp 6) (.tmp 14), none, [], false, false⟩,
     ⟨(some 7), .move (.tmp 15), none, [], false, false⟩])
  (.ret)),
 [.cell 6 true 2, .tmp 7], .pure, 16⟩

/-- slices.ContainsFunc[[]int,int] -/
def ef112 : EFun := ⟨
 .seq (.region false [⟨(some 4), .move (.const (.bool false)), none, [], false, false⟩])
 (.seq (.region false [⟨(some 5), .move (.tmp 0), none, [], false, false⟩,
     ⟨(some 6), .move (.tmp 1), none, [], false, false⟩,
     ⟨(some 7), .call 123 [(.tmp 5), (.tmp 6)], none, [], false, false⟩,
     ⟨(some 8), .bin .geq (.tmp 7) (.const (.int .i64 0)), none, [], false, false⟩,
     ⟨(some 4), .move (.tmp 8), none, [], false, false⟩])
  (.ret)),
 [.tmp 4], .pure, 9⟩

/-- agraffe/upkeep.checkFailed$1 -/
def ef113 : EFun := ⟨
 .seq (.region false [⟨(some 3), .move (.const (.bool false)), none, [], false, false⟩])
 (.seq (.region false [⟨(some 4), .move (.tmp 0), none, [], false, false⟩,
     ⟨(some 5), .load false 1 (.tmp 1), none, [], false, false⟩,
     ⟨(some 6), .len false (.tmp 5), none, [], false, false⟩,
     ⟨(some 7), .bin .sub (.tmp 6) (.const (.int .i64 1)), none, [], false, false⟩,
     ⟨(some 8), .call 54 [(.tmp 4), (.const (.int .i64 0)), (.tmp 7)], none, [], false, false⟩,
     ⟨(some 9), .un .not (.tmp 8), none, [], false, false⟩,
     ⟨(some 3), .move (.tmp 9), none, [], false, false⟩])
  (.ret)),
 [.tmp 3], .pure, 10⟩

/-- agraffe/upkeep.ascends -/
def ef114 : EFun := ⟨
 .seq (.region false [⟨(some 2), .move (.const (.bool false)), none, [], false, false⟩])
 (.seq (.seq (.region false [⟨(some 3), .move (.const (.int .i64 1)), none, [], false, false⟩])
   (.block 0 (.loop (some [0, 3]) (
     .seq (.seq (.region false [⟨(some 4), .move (.tmp 3), none, [], false, false⟩,
          ⟨(some 5), .move (.tmp 0), none, [], false, false⟩,
          ⟨(some 6), .len false (.tmp 5), none, [], false, false⟩,
          ⟨(some 7), .bin .lss (.tmp 4) (.tmp 6), none, [], false, false⟩])
       (.cond (.tmp 7) (.skip)
        (.exit 0)))
      (.seq (.block 1 (.seq (.region true [⟨(some 10), .move (.tmp 0), none, [], false, false⟩,
            ⟨(some 11), .move (.tmp 3), none, [], false, false⟩,
            ⟨(some 12), .indexAddr none 1 (.tmp 10) (.tmp 11), none, [], false, false⟩,
            ⟨(some 13), .load false 1 (.tmp 12), none, [], false, false⟩,
            ⟨(some 14), .move (.tmp 0), none, [], false, false⟩,
            ⟨(some 15), .move (.tmp 3), none, [], false, false⟩,
            ⟨(some 16), .bin .sub (.tmp 15) (.const (.int .i64 1)), none, [], false, false⟩,
            ⟨(some 17), .indexAddr none 1 (.tmp 14) (.tmp 16), none, [], false, false⟩,
            ⟨(some 18), .load false 1 (.tmp 17), none, [], false, false⟩,
            ⟨(some 19), .bin .leq (.tmp 13) (.tmp 18), none, [], false, false⟩])
         (.cond (.tmp 19) (.seq (.region false [⟨(some 2), .move (.const (.bool false)), none, [], false, false⟩])
           (.ret))
          (.skip))))
       (.region false [⟨(some 8), .move (.tmp 3), none, [], false, false⟩,
          ⟨(some 9), .bin .add (.tmp 8) (.const (.int .i64 1)), none, [], false, false⟩,
          ⟨(some 3), .move (.tmp 9), none, [], false, false⟩]))))))
  (.seq (.region false [⟨(some 2), .move (.const (.bool true)), none, [], false, false⟩])
   (.ret))),
 [.tmp 2], .pure, 20⟩

/-- slices.Sort[[]int,int] -/
def ef115 : EFun := ⟨
 .seq (.region false [⟨(some 3), .move (.tmp 0), none, [], false, false⟩,
    ⟨(some 4), .len false (.tmp 3), none, [], false, false⟩,
    ⟨(some 2), .move (.tmp 4), none, [], false, false⟩])
 (.region false [⟨(some 5), .move (.tmp 0), none, [], false, false⟩,
    ⟨(some 6), .move (.tmp 2), none, [], false, false⟩,
    ⟨(some 7), .move (.tmp 2), none, [], false, false⟩,
    ⟨(some 8), .conv .u64 (.tmp 7), none, [], false, false⟩,
    ⟨(some 9), .call 157 [(.tmp 8)], none, [], false, false⟩,
    ⟨(some 10), .call 156 [(.tmp 5), (.const (.int .i64 0)), (.tmp 6), (.tmp 9)], none, [], false, false⟩]),
 [], .trunc, 11⟩

/-- slices.Compact[[]int,int] -/
def ef116 : EFun := ⟨
 .seq (.region false [⟨(some 2), .move (.const (.slice none 0 0)), none, [], false, false⟩])
 (.seq (.seq (.region false [⟨(some 6), .move (.tmp 0), none, [], false, false⟩,
      ⟨(some 7), .len false (.tmp 6), none, [], false, false⟩,
      ⟨(some 8), .bin .lss (.tmp 7) (.const (.int .i64 2)), none, [], false, false⟩])
   (.cond (.tmp 8) (.seq (.region false [⟨(some 9), .move (.tmp 0), none, [], false, false⟩,
        ⟨(some 2), .move (.tmp 9), none, [], false, false⟩])
     (.ret))
    (.skip)))
  (.seq (.seq (.region false [⟨(some 3), .move (.const (.int .i64 1)), none, [], false, false⟩])
    (.block 0 (.loop (some [0, 3]) (
      .seq (.seq (.region false [⟨(some 10), .move (.tmp 3), none, [], false, false⟩,
           ⟨(some 11), .move (.tmp 0), none, [], false, false⟩,
           ⟨(some 12), .len false (.tmp 11), none, [], false, false⟩,
           ⟨(some 13), .bin .lss (.tmp 10) (.tmp 12), none, [], false, false⟩])
        (.cond (.tmp 13) (.skip)
         (.exit 0)))
       (.seq (.block 1 (.seq (.region true [⟨(some 16), .move (.tmp 0), none, [], false, false⟩,
             ⟨(some 17), .move (.tmp 3), none, [], false, false⟩,
             ⟨(some 18), .indexAddr none 1 (.tmp 16) (.tmp 17), none, [], false, false⟩,
             ⟨(some 19), .load false 1 (.tmp 18), none, [], false, false⟩,
             ⟨(some 20), .move (.tmp 0), none, [], false, false⟩,
             ⟨(some 21), .move (.tmp 3), none, [], false, false⟩,
             ⟨(some 22), .bin .sub (.tmp 21) (.const (.int .i64 1)), none, [], false, false⟩,
             ⟨(some 23), .indexAddr none 1 (.tmp 20) (.tmp 22), none, [], false, false⟩,
             ⟨(some 24), .load false 1 (.tmp 23), none, [], false, false⟩,
             ⟨(some 25), .bin .eql (.tmp 19) (.tmp 24), none, [], false, false⟩])
          (.cond (.tmp 25) (.seq (.region false [⟨(some 26), .move (.tmp 0), none, [], false, false⟩,
               ⟨(some 27), .move (.tmp 3), none, [], false, false⟩,
               ⟨(some 28), .slice 1 (.tmp 26) (some (.tmp 27)) none, none, [], false, false⟩,
               ⟨(some 4), .move (.tmp 28), none, [], false, false⟩])
            (.seq (.seq (.region false [⟨(some 5), .move (.const (.int .i64 1)), none, [], false, false⟩])
              (.block 2 (.loop (some [0, 3, 4, 5]) (
                .seq (.seq (.region false [⟨(some 29), .move (.tmp 5), none, [], false, false⟩,
                     ⟨(some 30), .move (.tmp 4), none, [], false, false⟩,
                     ⟨(some 31), .len false (.tmp 30), none, [], false, false⟩,
                     ⟨(some 32), .bin .lss (.tmp 29) (.tmp 31), none, [], false, false⟩])
                  (.cond (.tmp 32) (.skip)
                   (.exit 2)))
                 (.seq (.block 3 (.seq (.region true [⟨(some 35), .move (.tmp 4), none, [], false, false⟩,
                       ⟨(some 36), .move (.tmp 5), none, [], false, false⟩,
                       ⟨(some 37), .indexAddr none 1 (.tmp 35) (.tmp 36), none, [], false, false⟩,
                       ⟨(some 38), .load false 1 (.tmp 37), none, [], false, false⟩,
                       ⟨(some 39), .move (.tmp 4), none, [], false, false⟩,
                       ⟨(some 40), .move (.tmp 5), none, [], false, false⟩,
                       ⟨(some 41), .bin .sub (.tmp 40) (.const (.int .i64 1)), none, [], false, false⟩,
                       ⟨(some 42), .indexAddr none 1 (.tmp 39) (.tmp 41), none, [], false, false⟩,
                       ⟨(some 43), .load false 1 (.tmp 42), none, [], false, false⟩,
                       ⟨(some 44), .bin .neq (.tmp 38) (.tmp 43), none, [], false, false⟩])
                    (.cond (.tmp 44) (.seq (.region false [⟨(some 45), .move (.tmp 0), none, [], false, false⟩,
                         ⟨(some 46), .move (.tmp 3), none, [], false, false⟩,
                         ⟨(some 47), .move (.tmp 4), none, [], false, false⟩,
                         ⟨(some 48), .move (.tmp 5), none, [], false, false⟩,
                         ⟨(some 49), .indexAddr none 1 (.tmp 47) (.tmp 48), none, [], false, false⟩,
                         ⟨(some 50), .load false 1 (.tmp 49), none, [], false, false⟩,
                         ⟨(some 51), .indexAddr none 1 (.tmp 45) (.tmp 46), none, [], false, false⟩,
                         ⟨none, .store 1 (.tmp 51) (.tmp 50), none, [], false, false⟩])
                      (.region false [⟨(some 52), .move (.tmp 3), none, [], false, false⟩,
                         ⟨(some 53), .bin .add (.tmp 52) (.const (.int .i64 1)), none, [], false, false⟩,
                         ⟨(some 3), .move (.tmp 53), none, [], false, false⟩]))
                     (.skip))))
                  (.region false [⟨(some 33), .move (.tmp 5), none, [], false, false⟩,
                     ⟨(some 34), .bin .add (.tmp 33) (.const (.int .i64 1)), none, [], false, false⟩,
                     ⟨(some 5), .move (.tmp 34), none, [], false, false⟩]))))))
             (.seq (.region false [⟨(some 54), .move (.tmp 0), none, [], false, false⟩,
                 ⟨(some 55), .move (.tmp 3), none, [], false, false⟩,
                 ⟨(some 56), .slice 1 (.tmp 54) (some (.tmp 55)) none, none, [], false, false⟩,
                 ⟨none, .clear 1 [(.int .i64 0)] (.tmp 56), none, [], false, false⟩])
              (.seq (.region false [⟨(some 57), .move (.tmp 0), none, [], false, false⟩,
                  ⟨(some 58), .move (.tmp 3), none, [], false, false⟩,
                  ⟨(some 59), .slice 1 (.tmp 57) none (some (.tmp 58)), none, [], false, false⟩,
                  ⟨(some 2), .move (.tmp 59), none, [], false, false⟩])
               (.ret)))))
           (.skip))))
        (.region false [⟨(some 14), .move (.tmp 3), none, [], false, false⟩,
           ⟨(some 15), .bin .add (.tmp 14) (.const (.int .i64 1)), none, [], false, false⟩,
           ⟨(some 3), .move (.tmp 15), none, [], false, false⟩]))))))
   (.seq (.region false [⟨(some 60), .move (.tmp 0), none, [], false, false⟩,
       ⟨(some 2), .move (.tmp 60), none, [], false, false⟩])
    (.ret)))),
 [.tmp 2], .trunc, 61⟩

/-- slices.Contains[[]int,int] -/
def ef117 : EFun := ⟨
 .seq (.region false [⟨(some 4), .move (.const (.bool false)), none, [], false, false⟩])
 (.seq (.region false [⟨(some 5), .move (.tmp 0), none, [], false, false⟩,
     ⟨(some 6), .move (.tmp 1), none, [], false, false⟩,
     ⟨(some 7), .call 158 [(.tmp 5), (.tmp 6)], none, [], false, false⟩,
     ⟨(some 8), .bin .geq (.tmp 7) (.const (.int .i64 0)), none, [], false, false⟩,
     ⟨(some 4), .move (.tmp 8), none, [], false, false⟩])
  (.ret)),
 [.tmp 4], .pure, 9⟩

/-- slices.BinarySearch[[]int,int] -/
def ef118 : EFun := ⟨
 .seq (.region false [⟨(some 4), .move (.const (.int .i64 0)), none, [], false, false⟩,
    ⟨(some 5), .move (.const (.bool false)), none, [], false, false⟩])
 (.seq (.region false [⟨(some 10), .move (.tmp 0), none, [], false, false⟩,
     ⟨(some 11), .len false (.tmp 10), none, [], false, false⟩,
     ⟨(some 6), .move (.tmp 11), none, [], false, false⟩])
  (.seq (.region false [⟨(some 12), .move (.tmp 6), none, [], false, false⟩,
      ⟨(some 7), .move (.const (.int .i64 0)), none, [], false, false⟩,
      ⟨(some 8), .move (.tmp 12), none, [], false, false⟩])
   (.seq (.block 0 (.loop (some [0, 1, 6, 7, 8]) (
      .seq (.seq (.region false [⟨(some 13), .move (.tmp 7), none, [], false, false⟩,
           ⟨(some 14), .move (.tmp 8), none, [], false, false⟩,
           ⟨(some 15), .bin .lss (.tmp 13) (.tmp 14), none, [], false, false⟩])
        (.cond (.tmp 15) (.skip)
         (.exit 0)))
       (.block 1 (.seq (.region false [⟨(some 16), .move (.tmp 7), none, [], false, false⟩,
            ⟨(some 17), .move (.tmp 8), none, [], false, false⟩,
            ⟨(some 18), .bin .add (.tmp 16) (.tmp 17), none, [], false, false⟩,
            ⟨(some 19), .conv .u64 (.tmp 18), none, [], false, false⟩,
            ⟨(some 20), .bin .shr (.tmp 19) (.const (.int .u64 1)), none, [], false, false⟩,
            ⟨(some 21), .conv .i64 (.tmp 20), none, [], false, false⟩,
            ⟨(some 9), .move (.tmp 21), none, [], false, false⟩])
         (.seq (.region false [⟨(some 22), .move (.tmp 0), none, [], false, false⟩,
             ⟨(some 23), .move (.tmp 9), none, [], false, false⟩,
             ⟨(some 24), .indexAddr none 1 (.tmp 22) (.tmp 23), none, [], false, false⟩,
             ⟨(some 25), .load false 1 (.tmp 24), none, [], false, false⟩,
             ⟨(some 26), .move (.tmp 1), none, [], false, false⟩,
             ⟨(some 27), .call 159 [(.tmp 25), (.tmp 26)], none, [], false, false⟩])
          (.cond (.tmp 27) (.region false [⟨(some 28), .move (.tmp 9), none, [], false, false⟩,
              ⟨(some 29), .bin .add (.tmp 28) (.const (.int .i64 1)), none, [], false, false⟩,
              ⟨(some 7), .move (.tmp 29), none, [], false, false⟩])
           (.region false [⟨(some 30), .move (.tmp 9), none, [], false, false⟩,
              ⟨(some 8), .move (.tmp 30), none, [], false, false⟩]))))))))
    (.seq (.region false [⟨(some 31), .move (.tmp 7), none, [], false, false⟩,
        ⟨(some 32), .move (.tmp 7), none, [], false, false⟩,
        ⟨(some 33), .move (.tmp 6), none, [], false, false⟩,
        ⟨(some 34), .bin .lss (.tmp 32) (.tmp 33), none, [], false, false⟩,
        ⟨(some 35), .move (.tmp 34), none, [], false, false⟩,
        ⟨(some 36), .move (.tmp 0), (some (35, true)), [], false, false⟩,
        ⟨(some 37), .move (.tmp 7), (some (35, true)), [], false, false⟩,
        ⟨(some 38), .indexAddr none 1 (.tmp 36) (.tmp 37), (some (35, true)), [], false, false⟩,
        ⟨(some 39), .load false 1 (.tmp 38), (some (35, true)), [], false, false⟩,
        ⟨(some 40), .move (.tmp 1), (some (35, true)), [], false, false⟩,
        ⟨(some 41), .bin .eql (.tmp 39) (.tmp 40), (some (35, true)), [], false, false⟩,
        ⟨(some 42), .move (.tmp 41), (some (35, true)), [], false, false⟩,
        ⟨(some 43), .move (.tmp 0), (some (42, false)), [], false, false⟩,
        ⟨(some 44), .move (.tmp 7), (some (42, false)), [], false, false⟩,
        ⟨(some 45), .indexAddr none 1 (.tmp 43) (.tmp 44), (some (42, false)), [], false, false⟩,
        ⟨(some 46), .load false 1 (.tmp 45), (some (42, false)), [], false, false⟩,
        ⟨(some 47), .call 160 [(.tmp 46)], (some (42, false)), [], false, false⟩,
        ⟨(some 48), .move (.tmp 47), (some (42, false)), [], false, false⟩,
        ⟨(some 49), .move (.tmp 1), (some (48, true)), [], false, false⟩,
        ⟨(some 50), .call 160 [(.tmp 49)], (some (48, true)), [], false, false⟩,
        ⟨(some 51), .pick (.tmp 48) (.tmp 50) (.const (.bool false)), (some (42, false)), [], false, false⟩,
        ⟨(some 52), .pick (.tmp 42) (.const (.bool true)) (.tmp 51), (some (35, true)), [], false, false⟩,
        ⟨(some 53), .pick (.tmp 35) (.tmp 52) (.const (.bool false)), none, [], false, false⟩,
        ⟨(some 4), .move (.tmp 31), none, [], false, false⟩,
        ⟨(some 5), .move (.tmp 53), none, [], false, false⟩])
     (.ret))))),
 [.tmp 4, .tmp 5], .pure, 54⟩

/-- agraffe/upkeep.subsets$1 -/
def ef119 : EFun := ⟨
 .seq (.region false [⟨(some 3), .box (.tmp 0), none, [], false, false⟩])
 (.seq (.region false [⟨(some 6), .load false 1 (.tmp 1), none, [], false, false⟩,
     ⟨(some 7), .makeSlice 1 8 [(.int .i64 0)] (.const (.int .i64 0)) (.tmp 6), none, [], false, false⟩,
     ⟨(some 4), .push [(.slice none 0 0)], none, [], false, false⟩,
     ⟨none, .store 1 (.tmp 4) (.tmp 7), none, [], false, false⟩])
  (.seq (.region false [⟨(some 5), .push [.nilFunc], none, [], false, false⟩])
   (.seq (.region false [⟨(some 8), .makeFunc (.func 120) [(.tmp 4), (.tmp 1), (.tmp 3), (.tmp 2), (.tmp 5)], none, [], false, false⟩,
       ⟨none, .store 1 (.tmp 5) (.tmp 8), none, [], false, false⟩])
    (.region false [⟨(some 9), .load false 1 (.tmp 5), none, [], false, false⟩,
       ⟨(some 10), .callVal (.tmp 9) [(.const (.int .i64 0))], none, [], false, false⟩])))),
 [], .full, 11⟩

/-- agraffe/upkeep.subsets$1$1 -/
def ef120 : EFun := ⟨
 .seq (.region false [⟨(some 7), .move (.const (.bool false)), none, [], false, false⟩])
 (.seq (.seq (.region false [⟨(some 9), .load false 1 (.tmp 1), none, [], false, false⟩,
      ⟨(some 10), .len false (.tmp 9), none, [], false, false⟩,
      ⟨(some 11), .load false 1 (.tmp 2), none, [], false, false⟩,
      ⟨(some 12), .bin .eql (.tmp 10) (.tmp 11), none, [], false, false⟩])
   (.cond (.tmp 12) (.seq (.region true [⟨(some 13), .load false 1 (.tmp 3), none, [], false, false⟩,
        ⟨(some 14), .load false 1 (.tmp 1), none, [], false, false⟩,
        ⟨(some 15), .call 121 [(.tmp 14)], none, [], false, true⟩,
        ⟨(some 16), .callVal (.tmp 13) [(.tmp 15)], none, [], false, false⟩,
        ⟨(some 7), .move (.tmp 16), none, [], false, false⟩])
     (.ret))
    (.skip)))
  (.seq (.seq (.region false [⟨(some 17), .move (.tmp 0), none, [], false, false⟩,
       ⟨(some 8), .move (.tmp 17), none, [], false, false⟩])
    (.block 0 (.loop (some [1, 4, 5, 8]) (
      .seq (.seq (.region false [⟨(some 18), .move (.tmp 8), none, [], false, false⟩,
           ⟨(some 19), .load false 1 (.tmp 4), none, [], false, false⟩,
           ⟨(some 20), .len false (.tmp 19), none, [], false, false⟩,
           ⟨(some 21), .bin .lss (.tmp 18) (.tmp 20), none, [], false, false⟩])
        (.cond (.tmp 21) (.skip)
         (.exit 0)))
       (.seq (.block 1 (.seq (.region true [⟨(some 24), .load false 1 (.tmp 1), none, [], false, false⟩,
             ⟨(some 25), .load false 1 (.tmp 4), none, [], false, false⟩,
             ⟨(some 26), .move (.tmp 8), none, [], false, false⟩,
             ⟨(some 27), .indexAddr none 1 (.tmp 25) (.tmp 26), none, [], false, false⟩,
             ⟨(some 28), .load false 1 (.tmp 27), none, [], false, false⟩,
             ⟨(some 29), .buildSlice 1 1 [(.int .i64 0)] [(0, 1, (.tmp 28))], none, [], false, false⟩,
             ⟨(some 30), .appendT 1 8 (.tmp 24) (.tmp 29), none, [], false, false⟩,
             ⟨none, .store 1 (.tmp 1) (.tmp 30), none, [], false, false⟩])
          (.seq (.seq (.region false [⟨(some 31), .load false 1 (.tmp 5), none, [], false, false⟩,
               ⟨(some 32), .move (.tmp 8), none, [], false, false⟩,
               ⟨(some 33), .bin .add (.tmp 32) (.const (.int .i64 1)), none, [], false, false⟩,
               ⟨(some 34), .callVal (.tmp 31) [(.tmp 33)], none, [], false, false⟩,
               ⟨(some 35), .un .not (.tmp 34), none, [], false, false⟩])
            (.cond (.tmp 35) (.seq (.region false [⟨(some 7), .move (.const (.bool false)), none, [], false, false⟩])
              (.ret))
             (.skip)))
           (.region false [⟨(some 36), .load false 1 (.tmp 1), none, [], false, false⟩,
              ⟨(some 37), .load false 1 (.tmp 1), none, [], false, false⟩,
              ⟨(some 38), .len false (.tmp 37), none, [], false, false⟩,
              ⟨(some 39), .bin .sub (.tmp 38) (.const (.int .i64 1)), none, [], false, false⟩,
              ⟨(some 40), .slice 1 (.tmp 36) none (some (.tmp 39)), none, [], false, false⟩,
              ⟨none, .store 1 (.tmp 1) (.tmp 40), none, [], false, false⟩]))))
        (.region false [⟨(some 22), .move (.tmp 8), none, [], false, false⟩,
           ⟨(some 23), .bin .add (.tmp 22) (.const (.int .i64 1)), none, [], false, false⟩,
           ⟨(some 8), .move (.tmp 23), none, [], false, false⟩]))))))
   (.seq (.region false [⟨(some 7), .move (.const (.bool true)), none, [], false, false⟩])
    (.ret)))),
 [.tmp 7], .full, 41⟩

/-- slices.Clone[[]int,int] -/
def ef121 : EFun := ⟨
 .seq (.region false [⟨(some 2), .move (.const (.slice none 0 0)), none, [], false, false⟩])
 (.seq (.seq (.region false [⟨(some 3), .move (.tmp 0), none, [], false, false⟩,
      ⟨(some 4), .eqNilS false (.tmp 3), none, [], false, false⟩])
   (.cond (.tmp 4) (.seq (.region false [⟨(some 2), .move (.const (.slice none 0 0)), none, [], false, false⟩])
     (.ret))
    (.skip)))
  (.seq (.region false [⟨(some 5), .buildSlice 1 0 [] [], none, [], false, false⟩,
      ⟨(some 6), .move (.tmp 0), none, [], false, false⟩,
      ⟨(some 7), .append 1 8 (.tmp 5) (.tmp 6), none, [], false, false⟩,
      ⟨(some 2), .move (.tmp 7), none, [], false, false⟩])
   (.ret))),
 [.tmp 2], .pure, 8⟩

/-- slices.IndexFunc[[]int,int] -/
def ef123 : EFun := ⟨
 .seq (.region false [⟨(some 4), .move (.const (.int .i64 0)), none, [], false, false⟩])
 (.seq (.seq (.region false [⟨(some 6), .move (.tmp 0), none, [], false, false⟩,
      ⟨(some 7), .len false (.tmp 6), none, [], false, false⟩,
      ⟨(some 8), .move (.const (.int .i64 0)), none, [], false, false⟩])
   (.block 0 (.loop (some [0, 1, 7, 8]) (
     .seq (.region false [⟨(some 9), .bin .lss (.tmp 8) (.tmp 7), none, [], false, false⟩])
      (.seq (.cond (.tmp 9) (.skip)
        (.exit 0))
       (.seq (.block 1 (.seq (.region false [⟨(some 10), .move (.tmp 8), none, [], false, false⟩,
             ⟨(some 5), .move (.tmp 10), none, [], false, false⟩])
          (.seq (.region false [⟨(some 11), .move (.tmp 1), none, [], false, false⟩,
              ⟨(some 12), .move (.tmp 0), none, [], false, false⟩,
              ⟨(some 13), .move (.tmp 5), none, [], false, false⟩,
              ⟨(some 14), .indexAddr none 1 (.tmp 12) (.tmp 13), none, [], false, false⟩,
              ⟨(some 15), .load false 1 (.tmp 14), none, [], false, false⟩,
              ⟨(some 16), .callVal (.tmp 11) [(.tmp 15)], none, [], false, false⟩])
           (.cond (.tmp 16) (.seq (.region false [⟨(some 17), .move (.tmp 5), none, [], false, false⟩,
                ⟨(some 4), .move (.tmp 17), none, [], false, false⟩])
             (.ret))
            (.skip)))))
        (.region false [⟨(some 18), .bin .add (.tmp 8) (.const (.int .i64 1)), none, [], false, false⟩,
           ⟨(some 8), .move (.tmp 18), none, [], false, false⟩])))))))
  (.seq (.region false [⟨(some 4), .move (.const (.int .i64 (-1))), none, [], false, false⟩])
   (.ret))),
 [.tmp 4], .pure, 19⟩

/-- agraffe/upkeep.CheckDrift -/
def ef124 : EFun := ⟨
 .seq (.region false [⟨(some 1), .box (.tmp 0), none, [], false, false⟩,
    ⟨(some 2), .move (.const (.int .i64 0)), none, [], false, false⟩])
 (.seq (.seq (.region false [⟨(some 3), .fieldAddr 0 (.tmp 1), none, [], false, false⟩,
      ⟨(some 4), .load false 1 (.tmp 3), none, [], false, false⟩,
      ⟨(some 5), .call 54 [(.tmp 4), (.const (.int .i64 0)), (.const (.int .i64 1000))], none, [], false, false⟩,
      ⟨(some 6), .un .not (.tmp 5), none, [], false, false⟩,
      ⟨(some 7), .move (.tmp 6), none, [], false, false⟩,
      ⟨(some 8), .fieldAddr 1 (.tmp 1), (some (7, false)), [], false, false⟩,
      ⟨(some 9), .load false 1 (.tmp 8), (some (7, false)), [], false, false⟩,
      ⟨(some 10), .call 54 [(.tmp 9), (.const (.int .i64 1)), (.const (.int .i64 365))], (some (7, false)), [], false, false⟩,
      ⟨(some 11), .un .not (.tmp 10), (some (7, false)), [], false, false⟩,
      ⟨(some 12), .pick (.tmp 7) (.const (.bool true)) (.tmp 11), none, [], false, false⟩,
      ⟨(some 13), .move (.tmp 12), none, [], false, false⟩,
      ⟨(some 14), .fieldAddr 2 (.tmp 1), (some (13, false)), [], false, false⟩,
      ⟨(some 15), .load false 1 (.tmp 14), (some (13, false)), [], false, false⟩,
      ⟨(some 16), .call 54 [(.tmp 15), (.const (.int .i64 0)), (.const (.int .i64 1000))], (some (13, false)), [], false, false⟩,
      ⟨(some 17), .un .not (.tmp 16), (some (13, false)), [], false, false⟩,
      ⟨(some 18), .pick (.tmp 13) (.const (.bool true)) (.tmp 17), none, [], false, false⟩,
      ⟨(some 19), .move (.tmp 18), none, [], false, false⟩,
      ⟨(some 20), .fieldAddr 3 (.tmp 1), (some (19, false)), [], false, false⟩,
      ⟨(some 21), .load false 1 (.tmp 20), (some (19, false)), [], false, false⟩,
      ⟨(some 22), .call 54 [(.tmp 21), (.const (.int .i64 0)), (.const (.int .i64 1000000))], (some (19, false)), [], false, false⟩,
      ⟨(some 23), .un .not (.tmp 22), (some (19, false)), [], false, false⟩,
      ⟨(some 24), .pick (.tmp 19) (.const (.bool true)) (.tmp 23), none, [], false, false⟩])
   (.cond (.tmp 24) (.seq (.region false [⟨(some 2), .move (.const (.int .i64 2)), none, [], false, false⟩])
     (.ret))
    (.skip)))
  (.seq (.region false [⟨(some 2), .move (.const (.int .i64 0)), none, [], false, false⟩])
   (.ret))),
 [.tmp 2], .pure, 25⟩

/-- agraffe/upkeep.CheckClimate -/
def ef125 : EFun := ⟨
 .seq (.region false [⟨(some 2), .move (.const (.int .i64 0)), none, [], false, false⟩])
 (.seq (.block 0 (.seq (.region false [⟨(some 7), .move (.tmp 0), none, [], false, false⟩,
       ⟨(some 8), .len false (.tmp 7), none, [], false, false⟩,
       ⟨(some 9), .bin .eql (.tmp 8) (.const (.int .i64 0)), none, [], false, false⟩,
       ⟨(some 6), .move (.tmp 9), none, [], false, false⟩])
    (.cond (.tmp 6) (.seq (.region false [⟨(some 2), .move (.const (.int .i64 12)), none, [], false, false⟩])
      (.ret))
     (.seq (.region false [⟨(some 11), .move (.tmp 0), none, [], false, false⟩,
         ⟨(some 12), .len false (.tmp 11), none, [], false, false⟩,
         ⟨(some 13), .bin .gtr (.tmp 12) (.const (.int .i64 200)), none, [], false, false⟩,
         ⟨(some 10), .move (.tmp 13), none, [], false, false⟩])
      (.cond (.tmp 10) (.seq (.region false [⟨(some 2), .move (.const (.int .i64 8)), none, [], false, false⟩])
        (.ret))
       (.skip))))))
  (.seq (.seq (.region false [⟨(some 14), .move (.tmp 0), none, [], false, false⟩,
       ⟨(some 15), .len false (.tmp 14), none, [], false, false⟩,
       ⟨(some 16), .move (.const (.int .i64 0)), none, [], false, false⟩])
    (.block 1 (.loop (some [0, 14, 15, 16]) (
      .seq (.region false [⟨(some 17), .bin .lss (.tmp 16) (.tmp 15), none, [], false, false⟩])
       (.seq (.cond (.tmp 17) (.skip)
         (.exit 1))
        (.seq (.block 2 (.seq (.region false [⟨(some 18), .move (.tmp 16), none, [], false, false⟩,
              ⟨(some 19), .indexAddr none 2 (.tmp 14) (.tmp 16), none, [], false, false⟩,
              ⟨(some 20), .load true 2 (.tmp 19), none, [], false, false⟩,
              ⟨(some 4), .push [(.int .i64 0), (.int .i64 0)], none, [], false, false⟩,
              ⟨(some 3), .move (.tmp 18), none, [], false, false⟩,
              ⟨none, .store 2 (.tmp 4) (.tmp 20), none, [], false, false⟩])
           (.seq (.seq (.region false [⟨(some 21), .load true 2 (.tmp 4), none, [], false, false⟩,
                ⟨(some 22), .call 56 [(.tmp 21)], none, [], false, false⟩,
                ⟨(some 5), .move (.tmp 22), none, [], false, false⟩])
             (.seq (.region false [⟨(some 23), .move (.tmp 5), none, [], false, false⟩,
                 ⟨(some 24), .bin .neq (.tmp 23) (.const (.int .i64 0)), none, [], false, false⟩])
              (.cond (.tmp 24) (.seq (.region false [⟨(some 25), .move (.tmp 5), none, [], false, false⟩,
                   ⟨(some 2), .move (.tmp 25), none, [], false, false⟩])
                (.ret))
               (.skip))))
            (.seq (.region true [⟨(some 26), .move (.tmp 3), none, [], false, false⟩,
                ⟨(some 27), .bin .gtr (.tmp 26) (.const (.int .i64 0)), none, [], false, false⟩,
                ⟨(some 28), .move (.tmp 27), none, [], false, false⟩,
                ⟨(some 29), .fieldAddr 0 (.tmp 4), (some (28, true)), [], false, false⟩,
                ⟨(some 30), .load false 1 (.tmp 29), (some (28, true)), [], false, false⟩,
                ⟨(some 31), .move (.tmp 0), (some (28, true)), [], false, false⟩,
                ⟨(some 32), .move (.tmp 3), (some (28, true)), [], false, false⟩,
                ⟨(some 33), .bin .sub (.tmp 32) (.const (.int .i64 1)), (some (28, true)), [], false, false⟩,
                ⟨(some 34), .indexAddr none 2 (.tmp 31) (.tmp 33), (some (28, true)), [], false, false⟩,
                ⟨(some 35), .fieldAddr 0 (.tmp 34), (some (28, true)), [], false, false⟩,
                ⟨(some 36), .load false 1 (.tmp 35), (some (28, true)), [], false, false⟩,
                ⟨(some 37), .bin .leq (.tmp 30) (.tmp 36), (some (28, true)), [], false, false⟩,
                ⟨(some 38), .pick (.tmp 28) (.tmp 37) (.const (.bool false)), none, [], false, false⟩])
             (.cond (.tmp 38) (.seq (.region false [⟨(some 2), .move (.const (.int .i64 9)), none, [], false, false⟩])
               (.ret))
              (.skip))))))
         (.region false [⟨(some 39), .bin .add (.tmp 16) (.const (.int .i64 1)), none, [], false, false⟩,
            ⟨(some 16), .move (.tmp 39), none, [], false, false⟩])))))))
   (.seq (.region false [⟨(some 2), .move (.const (.int .i64 0)), none, [], false, false⟩])
    (.ret)))),
 [.tmp 2], .pure, 40⟩

/-- agraffe/upkeep.moistures -/
def ef126 : EFun := ⟨
 .seq (.region false [⟨(some 2), .box (.tmp 0), none, [], false, false⟩,
    ⟨(some 3), .box (.tmp 1), none, [], false, false⟩,
    ⟨(some 4), .move (.const .nilFunc), none, [], false, false⟩])
 (.seq (.region false [⟨(some 5), .makeFunc (.func 161) [(.tmp 2), (.tmp 3)], none, [], false, false⟩,
     ⟨(some 4), .move (.tmp 5), none, [], false, false⟩])
  (.ret)),
 [.tmp 4], .pure, 6⟩

/-- agraffe/temper.CheckTemperament$1 -/
def ef127 : EFun := ⟨
 .seq (.region false [⟨(some 2), .move (.const (.bool false)), none, [], false, false⟩])
 (.seq (.region false [⟨(some 3), .move (.tmp 0), none, [], false, false⟩,
     ⟨(some 4), .bin .lss (.tmp 3) (.const (.int .i64 (-48))), none, [], false, false⟩,
     ⟨(some 5), .move (.tmp 4), none, [], false, false⟩,
     ⟨(some 6), .move (.tmp 0), (some (5, false)), [], false, false⟩,
     ⟨(some 7), .bin .gtr (.tmp 6) (.const (.int .i64 48)), (some (5, false)), [], false, false⟩,
     ⟨(some 8), .pick (.tmp 5) (.const (.bool true)) (.tmp 7), none, [], false, false⟩,
     ⟨(some 2), .move (.tmp 8), none, [], false, false⟩])
  (.ret)),
 [.tmp 2], .pure, 9⟩

/-- agraffe/temper.isName -/
def ef128 : EFun := ⟨
 .seq (.region false [⟨(some 2), .move (.const (.bool false)), none, [], false, false⟩])
 (.seq (.seq (.region false [⟨(some 6), .move (.tmp 0), none, [], false, false⟩,
      ⟨(some 7), .bytesOf (.tmp 6), none, [], false, false⟩,
      ⟨(some 8), .len false (.tmp 7), none, [], false, false⟩,
      ⟨(some 9), .move (.const (.int .i64 0)), none, [], false, false⟩])
   (.block 0 (.loop (some [0, 7, 8, 9]) (
     .seq (.region false [⟨(some 10), .bin .lss (.tmp 9) (.tmp 8), none, [], false, false⟩])
      (.seq (.cond (.tmp 10) (.skip)
        (.exit 0))
       (.seq (.block 1 (.seq (.region false [⟨(some 11), .move (.tmp 9), none, [], false, false⟩,
             ⟨(some 12), .indexAddr none 1 (.tmp 7) (.tmp 9), none, [], false, false⟩,
             ⟨(some 13), .load false 1 (.tmp 12), none, [], false, false⟩,
             ⟨(some 3), .move (.tmp 11), none, [], false, false⟩,
             ⟨(some 4), .move (.tmp 13), none, [], false, false⟩])
          (.seq (.region false [⟨(some 14), .move (.tmp 4), none, [], false, false⟩,
              ⟨(some 15), .bin .geq (.tmp 14) (.const (.int .u8 97)), none, [], false, false⟩,
              ⟨(some 16), .move (.tmp 15), none, [], false, false⟩,
              ⟨(some 17), .move (.tmp 4), (some (16, true)), [], false, false⟩,
              ⟨(some 18), .bin .leq (.tmp 17) (.const (.int .u8 122)), (some (16, true)), [], false, false⟩,
              ⟨(some 19), .pick (.tmp 16) (.tmp 18) (.const (.bool false)), none, [], false, false⟩,
              ⟨(some 20), .move (.tmp 19), none, [], false, false⟩,
              ⟨(some 21), .move (.tmp 4), (some (20, false)), [], false, false⟩,
              ⟨(some 22), .bin .geq (.tmp 21) (.const (.int .u8 65)), (some (20, false)), [], false, false⟩,
              ⟨(some 23), .move (.tmp 22), (some (20, false)), [], false, false⟩,
              ⟨(some 24), .move (.tmp 4), (some (23, true)), [], false, false⟩,
              ⟨(some 25), .bin .leq (.tmp 24) (.const (.int .u8 90)), (some (23, true)), [], false, false⟩,
              ⟨(some 26), .pick (.tmp 23) (.tmp 25) (.const (.bool false)), (some (20, false)), [], false, false⟩,
              ⟨(some 27), .pick (.tmp 20) (.const (.bool true)) (.tmp 26), none, [], false, false⟩,
              ⟨(some 5), .move (.tmp 27), none, [], false, false⟩])
           (.seq (.region false [⟨(some 28), .move (.tmp 5), none, [], false, false⟩,
               ⟨(some 29), .un .not (.tmp 28), none, [], false, false⟩,
               ⟨(some 30), .move (.tmp 29), none, [], false, false⟩,
               ⟨(some 31), .move (.tmp 3), (some (30, true)), [], false, false⟩,
               ⟨(some 32), .bin .eql (.tmp 31) (.const (.int .i64 0)), (some (30, true)), [], false, false⟩,
               ⟨(some 33), .move (.tmp 32), (some (30, true)), [], false, false⟩,
               ⟨(some 34), .move (.tmp 4), (some (33, false)), [], false, false⟩,
               ⟨(some 35), .bin .neq (.tmp 34) (.const (.int .u8 45)), (some (33, false)), [], false, false⟩,
               ⟨(some 36), .move (.tmp 35), (some (33, false)), [], false, false⟩,
               ⟨(some 37), .move (.tmp 4), (some (36, true)), [], false, false⟩,
               ⟨(some 38), .bin .lss (.tmp 37) (.const (.int .u8 48)), (some (36, true)), [], false, false⟩,
               ⟨(some 39), .move (.tmp 38), (some (36, true)), [], false, false⟩,
               ⟨(some 40), .move (.tmp 4), (some (39, false)), [], false, false⟩,
               ⟨(some 41), .bin .gtr (.tmp 40) (.const (.int .u8 57)), (some (39, false)), [], false, false⟩,
               ⟨(some 42), .pick (.tmp 39) (.const (.bool true)) (.tmp 41), (some (36, true)), [], false, false⟩,
               ⟨(some 43), .pick (.tmp 36) (.tmp 42) (.const (.bool false)), (some (33, false)), [], false, false⟩,
               ⟨(some 44), .pick (.tmp 33) (.const (.bool true)) (.tmp 43), (some (30, true)), [], false, false⟩,
               ⟨(some 45), .pick (.tmp 30) (.tmp 44) (.const (.bool false)), none, [], false, false⟩])
            (.cond (.tmp 45) (.seq (.region false [⟨(some 2), .move (.const (.bool false)), none, [], false, false⟩])
              (.ret))
             (.skip))))))
        (.region false [⟨(some 46), .bin .add (.tmp 9) (.const (.int .i64 1)), none, [], false, false⟩,
           ⟨(some 9), .move (.tmp 46), none, [], false, false⟩])))))))
  (.seq (.region false [⟨(some 47), .move (.tmp 0), none, [], false, false⟩,
      ⟨(some 48), .bin .neq (.tmp 47) (.const (.string ⟨#[]⟩)), none, [], false, false⟩,
      ⟨(some 49), .move (.tmp 48), none, [], false, false⟩,
      ⟨(some 50), .move (.tmp 0), (some (49, true)), [], false, false⟩,
      ⟨(some 51), .len true (.tmp 50), (some (49, true)), [], false, false⟩,
      ⟨(some 52), .bin .leq (.tmp 51) (.const (.int .i64 12)), (some (49, true)), [], false, false⟩,
      ⟨(some 53), .pick (.tmp 49) (.tmp 52) (.const (.bool false)), none, [], false, false⟩,
      ⟨(some 2), .move (.tmp 53), none, [], false, false⟩])
   (.ret))),
 [.tmp 2], .pure, 54⟩

/-- agraffe/temper.sum -/
def ef129 : EFun := ⟨
 .seq (.region false [⟨(some 2), .move (.const (.int .i64 0)), none, [], false, false⟩])
 (.seq (.region false [⟨(some 3), .move (.const (.int .i64 0)), none, [], false, false⟩])
  (.seq (.seq (.region false [⟨(some 6), .move (.tmp 0), none, [], false, false⟩,
       ⟨(some 7), .len false (.tmp 6), none, [], false, false⟩,
       ⟨(some 8), .move (.const (.int .i64 0)), none, [], false, false⟩])
    (.block 0 (.loop (some [3, 6, 7, 8]) (
      .seq (.region false [⟨(some 9), .bin .lss (.tmp 8) (.tmp 7), none, [], false, false⟩])
       (.seq (.cond (.tmp 9) (.skip)
         (.exit 0))
        (.seq (.block 1 (.seq (.region false [⟨(some 10), .indexAddr none 1 (.tmp 6) (.tmp 8), none, [], false, false⟩,
              ⟨(some 11), .load false 1 (.tmp 10), none, [], false, false⟩,
              ⟨(some 5), .move (.tmp 11), none, [], false, false⟩])
           (.region false [⟨(some 12), .move (.tmp 3), none, [], false, false⟩,
              ⟨(some 13), .move (.tmp 5), none, [], false, false⟩,
              ⟨(some 14), .bin .add (.tmp 12) (.tmp 13), none, [], false, false⟩,
              ⟨(some 3), .move (.tmp 14), none, [], false, false⟩])))
         (.region false [⟨(some 15), .bin .add (.tmp 8) (.const (.int .i64 1)), none, [], false, false⟩,
            ⟨(some 8), .move (.tmp 15), none, [], false, false⟩])))))))
   (.seq (.region false [⟨(some 16), .move (.tmp 3), none, [], false, false⟩,
       ⟨(some 2), .move (.tmp 16), none, [], false, false⟩])
    (.ret)))),
 [.tmp 2], .pure, 17⟩

/-- agraffe/temper.round -/
def ef130 : EFun := ⟨
 .seq (.region false [⟨(some 1), .box (.tmp 0), none, [], false, false⟩,
    ⟨(some 2), .move (.const (.pointer none)), none, [], false, false⟩])
 (.seq (.region false [⟨(some 3), .push (List.replicate 72 (.int .i64 0)), none, [], false, false⟩])
  (.seq (.region false [⟨(some 4), .push [(.int .i64 0), (.int .i64 0), (.int .i64 0)], none, [], false, false⟩])
   (.seq (.seq (.region false [⟨(some 8), .move (.const (.int .i64 0)), none, [], false, false⟩])
     (.block 0 (.loop (some [1, 3, 4, 8]) (
       .seq (.region false [⟨(some 9), .bin .lss (.tmp 8) (.const (.int .i64 12)), none, [], false, false⟩])
        (.seq (.cond (.tmp 9) (.skip)
          (.exit 0))
         (.seq (.block 1 (.seq (.region false [⟨(some 10), .move (.tmp 8), none, [], false, false⟩,
               ⟨(some 5), .move (.tmp 10), none, [], false, false⟩])
            (.seq (.region true [⟨(some 11), .move (.tmp 5), none, [], false, false⟩,
                ⟨(some 12), .fieldAddr 1 (.tmp 1), none, [], false, false⟩,
                ⟨(some 13), .indexAddr (some 12) 1 (.tmp 12) (.tmp 11), none, [], false, false⟩,
                ⟨(some 14), .load false 1 (.tmp 13), none, [], false, false⟩,
                ⟨(some 15), .move (.tmp 5), none, [], false, false⟩,
                ⟨(some 16), .fieldAddr 13 (.tmp 1), none, [], false, false⟩,
                ⟨(some 17), .indexAddr (some 12) 1 (.tmp 16) (.tmp 15), none, [], false, false⟩,
                ⟨(some 18), .load false 1 (.tmp 17), none, [], false, false⟩,
                ⟨(some 6), .move (.tmp 14), none, [], false, false⟩,
                ⟨(some 7), .move (.tmp 18), none, [], false, false⟩])
             (.seq (.region false [⟨(some 19), .move (.tmp 5), none, [], false, false⟩,
                 ⟨(some 20), .move (.tmp 6), none, [], false, false⟩,
                 ⟨(some 21), .bin .mul (.const (.int .i64 19)) (.tmp 20), none, [], false, false⟩,
                 ⟨(some 22), .bin .add (.const (.int .i64 (-12))) (.tmp 21), none, [], false, false⟩,
                 ⟨(some 23), .move (.tmp 7), none, [], false, false⟩,
                 ⟨(some 24), .bin .mul (.const (.int .i64 4)) (.tmp 23), none, [], false, false⟩,
                 ⟨(some 25), .bin .add (.tmp 22) (.tmp 24), none, [], false, false⟩,
                 ⟨(some 26), .move (.tmp 6), none, [], false, false⟩,
                 ⟨(some 27), .bin .mul (.const (.int .i64 12)) (.tmp 26), none, [], false, false⟩,
                 ⟨(some 28), .bin .sub (.const (.int .i64 12)) (.tmp 27), none, [], false, false⟩,
                 ⟨(some 29), .move (.tmp 7), none, [], false, false⟩,
                 ⟨(some 30), .bin .mul (.const (.int .i64 4)) (.tmp 29), none, [], false, false⟩,
                 ⟨(some 31), .bin .sub (.tmp 28) (.tmp 30), none, [], false, false⟩,
                 ⟨(some 32), .move (.tmp 7), none, [], false, false⟩,
                 ⟨(some 33), .build [(.int .i64 0), (.int .i64 0), (.int .i64 0)] [(0, 1, (.tmp 25)), (1, 1, (.tmp 31)), (2, 1, (.tmp 32))], none, [], false, false⟩,
                 ⟨(some 34), .fieldAddr 0 (.tmp 3), none, [], false, false⟩,
                 ⟨(some 35), .indexAddr (some 12) 3 (.tmp 34) (.tmp 19), none, [], false, false⟩,
                 ⟨none, .store 3 (.tmp 35) (.tmp 33), none, [], false, false⟩])
              (.seq (.region true [⟨(some 36), .move (.tmp 5), none, [], false, false⟩,
                  ⟨(some 37), .bin .mul (.const (.int .i64 7)) (.tmp 36), none, [], false, false⟩,
                  ⟨(some 38), .bin .rem (.tmp 37) (.const (.int .i64 12)), none, [], false, false⟩,
                  ⟨(some 39), .load true 3 (.tmp 4), none, [], false, false⟩,
                  ⟨(some 40), .call 165 [], none, [], false, true⟩,
                  ⟨(some 41), .move (.tmp 5), none, [], false, false⟩,
                  ⟨(some 42), .bin .mul (.const (.int .i64 7)) (.tmp 41), none, [], false, false⟩,
                  ⟨(some 43), .bin .quo (.tmp 42) (.const (.int .i64 12)), none, [], false, false⟩,
                  ⟨(some 44), .un .neg (.tmp 43), none, [], false, false⟩,
                  ⟨(some 45), .call 164 [(.tmp 39), (.tmp 40), (.tmp 44)], none, [], false, false⟩,
                  ⟨(some 46), .fieldAddr 36 (.tmp 3), none, [], false, false⟩,
                  ⟨(some 47), .indexAddr (some 12) 3 (.tmp 46) (.tmp 38), none, [], false, false⟩,
                  ⟨none, .store 3 (.tmp 47) (.tmp 45), none, [], false, false⟩])
               (.region true [⟨(some 48), .load true 3 (.tmp 4), none, [], false, false⟩,
                  ⟨(some 49), .move (.tmp 5), none, [], false, false⟩,
                  ⟨(some 50), .fieldAddr 0 (.tmp 3), none, [], false, false⟩,
                  ⟨(some 51), .indexAddr (some 12) 3 (.tmp 50) (.tmp 49), none, [], false, false⟩,
                  ⟨(some 52), .load true 3 (.tmp 51), none, [], false, false⟩,
                  ⟨(some 53), .call 164 [(.tmp 48), (.tmp 52), (.const (.int .i64 1))], none, [], false, false⟩,
                  ⟨none, .store 3 (.tmp 4) (.tmp 53), none, [], false, false⟩]))))))
          (.region false [⟨(some 54), .bin .add (.tmp 8) (.const (.int .i64 1)), none, [], false, false⟩,
             ⟨(some 8), .move (.tmp 54), none, [], false, false⟩])))))))
    (.seq (.region false [⟨(some 2), .move (.tmp 3), none, [], false, false⟩])
     (.ret))))),
 [.tmp 2], .pure, 55⟩

/-- (*agraffe/temper.circle).spread -/
def ef131 : EFun := ⟨
 .seq (.region false [⟨(some 2), .move (.const (.int .i64 0)), none, [], false, false⟩])
 (.seq (.region false [⟨(some 3), .move (.const (.int .i64 0)), none, [], false, false⟩])
  (.seq (.seq (.region false [⟨(some 9), .move (.const (.int .i64 0)), none, [], false, false⟩])
    (.block 0 (.loop (some [0, 3, 9]) (
      .seq (.region false [⟨(some 10), .bin .lss (.tmp 9) (.const (.int .i64 3)), none, [], false, false⟩])
       (.seq (.cond (.tmp 10) (.skip)
         (.exit 0))
        (.seq (.block 1 (.seq (.region false [⟨(some 11), .move (.tmp 9), none, [], false, false⟩,
              ⟨(some 4), .move (.tmp 11), none, [], false, false⟩])
           (.seq (.region true [⟨(some 12), .move (.tmp 0), none, [], false, false⟩,
               ⟨(some 13), .move (.tmp 4), none, [], false, false⟩,
               ⟨(some 14), .nilCheck (.tmp 12), none, [], false, false⟩,
               ⟨(some 15), .fieldAddr 36 (.tmp 14), none, [], false, false⟩,
               ⟨(some 16), .indexAddr (some 12) 3 (.tmp 15) (.const (.int .i64 0)), none, [], false, false⟩,
               ⟨(some 17), .indexAddr (some 3) 1 (.tmp 16) (.tmp 13), none, [], false, false⟩,
               ⟨(some 18), .load false 1 (.tmp 17), none, [], false, false⟩,
               ⟨(some 19), .move (.tmp 0), none, [], false, false⟩,
               ⟨(some 20), .move (.tmp 4), none, [], false, false⟩,
               ⟨(some 21), .nilCheck (.tmp 19), none, [], false, false⟩,
               ⟨(some 22), .fieldAddr 36 (.tmp 21), none, [], false, false⟩,
               ⟨(some 23), .indexAddr (some 12) 3 (.tmp 22) (.const (.int .i64 0)), none, [], false, false⟩,
               ⟨(some 24), .indexAddr (some 3) 1 (.tmp 23) (.tmp 20), none, [], false, false⟩,
               ⟨(some 25), .load false 1 (.tmp 24), none, [], false, false⟩,
               ⟨(some 5), .move (.tmp 18), none, [], false, false⟩,
               ⟨(some 6), .move (.tmp 25), none, [], false, false⟩])
            (.seq (.seq (.region false [⟨(some 26), .move (.tmp 0), none, [], false, false⟩,
                 ⟨(some 27), .nilCheck (.tmp 26), none, [], false, false⟩,
                 ⟨(some 28), .fieldAddr 36 (.tmp 27), none, [], false, false⟩,
                 ⟨(some 29), .load true 36 (.tmp 28), none, [], false, false⟩,
                 ⟨(some 30), .move (.const (.int .i64 0)), none, [], false, false⟩])
              (.block 2 (.loop (some [0, 3, 4, 5, 6, 9, 29, 30]) (
                .seq (.region false [⟨(some 31), .bin .lss (.tmp 30) (.const (.int .i64 12)), none, [], false, false⟩])
                 (.seq (.cond (.tmp 31) (.skip)
                   (.exit 2))
                  (.seq (.block 3 (.seq (.region false [⟨(some 32), .index 12 3 true (.tmp 29) (.tmp 30), none, [], false, false⟩,
                        ⟨(some 8), .push [(.int .i64 0), (.int .i64 0), (.int .i64 0)], none, [], false, false⟩,
                        ⟨none, .store 3 (.tmp 8) (.tmp 32), none, [], false, false⟩])
                     (.region true [⟨(some 33), .move (.tmp 5), none, [], false, false⟩,
                        ⟨(some 34), .move (.tmp 4), none, [], false, false⟩,
                        ⟨(some 35), .indexAddr (some 3) 1 (.tmp 8) (.tmp 34), none, [], false, false⟩,
                        ⟨(some 36), .load false 1 (.tmp 35), none, [], false, false⟩,
                        ⟨(some 37), .min [(.tmp 33), (.tmp 36)], none, [], false, false⟩,
                        ⟨(some 38), .move (.tmp 6), none, [], false, false⟩,
                        ⟨(some 39), .move (.tmp 4), none, [], false, false⟩,
                        ⟨(some 40), .indexAddr (some 3) 1 (.tmp 8) (.tmp 39), none, [], false, false⟩,
                        ⟨(some 41), .load false 1 (.tmp 40), none, [], false, false⟩,
                        ⟨(some 42), .max [(.tmp 38), (.tmp 41)], none, [], false, false⟩,
                        ⟨(some 5), .move (.tmp 37), none, [], false, false⟩,
                        ⟨(some 6), .move (.tmp 42), none, [], false, false⟩])))
                   (.region false [⟨(some 43), .bin .add (.tmp 30) (.const (.int .i64 1)), none, [], false, false⟩,
                      ⟨(some 30), .move (.tmp 43), none, [], false, false⟩])))))))
             (.region false [⟨(some 44), .move (.tmp 3), none, [], false, false⟩,
                ⟨(some 45), .move (.tmp 6), none, [], false, false⟩,
                ⟨(some 46), .move (.tmp 5), none, [], false, false⟩,
                ⟨(some 47), .bin .sub (.tmp 45) (.tmp 46), none, [], false, false⟩,
                ⟨(some 48), .max [(.tmp 44), (.tmp 47)], none, [], false, false⟩,
                ⟨(some 3), .move (.tmp 48), none, [], false, false⟩])))))
         (.region false [⟨(some 49), .bin .add (.tmp 9) (.const (.int .i64 1)), none, [], false, false⟩,
            ⟨(some 9), .move (.tmp 49), none, [], false, false⟩])))))))
   (.seq (.region false [⟨(some 50), .move (.tmp 3), none, [], false, false⟩,
       ⟨(some 2), .move (.tmp 50), none, [], false, false⟩])
    (.ret)))),
 [.tmp 2], .pure, 51⟩

/-- slices.Contains[[]bool,bool] -/
def ef132 : EFun := ⟨
 .seq (.region false [⟨(some 4), .move (.const (.bool false)), none, [], false, false⟩])
 (.seq (.region false [⟨(some 5), .move (.tmp 0), none, [], false, false⟩,
     ⟨(some 6), .move (.tmp 1), none, [], false, false⟩,
     ⟨(some 7), .call 166 [(.tmp 5), (.tmp 6)], none, [], false, false⟩,
     ⟨(some 8), .bin .geq (.tmp 7) (.const (.int .i64 0)), none, [], false, false⟩,
     ⟨(some 4), .move (.tmp 8), none, [], false, false⟩])
  (.ret)),
 [.tmp 4], .pure, 9⟩

/-- agraffe/agrafferef01.parts -/
def ef133 : EFun := ⟨
 .seq (.region false [⟨(some 6), .move (.const (.slice none 0 0)), none, [], false, false⟩,
    ⟨(some 7), .move (.const (.slice none 0 0)), none, [], false, false⟩])
 (.seq (.region false [⟨(some 13), .buildSlice 1 1 [(.int .i64 0)] [(0, 1, (.const (.int .i64 1)))], none, [], false, false⟩,
     ⟨(some 14), .buildSlice 1 1 [(.int .i64 0)] [(0, 1, (.const (.int .i64 1)))], none, [], false, false⟩,
     ⟨(some 8), .move (.tmp 13), none, [], false, false⟩,
     ⟨(some 9), .move (.tmp 14), none, [], false, false⟩])
  (.seq (.seq (.region false [⟨(some 15), .move (.tmp 0), none, [], false, false⟩,
       ⟨(some 16), .move (.tmp 1), none, [], false, false⟩,
       ⟨(some 17), .move (.tmp 2), none, [], false, false⟩,
       ⟨(some 18), .build [(.int .i64 0), (.int .i64 0), (.int .i64 0)] [(0, 1, (.tmp 15)), (1, 1, (.tmp 16)), (2, 1, (.tmp 17))], none, [], false, false⟩,
       ⟨(some 19), .move (.const (.int .i64 0)), none, [], false, false⟩])
    (.block 0 (.loop (some [8, 9, 18, 19]) (
      .seq (.region false [⟨(some 20), .bin .lss (.tmp 19) (.const (.int .i64 3)), none, [], false, false⟩])
       (.seq (.cond (.tmp 20) (.skip)
         (.exit 0))
        (.seq (.block 1 (.seq (.region false [⟨(some 21), .move (.tmp 19), none, [], false, false⟩,
              ⟨(some 22), .index 3 1 false (.tmp 18) (.tmp 19), none, [], false, false⟩,
              ⟨(some 10), .move (.tmp 21), none, [], false, false⟩,
              ⟨(some 11), .move (.tmp 22), none, [], false, false⟩])
           (.seq (.region false [⟨(some 23), .build [(.int .i64 0), (.int .i64 0), (.int .i64 0)] [(0, 1, (.const (.int .i64 2))), (1, 1, (.const (.int .i64 3))), (2, 1, (.const (.int .i64 5)))], none, [], false, false⟩,
               ⟨(some 24), .move (.tmp 10), none, [], false, false⟩,
               ⟨(some 25), .index 3 1 false (.tmp 23) (.tmp 24), none, [], false, false⟩,
               ⟨(some 26), .call 136 [(.tmp 25)], none, [], false, false⟩,
               ⟨(some 12), .move (.tmp 26), none, [], false, false⟩])
            (.seq (.region false [⟨(some 27), .move (.tmp 11), none, [], false, false⟩,
                ⟨(some 28), .bin .gtr (.tmp 27) (.const (.int .i64 0)), none, [], false, false⟩])
             (.cond (.tmp 28) (.region false [⟨(some 29), .move (.tmp 8), none, [], false, false⟩,
                 ⟨(some 30), .move (.tmp 12), none, [], false, false⟩,
                 ⟨(some 31), .move (.tmp 11), none, [], false, false⟩,
                 ⟨(some 32), .call 135 [(.tmp 30), (.tmp 31)], none, [], false, false⟩,
                 ⟨(some 33), .call 134 [(.tmp 29), (.tmp 32)], none, [], false, false⟩,
                 ⟨(some 8), .move (.tmp 33), none, [], false, false⟩])
              (.region false [⟨(some 34), .move (.tmp 9), none, [], false, false⟩,
                 ⟨(some 35), .move (.tmp 12), none, [], false, false⟩,
                 ⟨(some 36), .move (.tmp 11), none, [], false, false⟩,
                 ⟨(some 37), .un .neg (.tmp 36), none, [], false, false⟩,
                 ⟨(some 38), .call 135 [(.tmp 35), (.tmp 37)], none, [], false, false⟩,
                 ⟨(some 39), .call 134 [(.tmp 34), (.tmp 38)], none, [], false, false⟩,
                 ⟨(some 9), .move (.tmp 39), none, [], false, false⟩]))))))
         (.region false [⟨(some 40), .bin .add (.tmp 19) (.const (.int .i64 1)), none, [], false, false⟩,
            ⟨(some 19), .move (.tmp 40), none, [], false, false⟩])))))))
   (.seq (.region false [⟨(some 41), .move (.tmp 8), none, [], false, false⟩,
       ⟨(some 42), .move (.tmp 9), none, [], false, false⟩,
       ⟨(some 6), .move (.tmp 41), none, [], false, false⟩,
       ⟨(some 7), .move (.tmp 42), none, [], false, false⟩])
    (.ret)))),
 [.tmp 6, .tmp 7], .pure, 43⟩

/-- agraffe/agrafferef01.mul -/
def ef134 : EFun := ⟨
 .seq (.region false [⟨(some 4), .move (.const (.slice none 0 0)), none, [], false, false⟩])
 (.seq (.region false [⟨(some 10), .move (.tmp 0), none, [], false, false⟩,
     ⟨(some 11), .len false (.tmp 10), none, [], false, false⟩,
     ⟨(some 12), .move (.tmp 1), none, [], false, false⟩,
     ⟨(some 13), .len false (.tmp 12), none, [], false, false⟩,
     ⟨(some 14), .bin .add (.tmp 11) (.tmp 13), none, [], false, false⟩,
     ⟨(some 15), .bin .add (.tmp 14) (.const (.int .i64 1)), none, [], false, false⟩,
     ⟨(some 16), .makeSlice 1 8 [(.int .i64 0)] (.tmp 15) (.tmp 15), none, [], false, false⟩,
     ⟨(some 5), .move (.tmp 16), none, [], false, false⟩])
  (.seq (.seq (.region false [⟨(some 6), .move (.const (.int .i64 0)), none, [], false, false⟩])
    (.block 0 (.loop (some [0, 1, 5, 6]) (
      .seq (.seq (.region false [⟨(some 17), .move (.tmp 6), none, [], false, false⟩,
           ⟨(some 18), .move (.tmp 0), none, [], false, false⟩,
           ⟨(some 19), .len false (.tmp 18), none, [], false, false⟩,
           ⟨(some 20), .bin .lss (.tmp 17) (.tmp 19), none, [], false, false⟩])
        (.cond (.tmp 20) (.skip)
         (.exit 0)))
       (.seq (.block 1 (.seq (.region false [⟨(some 7), .move (.const (.int .i64 0)), none, [], false, false⟩])
          (.seq (.region false [⟨(some 8), .move (.const (.int .i64 0)), none, [], false, false⟩])
           (.block 2 (.loop (some [0, 1, 5, 6, 7, 8]) (
             .seq (.seq (.region false [⟨(some 23), .move (.tmp 8), none, [], false, false⟩,
                  ⟨(some 24), .move (.tmp 1), none, [], false, false⟩,
                  ⟨(some 25), .len false (.tmp 24), none, [], false, false⟩,
                  ⟨(some 26), .bin .lss (.tmp 23) (.tmp 25), none, [], false, false⟩,
                  ⟨(some 27), .move (.tmp 26), none, [], false, false⟩,
                  ⟨(some 28), .move (.tmp 7), (some (27, false)), [], false, false⟩,
                  ⟨(some 29), .bin .gtr (.tmp 28) (.const (.int .i64 0)), (some (27, false)), [], false, false⟩,
                  ⟨(some 30), .pick (.tmp 27) (.const (.bool true)) (.tmp 29), none, [], false, false⟩])
               (.cond (.tmp 30) (.skip)
                (.exit 2)))
              (.seq (.block 3 (.seq (.region false [⟨(some 33), .move (.tmp 5), none, [], false, false⟩,
                    ⟨(some 34), .move (.tmp 6), none, [], false, false⟩,
                    ⟨(some 35), .move (.tmp 8), none, [], false, false⟩,
                    ⟨(some 36), .bin .add (.tmp 34) (.tmp 35), none, [], false, false⟩,
                    ⟨(some 37), .indexAddr none 1 (.tmp 33) (.tmp 36), none, [], false, false⟩,
                    ⟨(some 38), .load false 1 (.tmp 37), none, [], false, false⟩,
                    ⟨(some 39), .move (.tmp 7), none, [], false, false⟩,
                    ⟨(some 40), .bin .add (.tmp 38) (.tmp 39), none, [], false, false⟩,
                    ⟨(some 9), .move (.tmp 40), none, [], false, false⟩])
                 (.seq (.seq (.region false [⟨(some 41), .move (.tmp 8), none, [], false, false⟩,
                      ⟨(some 42), .move (.tmp 1), none, [], false, false⟩,
                      ⟨(some 43), .len false (.tmp 42), none, [], false, false⟩,
                      ⟨(some 44), .bin .lss (.tmp 41) (.tmp 43), none, [], false, false⟩])
                   (.cond (.tmp 44) (.region true [⟨(some 45), .move (.tmp 9), none, [], false, false⟩,
                       ⟨(some 46), .move (.tmp 0), none, [], false, false⟩,
                       ⟨(some 47), .move (.tmp 6), none, [], false, false⟩,
                       ⟨(some 48), .indexAddr none 1 (.tmp 46) (.tmp 47), none, [], false, false⟩,
                       ⟨(some 49), .load false 1 (.tmp 48), none, [], false, false⟩,
                       ⟨(some 50), .move (.tmp 1), none, [], false, false⟩,
                       ⟨(some 51), .move (.tmp 8), none, [], false, false⟩,
                       ⟨(some 52), .indexAddr none 1 (.tmp 50) (.tmp 51), none, [], false, false⟩,
                       ⟨(some 53), .load false 1 (.tmp 52), none, [], false, false⟩,
                       ⟨(some 54), .bin .mul (.tmp 49) (.tmp 53), none, [], false, false⟩,
                       ⟨(some 55), .bin .add (.tmp 45) (.tmp 54), none, [], false, false⟩,
                       ⟨(some 9), .move (.tmp 55), none, [], false, false⟩])
                    (.skip)))
                  (.region false [⟨(some 56), .move (.tmp 5), none, [], false, false⟩,
                     ⟨(some 57), .move (.tmp 6), none, [], false, false⟩,
                     ⟨(some 58), .move (.tmp 8), none, [], false, false⟩,
                     ⟨(some 59), .bin .add (.tmp 57) (.tmp 58), none, [], false, false⟩,
                     ⟨(some 60), .move (.tmp 9), none, [], false, false⟩,
                     ⟨(some 61), .bin .rem (.tmp 60) (.const (.int .i64 10000)), none, [], false, false⟩,
                     ⟨(some 62), .move (.tmp 9), none, [], false, false⟩,
                     ⟨(some 63), .bin .quo (.tmp 62) (.const (.int .i64 10000)), none, [], false, false⟩,
                     ⟨(some 64), .indexAddr none 1 (.tmp 56) (.tmp 59), none, [], false, false⟩,
                     ⟨none, .store 1 (.tmp 64) (.tmp 61), none, [], false, false⟩,
                     ⟨(some 7), .move (.tmp 63), none, [], false, false⟩]))))
               (.region false [⟨(some 31), .move (.tmp 8), none, [], false, false⟩,
                  ⟨(some 32), .bin .add (.tmp 31) (.const (.int .i64 1)), none, [], false, false⟩,
                  ⟨(some 8), .move (.tmp 32), none, [], false, false⟩]))))))))
        (.region false [⟨(some 21), .move (.tmp 6), none, [], false, false⟩,
           ⟨(some 22), .bin .add (.tmp 21) (.const (.int .i64 1)), none, [], false, false⟩,
           ⟨(some 6), .move (.tmp 22), none, [], false, false⟩]))))))
   (.seq (.block 4 (.loop (some [5]) (
      .seq (.seq (.region false [⟨(some 65), .move (.tmp 5), none, [], false, false⟩,
           ⟨(some 66), .len false (.tmp 65), none, [], false, false⟩,
           ⟨(some 67), .bin .gtr (.tmp 66) (.const (.int .i64 0)), none, [], false, false⟩,
           ⟨(some 68), .move (.tmp 67), none, [], false, false⟩,
           ⟨(some 69), .move (.tmp 5), (some (68, true)), [], false, false⟩,
           ⟨(some 70), .move (.tmp 5), (some (68, true)), [], false, false⟩,
           ⟨(some 71), .len false (.tmp 70), (some (68, true)), [], false, false⟩,
           ⟨(some 72), .bin .sub (.tmp 71) (.const (.int .i64 1)), (some (68, true)), [], false, false⟩,
           ⟨(some 73), .indexAddr none 1 (.tmp 69) (.tmp 72), (some (68, true)), [], false, false⟩,
           ⟨(some 74), .load false 1 (.tmp 73), (some (68, true)), [], false, false⟩,
           ⟨(some 75), .bin .eql (.tmp 74) (.const (.int .i64 0)), (some (68, true)), [], false, false⟩,
           ⟨(some 76), .pick (.tmp 68) (.tmp 75) (.const (.bool false)), none, [], false, false⟩])
        (.cond (.tmp 76) (.skip)
         (.exit 4)))
       (.block 5 (.region false [⟨(some 77), .move (.tmp 5), none, [], false, false⟩,
           ⟨(some 78), .move (.tmp 5), none, [], false, false⟩,
           ⟨(some 79), .len false (.tmp 78), none, [], false, false⟩,
           ⟨(some 80), .bin .sub (.tmp 79) (.const (.int .i64 1)), none, [], false, false⟩,
           ⟨(some 81), .slice 1 (.tmp 77) none (some (.tmp 80)), none, [], false, false⟩,
           ⟨(some 5), .move (.tmp 81), none, [], false, false⟩])))))
    (.seq (.region false [⟨(some 82), .move (.tmp 5), none, [], false, false⟩,
        ⟨(some 4), .move (.tmp 82), none, [], false, false⟩])
     (.ret))))),
 [.tmp 4], .pure, 83⟩

/-- agraffe/agrafferef01.pow -/
def ef135 : EFun := ⟨
 .seq (.region false [⟨(some 4), .move (.const (.slice none 0 0)), none, [], false, false⟩])
 (.seq (.region false [⟨(some 6), .buildSlice 1 1 [(.int .i64 0)] [(0, 1, (.const (.int .i64 1)))], none, [], false, false⟩,
     ⟨(some 5), .move (.tmp 6), none, [], false, false⟩])
  (.seq (.block 0 (.loop (some [0, 1, 5]) (
     .seq (.seq (.region false [⟨(some 7), .move (.tmp 1), none, [], false, false⟩,
          ⟨(some 8), .bin .gtr (.tmp 7) (.const (.int .i64 0)), none, [], false, false⟩])
       (.cond (.tmp 8) (.skip)
        (.exit 0)))
      (.block 1 (.seq (.seq (.region false [⟨(some 9), .move (.tmp 1), none, [], false, false⟩,
            ⟨(some 10), .bin .rem (.tmp 9) (.const (.int .i64 2)), none, [], false, false⟩,
            ⟨(some 11), .bin .eql (.tmp 10) (.const (.int .i64 1)), none, [], false, false⟩])
         (.cond (.tmp 11) (.region false [⟨(some 12), .move (.tmp 5), none, [], false, false⟩,
             ⟨(some 13), .move (.tmp 0), none, [], false, false⟩,
             ⟨(some 14), .call 134 [(.tmp 12), (.tmp 13)], none, [], false, false⟩,
             ⟨(some 5), .move (.tmp 14), none, [], false, false⟩])
          (.skip)))
        (.region false [⟨(some 15), .move (.tmp 0), none, [], false, false⟩,
           ⟨(some 16), .move (.tmp 0), none, [], false, false⟩,
           ⟨(some 17), .call 134 [(.tmp 15), (.tmp 16)], none, [], false, false⟩,
           ⟨(some 18), .move (.tmp 1), none, [], false, false⟩,
           ⟨(some 19), .bin .quo (.tmp 18) (.const (.int .i64 2)), none, [], false, false⟩,
           ⟨(some 0), .move (.tmp 17), none, [], false, false⟩,
           ⟨(some 1), .move (.tmp 19), none, [], false, false⟩]))))))
   (.seq (.region false [⟨(some 20), .move (.tmp 5), none, [], false, false⟩,
       ⟨(some 4), .move (.tmp 20), none, [], false, false⟩])
    (.ret)))),
 [.tmp 4], .pure, 21⟩

/-- agraffe/agrafferef01.of -/
def ef136 : EFun := ⟨
 .seq (.region false [⟨(some 2), .move (.const (.slice none 0 0)), none, [], false, false⟩])
 (.seq (.region false [⟨(some 3), .move (.const (.slice none 0 0)), none, [], false, false⟩])
  (.seq (.block 0 (.loop (some [0, 3]) (
     .seq (.seq (.region false [⟨(some 4), .move (.tmp 0), none, [], false, false⟩,
          ⟨(some 5), .bin .gtr (.tmp 4) (.const (.int .i64 0)), none, [], false, false⟩])
       (.cond (.tmp 5) (.skip)
        (.exit 0)))
      (.block 1 (.seq (.region false [⟨(some 6), .move (.tmp 3), none, [], false, false⟩,
           ⟨(some 7), .move (.tmp 0), none, [], false, false⟩,
           ⟨(some 8), .bin .rem (.tmp 7) (.const (.int .i64 10000)), none, [], false, false⟩,
           ⟨(some 9), .buildSlice 1 1 [(.int .i64 0)] [(0, 1, (.tmp 8))], none, [], false, false⟩,
           ⟨(some 10), .append 1 8 (.tmp 6) (.tmp 9), none, [], false, false⟩,
           ⟨(some 3), .move (.tmp 10), none, [], false, false⟩])
        (.region false [⟨(some 11), .move (.tmp 0), none, [], false, false⟩,
           ⟨(some 12), .bin .quo (.tmp 11) (.const (.int .i64 10000)), none, [], false, false⟩,
           ⟨(some 0), .move (.tmp 12), none, [], false, false⟩]))))))
   (.seq (.region false [⟨(some 13), .move (.tmp 3), none, [], false, false⟩,
       ⟨(some 2), .move (.tmp 13), none, [], false, false⟩])
    (.ret)))),
 [.tmp 2], .pure, 14⟩

/-- agraffe/agrafferef01.cmp -/
def ef137 : EFun := ⟨
 .seq (.region false [⟨(some 4), .move (.const (.int .i64 0)), none, [], false, false⟩])
 (.seq (.seq (.region false [⟨(some 6), .move (.tmp 0), none, [], false, false⟩,
      ⟨(some 7), .len false (.tmp 6), none, [], false, false⟩,
      ⟨(some 8), .move (.tmp 1), none, [], false, false⟩,
      ⟨(some 9), .len false (.tmp 8), none, [], false, false⟩,
      ⟨(some 10), .bin .neq (.tmp 7) (.tmp 9), none, [], false, false⟩])
   (.cond (.tmp 10) (.seq (.seq (.region false [⟨(some 11), .move (.tmp 0), none, [], false, false⟩,
         ⟨(some 12), .len false (.tmp 11), none, [], false, false⟩,
         ⟨(some 13), .move (.tmp 1), none, [], false, false⟩,
         ⟨(some 14), .len false (.tmp 13), none, [], false, false⟩,
         ⟨(some 15), .bin .lss (.tmp 12) (.tmp 14), none, [], false, false⟩])
      (.cond (.tmp 15) (.seq (.region false [⟨(some 4), .move (.const (.int .i64 (-1))), none, [], false, false⟩])
        (.ret))
       (.skip)))
     (.seq (.region false [⟨(some 4), .move (.const (.int .i64 1)), none, [], false, false⟩])
      (.ret)))
    (.skip)))
  (.seq (.seq (.region false [⟨(some 16), .move (.tmp 0), none, [], false, false⟩,
       ⟨(some 17), .len false (.tmp 16), none, [], false, false⟩,
       ⟨(some 18), .bin .sub (.tmp 17) (.const (.int .i64 1)), none, [], false, false⟩,
       ⟨(some 5), .move (.tmp 18), none, [], false, false⟩])
    (.block 0 (.loop (some [0, 1, 5]) (
      .seq (.seq (.region false [⟨(some 19), .move (.tmp 5), none, [], false, false⟩,
           ⟨(some 20), .bin .geq (.tmp 19) (.const (.int .i64 0)), none, [], false, false⟩])
        (.cond (.tmp 20) (.skip)
         (.exit 0)))
       (.seq (.block 1 (.seq (.seq (.region true [⟨(some 23), .move (.tmp 0), none, [], false, false⟩,
              ⟨(some 24), .move (.tmp 5), none, [], false, false⟩,
              ⟨(some 25), .indexAddr none 1 (.tmp 23) (.tmp 24), none, [], false, false⟩,
              ⟨(some 26), .load false 1 (.tmp 25), none, [], false, false⟩,
              ⟨(some 27), .move (.tmp 1), none, [], false, false⟩,
              ⟨(some 28), .move (.tmp 5), none, [], false, false⟩,
              ⟨(some 29), .indexAddr none 1 (.tmp 27) (.tmp 28), none, [], false, false⟩,
              ⟨(some 30), .load false 1 (.tmp 29), none, [], false, false⟩,
              ⟨(some 31), .bin .lss (.tmp 26) (.tmp 30), none, [], false, false⟩])
           (.cond (.tmp 31) (.seq (.region false [⟨(some 4), .move (.const (.int .i64 (-1))), none, [], false, false⟩])
             (.ret))
            (.skip)))
          (.seq (.region true [⟨(some 32), .move (.tmp 0), none, [], false, false⟩,
              ⟨(some 33), .move (.tmp 5), none, [], false, false⟩,
              ⟨(some 34), .indexAddr none 1 (.tmp 32) (.tmp 33), none, [], false, false⟩,
              ⟨(some 35), .load false 1 (.tmp 34), none, [], false, false⟩,
              ⟨(some 36), .move (.tmp 1), none, [], false, false⟩,
              ⟨(some 37), .move (.tmp 5), none, [], false, false⟩,
              ⟨(some 38), .indexAddr none 1 (.tmp 36) (.tmp 37), none, [], false, false⟩,
              ⟨(some 39), .load false 1 (.tmp 38), none, [], false, false⟩,
              ⟨(some 40), .bin .gtr (.tmp 35) (.tmp 39), none, [], false, false⟩])
           (.cond (.tmp 40) (.seq (.region false [⟨(some 4), .move (.const (.int .i64 1)), none, [], false, false⟩])
             (.ret))
            (.skip)))))
        (.region false [⟨(some 21), .move (.tmp 5), none, [], false, false⟩,
           ⟨(some 22), .bin .sub (.tmp 21) (.const (.int .i64 1)), none, [], false, false⟩,
           ⟨(some 5), .move (.tmp 22), none, [], false, false⟩]))))))
   (.seq (.region false [⟨(some 4), .move (.const (.int .i64 0)), none, [], false, false⟩])
    (.ret)))),
 [.tmp 4], .pure, 41⟩

/-- agraffe/agrafferef06.Interval -/
def ef138 : EFun := ⟨
 .seq (.region false [⟨(some 3), .box (.tmp 0), none, [], false, false⟩,
    ⟨(some 6), .push [(.int .i64 0), (.int .i64 0), (.int .i64 0)], none, [], false, false⟩])
 (.seq (.region true [⟨(some 7), .load true 25 (.tmp 3), none, [], false, false⟩,
     ⟨(some 8), .move (.tmp 2), none, [], false, false⟩,
     ⟨(some 9), .call 167 [(.tmp 7), (.tmp 8)], none, [], false, true⟩,
     ⟨(some 10), .load true 25 (.tmp 3), none, [], false, false⟩,
     ⟨(some 11), .move (.tmp 1), none, [], false, false⟩,
     ⟨(some 12), .call 167 [(.tmp 10), (.tmp 11)], none, [], false, false⟩,
     ⟨(some 13), .call 150 [(.tmp 9), (.const (.int .i64 (-1))), (.tmp 12)], none, [], false, false⟩,
     ⟨none, .store 3 (.tmp 6) (.tmp 13), none, [], false, false⟩])
  (.ret)),
 [.cell 6 true 3], .pure, 14⟩

/-- agraffe/agrafferef01.Normal -/
def ef139 : EFun := ⟨
 .seq (.region false [⟨(some 1), .box (.tmp 0), none, [], false, false⟩,
    ⟨(some 2), .push [(.int .i64 0), (.int .i64 0), (.int .i64 0), (.int .i64 0)], none, [], false, false⟩])
 (.seq (.region true [⟨(some 4), .fieldAddr 0 (.tmp 1), none, [], false, false⟩,
     ⟨(some 5), .load false 1 (.tmp 4), none, [], false, false⟩,
     ⟨(some 6), .fieldAddr 1 (.tmp 1), none, [], false, false⟩,
     ⟨(some 7), .load false 1 (.tmp 6), none, [], false, false⟩,
     ⟨(some 8), .call 168 [(.tmp 5), (.tmp 7)], none, [], false, true⟩,
     ⟨(some 9), .fieldAddr 2 (.tmp 1), none, [], false, false⟩,
     ⟨(some 10), .load false 1 (.tmp 9), none, [], false, false⟩,
     ⟨(some 11), .fieldAddr 3 (.tmp 1), none, [], false, false⟩,
     ⟨(some 12), .load false 1 (.tmp 11), none, [], false, false⟩,
     ⟨(some 13), .call 168 [(.tmp 10), (.tmp 12)], none, [], false, false⟩,
     ⟨(some 14), .call 168 [(.tmp 8), (.tmp 13)], none, [], false, false⟩,
     ⟨(some 3), .move (.tmp 14), none, [], false, false⟩])
  (.seq (.region true [⟨(some 15), .fieldAddr 0 (.tmp 1), none, [], false, false⟩,
      ⟨(some 16), .load false 1 (.tmp 15), none, [], false, false⟩,
      ⟨(some 17), .move (.tmp 3), none, [], false, false⟩,
      ⟨(some 18), .bin .quo (.tmp 16) (.tmp 17), none, [], false, false⟩,
      ⟨(some 19), .fieldAddr 1 (.tmp 1), none, [], false, false⟩,
      ⟨(some 20), .load false 1 (.tmp 19), none, [], false, false⟩,
      ⟨(some 21), .move (.tmp 3), none, [], false, false⟩,
      ⟨(some 22), .bin .quo (.tmp 20) (.tmp 21), none, [], false, false⟩,
      ⟨(some 23), .fieldAddr 2 (.tmp 1), none, [], false, false⟩,
      ⟨(some 24), .load false 1 (.tmp 23), none, [], false, false⟩,
      ⟨(some 25), .move (.tmp 3), none, [], false, false⟩,
      ⟨(some 26), .bin .quo (.tmp 24) (.tmp 25), none, [], false, false⟩,
      ⟨(some 27), .fieldAddr 3 (.tmp 1), none, [], false, false⟩,
      ⟨(some 28), .load false 1 (.tmp 27), none, [], false, false⟩,
      ⟨(some 29), .move (.tmp 3), none, [], false, false⟩,
      ⟨(some 30), .bin .quo (.tmp 28) (.tmp 29), none, [], false, false⟩,
      ⟨(some 31), .build [(.int .i64 0), (.int .i64 0), (.int .i64 0), (.int .i64 0)] [(0, 1, (.tmp 18)), (1, 1, (.tmp 22)), (2, 1, (.tmp 26)), (3, 1, (.tmp 30))], none, [], false, false⟩,
      ⟨none, .store 4 (.tmp 2) (.tmp 31), none, [], false, false⟩])
   (.ret))),
 [.cell 2 true 4], .pure, 32⟩

/-- agraffe/agrafferef06.Place -/
def ef149 : EFun := ⟨
 .seq (.region false [⟨(some 2), .move (.const (.int .i64 0)), none, [], false, false⟩])
 (.seq (.region false [⟨(some 3), .move (.tmp 0), none, [], false, false⟩,
     ⟨(some 4), .bin .mul (.const (.int .i64 7)) (.tmp 3), none, [], false, false⟩,
     ⟨(some 5), .call 178 [(.tmp 4), (.const (.int .i64 12))], none, [], false, false⟩,
     ⟨(some 2), .move (.tmp 5), none, [], false, false⟩])
  (.ret)),
 [.tmp 2], .pure, 6⟩

/-- agraffe/agrafferef06.plus -/
def ef150 : EFun := ⟨
 .seq (.region false [⟨(some 3), .box (.tmp 0), none, [], false, false⟩,
    ⟨(some 5), .box (.tmp 2), none, [], false, false⟩,
    ⟨(some 6), .push [(.int .i64 0), (.int .i64 0), (.int .i64 0)], none, [], false, false⟩])
 (.seq (.seq (.region false [⟨(some 7), .move (.const (.int .i64 0)), none, [], false, false⟩])
   (.block 0 (.loop (some [1, 3, 5, 6, 7]) (
     .seq (.seq (.region false [⟨(some 8), .move (.tmp 7), none, [], false, false⟩,
          ⟨(some 9), .bin .lss (.tmp 8) (.const (.int .i64 3)), none, [], false, false⟩])
       (.cond (.tmp 9) (.skip)
        (.exit 0)))
      (.seq (.block 1 (.region true [⟨(some 12), .move (.tmp 7), none, [], false, false⟩,
           ⟨(some 13), .move (.tmp 7), none, [], false, false⟩,
           ⟨(some 14), .indexAddr (some 3) 1 (.tmp 3) (.tmp 13), none, [], false, false⟩,
           ⟨(some 15), .load false 1 (.tmp 14), none, [], false, false⟩,
           ⟨(some 16), .move (.tmp 1), none, [], false, false⟩,
           ⟨(some 17), .move (.tmp 7), none, [], false, false⟩,
           ⟨(some 18), .indexAddr (some 3) 1 (.tmp 5) (.tmp 17), none, [], false, false⟩,
           ⟨(some 19), .load false 1 (.tmp 18), none, [], false, false⟩,
           ⟨(some 20), .bin .mul (.tmp 16) (.tmp 19), none, [], false, false⟩,
           ⟨(some 21), .bin .add (.tmp 15) (.tmp 20), none, [], false, false⟩,
           ⟨(some 22), .indexAddr (some 3) 1 (.tmp 3) (.tmp 12), none, [], false, false⟩,
           ⟨none, .store 1 (.tmp 22) (.tmp 21), none, [], false, false⟩]))
       (.region false [⟨(some 10), .move (.tmp 7), none, [], false, false⟩,
          ⟨(some 11), .bin .add (.tmp 10) (.const (.int .i64 1)), none, [], false, false⟩,
          ⟨(some 7), .move (.tmp 11), none, [], false, false⟩]))))))
  (.seq (.region false [⟨(some 23), .load true 3 (.tmp 3), none, [], false, false⟩,
      ⟨none, .store 3 (.tmp 6) (.tmp 23), none, [], false, false⟩])
   (.ret))),
 [.cell 6 true 3], .pure, 24⟩

/-- agraffe/agrafferef06.FifthOf -/
def ef151 : EFun := ⟨
 .seq (.region false [⟨(some 2), .box (.tmp 0), none, [], false, false⟩,
    ⟨(some 4), .push [(.int .i64 0), (.int .i64 0), (.int .i64 0)], none, [], false, false⟩])
 (.seq (.region false [⟨(some 7), .move (.tmp 1), none, [], false, false⟩,
     ⟨(some 8), .call 178 [(.tmp 7), (.const (.int .i64 12))], none, [], false, false⟩,
     ⟨(some 1), .move (.tmp 8), none, [], false, false⟩])
  (.seq (.region true [⟨(some 9), .move (.tmp 1), none, [], false, false⟩,
      ⟨(some 10), .fieldAddr 1 (.tmp 2), none, [], false, false⟩,
      ⟨(some 11), .indexAddr (some 12) 1 (.tmp 10) (.tmp 9), none, [], false, false⟩,
      ⟨(some 12), .load false 1 (.tmp 11), none, [], false, false⟩,
      ⟨(some 13), .move (.tmp 1), none, [], false, false⟩,
      ⟨(some 14), .fieldAddr 13 (.tmp 2), none, [], false, false⟩,
      ⟨(some 15), .indexAddr (some 12) 1 (.tmp 14) (.tmp 13), none, [], false, false⟩,
      ⟨(some 16), .load false 1 (.tmp 15), none, [], false, false⟩,
      ⟨(some 5), .move (.tmp 12), none, [], false, false⟩,
      ⟨(some 6), .move (.tmp 16), none, [], false, false⟩])
   (.seq (.region false [⟨(some 17), .move (.tmp 5), none, [], false, false⟩,
       ⟨(some 18), .bin .mul (.const (.int .i64 19)) (.tmp 17), none, [], false, false⟩,
       ⟨(some 19), .bin .add (.const (.int .i64 (-12))) (.tmp 18), none, [], false, false⟩,
       ⟨(some 20), .move (.tmp 6), none, [], false, false⟩,
       ⟨(some 21), .bin .mul (.const (.int .i64 4)) (.tmp 20), none, [], false, false⟩,
       ⟨(some 22), .bin .add (.tmp 19) (.tmp 21), none, [], false, false⟩,
       ⟨(some 23), .move (.tmp 5), none, [], false, false⟩,
       ⟨(some 24), .bin .mul (.const (.int .i64 12)) (.tmp 23), none, [], false, false⟩,
       ⟨(some 25), .bin .sub (.const (.int .i64 12)) (.tmp 24), none, [], false, false⟩,
       ⟨(some 26), .move (.tmp 6), none, [], false, false⟩,
       ⟨(some 27), .bin .mul (.const (.int .i64 4)) (.tmp 26), none, [], false, false⟩,
       ⟨(some 28), .bin .sub (.tmp 25) (.tmp 27), none, [], false, false⟩,
       ⟨(some 29), .move (.tmp 6), none, [], false, false⟩,
       ⟨(some 30), .build [(.int .i64 0), (.int .i64 0), (.int .i64 0)] [(0, 1, (.tmp 22)), (1, 1, (.tmp 28)), (2, 1, (.tmp 29))], none, [], false, false⟩,
       ⟨none, .store 3 (.tmp 4) (.tmp 30), none, [], false, false⟩])
    (.ret)))),
 [.cell 4 true 3], .pure, 31⟩

/-- agraffe/agrafferef06.octave -/
def ef152 : EFun := ⟨
 .seq (.region false [⟨(some 0), .push [(.int .i64 0), (.int .i64 0), (.int .i64 0)], none, [], false, false⟩])
 (.seq (.region false [⟨(some 1), .build [(.int .i64 0), (.int .i64 0), (.int .i64 0)] [(0, 1, (.const (.int .i64 12))), (1, 1, (.const (.int .i64 0))), (2, 1, (.const (.int .i64 0)))], none, [], false, false⟩,
     ⟨none, .store 3 (.tmp 0) (.tmp 1), none, [], false, false⟩])
  (.ret)),
 [.cell 0 true 3], .pure, 2⟩

/-- agraffe/number.Enclose -/
def ef153 : EFun := ⟨
 .seq (.region false [⟨(some 2), .box (.tmp 0), none, [], false, false⟩,
    ⟨(some 4), .push [(.int .i64 0), (.int .i64 0)], none, [], false, false⟩,
    ⟨(some 5), .move (.const (.int .i64 0)), none, [], false, false⟩])
 (.seq (.seq (.region false [⟨(some 13), .load true 4 (.tmp 2), none, [], false, false⟩,
      ⟨(some 14), .call 179 [(.tmp 13)], none, [], false, false⟩,
      ⟨(some 6), .move (.tmp 14), none, [], false, false⟩])
   (.seq (.region false [⟨(some 15), .move (.tmp 6), none, [], false, false⟩,
       ⟨(some 16), .bin .neq (.tmp 15) (.const (.int .i64 0)), none, [], false, false⟩])
    (.cond (.tmp 16) (.seq (.region false [⟨(some 17), .build [(.int .i64 0), (.int .i64 0)] [], none, [], false, false⟩,
         ⟨(some 18), .move (.tmp 6), none, [], false, false⟩,
         ⟨none, .store 2 (.tmp 4) (.tmp 17), none, [], false, false⟩,
         ⟨(some 5), .move (.tmp 18), none, [], false, false⟩])
      (.ret))
     (.skip))))
  (.seq (.seq (.region false [⟨(some 19), .move (.tmp 1), none, [], false, false⟩,
       ⟨(some 20), .call 180 [(.tmp 19), (.const (.int .i64 1)), (.const (.int .i64 1000000000))], none, [], false, false⟩,
       ⟨(some 21), .un .not (.tmp 20), none, [], false, false⟩])
    (.cond (.tmp 21) (.seq (.region false [⟨(some 22), .build [(.int .i64 0), (.int .i64 0)] [], none, [], false, false⟩,
         ⟨none, .store 2 (.tmp 4) (.tmp 22), none, [], false, false⟩,
         ⟨(some 5), .move (.const (.int .i64 2)), none, [], false, false⟩])
      (.ret))
     (.skip)))
   (.seq (.region false [⟨(some 23), .load true 4 (.tmp 2), none, [], false, false⟩,
       ⟨(some 24), .call 181 [(.tmp 23)], none, [], false, false⟩,
       ⟨none, .store 4 (.tmp 2) (.tmp 24), none, [], false, false⟩])
    (.seq (.region false [⟨(some 25), .load true 4 (.tmp 2), none, [], false, false⟩,
        ⟨(some 26), .call 183 [(.tmp 25)], none, [], false, false⟩,
        ⟨(some 27), .call 182 [(.tmp 26)], none, [], false, false⟩,
        ⟨(some 7), .push [(.slice none 0 0), (.slice none 0 0)], none, [], false, false⟩,
        ⟨none, .store 2 (.tmp 7) (.tmp 27), none, [], false, false⟩])
     (.seq (.region false [⟨(some 28), .move (.tmp 1), none, [], false, false⟩,
         ⟨(some 29), .conv .u64 (.tmp 28), none, [], false, false⟩,
         ⟨(some 30), .fieldAddr 3 (.tmp 2), none, [], false, false⟩,
         ⟨(some 31), .load false 1 (.tmp 30), none, [], false, false⟩,
         ⟨(some 32), .fieldAddr 0 (.tmp 7), none, [], false, false⟩,
         ⟨(some 33), .load false 1 (.tmp 32), none, [], false, false⟩,
         ⟨(some 34), .call 184 [(.tmp 29), (.tmp 31), (.tmp 33)], none, [], false, false⟩,
         ⟨(some 35), .fieldAddr 0 (.tmp 7), none, [], false, false⟩,
         ⟨none, .store 1 (.tmp 35) (.tmp 34), none, [], false, false⟩])
      (.seq (.region false [⟨(some 36), .makeFunc (.func 185) [(.tmp 2), (.tmp 7)], none, [], false, false⟩,
          ⟨(some 8), .move (.tmp 36), none, [], false, false⟩])
       (.seq (.region false [⟨(some 9), .move (.const (.int .i64 0)), none, [], false, false⟩,
           ⟨(some 10), .move (.const (.int .i64 1000000000000001)), none, [], false, false⟩])
        (.seq (.block 0 (.loop (some [4, 8, 9, 10]) (
           .seq (.seq (.region false [⟨(some 37), .move (.tmp 9), none, [], false, false⟩,
                ⟨(some 38), .move (.tmp 10), none, [], false, false⟩,
                ⟨(some 39), .bin .lss (.tmp 37) (.tmp 38), none, [], false, false⟩])
             (.cond (.tmp 39) (.skip)
              (.exit 0)))
            (.block 1 (.seq (.region false [⟨(some 40), .move (.tmp 10), none, [], false, false⟩,
                 ⟨(some 41), .move (.tmp 10), none, [], false, false⟩,
                 ⟨(some 42), .move (.tmp 9), none, [], false, false⟩,
                 ⟨(some 43), .bin .sub (.tmp 41) (.tmp 42), none, [], false, false⟩,
                 ⟨(some 44), .bin .quo (.tmp 43) (.const (.int .i64 2)), none, [], false, false⟩,
                 ⟨(some 45), .bin .sub (.tmp 40) (.tmp 44), none, [], false, false⟩,
                 ⟨(some 11), .move (.tmp 45), none, [], false, false⟩])
              (.seq (.region false [⟨(some 46), .move (.tmp 8), none, [], false, false⟩,
                  ⟨(some 47), .move (.tmp 11), none, [], false, false⟩,
                  ⟨(some 48), .callVal (.tmp 46) [(.tmp 47)], none, [], false, false⟩,
                  ⟨(some 49), .bin .leq (.tmp 48) (.const (.int .i64 0)), none, [], false, false⟩])
               (.cond (.tmp 49) (.region false [⟨(some 50), .move (.tmp 11), none, [], false, false⟩,
                   ⟨(some 9), .move (.tmp 50), none, [], false, false⟩])
                (.region false [⟨(some 51), .move (.tmp 11), none, [], false, false⟩,
                   ⟨(some 52), .bin .sub (.tmp 51) (.const (.int .i64 1)), none, [], false, false⟩,
                   ⟨(some 10), .move (.tmp 52), none, [], false, false⟩]))))))))
         (.seq (.region false [⟨(some 53), .move (.tmp 9), none, [], false, false⟩,
             ⟨(some 54), .move (.tmp 9), none, [], false, false⟩,
             ⟨(some 55), .build [(.int .i64 0), (.int .i64 0)] [(0, 1, (.tmp 53)), (1, 1, (.tmp 54))], none, [], false, false⟩,
             ⟨(some 12), .push [(.int .i64 0), (.int .i64 0)], none, [], false, false⟩,
             ⟨none, .store 2 (.tmp 12) (.tmp 55), none, [], false, false⟩])
          (.seq (.seq (.region false [⟨(some 56), .move (.tmp 9), none, [], false, false⟩,
               ⟨(some 57), .bin .eql (.tmp 56) (.const (.int .i64 0)), none, [], false, false⟩,
               ⟨(some 58), .move (.tmp 57), none, [], false, false⟩,
               ⟨(some 59), .move (.tmp 8), (some (58, false)), [], false, false⟩,
               ⟨(some 60), .move (.tmp 9), (some (58, false)), [], false, false⟩,
               ⟨(some 61), .callVal (.tmp 59) [(.tmp 60)], (some (58, false)), [], false, false⟩,
               ⟨(some 62), .bin .neq (.tmp 61) (.const (.int .i64 0)), (some (58, false)), [], false, false⟩,
               ⟨(some 63), .pick (.tmp 58) (.const (.bool true)) (.tmp 62), none, [], false, false⟩])
            (.cond (.tmp 63) (.region false [⟨(some 64), .fieldAddr 1 (.tmp 12), none, [], false, false⟩,
                ⟨(some 65), .load false 1 (.tmp 64), none, [], false, false⟩,
                ⟨(some 66), .bin .add (.tmp 65) (.const (.int .i64 1)), none, [], false, false⟩,
                ⟨(some 67), .fieldAddr 1 (.tmp 12), none, [], false, false⟩,
                ⟨none, .store 1 (.tmp 67) (.tmp 66), none, [], false, false⟩])
             (.skip)))
           (.seq (.region false [⟨(some 68), .load true 2 (.tmp 12), none, [], false, false⟩,
               ⟨(some 69), .call 187 [(.tmp 68)], none, [], false, false⟩,
               ⟨(some 70), .extract (.tmp 69) 0, none, [], false, false⟩,
               ⟨(some 71), .extract (.tmp 69) 1, none, [], false, false⟩,
               ⟨none, .store 2 (.tmp 4) (.tmp 70), none, [], false, false⟩,
               ⟨(some 5), .move (.tmp 71), none, [], false, false⟩])
            (.ret)))))))))))),
 [.cell 4 true 2, .tmp 5], .pure, 72⟩

/-- (*agraffe/temper.circle).interval -/
def ef154 : EFun := ⟨
 .seq (.region false [⟨(some 6), .push [(.int .i64 0), (.int .i64 0), (.int .i64 0)], none, [], false, false⟩])
 (.seq (.region false [⟨(some 7), .move (.tmp 0), none, [], false, false⟩,
     ⟨(some 8), .move (.tmp 2), none, [], false, false⟩,
     ⟨(some 9), .call 188 [(.tmp 7), (.tmp 8)], none, [], false, false⟩,
     ⟨(some 10), .move (.tmp 0), none, [], false, false⟩,
     ⟨(some 11), .move (.tmp 1), none, [], false, false⟩,
     ⟨(some 12), .call 188 [(.tmp 10), (.tmp 11)], none, [], false, false⟩,
     ⟨(some 13), .call 164 [(.tmp 9), (.tmp 12), (.const (.int .i64 (-1)))], none, [], false, false⟩,
     ⟨none, .store 3 (.tmp 6) (.tmp 13), none, [], false, false⟩])
  (.ret)),
 [.cell 6 true 3], .pure, 14⟩

/-- (agraffe/temper.exponents).pitch -/
def ef155 : EFun := ⟨
 .seq (.region false [⟨(some 1), .box (.tmp 0), none, [], false, false⟩,
    ⟨(some 2), .push [(.int .i64 0), (.int .i64 0), (.int .i64 0), (.int .i64 0)], none, [], false, false⟩])
 (.seq (.region false [⟨(some 6), .indexAddr (some 3) 1 (.tmp 1) (.const (.int .i64 0)), none, [], false, false⟩,
     ⟨(some 7), .load false 1 (.tmp 6), none, [], false, false⟩,
     ⟨(some 8), .indexAddr (some 3) 1 (.tmp 1) (.const (.int .i64 1)), none, [], false, false⟩,
     ⟨(some 9), .load false 1 (.tmp 8), none, [], false, false⟩,
     ⟨(some 10), .indexAddr (some 3) 1 (.tmp 1) (.const (.int .i64 2)), none, [], false, false⟩,
     ⟨(some 11), .load false 1 (.tmp 10), none, [], false, false⟩,
     ⟨(some 12), .build [(.int .i64 0), (.int .i64 0), (.int .i64 0), (.int .i64 0)] [(0, 1, (.tmp 7)), (1, 1, (.tmp 9)), (2, 1, (.tmp 11)), (3, 1, (.const (.int .i64 12)))], none, [], false, false⟩,
     ⟨(some 13), .call 189 [(.tmp 12)], none, [], false, false⟩,
     ⟨(some 5), .move (.tmp 13), none, [], false, false⟩,
     ⟨(some 14), .extract (.tmp 5) 0, none, [], false, false⟩,
     ⟨(some 15), .extract (.tmp 5) 1, none, [], false, false⟩,
     ⟨(some 3), .push [(.int .i64 0), (.int .i64 0), (.int .i64 0), (.int .i64 0)], none, [], false, false⟩,
     ⟨none, .store 4 (.tmp 3) (.tmp 14), none, [], false, false⟩,
     ⟨(some 4), .move (.tmp 15), none, [], false, false⟩])
  (.seq (.region false [⟨(some 16), .load true 4 (.tmp 3), none, [], false, false⟩,
      ⟨none, .store 4 (.tmp 2) (.tmp 16), none, [], false, false⟩])
   (.ret))),
 [.cell 2 true 4], .pure, 17⟩

/-- slices.pdqsortOrdered[int] -/
def ef156 : EFun := ⟨
 .seq (.region false [⟨(some 8), .move (.const (.bool true)), none, [], false, false⟩])
 (.seq (.region false [⟨(some 9), .move (.const (.bool true)), none, [], false, false⟩])
  (.block 0 (.loop (some [0, 1, 2, 3, 8, 9]) (
    .block 1 (.seq (.region false [⟨(some 19), .move (.tmp 2), none, [], false, false⟩,
         ⟨(some 20), .move (.tmp 1), none, [], false, false⟩,
         ⟨(some 21), .bin .sub (.tmp 19) (.tmp 20), none, [], false, false⟩,
         ⟨(some 10), .move (.tmp 21), none, [], false, false⟩])
      (.seq (.seq (.region false [⟨(some 22), .move (.tmp 10), none, [], false, false⟩,
           ⟨(some 23), .bin .leq (.tmp 22) (.const (.int .i64 12)), none, [], false, false⟩])
        (.cond (.tmp 23) (.seq (.region false [⟨(some 24), .move (.tmp 0), none, [], false, false⟩,
             ⟨(some 25), .move (.tmp 1), none, [], false, false⟩,
             ⟨(some 26), .move (.tmp 2), none, [], false, false⟩,
             ⟨(some 27), .call 190 [(.tmp 24), (.tmp 25), (.tmp 26)], none, [], false, false⟩])
          (.ret))
         (.skip)))
       (.seq (.seq (.region false [⟨(some 28), .move (.tmp 3), none, [], false, false⟩,
            ⟨(some 29), .bin .eql (.tmp 28) (.const (.int .i64 0)), none, [], false, false⟩])
         (.cond (.tmp 29) (.seq (.region false [⟨(some 30), .move (.tmp 0), none, [], false, false⟩,
              ⟨(some 31), .move (.tmp 1), none, [], false, false⟩,
              ⟨(some 32), .move (.tmp 2), none, [], false, false⟩,
              ⟨(some 33), .call 191 [(.tmp 30), (.tmp 31), (.tmp 32)], none, [], false, false⟩])
           (.ret))
          (.skip)))
        (.seq (.seq (.region false [⟨(some 34), .move (.tmp 8), none, [], false, false⟩,
             ⟨(some 35), .un .not (.tmp 34), none, [], false, false⟩])
          (.cond (.tmp 35) (.seq (.region false [⟨(some 36), .move (.tmp 0), none, [], false, false⟩,
               ⟨(some 37), .move (.tmp 1), none, [], false, false⟩,
               ⟨(some 38), .move (.tmp 2), none, [], false, false⟩,
               ⟨(some 39), .call 192 [(.tmp 36), (.tmp 37), (.tmp 38)], none, [], false, false⟩])
            (.region false [⟨(some 40), .move (.tmp 3), none, [], false, false⟩,
               ⟨(some 41), .bin .sub (.tmp 40) (.const (.int .i64 1)), none, [], false, false⟩,
               ⟨(some 3), .move (.tmp 41), none, [], false, false⟩]))
           (.skip)))
         (.seq (.region false [⟨(some 43), .move (.tmp 0), none, [], false, false⟩,
             ⟨(some 44), .move (.tmp 1), none, [], false, false⟩,
             ⟨(some 45), .move (.tmp 2), none, [], false, false⟩,
             ⟨(some 46), .call 193 [(.tmp 43), (.tmp 44), (.tmp 45)], none, [], false, false⟩,
             ⟨(some 42), .move (.tmp 46), none, [], false, false⟩,
             ⟨(some 47), .extract (.tmp 42) 0, none, [], false, false⟩,
             ⟨(some 48), .extract (.tmp 42) 1, none, [], false, false⟩,
             ⟨(some 11), .move (.tmp 47), none, [], false, false⟩,
             ⟨(some 12), .move (.tmp 48), none, [], false, false⟩])
          (.seq (.seq (.region false [⟨(some 49), .move (.tmp 12), none, [], false, false⟩,
               ⟨(some 50), .bin .eql (.tmp 49) (.const (.int .i64 2)), none, [], false, false⟩])
            (.cond (.tmp 50) (.seq (.region false [⟨(some 51), .move (.tmp 0), none, [], false, false⟩,
                 ⟨(some 52), .move (.tmp 1), none, [], false, false⟩,
                 ⟨(some 53), .move (.tmp 2), none, [], false, false⟩,
                 ⟨(some 54), .call 194 [(.tmp 51), (.tmp 52), (.tmp 53)], none, [], false, false⟩])
              (.seq (.region false [⟨(some 55), .move (.tmp 2), none, [], false, false⟩,
                  ⟨(some 56), .bin .sub (.tmp 55) (.const (.int .i64 1)), none, [], false, false⟩,
                  ⟨(some 57), .move (.tmp 11), none, [], false, false⟩,
                  ⟨(some 58), .move (.tmp 1), none, [], false, false⟩,
                  ⟨(some 59), .bin .sub (.tmp 57) (.tmp 58), none, [], false, false⟩,
                  ⟨(some 60), .bin .sub (.tmp 56) (.tmp 59), none, [], false, false⟩,
                  ⟨(some 11), .move (.tmp 60), none, [], false, false⟩])
               (.region false [⟨(some 12), .move (.const (.int .i64 1)), none, [], false, false⟩])))
             (.skip)))
           (.seq (.seq (.region false [⟨(some 61), .move (.tmp 8), none, [], false, false⟩,
                ⟨(some 62), .move (.tmp 61), none, [], false, false⟩,
                ⟨(some 63), .move (.tmp 9), (some (62, true)), [], false, false⟩,
                ⟨(some 64), .pick (.tmp 62) (.tmp 63) (.const (.bool false)), none, [], false, false⟩,
                ⟨(some 65), .move (.tmp 64), none, [], false, false⟩,
                ⟨(some 66), .move (.tmp 12), (some (65, true)), [], false, false⟩,
                ⟨(some 67), .bin .eql (.tmp 66) (.const (.int .i64 1)), (some (65, true)), [], false, false⟩,
                ⟨(some 68), .pick (.tmp 65) (.tmp 67) (.const (.bool false)), none, [], false, false⟩])
             (.cond (.tmp 68) (.seq (.region false [⟨(some 69), .move (.tmp 0), none, [], false, false⟩,
                  ⟨(some 70), .move (.tmp 1), none, [], false, false⟩,
                  ⟨(some 71), .move (.tmp 2), none, [], false, false⟩,
                  ⟨(some 72), .call 195 [(.tmp 69), (.tmp 70), (.tmp 71)], none, [], false, false⟩])
               (.cond (.tmp 72) (.ret)
                (.skip)))
              (.skip)))
            (.seq (.seq (.region true [⟨(some 73), .move (.tmp 1), none, [], false, false⟩,
                 ⟨(some 74), .bin .gtr (.tmp 73) (.const (.int .i64 0)), none, [], false, false⟩,
                 ⟨(some 75), .move (.tmp 74), none, [], false, false⟩,
                 ⟨(some 76), .move (.tmp 0), (some (75, true)), [], false, false⟩,
                 ⟨(some 77), .move (.tmp 1), (some (75, true)), [], false, false⟩,
                 ⟨(some 78), .bin .sub (.tmp 77) (.const (.int .i64 1)), (some (75, true)), [], false, false⟩,
                 ⟨(some 79), .indexAddr none 1 (.tmp 76) (.tmp 78), (some (75, true)), [], false, false⟩,
                 ⟨(some 80), .load false 1 (.tmp 79), (some (75, true)), [], false, false⟩,
                 ⟨(some 81), .move (.tmp 0), (some (75, true)), [], false, false⟩,
                 ⟨(some 82), .move (.tmp 11), (some (75, true)), [], false, false⟩,
                 ⟨(some 83), .indexAddr none 1 (.tmp 81) (.tmp 82), (some (75, true)), [], false, false⟩,
                 ⟨(some 84), .load false 1 (.tmp 83), (some (75, true)), [], false, false⟩,
                 ⟨(some 85), .call 159 [(.tmp 80), (.tmp 84)], (some (75, true)), [], false, false⟩,
                 ⟨(some 86), .un .not (.tmp 85), (some (75, true)), [], false, false⟩,
                 ⟨(some 87), .pick (.tmp 75) (.tmp 86) (.const (.bool false)), none, [], false, false⟩])
              (.cond (.tmp 87) (.seq (.region false [⟨(some 88), .move (.tmp 0), none, [], false, false⟩,
                   ⟨(some 89), .move (.tmp 1), none, [], false, false⟩,
                   ⟨(some 90), .move (.tmp 2), none, [], false, false⟩,
                   ⟨(some 91), .move (.tmp 11), none, [], false, false⟩,
                   ⟨(some 92), .call 196 [(.tmp 88), (.tmp 89), (.tmp 90), (.tmp 91)], none, [], false, false⟩,
                   ⟨(some 13), .move (.tmp 92), none, [], false, false⟩])
                (.seq (.region false [⟨(some 93), .move (.tmp 13), none, [], false, false⟩,
                    ⟨(some 1), .move (.tmp 93), none, [], false, false⟩])
                 (.exit 1)))
               (.skip)))
             (.seq (.region false [⟨(some 95), .move (.tmp 0), none, [], false, false⟩,
                 ⟨(some 96), .move (.tmp 1), none, [], false, false⟩,
                 ⟨(some 97), .move (.tmp 2), none, [], false, false⟩,
                 ⟨(some 98), .move (.tmp 11), none, [], false, false⟩,
                 ⟨(some 99), .call 197 [(.tmp 95), (.tmp 96), (.tmp 97), (.tmp 98)], none, [], false, false⟩,
                 ⟨(some 94), .move (.tmp 99), none, [], false, false⟩,
                 ⟨(some 100), .extract (.tmp 94) 0, none, [], false, false⟩,
                 ⟨(some 101), .extract (.tmp 94) 1, none, [], false, false⟩,
                 ⟨(some 14), .move (.tmp 100), none, [], false, false⟩,
                 ⟨(some 15), .move (.tmp 101), none, [], false, false⟩])
              (.seq (.region false [⟨(some 102), .move (.tmp 15), none, [], false, false⟩,
                  ⟨(some 9), .move (.tmp 102), none, [], false, false⟩])
               (.seq (.region false [⟨(some 103), .move (.tmp 14), none, [], false, false⟩,
                   ⟨(some 104), .move (.tmp 1), none, [], false, false⟩,
                   ⟨(some 105), .bin .sub (.tmp 103) (.tmp 104), none, [], false, false⟩,
                   ⟨(some 106), .move (.tmp 2), none, [], false, false⟩,
                   ⟨(some 107), .move (.tmp 14), none, [], false, false⟩,
                   ⟨(some 108), .bin .sub (.tmp 106) (.tmp 107), none, [], false, false⟩,
                   ⟨(some 16), .move (.tmp 105), none, [], false, false⟩,
                   ⟨(some 17), .move (.tmp 108), none, [], false, false⟩])
                (.seq (.region false [⟨(some 109), .move (.tmp 10), none, [], false, false⟩,
                    ⟨(some 110), .bin .quo (.tmp 109) (.const (.int .i64 8)), none, [], false, false⟩,
                    ⟨(some 18), .move (.tmp 110), none, [], false, false⟩])
                 (.seq (.region false [⟨(some 111), .move (.tmp 16), none, [], false, false⟩,
                     ⟨(some 112), .move (.tmp 17), none, [], false, false⟩,
                     ⟨(some 113), .bin .lss (.tmp 111) (.tmp 112), none, [], false, false⟩])
                  (.cond (.tmp 113) (.seq (.region false [⟨(some 114), .move (.tmp 16), none, [], false, false⟩,
                       ⟨(some 115), .move (.tmp 18), none, [], false, false⟩,
                       ⟨(some 116), .bin .geq (.tmp 114) (.tmp 115), none, [], false, false⟩,
                       ⟨(some 8), .move (.tmp 116), none, [], false, false⟩])
                    (.seq (.region false [⟨(some 117), .move (.tmp 0), none, [], false, false⟩,
                        ⟨(some 118), .move (.tmp 1), none, [], false, false⟩,
                        ⟨(some 119), .move (.tmp 14), none, [], false, false⟩,
                        ⟨(some 120), .move (.tmp 3), none, [], false, false⟩,
                        ⟨(some 121), .call 156 [(.tmp 117), (.tmp 118), (.tmp 119), (.tmp 120)], none, [], false, false⟩])
                     (.region false [⟨(some 122), .move (.tmp 14), none, [], false, false⟩,
                        ⟨(some 123), .bin .add (.tmp 122) (.const (.int .i64 1)), none, [], false, false⟩,
                        ⟨(some 1), .move (.tmp 123), none, [], false, false⟩])))
                   (.seq (.region false [⟨(some 124), .move (.tmp 17), none, [], false, false⟩,
                       ⟨(some 125), .move (.tmp 18), none, [], false, false⟩,
                       ⟨(some 126), .bin .geq (.tmp 124) (.tmp 125), none, [], false, false⟩,
                       ⟨(some 8), .move (.tmp 126), none, [], false, false⟩])
                    (.seq (.region false [⟨(some 127), .move (.tmp 0), none, [], false, false⟩,
                        ⟨(some 128), .move (.tmp 14), none, [], false, false⟩,
                        ⟨(some 129), .bin .add (.tmp 128) (.const (.int .i64 1)), none, [], false, false⟩,
                        ⟨(some 130), .move (.tmp 2), none, [], false, false⟩,
                        ⟨(some 131), .move (.tmp 3), none, [], false, false⟩,
                        ⟨(some 132), .call 156 [(.tmp 127), (.tmp 129), (.tmp 130), (.tmp 131)], none, [], false, false⟩])
                     (.region false [⟨(some 133), .move (.tmp 14), none, [], false, false⟩,
                        ⟨(some 2), .move (.tmp 133), none, [], false, false⟩]))))))))))))))))))))),
 [], .trunc, 134⟩

/-- math/bits.Len -/
def ef157 : EFun := ⟨
 .seq (.region false [⟨(some 2), .move (.const (.int .i64 0)), none, [], false, false⟩])
 (.seq (.cond (.const (.bool false)) (.seq (.region false [⟨(some 3), .move (.tmp 0), none, [], false, false⟩,
       ⟨(some 4), .conv .u32 (.tmp 3), none, [], false, false⟩,
       ⟨(some 5), .call 198 [(.tmp 4)], none, [], false, false⟩,
       ⟨(some 2), .move (.tmp 5), none, [], false, false⟩])
    (.ret))
   (.skip))
  (.seq (.region false [⟨(some 6), .move (.tmp 0), none, [], false, false⟩,
      ⟨(some 7), .call 199 [(.tmp 6)], none, [], false, false⟩,
      ⟨(some 2), .move (.tmp 7), none, [], false, false⟩])
   (.ret))),
 [.tmp 2], .pure, 8⟩

/-- slices.Index[[]int,int] -/
def ef158 : EFun := ⟨
 .seq (.region false [⟨(some 4), .move (.const (.int .i64 0)), none, [], false, false⟩])
 (.seq (.seq (.region false [⟨(some 6), .move (.tmp 0), none, [], false, false⟩,
      ⟨(some 7), .len false (.tmp 6), none, [], false, false⟩,
      ⟨(some 8), .move (.const (.int .i64 0)), none, [], false, false⟩])
   (.block 0 (.loop (some [0, 1, 7, 8]) (
     .seq (.region false [⟨(some 9), .bin .lss (.tmp 8) (.tmp 7), none, [], false, false⟩])
      (.seq (.cond (.tmp 9) (.skip)
        (.exit 0))
       (.seq (.block 1 (.seq (.region false [⟨(some 10), .move (.tmp 8), none, [], false, false⟩,
             ⟨(some 5), .move (.tmp 10), none, [], false, false⟩])
          (.seq (.region false [⟨(some 11), .move (.tmp 1), none, [], false, false⟩,
              ⟨(some 12), .move (.tmp 0), none, [], false, false⟩,
              ⟨(some 13), .move (.tmp 5), none, [], false, false⟩,
              ⟨(some 14), .indexAddr none 1 (.tmp 12) (.tmp 13), none, [], false, false⟩,
              ⟨(some 15), .load false 1 (.tmp 14), none, [], false, false⟩,
              ⟨(some 16), .bin .eql (.tmp 11) (.tmp 15), none, [], false, false⟩])
           (.cond (.tmp 16) (.seq (.region false [⟨(some 17), .move (.tmp 5), none, [], false, false⟩,
                ⟨(some 4), .move (.tmp 17), none, [], false, false⟩])
             (.ret))
            (.skip)))))
        (.region false [⟨(some 18), .bin .add (.tmp 8) (.const (.int .i64 1)), none, [], false, false⟩,
           ⟨(some 8), .move (.tmp 18), none, [], false, false⟩])))))))
  (.seq (.region false [⟨(some 4), .move (.const (.int .i64 (-1))), none, [], false, false⟩])
   (.ret))),
 [.tmp 4], .pure, 19⟩

/-- cmp.Less[int] -/
def ef159 : EFun := ⟨
 .seq (.region false [⟨(some 4), .move (.const (.bool false)), none, [], false, false⟩])
 (.seq (.region false [⟨(some 5), .move (.tmp 0), none, [], false, false⟩,
     ⟨(some 6), .call 200 [(.tmp 5)], none, [], false, false⟩,
     ⟨(some 7), .move (.tmp 6), none, [], false, false⟩,
     ⟨(some 8), .move (.tmp 1), (some (7, true)), [], false, false⟩,
     ⟨(some 9), .call 200 [(.tmp 8)], (some (7, true)), [], false, false⟩,
     ⟨(some 10), .un .not (.tmp 9), (some (7, true)), [], false, false⟩,
     ⟨(some 11), .pick (.tmp 7) (.tmp 10) (.const (.bool false)), none, [], false, false⟩,
     ⟨(some 12), .move (.tmp 11), none, [], false, false⟩,
     ⟨(some 13), .move (.tmp 0), (some (12, false)), [], false, false⟩,
     ⟨(some 14), .move (.tmp 1), (some (12, false)), [], false, false⟩,
     ⟨(some 15), .bin .lss (.tmp 13) (.tmp 14), (some (12, false)), [], false, false⟩,
     ⟨(some 16), .pick (.tmp 12) (.const (.bool true)) (.tmp 15), none, [], false, false⟩,
     ⟨(some 4), .move (.tmp 16), none, [], false, false⟩])
  (.ret)),
 [.tmp 4], .pure, 17⟩

/-- slices.isNaN[int] -/
def ef160 : EFun := ⟨
 .seq (.region false [⟨(some 2), .move (.const (.bool false)), none, [], false, false⟩])
 (.seq (.region false [⟨(some 3), .move (.tmp 0), none, [], false, false⟩,
     ⟨(some 4), .move (.tmp 0), none, [], false, false⟩,
     ⟨(some 5), .bin .neq (.tmp 3) (.tmp 4), none, [], false, false⟩,
     ⟨(some 2), .move (.tmp 5), none, [], false, false⟩])
  (.ret)),
 [.tmp 2], .pure, 6⟩

/-- agraffe/upkeep.moistures$1 -/
def ef161 : EFun := ⟨
 .seq (.region false [⟨(some 6), .fieldAddr 0 (.tmp 1), none, [], false, false⟩,
    ⟨(some 7), .load false 1 (.tmp 6), none, [], false, false⟩,
    ⟨(some 8), .bin .mul (.const (.int .i64 1000)) (.tmp 7), none, [], false, false⟩,
    ⟨(some 4), .move (.tmp 8), none, [], false, false⟩])
 (.seq (.region false [⟨(some 5), .move (.const (.int .i64 0)), none, [], false, false⟩])
  (.block 0 (.loop (some [0, 1, 2, 4, 5]) (
    .seq (.seq (.region false [⟨(some 9), .move (.tmp 0), none, [], false, false⟩,
         ⟨(some 10), .move (.tmp 5), none, [], false, false⟩,
         ⟨(some 11), .move (.tmp 4), none, [], false, false⟩,
         ⟨(some 12), .callVal (.tmp 9) [(.tmp 10), (.tmp 11)], none, [], false, false⟩])
      (.cond (.tmp 12) (.skip)
       (.exit 0)))
     (.seq (.block 1 (.region true [⟨(some 15), .move (.tmp 4), none, [], false, false⟩,
          ⟨(some 16), .load false 1 (.tmp 2), none, [], false, false⟩,
          ⟨(some 17), .move (.tmp 5), none, [], false, false⟩,
          ⟨(some 18), .bin .add (.tmp 17) (.const (.int .i64 1)), none, [], false, false⟩,
          ⟨(some 19), .call 163 [(.tmp 16), (.tmp 18)], none, [], false, true⟩,
          ⟨(some 20), .bin .mul (.const (.int .i64 1000)) (.tmp 19), none, [], false, false⟩,
          ⟨(some 21), .move (.tmp 4), none, [], false, false⟩,
          ⟨(some 22), .bin .sub (.tmp 20) (.tmp 21), none, [], false, false⟩,
          ⟨(some 23), .fieldAddr 1 (.tmp 1), none, [], false, false⟩,
          ⟨(some 24), .load false 1 (.tmp 23), none, [], false, false⟩,
          ⟨(some 25), .call 162 [(.tmp 22), (.tmp 24)], none, [], false, false⟩,
          ⟨(some 26), .bin .add (.tmp 15) (.tmp 25), none, [], false, false⟩,
          ⟨(some 4), .move (.tmp 26), none, [], false, false⟩]))
      (.region false [⟨(some 13), .move (.tmp 5), none, [], false, false⟩,
         ⟨(some 14), .bin .add (.tmp 13) (.const (.int .i64 1)), none, [], false, false⟩,
         ⟨(some 5), .move (.tmp 14), none, [], false, false⟩])))))),
 [], .trunc, 27⟩

/-- agraffe/upkeep.floor -/
def ef162 : EFun := ⟨
 .seq (.region false [⟨(some 4), .move (.const (.int .i64 0)), none, [], false, false⟩])
 (.seq (.region false [⟨(some 6), .move (.tmp 0), none, [], false, false⟩,
     ⟨(some 7), .move (.tmp 1), none, [], false, false⟩,
     ⟨(some 8), .bin .quo (.tmp 6) (.tmp 7), none, [], false, false⟩,
     ⟨(some 5), .move (.tmp 8), none, [], false, false⟩])
  (.seq (.seq (.region false [⟨(some 9), .move (.tmp 0), none, [], false, false⟩,
       ⟨(some 10), .move (.tmp 1), none, [], false, false⟩,
       ⟨(some 11), .bin .rem (.tmp 9) (.tmp 10), none, [], false, false⟩,
       ⟨(some 12), .bin .lss (.tmp 11) (.const (.int .i64 0)), none, [], false, false⟩])
    (.cond (.tmp 12) (.region false [⟨(some 13), .move (.tmp 5), none, [], false, false⟩,
        ⟨(some 14), .bin .sub (.tmp 13) (.const (.int .i64 1)), none, [], false, false⟩,
        ⟨(some 5), .move (.tmp 14), none, [], false, false⟩])
     (.skip)))
   (.seq (.region false [⟨(some 15), .move (.tmp 5), none, [], false, false⟩,
       ⟨(some 4), .move (.tmp 15), none, [], false, false⟩])
    (.ret)))),
 [.tmp 4], .pure, 16⟩

/-- agraffe/upkeep.humidity -/
def ef163 : EFun := ⟨
 .seq (.region false [⟨(some 4), .move (.const (.int .i64 0)), none, [], false, false⟩])
 (.seq (.region false [⟨(some 8), .move (.tmp 0), none, [], false, false⟩,
     ⟨(some 9), .move (.tmp 1), none, [], false, false⟩,
     ⟨(some 10), .call 201 [(.tmp 8), (.tmp 9), (.func 202)], none, [], false, false⟩,
     ⟨(some 7), .move (.tmp 10), none, [], false, false⟩,
     ⟨(some 11), .extract (.tmp 7) 0, none, [], false, false⟩,
     ⟨(some 12), .extract (.tmp 7) 1, none, [], false, false⟩,
     ⟨(some 5), .move (.tmp 11), none, [], false, false⟩,
     ⟨(some 6), .move (.tmp 12), none, [], false, false⟩])
  (.seq (.seq (.region false [⟨(some 13), .move (.tmp 6), none, [], false, false⟩,
       ⟨(some 14), .un .not (.tmp 13), none, [], false, false⟩])
    (.cond (.tmp 14) (.region false [⟨(some 15), .move (.tmp 5), none, [], false, false⟩,
        ⟨(some 16), .bin .sub (.tmp 15) (.const (.int .i64 1)), none, [], false, false⟩,
        ⟨(some 5), .move (.tmp 16), none, [], false, false⟩])
     (.skip)))
   (.seq (.region false [⟨(some 17), .move (.tmp 0), none, [], false, false⟩,
       ⟨(some 18), .move (.tmp 5), none, [], false, false⟩,
       ⟨(some 19), .max [(.tmp 18), (.const (.int .i64 0))], none, [], false, false⟩,
       ⟨(some 20), .indexAddr none 2 (.tmp 17) (.tmp 19), none, [], false, false⟩,
       ⟨(some 21), .fieldAddr 1 (.tmp 20), none, [], false, false⟩,
       ⟨(some 22), .load false 1 (.tmp 21), none, [], false, false⟩,
       ⟨(some 4), .move (.tmp 22), none, [], false, false⟩])
    (.ret)))),
 [.tmp 4], .pure, 23⟩

/-- (agraffe/temper.exponents).plus -/
def ef164 : EFun := ⟨
 .seq (.region false [⟨(some 3), .box (.tmp 0), none, [], false, false⟩,
    ⟨(some 4), .box (.tmp 1), none, [], false, false⟩,
    ⟨(some 6), .push [(.int .i64 0), (.int .i64 0), (.int .i64 0)], none, [], false, false⟩])
 (.seq (.seq (.region false [⟨(some 8), .move (.const (.int .i64 0)), none, [], false, false⟩])
   (.block 0 (.loop (some [2, 3, 4, 6, 8]) (
     .seq (.region false [⟨(some 9), .bin .lss (.tmp 8) (.const (.int .i64 3)), none, [], false, false⟩])
      (.seq (.cond (.tmp 9) (.skip)
        (.exit 0))
       (.seq (.block 1 (.seq (.region false [⟨(some 10), .move (.tmp 8), none, [], false, false⟩,
             ⟨(some 7), .move (.tmp 10), none, [], false, false⟩])
          (.region true [⟨(some 11), .move (.tmp 7), none, [], false, false⟩,
             ⟨(some 12), .indexAddr (some 3) 1 (.tmp 3) (.tmp 11), none, [], false, false⟩,
             ⟨(some 13), .load false 1 (.tmp 12), none, [], false, false⟩,
             ⟨(some 14), .move (.tmp 2), none, [], false, false⟩,
             ⟨(some 15), .move (.tmp 7), none, [], false, false⟩,
             ⟨(some 16), .indexAddr (some 3) 1 (.tmp 4) (.tmp 15), none, [], false, false⟩,
             ⟨(some 17), .load false 1 (.tmp 16), none, [], false, false⟩,
             ⟨(some 18), .bin .mul (.tmp 14) (.tmp 17), none, [], false, false⟩,
             ⟨(some 19), .bin .add (.tmp 13) (.tmp 18), none, [], false, false⟩,
             ⟨(some 20), .indexAddr (some 3) 1 (.tmp 3) (.tmp 11), none, [], false, false⟩,
             ⟨none, .store 1 (.tmp 20) (.tmp 19), none, [], false, false⟩])))
        (.region false [⟨(some 21), .bin .add (.tmp 8) (.const (.int .i64 1)), none, [], false, false⟩,
           ⟨(some 8), .move (.tmp 21), none, [], false, false⟩])))))))
  (.seq (.region false [⟨(some 22), .load true 3 (.tmp 3), none, [], false, false⟩,
      ⟨none, .store 3 (.tmp 6) (.tmp 22), none, [], false, false⟩])
   (.ret))),
 [.cell 6 true 3], .pure, 23⟩

/-- agraffe/temper.octave -/
def ef165 : EFun := ⟨
 .seq (.region false [⟨(some 0), .push [(.int .i64 0), (.int .i64 0), (.int .i64 0)], none, [], false, false⟩])
 (.seq (.region false [⟨(some 1), .build [(.int .i64 0), (.int .i64 0), (.int .i64 0)] [(0, 1, (.const (.int .i64 12)))], none, [], false, false⟩,
     ⟨none, .store 3 (.tmp 0) (.tmp 1), none, [], false, false⟩])
  (.ret)),
 [.cell 0 true 3], .pure, 2⟩

/-- slices.Index[[]bool,bool] -/
def ef166 : EFun := ⟨
 .seq (.region false [⟨(some 4), .move (.const (.int .i64 0)), none, [], false, false⟩])
 (.seq (.seq (.region false [⟨(some 6), .move (.tmp 0), none, [], false, false⟩,
      ⟨(some 7), .len false (.tmp 6), none, [], false, false⟩,
      ⟨(some 8), .move (.const (.int .i64 0)), none, [], false, false⟩])
   (.block 0 (.loop (some [0, 1, 7, 8]) (
     .seq (.region false [⟨(some 9), .bin .lss (.tmp 8) (.tmp 7), none, [], false, false⟩])
      (.seq (.cond (.tmp 9) (.skip)
        (.exit 0))
       (.seq (.block 1 (.seq (.region false [⟨(some 10), .move (.tmp 8), none, [], false, false⟩,
             ⟨(some 5), .move (.tmp 10), none, [], false, false⟩])
          (.seq (.region false [⟨(some 11), .move (.tmp 1), none, [], false, false⟩,
              ⟨(some 12), .move (.tmp 0), none, [], false, false⟩,
              ⟨(some 13), .move (.tmp 5), none, [], false, false⟩,
              ⟨(some 14), .indexAddr none 1 (.tmp 12) (.tmp 13), none, [], false, false⟩,
              ⟨(some 15), .load false 1 (.tmp 14), none, [], false, false⟩,
              ⟨(some 16), .eqBool false (.tmp 11) (.tmp 15), none, [], false, false⟩])
           (.cond (.tmp 16) (.seq (.region false [⟨(some 17), .move (.tmp 5), none, [], false, false⟩,
                ⟨(some 4), .move (.tmp 17), none, [], false, false⟩])
             (.ret))
            (.skip)))))
        (.region false [⟨(some 18), .bin .add (.tmp 8) (.const (.int .i64 1)), none, [], false, false⟩,
           ⟨(some 8), .move (.tmp 18), none, [], false, false⟩])))))))
  (.seq (.region false [⟨(some 4), .move (.const (.int .i64 (-1))), none, [], false, false⟩])
   (.ret))),
 [.tmp 4], .pure, 19⟩

/-- agraffe/agrafferef06.Note -/
def ef167 : EFun := ⟨
 .seq (.region false [⟨(some 2), .box (.tmp 0), none, [], false, false⟩,
    ⟨(some 4), .push [(.int .i64 0), (.int .i64 0), (.int .i64 0)], none, [], false, false⟩])
 (.seq (.region false [⟨(some 5), .load true 25 (.tmp 2), none, [], false, false⟩,
     ⟨(some 6), .move (.tmp 1), none, [], false, false⟩,
     ⟨(some 7), .bin .add (.tmp 6) (.const (.int .i64 9)), none, [], false, false⟩,
     ⟨(some 8), .bin .rem (.tmp 7) (.const (.int .i64 12)), none, [], false, false⟩,
     ⟨(some 9), .call 110 [(.tmp 5), (.tmp 8)], none, [], false, false⟩,
     ⟨(some 10), .move (.tmp 1), none, [], false, false⟩,
     ⟨(some 11), .bin .add (.tmp 10) (.const (.int .i64 9)), none, [], false, false⟩,
     ⟨(some 12), .bin .quo (.tmp 11) (.const (.int .i64 12)), none, [], false, false⟩,
     ⟨(some 13), .call 152 [], none, [], false, false⟩,
     ⟨(some 14), .call 150 [(.tmp 9), (.tmp 12), (.tmp 13)], none, [], false, false⟩,
     ⟨none, .store 3 (.tmp 4) (.tmp 14), none, [], false, false⟩])
  (.ret)),
 [.cell 4 true 3], .pure, 15⟩

/-- agraffe/agraffebase.Gcd -/
def ef168 : EFun := ⟨
 .seq (.region false [⟨(some 4), .move (.const (.int .i64 0)), none, [], false, false⟩])
 (.seq (.block 0 (.loop (some [0, 1]) (
    .seq (.seq (.region false [⟨(some 5), .move (.tmp 1), none, [], false, false⟩,
         ⟨(some 6), .bin .neq (.tmp 5) (.const (.int .i64 0)), none, [], false, false⟩])
      (.cond (.tmp 6) (.skip)
       (.exit 0)))
     (.block 1 (.region true [⟨(some 7), .move (.tmp 1), none, [], false, false⟩,
         ⟨(some 8), .move (.tmp 0), none, [], false, false⟩,
         ⟨(some 9), .move (.tmp 1), none, [], false, false⟩,
         ⟨(some 10), .bin .rem (.tmp 8) (.tmp 9), none, [], false, false⟩,
         ⟨(some 0), .move (.tmp 7), none, [], false, false⟩,
         ⟨(some 1), .move (.tmp 10), none, [], false, false⟩])))))
  (.seq (.region false [⟨(some 11), .move (.tmp 0), none, [], false, false⟩,
      ⟨(some 12), .call 101 [(.tmp 11)], none, [], false, false⟩,
      ⟨(some 4), .move (.tmp 12), none, [], false, false⟩])
   (.ret))),
 [.tmp 4], .pure, 13⟩

/-- agraffe/agraffebase.Mod -/
def ef178 : EFun := ⟨
 .seq (.region false [⟨(some 4), .move (.const (.int .i64 0)), none, [], false, false⟩])
 (.seq (.region false [⟨(some 6), .move (.tmp 0), none, [], false, false⟩,
     ⟨(some 7), .move (.tmp 1), none, [], false, false⟩,
     ⟨(some 8), .bin .rem (.tmp 6) (.tmp 7), none, [], false, false⟩,
     ⟨(some 5), .move (.tmp 8), none, [], false, false⟩])
  (.seq (.seq (.region false [⟨(some 9), .move (.tmp 5), none, [], false, false⟩,
       ⟨(some 10), .bin .lss (.tmp 9) (.const (.int .i64 0)), none, [], false, false⟩])
    (.cond (.tmp 10) (.region false [⟨(some 11), .move (.tmp 5), none, [], false, false⟩,
        ⟨(some 12), .move (.tmp 1), none, [], false, false⟩,
        ⟨(some 13), .bin .add (.tmp 11) (.tmp 12), none, [], false, false⟩,
        ⟨(some 5), .move (.tmp 13), none, [], false, false⟩])
     (.skip)))
   (.seq (.region false [⟨(some 14), .move (.tmp 5), none, [], false, false⟩,
       ⟨(some 4), .move (.tmp 14), none, [], false, false⟩])
    (.ret)))),
 [.tmp 4], .pure, 15⟩

/-- agraffe/number.CheckPitch -/
def ef179 : EFun := ⟨
 .seq (.region false [⟨(some 1), .box (.tmp 0), none, [], false, false⟩,
    ⟨(some 2), .move (.const (.int .i64 0)), none, [], false, false⟩])
 (.seq (.seq (.region false [⟨(some 5), .load true 4 (.tmp 1), none, [], false, false⟩,
      ⟨(some 6), .call 183 [(.tmp 5)], none, [], false, false⟩,
      ⟨(some 7), .move (.const (.int .i64 0)), none, [], false, false⟩])
   (.block 0 (.loop (some [1, 6, 7]) (
     .seq (.region false [⟨(some 8), .bin .lss (.tmp 7) (.const (.int .i64 3)), none, [], false, false⟩])
      (.seq (.cond (.tmp 8) (.skip)
        (.exit 0))
       (.seq (.block 1 (.seq (.region false [⟨(some 9), .index 3 1 false (.tmp 6) (.tmp 7), none, [], false, false⟩,
             ⟨(some 4), .move (.tmp 9), none, [], false, false⟩])
          (.seq (.region false [⟨(some 10), .move (.tmp 4), none, [], false, false⟩,
              ⟨(some 11), .call 180 [(.tmp 10), (.const (.int .i64 (-400))), (.const (.int .i64 400))], none, [], false, false⟩,
              ⟨(some 12), .un .not (.tmp 11), none, [], false, false⟩])
           (.cond (.tmp 12) (.seq (.region false [⟨(some 2), .move (.const (.int .i64 2)), none, [], false, false⟩])
             (.ret))
            (.skip)))))
        (.region false [⟨(some 13), .bin .add (.tmp 7) (.const (.int .i64 1)), none, [], false, false⟩,
           ⟨(some 7), .move (.tmp 13), none, [], false, false⟩])))))))
  (.seq (.seq (.region false [⟨(some 14), .fieldAddr 3 (.tmp 1), none, [], false, false⟩,
       ⟨(some 15), .load false 1 (.tmp 14), none, [], false, false⟩,
       ⟨(some 16), .call 180 [(.tmp 15), (.const (.int .i64 1)), (.const (.int .i64 12))], none, [], false, false⟩,
       ⟨(some 17), .un .not (.tmp 16), none, [], false, false⟩])
    (.cond (.tmp 17) (.seq (.region false [⟨(some 2), .move (.const (.int .i64 2)), none, [], false, false⟩])
      (.ret))
     (.skip)))
   (.seq (.region false [⟨(some 2), .move (.const (.int .i64 0)), none, [], false, false⟩])
    (.ret)))),
 [.tmp 2], .pure, 18⟩

/-- agraffe/number.within -/
def ef180 : EFun := ⟨
 .seq (.region false [⟨(some 6), .move (.const (.bool false)), none, [], false, false⟩])
 (.seq (.region false [⟨(some 7), .move (.tmp 0), none, [], false, false⟩,
     ⟨(some 8), .move (.tmp 1), none, [], false, false⟩,
     ⟨(some 9), .bin .geq (.tmp 7) (.tmp 8), none, [], false, false⟩,
     ⟨(some 10), .move (.tmp 9), none, [], false, false⟩,
     ⟨(some 11), .move (.tmp 0), (some (10, true)), [], false, false⟩,
     ⟨(some 12), .move (.tmp 2), (some (10, true)), [], false, false⟩,
     ⟨(some 13), .bin .leq (.tmp 11) (.tmp 12), (some (10, true)), [], false, false⟩,
     ⟨(some 14), .pick (.tmp 10) (.tmp 13) (.const (.bool false)), none, [], false, false⟩,
     ⟨(some 6), .move (.tmp 14), none, [], false, false⟩])
  (.ret)),
 [.tmp 6], .pure, 15⟩

/-- agraffe/number.reduced -/
def ef181 : EFun := ⟨
 .seq (.region false [⟨(some 1), .box (.tmp 0), none, [], false, false⟩,
    ⟨(some 2), .push [(.int .i64 0), (.int .i64 0), (.int .i64 0), (.int .i64 0)], none, [], false, false⟩])
 (.seq (.region true [⟨(some 4), .fieldAddr 0 (.tmp 1), none, [], false, false⟩,
     ⟨(some 5), .load false 1 (.tmp 4), none, [], false, false⟩,
     ⟨(some 6), .fieldAddr 1 (.tmp 1), none, [], false, false⟩,
     ⟨(some 7), .load false 1 (.tmp 6), none, [], false, false⟩,
     ⟨(some 8), .call 218 [(.tmp 5), (.tmp 7)], none, [], false, true⟩,
     ⟨(some 9), .fieldAddr 2 (.tmp 1), none, [], false, false⟩,
     ⟨(some 10), .load false 1 (.tmp 9), none, [], false, false⟩,
     ⟨(some 11), .fieldAddr 3 (.tmp 1), none, [], false, false⟩,
     ⟨(some 12), .load false 1 (.tmp 11), none, [], false, false⟩,
     ⟨(some 13), .call 218 [(.tmp 10), (.tmp 12)], none, [], false, false⟩,
     ⟨(some 14), .call 218 [(.tmp 8), (.tmp 13)], none, [], false, false⟩,
     ⟨(some 3), .move (.tmp 14), none, [], false, false⟩])
  (.seq (.region true [⟨(some 15), .fieldAddr 0 (.tmp 1), none, [], false, false⟩,
      ⟨(some 16), .load false 1 (.tmp 15), none, [], false, false⟩,
      ⟨(some 17), .move (.tmp 3), none, [], false, false⟩,
      ⟨(some 18), .bin .quo (.tmp 16) (.tmp 17), none, [], false, false⟩,
      ⟨(some 19), .fieldAddr 1 (.tmp 1), none, [], false, false⟩,
      ⟨(some 20), .load false 1 (.tmp 19), none, [], false, false⟩,
      ⟨(some 21), .move (.tmp 3), none, [], false, false⟩,
      ⟨(some 22), .bin .quo (.tmp 20) (.tmp 21), none, [], false, false⟩,
      ⟨(some 23), .fieldAddr 2 (.tmp 1), none, [], false, false⟩,
      ⟨(some 24), .load false 1 (.tmp 23), none, [], false, false⟩,
      ⟨(some 25), .move (.tmp 3), none, [], false, false⟩,
      ⟨(some 26), .bin .quo (.tmp 24) (.tmp 25), none, [], false, false⟩,
      ⟨(some 27), .fieldAddr 3 (.tmp 1), none, [], false, false⟩,
      ⟨(some 28), .load false 1 (.tmp 27), none, [], false, false⟩,
      ⟨(some 29), .move (.tmp 3), none, [], false, false⟩,
      ⟨(some 30), .bin .quo (.tmp 28) (.tmp 29), none, [], false, false⟩,
      ⟨(some 31), .build [(.int .i64 0), (.int .i64 0), (.int .i64 0), (.int .i64 0)] [(0, 1, (.tmp 18)), (1, 1, (.tmp 22)), (2, 1, (.tmp 26)), (3, 1, (.tmp 30))], none, [], false, false⟩,
      ⟨none, .store 4 (.tmp 2) (.tmp 31), none, [], false, false⟩])
   (.ret))),
 [.cell 2 true 4], .pure, 32⟩

/-- agraffe/number.quotientOf -/
def ef182 : EFun := ⟨
 .seq (.region false [⟨(some 1), .box (.tmp 0), none, [], false, false⟩,
    ⟨(some 2), .push [(.slice none 0 0), (.slice none 0 0)], none, [], false, false⟩])
 (.seq (.region false [⟨(some 6), .buildSlice 1 1 [(.int .u64 0)] [(0, 1, (.const (.int .u64 1)))], none, [], false, false⟩,
     ⟨(some 7), .buildSlice 1 1 [(.int .u64 0)] [(0, 1, (.const (.int .u64 1)))], none, [], false, false⟩,
     ⟨(some 8), .build [(.slice none 0 0), (.slice none 0 0)] [(0, 1, (.tmp 6)), (1, 1, (.tmp 7))], none, [], false, false⟩,
     ⟨(some 3), .push [(.slice none 0 0), (.slice none 0 0)], none, [], false, false⟩,
     ⟨none, .store 2 (.tmp 3) (.tmp 8), none, [], false, false⟩])
  (.seq (.seq (.region false [⟨(some 9), .load true 3 (.tmp 1), none, [], false, false⟩,
       ⟨(some 10), .move (.const (.int .i64 0)), none, [], false, false⟩])
    (.block 0 (.loop (some [2, 3, 9, 10]) (
      .seq (.region false [⟨(some 11), .bin .lss (.tmp 10) (.const (.int .i64 3)), none, [], false, false⟩])
       (.seq (.cond (.tmp 11) (.skip)
         (.exit 0))
        (.seq (.block 1 (.seq (.region false [⟨(some 12), .move (.tmp 10), none, [], false, false⟩,
              ⟨(some 13), .index 3 1 false (.tmp 9) (.tmp 10), none, [], false, false⟩,
              ⟨(some 4), .move (.tmp 12), none, [], false, false⟩,
              ⟨(some 5), .move (.tmp 13), none, [], false, false⟩])
           (.seq (.region true [⟨(some 14), .move (.tmp 4), none, [], false, false⟩,
               ⟨(some 15), .indexAddr (some 3) 1 (.global 1) (.tmp 14), none, [], false, false⟩,
               ⟨(some 16), .load false 1 (.tmp 15), none, [], false, false⟩,
               ⟨(some 17), .move (.tmp 5), none, [], false, false⟩,
               ⟨(some 18), .max [(.tmp 17), (.const (.int .i64 0))], none, [], false, false⟩,
               ⟨(some 19), .fieldAddr 0 (.tmp 3), none, [], false, false⟩,
               ⟨(some 20), .load false 1 (.tmp 19), none, [], false, false⟩,
               ⟨(some 21), .call 184 [(.tmp 16), (.tmp 18), (.tmp 20)], none, [], false, false⟩,
               ⟨(some 22), .fieldAddr 0 (.tmp 3), none, [], false, false⟩,
               ⟨none, .store 1 (.tmp 22) (.tmp 21), none, [], false, false⟩])
            (.region true [⟨(some 23), .move (.tmp 4), none, [], false, false⟩,
               ⟨(some 24), .indexAddr (some 3) 1 (.global 1) (.tmp 23), none, [], false, false⟩,
               ⟨(some 25), .load false 1 (.tmp 24), none, [], false, false⟩,
               ⟨(some 26), .move (.tmp 5), none, [], false, false⟩,
               ⟨(some 27), .un .neg (.tmp 26), none, [], false, false⟩,
               ⟨(some 28), .max [(.tmp 27), (.const (.int .i64 0))], none, [], false, false⟩,
               ⟨(some 29), .fieldAddr 1 (.tmp 3), none, [], false, false⟩,
               ⟨(some 30), .load false 1 (.tmp 29), none, [], false, false⟩,
               ⟨(some 31), .call 184 [(.tmp 25), (.tmp 28), (.tmp 30)], none, [], false, false⟩,
               ⟨(some 32), .fieldAddr 1 (.tmp 3), none, [], false, false⟩,
               ⟨none, .store 1 (.tmp 32) (.tmp 31), none, [], false, false⟩]))))
         (.region false [⟨(some 33), .bin .add (.tmp 10) (.const (.int .i64 1)), none, [], false, false⟩,
            ⟨(some 10), .move (.tmp 33), none, [], false, false⟩])))))))
   (.seq (.region false [⟨(some 34), .load true 2 (.tmp 3), none, [], false, false⟩,
       ⟨none, .store 2 (.tmp 2) (.tmp 34), none, [], false, false⟩])
    (.ret)))),
 [.cell 2 true 2], .pure, 35⟩

/-- agraffe/number.exponents -/
def ef183 : EFun := ⟨
 .seq (.region false [⟨(some 1), .box (.tmp 0), none, [], false, false⟩,
    ⟨(some 2), .push [(.int .i64 0), (.int .i64 0), (.int .i64 0)], none, [], false, false⟩])
 (.seq (.region false [⟨(some 3), .fieldAddr 0 (.tmp 1), none, [], false, false⟩,
     ⟨(some 4), .load false 1 (.tmp 3), none, [], false, false⟩,
     ⟨(some 5), .fieldAddr 1 (.tmp 1), none, [], false, false⟩,
     ⟨(some 6), .load false 1 (.tmp 5), none, [], false, false⟩,
     ⟨(some 7), .fieldAddr 2 (.tmp 1), none, [], false, false⟩,
     ⟨(some 8), .load false 1 (.tmp 7), none, [], false, false⟩,
     ⟨(some 9), .build [(.int .i64 0), (.int .i64 0), (.int .i64 0)] [(0, 1, (.tmp 4)), (1, 1, (.tmp 6)), (2, 1, (.tmp 8))], none, [], false, false⟩,
     ⟨none, .store 3 (.tmp 2) (.tmp 9), none, [], false, false⟩])
  (.ret)),
 [.cell 2 true 3], .pure, 10⟩

/-- agraffe/number.power -/
def ef184 : EFun := ⟨
 .seq (.region false [⟨(some 6), .move (.const (.slice none 0 0)), none, [], false, false⟩])
 (.seq (.block 0 (.loop (some [0, 1, 2]) (
    .seq (.seq (.region false [⟨(some 10), .move (.tmp 1), none, [], false, false⟩,
         ⟨(some 11), .bin .gtr (.tmp 10) (.const (.int .i64 0)), none, [], false, false⟩])
      (.cond (.tmp 11) (.skip)
       (.exit 0)))
     (.block 1 (.seq (.region false [⟨(some 7), .move (.const (.int .u64 1)), none, [], false, false⟩])
       (.seq (.block 2 (.loop (some [0, 1, 2, 7]) (
          .seq (.seq (.region false [⟨(some 12), .move (.tmp 1), none, [], false, false⟩,
               ⟨(some 13), .bin .gtr (.tmp 12) (.const (.int .i64 0)), none, [], false, false⟩])
            (.cond (.tmp 13) (.skip)
             (.exit 2)))
           (.block 3 (.seq (.region false [⟨(some 15), .move (.tmp 7), none, [], false, false⟩,
                ⟨(some 16), .move (.tmp 0), none, [], false, false⟩,
                ⟨(some 17), .call 219 [(.tmp 15), (.tmp 16)], none, [], false, false⟩,
                ⟨(some 14), .move (.tmp 17), none, [], false, false⟩,
                ⟨(some 18), .extract (.tmp 14) 0, none, [], false, false⟩,
                ⟨(some 19), .extract (.tmp 14) 1, none, [], false, false⟩,
                ⟨(some 8), .move (.tmp 18), none, [], false, false⟩,
                ⟨(some 9), .move (.tmp 19), none, [], false, false⟩])
             (.seq (.seq (.region false [⟨(some 20), .move (.tmp 8), none, [], false, false⟩,
                  ⟨(some 21), .bin .neq (.tmp 20) (.const (.int .u64 0)), none, [], false, false⟩])
               (.cond (.tmp 21) (.exit 2)
                (.skip)))
              (.region false [⟨(some 22), .move (.tmp 9), none, [], false, false⟩,
                 ⟨(some 23), .move (.tmp 1), none, [], false, false⟩,
                 ⟨(some 24), .bin .sub (.tmp 23) (.const (.int .i64 1)), none, [], false, false⟩,
                 ⟨(some 7), .move (.tmp 22), none, [], false, false⟩,
                 ⟨(some 1), .move (.tmp 24), none, [], false, false⟩])))))))
        (.region false [⟨(some 25), .move (.tmp 2), none, [], false, false⟩,
           ⟨(some 26), .move (.tmp 7), none, [], false, false⟩,
           ⟨(some 27), .call 220 [(.tmp 25), (.tmp 26)], none, [], false, false⟩,
           ⟨(some 2), .move (.tmp 27), none, [], false, false⟩])))))))
  (.seq (.region false [⟨(some 28), .move (.tmp 2), none, [], false, false⟩,
      ⟨(some 6), .move (.tmp 28), none, [], false, false⟩])
   (.ret))),
 [.tmp 6], .pure, 29⟩

/-- agraffe/number.Enclose$1 -/
def ef185 : EFun := ⟨
 .seq (.region false [⟨(some 4), .move (.const (.int .i64 0)), none, [], false, false⟩])
 (.seq (.region true [⟨(some 5), .move (.tmp 0), none, [], false, false⟩,
     ⟨(some 6), .conv .u64 (.tmp 5), none, [], false, false⟩,
     ⟨(some 7), .fieldAddr 3 (.tmp 1), none, [], false, false⟩,
     ⟨(some 8), .load false 1 (.tmp 7), none, [], false, false⟩,
     ⟨(some 9), .fieldAddr 1 (.tmp 2), none, [], false, false⟩,
     ⟨(some 10), .load false 1 (.tmp 9), none, [], false, false⟩,
     ⟨(some 11), .call 184 [(.tmp 6), (.tmp 8), (.tmp 10)], none, [], false, true⟩,
     ⟨(some 12), .fieldAddr 0 (.tmp 2), none, [], false, false⟩,
     ⟨(some 13), .load false 1 (.tmp 12), none, [], false, false⟩,
     ⟨(some 14), .call 186 [(.tmp 11), (.tmp 13)], none, [], false, false⟩,
     ⟨(some 4), .move (.tmp 14), none, [], false, false⟩])
  (.ret)),
 [.tmp 4], .pure, 15⟩

/-- (agraffe/number.natural).cmp -/
def ef186 : EFun := ⟨
 .seq (.region false [⟨(some 4), .move (.const (.int .i64 0)), none, [], false, false⟩])
 (.seq (.seq (.region false [⟨(some 6), .move (.tmp 0), none, [], false, false⟩,
      ⟨(some 7), .len false (.tmp 6), none, [], false, false⟩,
      ⟨(some 8), .move (.tmp 1), none, [], false, false⟩,
      ⟨(some 9), .len false (.tmp 8), none, [], false, false⟩,
      ⟨(some 10), .bin .neq (.tmp 7) (.tmp 9), none, [], false, false⟩])
   (.cond (.tmp 10) (.seq (.seq (.region false [⟨(some 11), .move (.tmp 0), none, [], false, false⟩,
         ⟨(some 12), .len false (.tmp 11), none, [], false, false⟩,
         ⟨(some 13), .move (.tmp 1), none, [], false, false⟩,
         ⟨(some 14), .len false (.tmp 13), none, [], false, false⟩,
         ⟨(some 15), .bin .lss (.tmp 12) (.tmp 14), none, [], false, false⟩])
      (.cond (.tmp 15) (.seq (.region false [⟨(some 4), .move (.const (.int .i64 (-1))), none, [], false, false⟩])
        (.ret))
       (.skip)))
     (.seq (.region false [⟨(some 4), .move (.const (.int .i64 1)), none, [], false, false⟩])
      (.ret)))
    (.skip)))
  (.seq (.seq (.region false [⟨(some 16), .move (.tmp 0), none, [], false, false⟩,
       ⟨(some 17), .len false (.tmp 16), none, [], false, false⟩,
       ⟨(some 18), .bin .sub (.tmp 17) (.const (.int .i64 1)), none, [], false, false⟩,
       ⟨(some 5), .move (.tmp 18), none, [], false, false⟩])
    (.block 0 (.loop (some [0, 1, 5]) (
      .seq (.seq (.region false [⟨(some 19), .move (.tmp 5), none, [], false, false⟩,
           ⟨(some 20), .bin .geq (.tmp 19) (.const (.int .i64 0)), none, [], false, false⟩])
        (.cond (.tmp 20) (.skip)
         (.exit 0)))
       (.seq (.block 1 (.block 2 (.seq (.region true [⟨(some 24), .move (.tmp 0), none, [], false, false⟩,
              ⟨(some 25), .move (.tmp 5), none, [], false, false⟩,
              ⟨(some 26), .indexAddr none 1 (.tmp 24) (.tmp 25), none, [], false, false⟩,
              ⟨(some 27), .load false 1 (.tmp 26), none, [], false, false⟩,
              ⟨(some 28), .move (.tmp 1), none, [], false, false⟩,
              ⟨(some 29), .move (.tmp 5), none, [], false, false⟩,
              ⟨(some 30), .indexAddr none 1 (.tmp 28) (.tmp 29), none, [], false, false⟩,
              ⟨(some 31), .load false 1 (.tmp 30), none, [], false, false⟩,
              ⟨(some 32), .bin .lss (.tmp 27) (.tmp 31), none, [], false, false⟩,
              ⟨(some 23), .move (.tmp 32), none, [], false, false⟩])
           (.cond (.tmp 23) (.seq (.region false [⟨(some 4), .move (.const (.int .i64 (-1))), none, [], false, false⟩])
             (.ret))
            (.seq (.region true [⟨(some 34), .move (.tmp 0), none, [], false, false⟩,
                ⟨(some 35), .move (.tmp 5), none, [], false, false⟩,
                ⟨(some 36), .indexAddr none 1 (.tmp 34) (.tmp 35), none, [], false, false⟩,
                ⟨(some 37), .load false 1 (.tmp 36), none, [], false, false⟩,
                ⟨(some 38), .move (.tmp 1), none, [], false, false⟩,
                ⟨(some 39), .move (.tmp 5), none, [], false, false⟩,
                ⟨(some 40), .indexAddr none 1 (.tmp 38) (.tmp 39), none, [], false, false⟩,
                ⟨(some 41), .load false 1 (.tmp 40), none, [], false, false⟩,
                ⟨(some 42), .bin .gtr (.tmp 37) (.tmp 41), none, [], false, false⟩,
                ⟨(some 33), .move (.tmp 42), none, [], false, false⟩])
             (.cond (.tmp 33) (.seq (.region false [⟨(some 4), .move (.const (.int .i64 1)), none, [], false, false⟩])
               (.ret))
              (.skip)))))))
        (.region false [⟨(some 21), .move (.tmp 5), none, [], false, false⟩,
           ⟨(some 22), .bin .sub (.tmp 21) (.const (.int .i64 1)), none, [], false, false⟩,
           ⟨(some 5), .move (.tmp 22), none, [], false, false⟩]))))))
   (.seq (.region false [⟨(some 4), .move (.const (.int .i64 0)), none, [], false, false⟩])
    (.ret)))),
 [.tmp 4], .pure, 43⟩

/-- agraffe/number.small -/
def ef187 : EFun := ⟨
 .seq (.region false [⟨(some 1), .box (.tmp 0), none, [], false, false⟩,
    ⟨(some 2), .push [(.int .i64 0), (.int .i64 0)], none, [], false, false⟩,
    ⟨(some 3), .move (.const (.int .i64 0)), none, [], false, false⟩])
 (.seq (.seq (.region false [⟨(some 4), .load true 2 (.tmp 1), none, [], false, false⟩,
      ⟨(some 5), .call 221 [(.tmp 4)], none, [], false, false⟩,
      ⟨(some 6), .bin .neq (.tmp 5) (.const (.int .i64 0)), none, [], false, false⟩])
   (.cond (.tmp 6) (.seq (.region false [⟨(some 7), .build [(.int .i64 0), (.int .i64 0)] [], none, [], false, false⟩,
        ⟨none, .store 2 (.tmp 2) (.tmp 7), none, [], false, false⟩,
        ⟨(some 3), .move (.const (.int .i64 8)), none, [], false, false⟩])
     (.ret))
    (.skip)))
  (.seq (.region false [⟨(some 8), .load true 2 (.tmp 1), none, [], false, false⟩,
      ⟨none, .store 2 (.tmp 2) (.tmp 8), none, [], false, false⟩,
      ⟨(some 3), .move (.const (.int .i64 0)), none, [], false, false⟩])
   (.ret))),
 [.cell 2 true 2, .tmp 3], .pure, 9⟩

/-- (*agraffe/temper.circle).note -/
def ef188 : EFun := ⟨
 .seq (.region false [⟨(some 4), .push [(.int .i64 0), (.int .i64 0), (.int .i64 0)], none, [], false, false⟩])
 (.seq (.region false [⟨(some 8), .move (.tmp 1), none, [], false, false⟩,
     ⟨(some 9), .call 222 [(.tmp 8)], none, [], false, false⟩,
     ⟨(some 7), .move (.tmp 9), none, [], false, false⟩,
     ⟨(some 10), .extract (.tmp 7) 0, none, [], false, false⟩,
     ⟨(some 11), .extract (.tmp 7) 1, none, [], false, false⟩,
     ⟨(some 5), .move (.tmp 10), none, [], false, false⟩,
     ⟨(some 6), .move (.tmp 11), none, [], false, false⟩])
  (.seq (.region true [⟨(some 12), .move (.tmp 0), none, [], false, false⟩,
      ⟨(some 13), .move (.tmp 5), none, [], false, false⟩,
      ⟨(some 14), .nilCheck (.tmp 12), none, [], false, false⟩,
      ⟨(some 15), .fieldAddr 36 (.tmp 14), none, [], false, false⟩,
      ⟨(some 16), .indexAddr (some 12) 3 (.tmp 15) (.tmp 13), none, [], false, false⟩,
      ⟨(some 17), .load true 3 (.tmp 16), none, [], false, false⟩,
      ⟨(some 18), .call 165 [], none, [], false, true⟩,
      ⟨(some 19), .move (.tmp 6), none, [], false, false⟩,
      ⟨(some 20), .call 164 [(.tmp 17), (.tmp 18), (.tmp 19)], none, [], false, false⟩,
      ⟨none, .store 3 (.tmp 4) (.tmp 20), none, [], false, false⟩])
   (.ret))),
 [.cell 4 true 3], .pure, 21⟩

/-- agraffe/number.Normal -/
def ef189 : EFun := ⟨
 .seq (.region false [⟨(some 1), .box (.tmp 0), none, [], false, false⟩,
    ⟨(some 2), .push [(.int .i64 0), (.int .i64 0), (.int .i64 0), (.int .i64 0)], none, [], false, false⟩,
    ⟨(some 3), .move (.const (.int .i64 0)), none, [], false, false⟩])
 (.seq (.seq (.region false [⟨(some 5), .load true 4 (.tmp 1), none, [], false, false⟩,
      ⟨(some 6), .call 179 [(.tmp 5)], none, [], false, false⟩,
      ⟨(some 4), .move (.tmp 6), none, [], false, false⟩])
   (.seq (.region false [⟨(some 7), .move (.tmp 4), none, [], false, false⟩,
       ⟨(some 8), .bin .neq (.tmp 7) (.const (.int .i64 0)), none, [], false, false⟩])
    (.cond (.tmp 8) (.seq (.region false [⟨(some 9), .build [(.int .i64 0), (.int .i64 0), (.int .i64 0), (.int .i64 0)] [], none, [], false, false⟩,
         ⟨(some 10), .move (.tmp 4), none, [], false, false⟩,
         ⟨none, .store 4 (.tmp 2) (.tmp 9), none, [], false, false⟩,
         ⟨(some 3), .move (.tmp 10), none, [], false, false⟩])
      (.ret))
     (.skip))))
  (.seq (.region false [⟨(some 11), .load true 4 (.tmp 1), none, [], false, false⟩,
      ⟨(some 12), .call 181 [(.tmp 11)], none, [], false, false⟩,
      ⟨none, .store 4 (.tmp 2) (.tmp 12), none, [], false, false⟩,
      ⟨(some 3), .move (.const (.int .i64 0)), none, [], false, false⟩])
   (.ret))),
 [.cell 2 true 4, .tmp 3], .pure, 13⟩

/-- slices.insertionSortOrdered[int] -/
def ef190 : EFun := ⟨
 .seq (.region false [⟨(some 8), .move (.tmp 1), none, [], false, false⟩,
    ⟨(some 9), .bin .add (.tmp 8) (.const (.int .i64 1)), none, [], false, false⟩,
    ⟨(some 6), .move (.tmp 9), none, [], false, false⟩])
 (.block 0 (.loop (some [0, 1, 2, 6]) (
   .seq (.seq (.region false [⟨(some 10), .move (.tmp 6), none, [], false, false⟩,
        ⟨(some 11), .move (.tmp 2), none, [], false, false⟩,
        ⟨(some 12), .bin .lss (.tmp 10) (.tmp 11), none, [], false, false⟩])
     (.cond (.tmp 12) (.skip)
      (.exit 0)))
    (.seq (.block 1 (.seq (.region false [⟨(some 15), .move (.tmp 6), none, [], false, false⟩,
          ⟨(some 7), .move (.tmp 15), none, [], false, false⟩])
       (.block 2 (.loop (some [0, 1, 2, 6, 7]) (
         .seq (.seq (.region true [⟨(some 16), .move (.tmp 7), none, [], false, false⟩,
              ⟨(some 17), .move (.tmp 1), none, [], false, false⟩,
              ⟨(some 18), .bin .gtr (.tmp 16) (.tmp 17), none, [], false, false⟩,
              ⟨(some 19), .move (.tmp 18), none, [], false, false⟩,
              ⟨(some 20), .move (.tmp 0), (some (19, true)), [], false, false⟩,
              ⟨(some 21), .move (.tmp 7), (some (19, true)), [], false, false⟩,
              ⟨(some 22), .indexAddr none 1 (.tmp 20) (.tmp 21), (some (19, true)), [], false, false⟩,
              ⟨(some 23), .load false 1 (.tmp 22), (some (19, true)), [], false, false⟩,
              ⟨(some 24), .move (.tmp 0), (some (19, true)), [], false, false⟩,
              ⟨(some 25), .move (.tmp 7), (some (19, true)), [], false, false⟩,
              ⟨(some 26), .bin .sub (.tmp 25) (.const (.int .i64 1)), (some (19, true)), [], false, false⟩,
              ⟨(some 27), .indexAddr none 1 (.tmp 24) (.tmp 26), (some (19, true)), [], false, false⟩,
              ⟨(some 28), .load false 1 (.tmp 27), (some (19, true)), [], false, false⟩,
              ⟨(some 29), .call 159 [(.tmp 23), (.tmp 28)], (some (19, true)), [], false, false⟩,
              ⟨(some 30), .pick (.tmp 19) (.tmp 29) (.const (.bool false)), none, [], false, false⟩])
           (.cond (.tmp 30) (.skip)
            (.exit 2)))
          (.seq (.block 3 (.region true [⟨(some 33), .move (.tmp 0), none, [], false, false⟩,
               ⟨(some 34), .move (.tmp 7), none, [], false, false⟩,
               ⟨(some 35), .move (.tmp 0), none, [], false, false⟩,
               ⟨(some 36), .move (.tmp 7), none, [], false, false⟩,
               ⟨(some 37), .bin .sub (.tmp 36) (.const (.int .i64 1)), none, [], false, false⟩,
               ⟨(some 38), .move (.tmp 0), none, [], false, false⟩,
               ⟨(some 39), .move (.tmp 7), none, [], false, false⟩,
               ⟨(some 40), .bin .sub (.tmp 39) (.const (.int .i64 1)), none, [], false, false⟩,
               ⟨(some 41), .indexAddr none 1 (.tmp 38) (.tmp 40), none, [], false, false⟩,
               ⟨(some 42), .load false 1 (.tmp 41), none, [], false, false⟩,
               ⟨(some 43), .move (.tmp 0), none, [], false, false⟩,
               ⟨(some 44), .move (.tmp 7), none, [], false, false⟩,
               ⟨(some 45), .indexAddr none 1 (.tmp 43) (.tmp 44), none, [], false, false⟩,
               ⟨(some 46), .load false 1 (.tmp 45), none, [], false, false⟩,
               ⟨(some 47), .indexAddr none 1 (.tmp 33) (.tmp 34), none, [], false, false⟩,
               ⟨none, .store 1 (.tmp 47) (.tmp 42), none, [], false, false⟩,
               ⟨(some 48), .indexAddr none 1 (.tmp 35) (.tmp 37), none, [], false, false⟩,
               ⟨none, .store 1 (.tmp 48) (.tmp 46), none, [], false, false⟩]))
           (.region false [⟨(some 31), .move (.tmp 7), none, [], false, false⟩,
              ⟨(some 32), .bin .sub (.tmp 31) (.const (.int .i64 1)), none, [], false, false⟩,
              ⟨(some 7), .move (.tmp 32), none, [], false, false⟩])))))))
     (.region false [⟨(some 13), .move (.tmp 6), none, [], false, false⟩,
        ⟨(some 14), .bin .add (.tmp 13) (.const (.int .i64 1)), none, [], false, false⟩,
        ⟨(some 6), .move (.tmp 14), none, [], false, false⟩]))))),
 [], .trunc, 49⟩

/-- slices.heapSortOrdered[int] -/
def ef191 : EFun := ⟨
 .seq (.region false [⟨(some 11), .move (.tmp 1), none, [], false, false⟩,
    ⟨(some 6), .move (.tmp 11), none, [], false, false⟩])
 (.seq (.region false [⟨(some 7), .move (.const (.int .i64 0)), none, [], false, false⟩])
  (.seq (.region false [⟨(some 12), .move (.tmp 2), none, [], false, false⟩,
      ⟨(some 13), .move (.tmp 1), none, [], false, false⟩,
      ⟨(some 14), .bin .sub (.tmp 12) (.tmp 13), none, [], false, false⟩,
      ⟨(some 8), .move (.tmp 14), none, [], false, false⟩])
   (.seq (.seq (.region false [⟨(some 15), .move (.tmp 8), none, [], false, false⟩,
        ⟨(some 16), .bin .sub (.tmp 15) (.const (.int .i64 1)), none, [], false, false⟩,
        ⟨(some 17), .bin .quo (.tmp 16) (.const (.int .i64 2)), none, [], false, false⟩,
        ⟨(some 9), .move (.tmp 17), none, [], false, false⟩])
     (.block 0 (.loop (some [0, 6, 7, 8, 9]) (
       .seq (.seq (.region false [⟨(some 18), .move (.tmp 9), none, [], false, false⟩,
            ⟨(some 19), .bin .geq (.tmp 18) (.const (.int .i64 0)), none, [], false, false⟩])
         (.cond (.tmp 19) (.skip)
          (.exit 0)))
        (.seq (.block 1 (.region false [⟨(some 22), .move (.tmp 0), none, [], false, false⟩,
             ⟨(some 23), .move (.tmp 9), none, [], false, false⟩,
             ⟨(some 24), .move (.tmp 8), none, [], false, false⟩,
             ⟨(some 25), .move (.tmp 6), none, [], false, false⟩,
             ⟨(some 26), .call 223 [(.tmp 22), (.tmp 23), (.tmp 24), (.tmp 25)], none, [], false, false⟩]))
         (.region false [⟨(some 20), .move (.tmp 9), none, [], false, false⟩,
            ⟨(some 21), .bin .sub (.tmp 20) (.const (.int .i64 1)), none, [], false, false⟩,
            ⟨(some 9), .move (.tmp 21), none, [], false, false⟩]))))))
    (.seq (.region false [⟨(some 27), .move (.tmp 8), none, [], false, false⟩,
        ⟨(some 28), .bin .sub (.tmp 27) (.const (.int .i64 1)), none, [], false, false⟩,
        ⟨(some 10), .move (.tmp 28), none, [], false, false⟩])
     (.block 2 (.loop (some [0, 6, 7, 10]) (
       .seq (.seq (.region false [⟨(some 29), .move (.tmp 10), none, [], false, false⟩,
            ⟨(some 30), .bin .geq (.tmp 29) (.const (.int .i64 0)), none, [], false, false⟩])
         (.cond (.tmp 30) (.skip)
          (.exit 2)))
        (.seq (.block 3 (.seq (.region true [⟨(some 33), .move (.tmp 0), none, [], false, false⟩,
              ⟨(some 34), .move (.tmp 6), none, [], false, false⟩,
              ⟨(some 35), .move (.tmp 0), none, [], false, false⟩,
              ⟨(some 36), .move (.tmp 6), none, [], false, false⟩,
              ⟨(some 37), .move (.tmp 10), none, [], false, false⟩,
              ⟨(some 38), .bin .add (.tmp 36) (.tmp 37), none, [], false, false⟩,
              ⟨(some 39), .move (.tmp 0), none, [], false, false⟩,
              ⟨(some 40), .move (.tmp 6), none, [], false, false⟩,
              ⟨(some 41), .move (.tmp 10), none, [], false, false⟩,
              ⟨(some 42), .bin .add (.tmp 40) (.tmp 41), none, [], false, false⟩,
              ⟨(some 43), .indexAddr none 1 (.tmp 39) (.tmp 42), none, [], false, false⟩,
              ⟨(some 44), .load false 1 (.tmp 43), none, [], false, false⟩,
              ⟨(some 45), .move (.tmp 0), none, [], false, false⟩,
              ⟨(some 46), .move (.tmp 6), none, [], false, false⟩,
              ⟨(some 47), .indexAddr none 1 (.tmp 45) (.tmp 46), none, [], false, false⟩,
              ⟨(some 48), .load false 1 (.tmp 47), none, [], false, false⟩,
              ⟨(some 49), .indexAddr none 1 (.tmp 33) (.tmp 34), none, [], false, false⟩,
              ⟨none, .store 1 (.tmp 49) (.tmp 44), none, [], false, false⟩,
              ⟨(some 50), .indexAddr none 1 (.tmp 35) (.tmp 38), none, [], false, false⟩,
              ⟨none, .store 1 (.tmp 50) (.tmp 48), none, [], false, false⟩])
           (.region false [⟨(some 51), .move (.tmp 0), none, [], false, false⟩,
              ⟨(some 52), .move (.tmp 7), none, [], false, false⟩,
              ⟨(some 53), .move (.tmp 10), none, [], false, false⟩,
              ⟨(some 54), .move (.tmp 6), none, [], false, false⟩,
              ⟨(some 55), .call 223 [(.tmp 51), (.tmp 52), (.tmp 53), (.tmp 54)], none, [], false, false⟩])))
         (.region false [⟨(some 31), .move (.tmp 10), none, [], false, false⟩,
            ⟨(some 32), .bin .sub (.tmp 31) (.const (.int .i64 1)), none, [], false, false⟩,
            ⟨(some 10), .move (.tmp 32), none, [], false, false⟩]))))))))),
 [], .trunc, 56⟩

/-- slices.breakPatternsOrdered[int] -/
def ef192 : EFun := ⟨
 .seq (.region false [⟨(some 11), .move (.tmp 2), none, [], false, false⟩,
    ⟨(some 12), .move (.tmp 1), none, [], false, false⟩,
    ⟨(some 13), .bin .sub (.tmp 11) (.tmp 12), none, [], false, false⟩,
    ⟨(some 6), .move (.tmp 13), none, [], false, false⟩])
 (.seq (.region false [⟨(some 14), .move (.tmp 6), none, [], false, false⟩,
     ⟨(some 15), .bin .geq (.tmp 14) (.const (.int .i64 8)), none, [], false, false⟩])
  (.cond (.tmp 15) (.seq (.region false [⟨(some 16), .move (.tmp 6), none, [], false, false⟩,
       ⟨(some 17), .conv .u64 (.tmp 16), none, [], false, false⟩,
       ⟨(some 7), .push [(.int .u64 0)], none, [], false, false⟩,
       ⟨none, .store 1 (.tmp 7) (.tmp 17), none, [], false, false⟩])
    (.seq (.region false [⟨(some 18), .move (.tmp 6), none, [], false, false⟩,
        ⟨(some 19), .call 224 [(.tmp 18)], none, [], false, false⟩,
        ⟨(some 8), .move (.tmp 19), none, [], false, false⟩])
     (.seq (.region false [⟨(some 20), .move (.tmp 1), none, [], false, false⟩,
         ⟨(some 21), .move (.tmp 6), none, [], false, false⟩,
         ⟨(some 22), .bin .quo (.tmp 21) (.const (.int .i64 4)), none, [], false, false⟩,
         ⟨(some 23), .bin .mul (.tmp 22) (.const (.int .i64 2)), none, [], false, false⟩,
         ⟨(some 24), .bin .add (.tmp 20) (.tmp 23), none, [], false, false⟩,
         ⟨(some 25), .bin .sub (.tmp 24) (.const (.int .i64 1)), none, [], false, false⟩,
         ⟨(some 9), .move (.tmp 25), none, [], false, false⟩])
      (.block 0 (.loop (some [0, 1, 6, 7, 8, 9]) (
        .seq (.seq (.region false [⟨(some 26), .move (.tmp 9), none, [], false, false⟩,
             ⟨(some 27), .move (.tmp 1), none, [], false, false⟩,
             ⟨(some 28), .move (.tmp 6), none, [], false, false⟩,
             ⟨(some 29), .bin .quo (.tmp 28) (.const (.int .i64 4)), none, [], false, false⟩,
             ⟨(some 30), .bin .mul (.tmp 29) (.const (.int .i64 2)), none, [], false, false⟩,
             ⟨(some 31), .bin .add (.tmp 27) (.tmp 30), none, [], false, false⟩,
             ⟨(some 32), .bin .add (.tmp 31) (.const (.int .i64 1)), none, [], false, false⟩,
             ⟨(some 33), .bin .leq (.tmp 26) (.tmp 32), none, [], false, false⟩])
          (.cond (.tmp 33) (.skip)
           (.exit 0)))
         (.seq (.block 1 (.seq (.region false [⟨(some 36), .call 225 [(.tmp 7)], none, [], false, false⟩,
               ⟨(some 37), .move (.tmp 8), none, [], false, false⟩,
               ⟨(some 38), .bin .sub (.tmp 37) (.const (.int .u64 1)), none, [], false, false⟩,
               ⟨(some 39), .bin .and (.tmp 36) (.tmp 38), none, [], false, false⟩,
               ⟨(some 40), .conv .i64 (.tmp 39), none, [], false, false⟩,
               ⟨(some 10), .move (.tmp 40), none, [], false, false⟩])
            (.seq (.seq (.region false [⟨(some 41), .move (.tmp 10), none, [], false, false⟩,
                 ⟨(some 42), .move (.tmp 6), none, [], false, false⟩,
                 ⟨(some 43), .bin .geq (.tmp 41) (.tmp 42), none, [], false, false⟩])
              (.cond (.tmp 43) (.region false [⟨(some 44), .move (.tmp 10), none, [], false, false⟩,
                  ⟨(some 45), .move (.tmp 6), none, [], false, false⟩,
                  ⟨(some 46), .bin .sub (.tmp 44) (.tmp 45), none, [], false, false⟩,
                  ⟨(some 10), .move (.tmp 46), none, [], false, false⟩])
               (.skip)))
             (.region true [⟨(some 47), .move (.tmp 0), none, [], false, false⟩,
                ⟨(some 48), .move (.tmp 9), none, [], false, false⟩,
                ⟨(some 49), .move (.tmp 0), none, [], false, false⟩,
                ⟨(some 50), .move (.tmp 1), none, [], false, false⟩,
                ⟨(some 51), .move (.tmp 10), none, [], false, false⟩,
                ⟨(some 52), .bin .add (.tmp 50) (.tmp 51), none, [], false, false⟩,
                ⟨(some 53), .move (.tmp 0), none, [], false, false⟩,
                ⟨(some 54), .move (.tmp 1), none, [], false, false⟩,
                ⟨(some 55), .move (.tmp 10), none, [], false, false⟩,
                ⟨(some 56), .bin .add (.tmp 54) (.tmp 55), none, [], false, false⟩,
                ⟨(some 57), .indexAddr none 1 (.tmp 53) (.tmp 56), none, [], false, false⟩,
                ⟨(some 58), .load false 1 (.tmp 57), none, [], false, false⟩,
                ⟨(some 59), .move (.tmp 0), none, [], false, false⟩,
                ⟨(some 60), .move (.tmp 9), none, [], false, false⟩,
                ⟨(some 61), .indexAddr none 1 (.tmp 59) (.tmp 60), none, [], false, false⟩,
                ⟨(some 62), .load false 1 (.tmp 61), none, [], false, false⟩,
                ⟨(some 63), .indexAddr none 1 (.tmp 47) (.tmp 48), none, [], false, false⟩,
                ⟨none, .store 1 (.tmp 63) (.tmp 58), none, [], false, false⟩,
                ⟨(some 64), .indexAddr none 1 (.tmp 49) (.tmp 52), none, [], false, false⟩,
                ⟨none, .store 1 (.tmp 64) (.tmp 62), none, [], false, false⟩]))))
          (.region false [⟨(some 34), .move (.tmp 9), none, [], false, false⟩,
             ⟨(some 35), .bin .add (.tmp 34) (.const (.int .i64 1)), none, [], false, false⟩,
             ⟨(some 9), .move (.tmp 35), none, [], false, false⟩]))))))))
   (.skip))),
 [], .trunc, 65⟩

/-- slices.choosePivotOrdered[int] -/
def ef193 : EFun := ⟨
 .seq (.region false [⟨(some 6), .move (.const (.int .i64 0)), none, [], false, false⟩,
    ⟨(some 7), .move (.const (.int .i64 0)), none, [], false, false⟩])
 (.seq (.region false [⟨(some 13), .move (.tmp 2), none, [], false, false⟩,
     ⟨(some 14), .move (.tmp 1), none, [], false, false⟩,
     ⟨(some 15), .bin .sub (.tmp 13) (.tmp 14), none, [], false, false⟩,
     ⟨(some 8), .move (.tmp 15), none, [], false, false⟩])
  (.seq (.region false [⟨(some 9), .push [(.int .i64 0)], none, [], false, false⟩])
   (.seq (.region false [⟨(some 16), .move (.tmp 1), none, [], false, false⟩,
       ⟨(some 17), .move (.tmp 8), none, [], false, false⟩,
       ⟨(some 18), .bin .quo (.tmp 17) (.const (.int .i64 4)), none, [], false, false⟩,
       ⟨(some 19), .bin .mul (.tmp 18) (.const (.int .i64 1)), none, [], false, false⟩,
       ⟨(some 20), .bin .add (.tmp 16) (.tmp 19), none, [], false, false⟩,
       ⟨(some 10), .move (.tmp 20), none, [], false, false⟩])
    (.seq (.region false [⟨(some 21), .move (.tmp 1), none, [], false, false⟩,
        ⟨(some 22), .move (.tmp 8), none, [], false, false⟩,
        ⟨(some 23), .bin .quo (.tmp 22) (.const (.int .i64 4)), none, [], false, false⟩,
        ⟨(some 24), .bin .mul (.tmp 23) (.const (.int .i64 2)), none, [], false, false⟩,
        ⟨(some 25), .bin .add (.tmp 21) (.tmp 24), none, [], false, false⟩,
        ⟨(some 11), .move (.tmp 25), none, [], false, false⟩])
     (.seq (.region false [⟨(some 26), .move (.tmp 1), none, [], false, false⟩,
         ⟨(some 27), .move (.tmp 8), none, [], false, false⟩,
         ⟨(some 28), .bin .quo (.tmp 27) (.const (.int .i64 4)), none, [], false, false⟩,
         ⟨(some 29), .bin .mul (.tmp 28) (.const (.int .i64 3)), none, [], false, false⟩,
         ⟨(some 30), .bin .add (.tmp 26) (.tmp 29), none, [], false, false⟩,
         ⟨(some 12), .move (.tmp 30), none, [], false, false⟩])
      (.seq (.seq (.region false [⟨(some 31), .move (.tmp 8), none, [], false, false⟩,
           ⟨(some 32), .bin .geq (.tmp 31) (.const (.int .i64 8)), none, [], false, false⟩])
        (.cond (.tmp 32) (.seq (.seq (.region false [⟨(some 33), .move (.tmp 8), none, [], false, false⟩,
              ⟨(some 34), .bin .geq (.tmp 33) (.const (.int .i64 50)), none, [], false, false⟩])
           (.cond (.tmp 34) (.seq (.region false [⟨(some 35), .move (.tmp 0), none, [], false, false⟩,
                ⟨(some 36), .move (.tmp 10), none, [], false, false⟩,
                ⟨(some 37), .call 226 [(.tmp 35), (.tmp 36), (.tmp 9)], none, [], false, false⟩,
                ⟨(some 10), .move (.tmp 37), none, [], false, false⟩])
             (.seq (.region false [⟨(some 38), .move (.tmp 0), none, [], false, false⟩,
                 ⟨(some 39), .move (.tmp 11), none, [], false, false⟩,
                 ⟨(some 40), .call 226 [(.tmp 38), (.tmp 39), (.tmp 9)], none, [], false, false⟩,
                 ⟨(some 11), .move (.tmp 40), none, [], false, false⟩])
              (.region false [⟨(some 41), .move (.tmp 0), none, [], false, false⟩,
                 ⟨(some 42), .move (.tmp 12), none, [], false, false⟩,
                 ⟨(some 43), .call 226 [(.tmp 41), (.tmp 42), (.tmp 9)], none, [], false, false⟩,
                 ⟨(some 12), .move (.tmp 43), none, [], false, false⟩])))
            (.skip)))
          (.region false [⟨(some 44), .move (.tmp 0), none, [], false, false⟩,
             ⟨(some 45), .move (.tmp 10), none, [], false, false⟩,
             ⟨(some 46), .move (.tmp 11), none, [], false, false⟩,
             ⟨(some 47), .move (.tmp 12), none, [], false, false⟩,
             ⟨(some 48), .call 227 [(.tmp 44), (.tmp 45), (.tmp 46), (.tmp 47), (.tmp 9)], none, [], false, false⟩,
             ⟨(some 11), .move (.tmp 48), none, [], false, false⟩]))
         (.skip)))
       (.seq (.region false [⟨(some 49), .load false 1 (.tmp 9), none, [], false, false⟩])
        (.block 0 (.seq (.region false [⟨(some 52), .bin .eql (.tmp 49) (.const (.int .i64 0)), none, [], false, false⟩,
             ⟨(some 51), .move (.tmp 52), none, [], false, false⟩])
          (.cond (.tmp 51) (.seq (.region false [⟨(some 53), .move (.tmp 11), none, [], false, false⟩,
               ⟨(some 6), .move (.tmp 53), none, [], false, false⟩,
               ⟨(some 7), .move (.const (.int .i64 1)), none, [], false, false⟩])
            (.ret))
           (.seq (.region false [⟨(some 55), .bin .eql (.tmp 49) (.const (.int .i64 12)), none, [], false, false⟩,
               ⟨(some 54), .move (.tmp 55), none, [], false, false⟩])
            (.cond (.tmp 54) (.seq (.region false [⟨(some 56), .move (.tmp 11), none, [], false, false⟩,
                 ⟨(some 6), .move (.tmp 56), none, [], false, false⟩,
                 ⟨(some 7), .move (.const (.int .i64 2)), none, [], false, false⟩])
              (.ret))
             (.seq (.region false [⟨(some 50), .move (.tmp 11), none, [], false, false⟩,
                 ⟨(some 6), .move (.tmp 50), none, [], false, false⟩,
                 ⟨(some 7), .move (.const (.int .i64 0)), none, [], false, false⟩])
              (.ret)))))))))))))),
 [.tmp 6, .tmp 7], .trunc, 57⟩

/-- slices.reverseRangeOrdered[int] -/
def ef194 : EFun := ⟨
 .seq (.region false [⟨(some 8), .move (.tmp 1), none, [], false, false⟩,
    ⟨(some 6), .move (.tmp 8), none, [], false, false⟩])
 (.seq (.region false [⟨(some 9), .move (.tmp 2), none, [], false, false⟩,
     ⟨(some 10), .bin .sub (.tmp 9) (.const (.int .i64 1)), none, [], false, false⟩,
     ⟨(some 7), .move (.tmp 10), none, [], false, false⟩])
  (.block 0 (.loop (some [0, 6, 7]) (
    .seq (.seq (.region false [⟨(some 11), .move (.tmp 6), none, [], false, false⟩,
         ⟨(some 12), .move (.tmp 7), none, [], false, false⟩,
         ⟨(some 13), .bin .lss (.tmp 11) (.tmp 12), none, [], false, false⟩])
      (.cond (.tmp 13) (.skip)
       (.exit 0)))
     (.block 1 (.seq (.region true [⟨(some 14), .move (.tmp 0), none, [], false, false⟩,
          ⟨(some 15), .move (.tmp 6), none, [], false, false⟩,
          ⟨(some 16), .move (.tmp 0), none, [], false, false⟩,
          ⟨(some 17), .move (.tmp 7), none, [], false, false⟩,
          ⟨(some 18), .move (.tmp 0), none, [], false, false⟩,
          ⟨(some 19), .move (.tmp 7), none, [], false, false⟩,
          ⟨(some 20), .indexAddr none 1 (.tmp 18) (.tmp 19), none, [], false, false⟩,
          ⟨(some 21), .load false 1 (.tmp 20), none, [], false, false⟩,
          ⟨(some 22), .move (.tmp 0), none, [], false, false⟩,
          ⟨(some 23), .move (.tmp 6), none, [], false, false⟩,
          ⟨(some 24), .indexAddr none 1 (.tmp 22) (.tmp 23), none, [], false, false⟩,
          ⟨(some 25), .load false 1 (.tmp 24), none, [], false, false⟩,
          ⟨(some 26), .indexAddr none 1 (.tmp 14) (.tmp 15), none, [], false, false⟩,
          ⟨none, .store 1 (.tmp 26) (.tmp 21), none, [], false, false⟩,
          ⟨(some 27), .indexAddr none 1 (.tmp 16) (.tmp 17), none, [], false, false⟩,
          ⟨none, .store 1 (.tmp 27) (.tmp 25), none, [], false, false⟩])
       (.seq (.region false [⟨(some 28), .move (.tmp 6), none, [], false, false⟩,
           ⟨(some 29), .bin .add (.tmp 28) (.const (.int .i64 1)), none, [], false, false⟩,
           ⟨(some 6), .move (.tmp 29), none, [], false, false⟩])
        (.region false [⟨(some 30), .move (.tmp 7), none, [], false, false⟩,
           ⟨(some 31), .bin .sub (.tmp 30) (.const (.int .i64 1)), none, [], false, false⟩,
           ⟨(some 7), .move (.tmp 31), none, [], false, false⟩])))))))),
 [], .trunc, 32⟩

/-- slices.partialInsertionSortOrdered[int] -/
def ef195 : EFun := ⟨
 .seq (.region false [⟨(some 6), .move (.const (.bool false)), none, [], false, false⟩])
 (.seq (.region false [⟨(some 11), .move (.tmp 1), none, [], false, false⟩,
     ⟨(some 12), .bin .add (.tmp 11) (.const (.int .i64 1)), none, [], false, false⟩,
     ⟨(some 7), .move (.tmp 12), none, [], false, false⟩])
  (.seq (.seq (.region false [⟨(some 8), .move (.const (.int .i64 0)), none, [], false, false⟩])
    (.block 0 (.loop (some [0, 1, 2, 7, 8]) (
      .seq (.seq (.region false [⟨(some 13), .move (.tmp 8), none, [], false, false⟩,
           ⟨(some 14), .bin .lss (.tmp 13) (.const (.int .i64 5)), none, [], false, false⟩])
        (.cond (.tmp 14) (.skip)
         (.exit 0)))
       (.seq (.block 1 (.seq (.block 2 (.loop (some [0, 1, 2, 7, 8]) (
            .seq (.seq (.region true [⟨(some 17), .move (.tmp 7), none, [], false, false⟩,
                 ⟨(some 18), .move (.tmp 2), none, [], false, false⟩,
                 ⟨(some 19), .bin .lss (.tmp 17) (.tmp 18), none, [], false, false⟩,
                 ⟨(some 20), .move (.tmp 19), none, [], false, false⟩,
                 ⟨(some 21), .move (.tmp 0), (some (20, true)), [], false, false⟩,
                 ⟨(some 22), .move (.tmp 7), (some (20, true)), [], false, false⟩,
                 ⟨(some 23), .indexAddr none 1 (.tmp 21) (.tmp 22), (some (20, true)), [], false, false⟩,
                 ⟨(some 24), .load false 1 (.tmp 23), (some (20, true)), [], false, false⟩,
                 ⟨(some 25), .move (.tmp 0), (some (20, true)), [], false, false⟩,
                 ⟨(some 26), .move (.tmp 7), (some (20, true)), [], false, false⟩,
                 ⟨(some 27), .bin .sub (.tmp 26) (.const (.int .i64 1)), (some (20, true)), [], false, false⟩,
                 ⟨(some 28), .indexAddr none 1 (.tmp 25) (.tmp 27), (some (20, true)), [], false, false⟩,
                 ⟨(some 29), .load false 1 (.tmp 28), (some (20, true)), [], false, false⟩,
                 ⟨(some 30), .call 159 [(.tmp 24), (.tmp 29)], (some (20, true)), [], false, false⟩,
                 ⟨(some 31), .un .not (.tmp 30), (some (20, true)), [], false, false⟩,
                 ⟨(some 32), .pick (.tmp 20) (.tmp 31) (.const (.bool false)), none, [], false, false⟩])
              (.cond (.tmp 32) (.skip)
               (.exit 2)))
             (.block 3 (.region false [⟨(some 33), .move (.tmp 7), none, [], false, false⟩,
                 ⟨(some 34), .bin .add (.tmp 33) (.const (.int .i64 1)), none, [], false, false⟩,
                 ⟨(some 7), .move (.tmp 34), none, [], false, false⟩])))))
          (.seq (.seq (.region false [⟨(some 35), .move (.tmp 7), none, [], false, false⟩,
               ⟨(some 36), .move (.tmp 2), none, [], false, false⟩,
               ⟨(some 37), .bin .eql (.tmp 35) (.tmp 36), none, [], false, false⟩])
            (.cond (.tmp 37) (.seq (.region false [⟨(some 6), .move (.const (.bool true)), none, [], false, false⟩])
              (.ret))
             (.skip)))
           (.seq (.seq (.region false [⟨(some 38), .move (.tmp 2), none, [], false, false⟩,
                ⟨(some 39), .move (.tmp 1), none, [], false, false⟩,
                ⟨(some 40), .bin .sub (.tmp 38) (.tmp 39), none, [], false, false⟩,
                ⟨(some 41), .bin .lss (.tmp 40) (.const (.int .i64 50)), none, [], false, false⟩])
             (.cond (.tmp 41) (.seq (.region false [⟨(some 6), .move (.const (.bool false)), none, [], false, false⟩])
               (.ret))
              (.skip)))
            (.seq (.region true [⟨(some 42), .move (.tmp 0), none, [], false, false⟩,
                ⟨(some 43), .move (.tmp 7), none, [], false, false⟩,
                ⟨(some 44), .move (.tmp 0), none, [], false, false⟩,
                ⟨(some 45), .move (.tmp 7), none, [], false, false⟩,
                ⟨(some 46), .bin .sub (.tmp 45) (.const (.int .i64 1)), none, [], false, false⟩,
                ⟨(some 47), .move (.tmp 0), none, [], false, false⟩,
                ⟨(some 48), .move (.tmp 7), none, [], false, false⟩,
                ⟨(some 49), .bin .sub (.tmp 48) (.const (.int .i64 1)), none, [], false, false⟩,
                ⟨(some 50), .indexAddr none 1 (.tmp 47) (.tmp 49), none, [], false, false⟩,
                ⟨(some 51), .load false 1 (.tmp 50), none, [], false, false⟩,
                ⟨(some 52), .move (.tmp 0), none, [], false, false⟩,
                ⟨(some 53), .move (.tmp 7), none, [], false, false⟩,
                ⟨(some 54), .indexAddr none 1 (.tmp 52) (.tmp 53), none, [], false, false⟩,
                ⟨(some 55), .load false 1 (.tmp 54), none, [], false, false⟩,
                ⟨(some 56), .indexAddr none 1 (.tmp 42) (.tmp 43), none, [], false, false⟩,
                ⟨none, .store 1 (.tmp 56) (.tmp 51), none, [], false, false⟩,
                ⟨(some 57), .indexAddr none 1 (.tmp 44) (.tmp 46), none, [], false, false⟩,
                ⟨none, .store 1 (.tmp 57) (.tmp 55), none, [], false, false⟩])
             (.seq (.seq (.region false [⟨(some 58), .move (.tmp 7), none, [], false, false⟩,
                  ⟨(some 59), .move (.tmp 1), none, [], false, false⟩,
                  ⟨(some 60), .bin .sub (.tmp 58) (.tmp 59), none, [], false, false⟩,
                  ⟨(some 61), .bin .geq (.tmp 60) (.const (.int .i64 2)), none, [], false, false⟩])
               (.cond (.tmp 61) (.seq (.region false [⟨(some 62), .move (.tmp 7), none, [], false, false⟩,
                    ⟨(some 63), .bin .sub (.tmp 62) (.const (.int .i64 1)), none, [], false, false⟩,
                    ⟨(some 9), .move (.tmp 63), none, [], false, false⟩])
                 (.block 4 (.loop (some [0, 1, 2, 7, 8, 9]) (
                   .seq (.seq (.region false [⟨(some 64), .move (.tmp 9), none, [], false, false⟩,
                        ⟨(some 65), .bin .geq (.tmp 64) (.const (.int .i64 1)), none, [], false, false⟩])
                     (.cond (.tmp 65) (.skip)
                      (.exit 4)))
                    (.seq (.block 5 (.seq (.seq (.region true [⟨(some 68), .move (.tmp 0), none, [], false, false⟩,
                           ⟨(some 69), .move (.tmp 9), none, [], false, false⟩,
                           ⟨(some 70), .indexAddr none 1 (.tmp 68) (.tmp 69), none, [], false, false⟩,
                           ⟨(some 71), .load false 1 (.tmp 70), none, [], false, false⟩,
                           ⟨(some 72), .move (.tmp 0), none, [], false, false⟩,
                           ⟨(some 73), .move (.tmp 9), none, [], false, false⟩,
                           ⟨(some 74), .bin .sub (.tmp 73) (.const (.int .i64 1)), none, [], false, false⟩,
                           ⟨(some 75), .indexAddr none 1 (.tmp 72) (.tmp 74), none, [], false, false⟩,
                           ⟨(some 76), .load false 1 (.tmp 75), none, [], false, false⟩,
                           ⟨(some 77), .call 159 [(.tmp 71), (.tmp 76)], none, [], false, false⟩,
                           ⟨(some 78), .un .not (.tmp 77), none, [], false, false⟩])
                        (.cond (.tmp 78) (.exit 4)
                         (.skip)))
                       (.region true [⟨(some 79), .move (.tmp 0), none, [], false, false⟩,
                          ⟨(some 80), .move (.tmp 9), none, [], false, false⟩,
                          ⟨(some 81), .move (.tmp 0), none, [], false, false⟩,
                          ⟨(some 82), .move (.tmp 9), none, [], false, false⟩,
                          ⟨(some 83), .bin .sub (.tmp 82) (.const (.int .i64 1)), none, [], false, false⟩,
                          ⟨(some 84), .move (.tmp 0), none, [], false, false⟩,
                          ⟨(some 85), .move (.tmp 9), none, [], false, false⟩,
                          ⟨(some 86), .bin .sub (.tmp 85) (.const (.int .i64 1)), none, [], false, false⟩,
                          ⟨(some 87), .indexAddr none 1 (.tmp 84) (.tmp 86), none, [], false, false⟩,
                          ⟨(some 88), .load false 1 (.tmp 87), none, [], false, false⟩,
                          ⟨(some 89), .move (.tmp 0), none, [], false, false⟩,
                          ⟨(some 90), .move (.tmp 9), none, [], false, false⟩,
                          ⟨(some 91), .indexAddr none 1 (.tmp 89) (.tmp 90), none, [], false, false⟩,
                          ⟨(some 92), .load false 1 (.tmp 91), none, [], false, false⟩,
                          ⟨(some 93), .indexAddr none 1 (.tmp 79) (.tmp 80), none, [], false, false⟩,
                          ⟨none, .store 1 (.tmp 93) (.tmp 88), none, [], false, false⟩,
                          ⟨(some 94), .indexAddr none 1 (.tmp 81) (.tmp 83), none, [], false, false⟩,
                          ⟨none, .store 1 (.tmp 94) (.tmp 92), none, [], false, false⟩])))
                     (.region false [⟨(some 66), .move (.tmp 9), none, [], false, false⟩,
                        ⟨(some 67), .bin .sub (.tmp 66) (.const (.int .i64 1)), none, [], false, false⟩,
                        ⟨(some 9), .move (.tmp 67), none, [], false, false⟩]))))))
                (.skip)))
              (.seq (.region false [⟨(some 95), .move (.tmp 2), none, [], false, false⟩,
                  ⟨(some 96), .move (.tmp 7), none, [], false, false⟩,
                  ⟨(some 97), .bin .sub (.tmp 95) (.tmp 96), none, [], false, false⟩,
                  ⟨(some 98), .bin .geq (.tmp 97) (.const (.int .i64 2)), none, [], false, false⟩])
               (.cond (.tmp 98) (.seq (.region false [⟨(some 99), .move (.tmp 7), none, [], false, false⟩,
                    ⟨(some 100), .bin .add (.tmp 99) (.const (.int .i64 1)), none, [], false, false⟩,
                    ⟨(some 10), .move (.tmp 100), none, [], false, false⟩])
                 (.block 6 (.loop (some [0, 1, 2, 7, 8, 10]) (
                   .seq (.seq (.region false [⟨(some 101), .move (.tmp 10), none, [], false, false⟩,
                        ⟨(some 102), .move (.tmp 2), none, [], false, false⟩,
                        ⟨(some 103), .bin .lss (.tmp 101) (.tmp 102), none, [], false, false⟩])
                     (.cond (.tmp 103) (.skip)
                      (.exit 6)))
                    (.seq (.block 7 (.seq (.seq (.region true [⟨(some 106), .move (.tmp 0), none, [], false, false⟩,
                           ⟨(some 107), .move (.tmp 10), none, [], false, false⟩,
                           ⟨(some 108), .indexAddr none 1 (.tmp 106) (.tmp 107), none, [], false, false⟩,
                           ⟨(some 109), .load false 1 (.tmp 108), none, [], false, false⟩,
                           ⟨(some 110), .move (.tmp 0), none, [], false, false⟩,
                           ⟨(some 111), .move (.tmp 10), none, [], false, false⟩,
                           ⟨(some 112), .bin .sub (.tmp 111) (.const (.int .i64 1)), none, [], false, false⟩,
                           ⟨(some 113), .indexAddr none 1 (.tmp 110) (.tmp 112), none, [], false, false⟩,
                           ⟨(some 114), .load false 1 (.tmp 113), none, [], false, false⟩,
                           ⟨(some 115), .call 159 [(.tmp 109), (.tmp 114)], none, [], false, false⟩,
                           ⟨(some 116), .un .not (.tmp 115), none, [], false, false⟩])
                        (.cond (.tmp 116) (.exit 6)
                         (.skip)))
                       (.region true [⟨(some 117), .move (.tmp 0), none, [], false, false⟩,
                          ⟨(some 118), .move (.tmp 10), none, [], false, false⟩,
                          ⟨(some 119), .move (.tmp 0), none, [], false, false⟩,
                          ⟨(some 120), .move (.tmp 10), none, [], false, false⟩,
                          ⟨(some 121), .bin .sub (.tmp 120) (.const (.int .i64 1)), none, [], false, false⟩,
                          ⟨(some 122), .move (.tmp 0), none, [], false, false⟩,
                          ⟨(some 123), .move (.tmp 10), none, [], false, false⟩,
                          ⟨(some 124), .bin .sub (.tmp 123) (.const (.int .i64 1)), none, [], false, false⟩,
                          ⟨(some 125), .indexAddr none 1 (.tmp 122) (.tmp 124), none, [], false, false⟩,
                          ⟨(some 126), .load false 1 (.tmp 125), none, [], false, false⟩,
                          ⟨(some 127), .move (.tmp 0), none, [], false, false⟩,
                          ⟨(some 128), .move (.tmp 10), none, [], false, false⟩,
                          ⟨(some 129), .indexAddr none 1 (.tmp 127) (.tmp 128), none, [], false, false⟩,
                          ⟨(some 130), .load false 1 (.tmp 129), none, [], false, false⟩,
                          ⟨(some 131), .indexAddr none 1 (.tmp 117) (.tmp 118), none, [], false, false⟩,
                          ⟨none, .store 1 (.tmp 131) (.tmp 126), none, [], false, false⟩,
                          ⟨(some 132), .indexAddr none 1 (.tmp 119) (.tmp 121), none, [], false, false⟩,
                          ⟨none, .store 1 (.tmp 132) (.tmp 130), none, [], false, false⟩])))
                     (.region false [⟨(some 104), .move (.tmp 10), none, [], false, false⟩,
                        ⟨(some 105), .bin .add (.tmp 104) (.const (.int .i64 1)), none, [], false, false⟩,
                        ⟨(some 10), .move (.tmp 105), none, [], false, false⟩]))))))
                (.skip)))))))))
        (.region false [⟨(some 15), .move (.tmp 8), none, [], false, false⟩,
           ⟨(some 16), .bin .add (.tmp 15) (.const (.int .i64 1)), none, [], false, false⟩,
           ⟨(some 8), .move (.tmp 16), none, [], false, false⟩]))))))
   (.seq (.region false [⟨(some 6), .move (.const (.bool false)), none, [], false, false⟩])
    (.ret)))),
 [.tmp 6], .trunc, 133⟩

/-- slices.partitionEqualOrdered[int] -/
def ef196 : EFun := ⟨
 .seq (.region false [⟨(some 8), .move (.const (.int .i64 0)), none, [], false, false⟩])
 (.seq (.region true [⟨(some 11), .move (.tmp 0), none, [], false, false⟩,
     ⟨(some 12), .move (.tmp 1), none, [], false, false⟩,
     ⟨(some 13), .move (.tmp 0), none, [], false, false⟩,
     ⟨(some 14), .move (.tmp 3), none, [], false, false⟩,
     ⟨(some 15), .move (.tmp 0), none, [], false, false⟩,
     ⟨(some 16), .move (.tmp 3), none, [], false, false⟩,
     ⟨(some 17), .indexAddr none 1 (.tmp 15) (.tmp 16), none, [], false, false⟩,
     ⟨(some 18), .load false 1 (.tmp 17), none, [], false, false⟩,
     ⟨(some 19), .move (.tmp 0), none, [], false, false⟩,
     ⟨(some 20), .move (.tmp 1), none, [], false, false⟩,
     ⟨(some 21), .indexAddr none 1 (.tmp 19) (.tmp 20), none, [], false, false⟩,
     ⟨(some 22), .load false 1 (.tmp 21), none, [], false, false⟩,
     ⟨(some 23), .indexAddr none 1 (.tmp 11) (.tmp 12), none, [], false, false⟩,
     ⟨none, .store 1 (.tmp 23) (.tmp 18), none, [], false, false⟩,
     ⟨(some 24), .indexAddr none 1 (.tmp 13) (.tmp 14), none, [], false, false⟩,
     ⟨none, .store 1 (.tmp 24) (.tmp 22), none, [], false, false⟩])
  (.seq (.region false [⟨(some 25), .move (.tmp 1), none, [], false, false⟩,
      ⟨(some 26), .bin .add (.tmp 25) (.const (.int .i64 1)), none, [], false, false⟩,
      ⟨(some 27), .move (.tmp 2), none, [], false, false⟩,
      ⟨(some 28), .bin .sub (.tmp 27) (.const (.int .i64 1)), none, [], false, false⟩,
      ⟨(some 9), .move (.tmp 26), none, [], false, false⟩,
      ⟨(some 10), .move (.tmp 28), none, [], false, false⟩])
   (.seq (.block 0 (.loop (some [0, 1, 9, 10]) (
      .block 1 (.seq (.block 2 (.loop (some [0, 1, 9, 10]) (
          .seq (.seq (.region true [⟨(some 29), .move (.tmp 9), none, [], false, false⟩,
               ⟨(some 30), .move (.tmp 10), none, [], false, false⟩,
               ⟨(some 31), .bin .leq (.tmp 29) (.tmp 30), none, [], false, false⟩,
               ⟨(some 32), .move (.tmp 31), none, [], false, false⟩,
               ⟨(some 33), .move (.tmp 0), (some (32, true)), [], false, false⟩,
               ⟨(some 34), .move (.tmp 1), (some (32, true)), [], false, false⟩,
               ⟨(some 35), .indexAddr none 1 (.tmp 33) (.tmp 34), (some (32, true)), [], false, false⟩,
               ⟨(some 36), .load false 1 (.tmp 35), (some (32, true)), [], false, false⟩,
               ⟨(some 37), .move (.tmp 0), (some (32, true)), [], false, false⟩,
               ⟨(some 38), .move (.tmp 9), (some (32, true)), [], false, false⟩,
               ⟨(some 39), .indexAddr none 1 (.tmp 37) (.tmp 38), (some (32, true)), [], false, false⟩,
               ⟨(some 40), .load false 1 (.tmp 39), (some (32, true)), [], false, false⟩,
               ⟨(some 41), .call 159 [(.tmp 36), (.tmp 40)], (some (32, true)), [], false, false⟩,
               ⟨(some 42), .un .not (.tmp 41), (some (32, true)), [], false, false⟩,
               ⟨(some 43), .pick (.tmp 32) (.tmp 42) (.const (.bool false)), none, [], false, false⟩])
            (.cond (.tmp 43) (.skip)
             (.exit 2)))
           (.block 3 (.region false [⟨(some 44), .move (.tmp 9), none, [], false, false⟩,
               ⟨(some 45), .bin .add (.tmp 44) (.const (.int .i64 1)), none, [], false, false⟩,
               ⟨(some 9), .move (.tmp 45), none, [], false, false⟩])))))
        (.seq (.block 4 (.loop (some [0, 1, 9, 10]) (
           .seq (.seq (.region true [⟨(some 46), .move (.tmp 9), none, [], false, false⟩,
                ⟨(some 47), .move (.tmp 10), none, [], false, false⟩,
                ⟨(some 48), .bin .leq (.tmp 46) (.tmp 47), none, [], false, false⟩,
                ⟨(some 49), .move (.tmp 48), none, [], false, false⟩,
                ⟨(some 50), .move (.tmp 0), (some (49, true)), [], false, false⟩,
                ⟨(some 51), .move (.tmp 1), (some (49, true)), [], false, false⟩,
                ⟨(some 52), .indexAddr none 1 (.tmp 50) (.tmp 51), (some (49, true)), [], false, false⟩,
                ⟨(some 53), .load false 1 (.tmp 52), (some (49, true)), [], false, false⟩,
                ⟨(some 54), .move (.tmp 0), (some (49, true)), [], false, false⟩,
                ⟨(some 55), .move (.tmp 10), (some (49, true)), [], false, false⟩,
                ⟨(some 56), .indexAddr none 1 (.tmp 54) (.tmp 55), (some (49, true)), [], false, false⟩,
                ⟨(some 57), .load false 1 (.tmp 56), (some (49, true)), [], false, false⟩,
                ⟨(some 58), .call 159 [(.tmp 53), (.tmp 57)], (some (49, true)), [], false, false⟩,
                ⟨(some 59), .pick (.tmp 49) (.tmp 58) (.const (.bool false)), none, [], false, false⟩])
             (.cond (.tmp 59) (.skip)
              (.exit 4)))
            (.block 5 (.region false [⟨(some 60), .move (.tmp 10), none, [], false, false⟩,
                ⟨(some 61), .bin .sub (.tmp 60) (.const (.int .i64 1)), none, [], false, false⟩,
                ⟨(some 10), .move (.tmp 61), none, [], false, false⟩])))))
         (.seq (.seq (.region false [⟨(some 62), .move (.tmp 9), none, [], false, false⟩,
              ⟨(some 63), .move (.tmp 10), none, [], false, false⟩,
              ⟨(some 64), .bin .gtr (.tmp 62) (.tmp 63), none, [], false, false⟩])
           (.cond (.tmp 64) (.exit 0)
            (.skip)))
          (.seq (.region true [⟨(some 65), .move (.tmp 0), none, [], false, false⟩,
              ⟨(some 66), .move (.tmp 9), none, [], false, false⟩,
              ⟨(some 67), .move (.tmp 0), none, [], false, false⟩,
              ⟨(some 68), .move (.tmp 10), none, [], false, false⟩,
              ⟨(some 69), .move (.tmp 0), none, [], false, false⟩,
              ⟨(some 70), .move (.tmp 10), none, [], false, false⟩,
              ⟨(some 71), .indexAddr none 1 (.tmp 69) (.tmp 70), none, [], false, false⟩,
              ⟨(some 72), .load false 1 (.tmp 71), none, [], false, false⟩,
              ⟨(some 73), .move (.tmp 0), none, [], false, false⟩,
              ⟨(some 74), .move (.tmp 9), none, [], false, false⟩,
              ⟨(some 75), .indexAddr none 1 (.tmp 73) (.tmp 74), none, [], false, false⟩,
              ⟨(some 76), .load false 1 (.tmp 75), none, [], false, false⟩,
              ⟨(some 77), .indexAddr none 1 (.tmp 65) (.tmp 66), none, [], false, false⟩,
              ⟨none, .store 1 (.tmp 77) (.tmp 72), none, [], false, false⟩,
              ⟨(some 78), .indexAddr none 1 (.tmp 67) (.tmp 68), none, [], false, false⟩,
              ⟨none, .store 1 (.tmp 78) (.tmp 76), none, [], false, false⟩])
           (.seq (.region false [⟨(some 79), .move (.tmp 9), none, [], false, false⟩,
               ⟨(some 80), .bin .add (.tmp 79) (.const (.int .i64 1)), none, [], false, false⟩,
               ⟨(some 9), .move (.tmp 80), none, [], false, false⟩])
            (.region false [⟨(some 81), .move (.tmp 10), none, [], false, false⟩,
               ⟨(some 82), .bin .sub (.tmp 81) (.const (.int .i64 1)), none, [], false, false⟩,
               ⟨(some 10), .move (.tmp 82), none, [], false, false⟩])))))))))
    (.seq (.region false [⟨(some 83), .move (.tmp 9), none, [], false, false⟩,
        ⟨(some 8), .move (.tmp 83), none, [], false, false⟩])
     (.ret))))),
 [.tmp 8], .trunc, 84⟩

/-- slices.partitionOrdered[int] -/
def ef197 : EFun := ⟨
 .seq (.region false [⟨(some 8), .move (.const (.int .i64 0)), none, [], false, false⟩,
    ⟨(some 9), .move (.const (.bool false)), none, [], false, false⟩])
 (.seq (.region true [⟨(some 12), .move (.tmp 0), none, [], false, false⟩,
     ⟨(some 13), .move (.tmp 1), none, [], false, false⟩,
     ⟨(some 14), .move (.tmp 0), none, [], false, false⟩,
     ⟨(some 15), .move (.tmp 3), none, [], false, false⟩,
     ⟨(some 16), .move (.tmp 0), none, [], false, false⟩,
     ⟨(some 17), .move (.tmp 3), none, [], false, false⟩,
     ⟨(some 18), .indexAddr none 1 (.tmp 16) (.tmp 17), none, [], false, false⟩,
     ⟨(some 19), .load false 1 (.tmp 18), none, [], false, false⟩,
     ⟨(some 20), .move (.tmp 0), none, [], false, false⟩,
     ⟨(some 21), .move (.tmp 1), none, [], false, false⟩,
     ⟨(some 22), .indexAddr none 1 (.tmp 20) (.tmp 21), none, [], false, false⟩,
     ⟨(some 23), .load false 1 (.tmp 22), none, [], false, false⟩,
     ⟨(some 24), .indexAddr none 1 (.tmp 12) (.tmp 13), none, [], false, false⟩,
     ⟨none, .store 1 (.tmp 24) (.tmp 19), none, [], false, false⟩,
     ⟨(some 25), .indexAddr none 1 (.tmp 14) (.tmp 15), none, [], false, false⟩,
     ⟨none, .store 1 (.tmp 25) (.tmp 23), none, [], false, false⟩])
  (.seq (.region false [⟨(some 26), .move (.tmp 1), none, [], false, false⟩,
      ⟨(some 27), .bin .add (.tmp 26) (.const (.int .i64 1)), none, [], false, false⟩,
      ⟨(some 28), .move (.tmp 2), none, [], false, false⟩,
      ⟨(some 29), .bin .sub (.tmp 28) (.const (.int .i64 1)), none, [], false, false⟩,
      ⟨(some 10), .move (.tmp 27), none, [], false, false⟩,
      ⟨(some 11), .move (.tmp 29), none, [], false, false⟩])
   (.seq (.block 0 (.loop (some [0, 1, 10, 11]) (
      .seq (.seq (.region true [⟨(some 30), .move (.tmp 10), none, [], false, false⟩,
           ⟨(some 31), .move (.tmp 11), none, [], false, false⟩,
           ⟨(some 32), .bin .leq (.tmp 30) (.tmp 31), none, [], false, false⟩,
           ⟨(some 33), .move (.tmp 32), none, [], false, false⟩,
           ⟨(some 34), .move (.tmp 0), (some (33, true)), [], false, false⟩,
           ⟨(some 35), .move (.tmp 10), (some (33, true)), [], false, false⟩,
           ⟨(some 36), .indexAddr none 1 (.tmp 34) (.tmp 35), (some (33, true)), [], false, false⟩,
           ⟨(some 37), .load false 1 (.tmp 36), (some (33, true)), [], false, false⟩,
           ⟨(some 38), .move (.tmp 0), (some (33, true)), [], false, false⟩,
           ⟨(some 39), .move (.tmp 1), (some (33, true)), [], false, false⟩,
           ⟨(some 40), .indexAddr none 1 (.tmp 38) (.tmp 39), (some (33, true)), [], false, false⟩,
           ⟨(some 41), .load false 1 (.tmp 40), (some (33, true)), [], false, false⟩,
           ⟨(some 42), .call 159 [(.tmp 37), (.tmp 41)], (some (33, true)), [], false, false⟩,
           ⟨(some 43), .pick (.tmp 33) (.tmp 42) (.const (.bool false)), none, [], false, false⟩])
        (.cond (.tmp 43) (.skip)
         (.exit 0)))
       (.block 1 (.region false [⟨(some 44), .move (.tmp 10), none, [], false, false⟩,
           ⟨(some 45), .bin .add (.tmp 44) (.const (.int .i64 1)), none, [], false, false⟩,
           ⟨(some 10), .move (.tmp 45), none, [], false, false⟩])))))
    (.seq (.block 2 (.loop (some [0, 1, 10, 11]) (
       .seq (.seq (.region true [⟨(some 46), .move (.tmp 10), none, [], false, false⟩,
            ⟨(some 47), .move (.tmp 11), none, [], false, false⟩,
            ⟨(some 48), .bin .leq (.tmp 46) (.tmp 47), none, [], false, false⟩,
            ⟨(some 49), .move (.tmp 48), none, [], false, false⟩,
            ⟨(some 50), .move (.tmp 0), (some (49, true)), [], false, false⟩,
            ⟨(some 51), .move (.tmp 11), (some (49, true)), [], false, false⟩,
            ⟨(some 52), .indexAddr none 1 (.tmp 50) (.tmp 51), (some (49, true)), [], false, false⟩,
            ⟨(some 53), .load false 1 (.tmp 52), (some (49, true)), [], false, false⟩,
            ⟨(some 54), .move (.tmp 0), (some (49, true)), [], false, false⟩,
            ⟨(some 55), .move (.tmp 1), (some (49, true)), [], false, false⟩,
            ⟨(some 56), .indexAddr none 1 (.tmp 54) (.tmp 55), (some (49, true)), [], false, false⟩,
            ⟨(some 57), .load false 1 (.tmp 56), (some (49, true)), [], false, false⟩,
            ⟨(some 58), .call 159 [(.tmp 53), (.tmp 57)], (some (49, true)), [], false, false⟩,
            ⟨(some 59), .un .not (.tmp 58), (some (49, true)), [], false, false⟩,
            ⟨(some 60), .pick (.tmp 49) (.tmp 59) (.const (.bool false)), none, [], false, false⟩])
         (.cond (.tmp 60) (.skip)
          (.exit 2)))
        (.block 3 (.region false [⟨(some 61), .move (.tmp 11), none, [], false, false⟩,
            ⟨(some 62), .bin .sub (.tmp 61) (.const (.int .i64 1)), none, [], false, false⟩,
            ⟨(some 11), .move (.tmp 62), none, [], false, false⟩])))))
     (.seq (.seq (.region false [⟨(some 63), .move (.tmp 10), none, [], false, false⟩,
          ⟨(some 64), .move (.tmp 11), none, [], false, false⟩,
          ⟨(some 65), .bin .gtr (.tmp 63) (.tmp 64), none, [], false, false⟩])
       (.cond (.tmp 65) (.seq (.region true [⟨(some 66), .move (.tmp 0), none, [], false, false⟩,
            ⟨(some 67), .move (.tmp 11), none, [], false, false⟩,
            ⟨(some 68), .move (.tmp 0), none, [], false, false⟩,
            ⟨(some 69), .move (.tmp 1), none, [], false, false⟩,
            ⟨(some 70), .move (.tmp 0), none, [], false, false⟩,
            ⟨(some 71), .move (.tmp 1), none, [], false, false⟩,
            ⟨(some 72), .indexAddr none 1 (.tmp 70) (.tmp 71), none, [], false, false⟩,
            ⟨(some 73), .load false 1 (.tmp 72), none, [], false, false⟩,
            ⟨(some 74), .move (.tmp 0), none, [], false, false⟩,
            ⟨(some 75), .move (.tmp 11), none, [], false, false⟩,
            ⟨(some 76), .indexAddr none 1 (.tmp 74) (.tmp 75), none, [], false, false⟩,
            ⟨(some 77), .load false 1 (.tmp 76), none, [], false, false⟩,
            ⟨(some 78), .indexAddr none 1 (.tmp 66) (.tmp 67), none, [], false, false⟩,
            ⟨none, .store 1 (.tmp 78) (.tmp 73), none, [], false, false⟩,
            ⟨(some 79), .indexAddr none 1 (.tmp 68) (.tmp 69), none, [], false, false⟩,
            ⟨none, .store 1 (.tmp 79) (.tmp 77), none, [], false, false⟩])
         (.seq (.region false [⟨(some 80), .move (.tmp 11), none, [], false, false⟩,
             ⟨(some 8), .move (.tmp 80), none, [], false, false⟩,
             ⟨(some 9), .move (.const (.bool true)), none, [], false, false⟩])
          (.ret)))
        (.skip)))
      (.seq (.region true [⟨(some 81), .move (.tmp 0), none, [], false, false⟩,
          ⟨(some 82), .move (.tmp 10), none, [], false, false⟩,
          ⟨(some 83), .move (.tmp 0), none, [], false, false⟩,
          ⟨(some 84), .move (.tmp 11), none, [], false, false⟩,
          ⟨(some 85), .move (.tmp 0), none, [], false, false⟩,
          ⟨(some 86), .move (.tmp 11), none, [], false, false⟩,
          ⟨(some 87), .indexAddr none 1 (.tmp 85) (.tmp 86), none, [], false, false⟩,
          ⟨(some 88), .load false 1 (.tmp 87), none, [], false, false⟩,
          ⟨(some 89), .move (.tmp 0), none, [], false, false⟩,
          ⟨(some 90), .move (.tmp 10), none, [], false, false⟩,
          ⟨(some 91), .indexAddr none 1 (.tmp 89) (.tmp 90), none, [], false, false⟩,
          ⟨(some 92), .load false 1 (.tmp 91), none, [], false, false⟩,
          ⟨(some 93), .indexAddr none 1 (.tmp 81) (.tmp 82), none, [], false, false⟩,
          ⟨none, .store 1 (.tmp 93) (.tmp 88), none, [], false, false⟩,
          ⟨(some 94), .indexAddr none 1 (.tmp 83) (.tmp 84), none, [], false, false⟩,
          ⟨none, .store 1 (.tmp 94) (.tmp 92), none, [], false, false⟩])
       (.seq (.region false [⟨(some 95), .move (.tmp 10), none, [], false, false⟩,
           ⟨(some 96), .bin .add (.tmp 95) (.const (.int .i64 1)), none, [], false, false⟩,
           ⟨(some 10), .move (.tmp 96), none, [], false, false⟩])
        (.seq (.region false [⟨(some 97), .move (.tmp 11), none, [], false, false⟩,
            ⟨(some 98), .bin .sub (.tmp 97) (.const (.int .i64 1)), none, [], false, false⟩,
            ⟨(some 11), .move (.tmp 98), none, [], false, false⟩])
         (.seq (.block 4 (.loop (some [0, 1, 10, 11]) (
            .block 5 (.seq (.block 6 (.loop (some [0, 1, 10, 11]) (
                .seq (.seq (.region true [⟨(some 99), .move (.tmp 10), none, [], false, false⟩,
                     ⟨(some 100), .move (.tmp 11), none, [], false, false⟩,
                     ⟨(some 101), .bin .leq (.tmp 99) (.tmp 100), none, [], false, false⟩,
                     ⟨(some 102), .move (.tmp 101), none, [], false, false⟩,
                     ⟨(some 103), .move (.tmp 0), (some (102, true)), [], false, false⟩,
                     ⟨(some 104), .move (.tmp 10), (some (102, true)), [], false, false⟩,
                     ⟨(some 105), .indexAddr none 1 (.tmp 103) (.tmp 104), (some (102, true)), [], false, false⟩,
                     ⟨(some 106), .load false 1 (.tmp 105), (some (102, true)), [], false, false⟩,
                     ⟨(some 107), .move (.tmp 0), (some (102, true)), [], false, false⟩,
                     ⟨(some 108), .move (.tmp 1), (some (102, true)), [], false, false⟩,
                     ⟨(some 109), .indexAddr none 1 (.tmp 107) (.tmp 108), (some (102, true)), [], false, false⟩,
                     ⟨(some 110), .load false 1 (.tmp 109), (some (102, true)), [], false, false⟩,
                     ⟨(some 111), .call 159 [(.tmp 106), (.tmp 110)], (some (102, true)), [], false, false⟩,
                     ⟨(some 112), .pick (.tmp 102) (.tmp 111) (.const (.bool false)), none, [], false, false⟩])
                  (.cond (.tmp 112) (.skip)
                   (.exit 6)))
                 (.block 7 (.region false [⟨(some 113), .move (.tmp 10), none, [], false, false⟩,
                     ⟨(some 114), .bin .add (.tmp 113) (.const (.int .i64 1)), none, [], false, false⟩,
                     ⟨(some 10), .move (.tmp 114), none, [], false, false⟩])))))
              (.seq (.block 8 (.loop (some [0, 1, 10, 11]) (
                 .seq (.seq (.region true [⟨(some 115), .move (.tmp 10), none, [], false, false⟩,
                      ⟨(some 116), .move (.tmp 11), none, [], false, false⟩,
                      ⟨(some 117), .bin .leq (.tmp 115) (.tmp 116), none, [], false, false⟩,
                      ⟨(some 118), .move (.tmp 117), none, [], false, false⟩,
                      ⟨(some 119), .move (.tmp 0), (some (118, true)), [], false, false⟩,
                      ⟨(some 120), .move (.tmp 11), (some (118, true)), [], false, false⟩,
                      ⟨(some 121), .indexAddr none 1 (.tmp 119) (.tmp 120), (some (118, true)), [], false, false⟩,
                      ⟨(some 122), .load false 1 (.tmp 121), (some (118, true)), [], false, false⟩,
                      ⟨(some 123), .move (.tmp 0), (some (118, true)), [], false, false⟩,
                      ⟨(some 124), .move (.tmp 1), (some (118, true)), [], false, false⟩,
                      ⟨(some 125), .indexAddr none 1 (.tmp 123) (.tmp 124), (some (118, true)), [], false, false⟩,
                      ⟨(some 126), .load false 1 (.tmp 125), (some (118, true)), [], false, false⟩,
                      ⟨(some 127), .call 159 [(.tmp 122), (.tmp 126)], (some (118, true)), [], false, false⟩,
                      ⟨(some 128), .un .not (.tmp 127), (some (118, true)), [], false, false⟩,
                      ⟨(some 129), .pick (.tmp 118) (.tmp 128) (.const (.bool false)), none, [], false, false⟩])
                   (.cond (.tmp 129) (.skip)
                    (.exit 8)))
                  (.block 9 (.region false [⟨(some 130), .move (.tmp 11), none, [], false, false⟩,
                      ⟨(some 131), .bin .sub (.tmp 130) (.const (.int .i64 1)), none, [], false, false⟩,
                      ⟨(some 11), .move (.tmp 131), none, [], false, false⟩])))))
               (.seq (.seq (.region false [⟨(some 132), .move (.tmp 10), none, [], false, false⟩,
                    ⟨(some 133), .move (.tmp 11), none, [], false, false⟩,
                    ⟨(some 134), .bin .gtr (.tmp 132) (.tmp 133), none, [], false, false⟩])
                 (.cond (.tmp 134) (.exit 4)
                  (.skip)))
                (.seq (.region true [⟨(some 135), .move (.tmp 0), none, [], false, false⟩,
                    ⟨(some 136), .move (.tmp 10), none, [], false, false⟩,
                    ⟨(some 137), .move (.tmp 0), none, [], false, false⟩,
                    ⟨(some 138), .move (.tmp 11), none, [], false, false⟩,
                    ⟨(some 139), .move (.tmp 0), none, [], false, false⟩,
                    ⟨(some 140), .move (.tmp 11), none, [], false, false⟩,
                    ⟨(some 141), .indexAddr none 1 (.tmp 139) (.tmp 140), none, [], false, false⟩,
                    ⟨(some 142), .load false 1 (.tmp 141), none, [], false, false⟩,
                    ⟨(some 143), .move (.tmp 0), none, [], false, false⟩,
                    ⟨(some 144), .move (.tmp 10), none, [], false, false⟩,
                    ⟨(some 145), .indexAddr none 1 (.tmp 143) (.tmp 144), none, [], false, false⟩,
                    ⟨(some 146), .load false 1 (.tmp 145), none, [], false, false⟩,
                    ⟨(some 147), .indexAddr none 1 (.tmp 135) (.tmp 136), none, [], false, false⟩,
                    ⟨none, .store 1 (.tmp 147) (.tmp 142), none, [], false, false⟩,
                    ⟨(some 148), .indexAddr none 1 (.tmp 137) (.tmp 138), none, [], false, false⟩,
                    ⟨none, .store 1 (.tmp 148) (.tmp 146), none, [], false, false⟩])
                 (.seq (.region false [⟨(some 149), .move (.tmp 10), none, [], false, false⟩,
                     ⟨(some 150), .bin .add (.tmp 149) (.const (.int .i64 1)), none, [], false, false⟩,
                     ⟨(some 10), .move (.tmp 150), none, [], false, false⟩])
                  (.region false [⟨(some 151), .move (.tmp 11), none, [], false, false⟩,
                     ⟨(some 152), .bin .sub (.tmp 151) (.const (.int .i64 1)), none, [], false, false⟩,
                     ⟨(some 11), .move (.tmp 152), none, [], false, false⟩])))))))))
          (.seq (.region true [⟨(some 153), .move (.tmp 0), none, [], false, false⟩,
              ⟨(some 154), .move (.tmp 11), none, [], false, false⟩,
              ⟨(some 155), .move (.tmp 0), none, [], false, false⟩,
              ⟨(some 156), .move (.tmp 1), none, [], false, false⟩,
              ⟨(some 157), .move (.tmp 0), none, [], false, false⟩,
              ⟨(some 158), .move (.tmp 1), none, [], false, false⟩,
              ⟨(some 159), .indexAddr none 1 (.tmp 157) (.tmp 158), none, [], false, false⟩,
              ⟨(some 160), .load false 1 (.tmp 159), none, [], false, false⟩,
              ⟨(some 161), .move (.tmp 0), none, [], false, false⟩,
              ⟨(some 162), .move (.tmp 11), none, [], false, false⟩,
              ⟨(some 163), .indexAddr none 1 (.tmp 161) (.tmp 162), none, [], false, false⟩,
              ⟨(some 164), .load false 1 (.tmp 163), none, [], false, false⟩,
              ⟨(some 165), .indexAddr none 1 (.tmp 153) (.tmp 154), none, [], false, false⟩,
              ⟨none, .store 1 (.tmp 165) (.tmp 160), none, [], false, false⟩,
              ⟨(some 166), .indexAddr none 1 (.tmp 155) (.tmp 156), none, [], false, false⟩,
              ⟨none, .store 1 (.tmp 166) (.tmp 164), none, [], false, false⟩])
           (.seq (.region false [⟨(some 167), .move (.tmp 11), none, [], false, false⟩,
               ⟨(some 8), .move (.tmp 167), none, [], false, false⟩,
               ⟨(some 9), .move (.const (.bool false)), none, [], false, false⟩])
            (.ret)))))))))))),
 [.tmp 8, .tmp 9], .trunc, 168⟩

/-- math/bits.Len32 -/
def ef198 : EFun := ⟨
 .seq (.region false [⟨(some 2), .move (.const (.int .i64 0)), none, [], false, false⟩])
 (.seq (.seq (.region false [⟨(some 3), .move (.tmp 0), none, [], false, false⟩,
      ⟨(some 4), .bin .geq (.tmp 3) (.const (.int .u32 65536)), none, [], false, false⟩])
   (.cond (.tmp 4) (.seq (.region false [⟨(some 5), .move (.tmp 0), none, [], false, false⟩,
        ⟨(some 6), .bin .shr (.tmp 5) (.const (.int .u64 16)), none, [], false, false⟩,
        ⟨(some 0), .move (.tmp 6), none, [], false, false⟩])
     (.region false [⟨(some 2), .move (.const (.int .i64 16)), none, [], false, false⟩]))
    (.skip)))
  (.seq (.seq (.region false [⟨(some 7), .move (.tmp 0), none, [], false, false⟩,
       ⟨(some 8), .bin .geq (.tmp 7) (.const (.int .u32 256)), none, [], false, false⟩])
    (.cond (.tmp 8) (.seq (.region false [⟨(some 9), .move (.tmp 0), none, [], false, false⟩,
         ⟨(some 10), .bin .shr (.tmp 9) (.const (.int .u64 8)), none, [], false, false⟩,
         ⟨(some 0), .move (.tmp 10), none, [], false, false⟩])
      (.region false [⟨(some 11), .move (.tmp 2), none, [], false, false⟩,
         ⟨(some 12), .bin .add (.tmp 11) (.const (.int .i64 8)), none, [], false, false⟩,
         ⟨(some 2), .move (.tmp 12), none, [], false, false⟩]))
     (.skip)))
   (.seq (.region false [⟨(some 13), .move (.tmp 2), none, [], false, false⟩,
       ⟨(some 14), .move (.tmp 0), none, [], false, false⟩,
       ⟨(some 15), .conv .u8 (.tmp 14), none, [], false, false⟩,
       ⟨(some 16), .strIndex (.const (.string ⟨#[0, 1, 2, 2, 3, 3, 3, 3, 4, 4, 4, 4, 4, 4, 4, 4, 5, 5, 5, 5, 5, 5, 5, 5, 5, 5, 5, 5, 5, 5, 5, 5, 6, 6, 6, 6, 6, 6, 6, 6, 6, 6, 6, 6, 6, 6, 6, 6, 6, 6, 6, 6, 6, 6, 6, 6, 6, 6, 6, 6, 6, 6, 6, 6, 7, 7, 7, 7, 7, 7, 7, 7, 7, 7, 7, 7, 7, 7, 7, 7, 7, 7, 7, 7, 7, 7, 7, 7, 7, 7, 7, 7, 7, 7, 7, 7, 7, 7, 7, 7, 7, 7, 7, 7, 7, 7, 7, 7, 7, 7, 7, 7, 7, 7, 7, 7, 7, 7, 7, 7, 7, 7, 7, 7, 7, 7, 7, 7, 8, 8, 8, 8, 8, 8, 8, 8, 8, 8, 8, 8, 8, 8, 8, 8, 8, 8, 8, 8, 8, 8, 8, 8, 8, 8, 8, 8, 8, 8, 8, 8, 8, 8, 8, 8, 8, 8, 8, 8, 8, 8, 8, 8, 8, 8, 8, 8, 8, 8, 8, 8, 8, 8, 8, 8, 8, 8, 8, 8, 8, 8, 8, 8, 8, 8, 8, 8, 8, 8, 8, 8, 8, 8, 8, 8, 8, 8, 8, 8, 8, 8, 8, 8, 8, 8, 8, 8, 8, 8, 8, 8, 8, 8, 8, 8, 8, 8, 8, 8, 8, 8, 8, 8, 8, 8, 8, 8, 8, 8, 8, 8, 8, 8, 8, 8, 8, 8, 8, 8, 8, 8, 8, 8, 8, 8, 8, 8]⟩)) (.tmp 15), none, [], false, false⟩,
       ⟨(some 17), .conv .i64 (.tmp 16), none, [], false, false⟩,
       ⟨(some 18), .bin .add (.tmp 13) (.tmp 17), none, [], false, false⟩,
       ⟨(some 2), .move (.tmp 18), none, [], false, false⟩])
    (.ret)))),
 [.tmp 2], .pure, 19⟩

/-- math/bits.Len64 -/
def ef199 : EFun := ⟨
 .seq (.region false [⟨(some 2), .move (.const (.int .i64 0)), none, [], false, false⟩])
 (.seq (.seq (.region false [⟨(some 3), .move (.tmp 0), none, [], false, false⟩,
      ⟨(some 4), .bin .geq (.tmp 3) (.const (.int .u64 4294967296)), none, [], false, false⟩])
   (.cond (.tmp 4) (.seq (.region false [⟨(some 5), .move (.tmp 0), none, [], false, false⟩,
        ⟨(some 6), .bin .shr (.tmp 5) (.const (.int .u64 32)), none, [], false, false⟩,
        ⟨(some 0), .move (.tmp 6), none, [], false, false⟩])
     (.region false [⟨(some 2), .move (.const (.int .i64 32)), none, [], false, false⟩]))
    (.skip)))
  (.seq (.seq (.region false [⟨(some 7), .move (.tmp 0), none, [], false, false⟩,
       ⟨(some 8), .bin .geq (.tmp 7) (.const (.int .u64 65536)), none, [], false, false⟩])
    (.cond (.tmp 8) (.seq (.region false [⟨(some 9), .move (.tmp 0), none, [], false, false⟩,
         ⟨(some 10), .bin .shr (.tmp 9) (.const (.int .u64 16)), none, [], false, false⟩,
         ⟨(some 0), .move (.tmp 10), none, [], false, false⟩])
      (.region false [⟨(some 11), .move (.tmp 2), none, [], false, false⟩,
         ⟨(some 12), .bin .add (.tmp 11) (.const (.int .i64 16)), none, [], false, false⟩,
         ⟨(some 2), .move (.tmp 12), none, [], false, false⟩]))
     (.skip)))
   (.seq (.seq (.region false [⟨(some 13), .move (.tmp 0), none, [], false, false⟩,
        ⟨(some 14), .bin .geq (.tmp 13) (.const (.int .u64 256)), none, [], false, false⟩])
     (.cond (.tmp 14) (.seq (.region false [⟨(some 15), .move (.tmp 0), none, [], false, false⟩,
          ⟨(some 16), .bin .shr (.tmp 15) (.const (.int .u64 8)), none, [], false, false⟩,
          ⟨(some 0), .move (.tmp 16), none, [], false, false⟩])
       (.region false [⟨(some 17), .move (.tmp 2), none, [], false, false⟩,
          ⟨(some 18), .bin .add (.tmp 17) (.const (.int .i64 8)), none, [], false, false⟩,
          ⟨(some 2), .move (.tmp 18), none, [], false, false⟩]))
      (.skip)))
    (.seq (.region false [⟨(some 19), .move (.tmp 2), none, [], false, false⟩,
        ⟨(some 20), .move (.tmp 0), none, [], false, false⟩,
        ⟨(some 21), .conv .u8 (.tmp 20), none, [], false, false⟩,
        ⟨(some 22), .strIndex (.const (.string ⟨#[0, 1, 2, 2, 3, 3, 3, 3, 4, 4, 4, 4, 4, 4, 4, 4, 5, 5, 5, 5, 5, 5, 5, 5, 5, 5, 5, 5, 5, 5, 5, 5, 6, 6, 6, 6, 6, 6, 6, 6, 6, 6, 6, 6, 6, 6, 6, 6, 6, 6, 6, 6, 6, 6, 6, 6, 6, 6, 6, 6, 6, 6, 6, 6, 7, 7, 7, 7, 7, 7, 7, 7, 7, 7, 7, 7, 7, 7, 7, 7, 7, 7, 7, 7, 7, 7, 7, 7, 7, 7, 7, 7, 7, 7, 7, 7, 7, 7, 7, 7, 7, 7, 7, 7, 7, 7, 7, 7, 7, 7, 7, 7, 7, 7, 7, 7, 7, 7, 7, 7, 7, 7, 7, 7, 7, 7, 7, 7, 8, 8, 8, 8, 8, 8, 8, 8, 8, 8, 8, 8, 8, 8, 8, 8, 8, 8, 8, 8, 8, 8, 8, 8, 8, 8, 8, 8, 8, 8, 8, 8, 8, 8, 8, 8, 8, 8, 8, 8, 8, 8, 8, 8, 8, 8, 8, 8, 8, 8, 8, 8, 8, 8, 8, 8, 8, 8, 8, 8, 8, 8, 8, 8, 8, 8, 8, 8, 8, 8, 8, 8, 8, 8, 8, 8, 8, 8, 8, 8, 8, 8, 8, 8, 8, 8, 8, 8, 8, 8, 8, 8, 8, 8, 8, 8, 8, 8, 8, 8, 8, 8, 8, 8, 8, 8, 8, 8, 8, 8, 8, 8, 8, 8, 8, 8, 8, 8, 8, 8, 8, 8, 8, 8, 8, 8, 8, 8]⟩)) (.tmp 21), none, [], false, false⟩,
        ⟨(some 23), .conv .i64 (.tmp 22), none, [], false, false⟩,
        ⟨(some 24), .bin .add (.tmp 19) (.tmp 23), none, [], false, false⟩,
        ⟨(some 2), .move (.tmp 24), none, [], false, false⟩])
     (.ret))))),
 [.tmp 2], .pure, 25⟩

/-- cmp.isNaN[int] -/
def ef200 : EFun := ⟨
 .seq (.region false [⟨(some 2), .move (.const (.bool false)), none, [], false, false⟩])
 (.seq (.region false [⟨(some 3), .move (.tmp 0), none, [], false, false⟩,
     ⟨(some 4), .move (.tmp 0), none, [], false, false⟩,
     ⟨(some 5), .bin .neq (.tmp 3) (.tmp 4), none, [], false, false⟩,
     ⟨(some 2), .move (.tmp 5), none, [], false, false⟩])
  (.ret)),
 [.tmp 2], .pure, 6⟩

/-- slices.BinarySearchFunc[[]agraffe/api.Climate,agraffe/api.Climate,int] -/
def ef201 : EFun := ⟨
 .seq (.region false [⟨(some 6), .move (.const (.int .i64 0)), none, [], false, false⟩,
    ⟨(some 7), .move (.const (.bool false)), none, [], false, false⟩])
 (.seq (.region false [⟨(some 12), .move (.tmp 0), none, [], false, false⟩,
     ⟨(some 13), .len false (.tmp 12), none, [], false, false⟩,
     ⟨(some 8), .move (.tmp 13), none, [], false, false⟩])
  (.seq (.region false [⟨(some 14), .move (.tmp 8), none, [], false, false⟩,
      ⟨(some 9), .move (.const (.int .i64 0)), none, [], false, false⟩,
      ⟨(some 10), .move (.tmp 14), none, [], false, false⟩])
   (.seq (.block 0 (.loop (some [0, 1, 2, 8, 9, 10]) (
      .seq (.seq (.region false [⟨(some 15), .move (.tmp 9), none, [], false, false⟩,
           ⟨(some 16), .move (.tmp 10), none, [], false, false⟩,
           ⟨(some 17), .bin .lss (.tmp 15) (.tmp 16), none, [], false, false⟩])
        (.cond (.tmp 17) (.skip)
         (.exit 0)))
       (.block 1 (.seq (.region false [⟨(some 18), .move (.tmp 9), none, [], false, false⟩,
            ⟨(some 19), .move (.tmp 10), none, [], false, false⟩,
            ⟨(some 20), .bin .add (.tmp 18) (.tmp 19), none, [], false, false⟩,
            ⟨(some 21), .conv .u64 (.tmp 20), none, [], false, false⟩,
            ⟨(some 22), .bin .shr (.tmp 21) (.const (.int .u64 1)), none, [], false, false⟩,
            ⟨(some 23), .conv .i64 (.tmp 22), none, [], false, false⟩,
            ⟨(some 11), .move (.tmp 23), none, [], false, false⟩])
         (.seq (.region false [⟨(some 24), .move (.tmp 2), none, [], false, false⟩,
             ⟨(some 25), .move (.tmp 0), none, [], false, false⟩,
             ⟨(some 26), .move (.tmp 11), none, [], false, false⟩,
             ⟨(some 27), .indexAddr none 2 (.tmp 25) (.tmp 26), none, [], false, false⟩,
             ⟨(some 28), .load true 2 (.tmp 27), none, [], false, false⟩,
             ⟨(some 29), .move (.tmp 1), none, [], false, false⟩,
             ⟨(some 30), .callVal (.tmp 24) [(.tmp 28), (.tmp 29)], none, [], false, false⟩,
             ⟨(some 31), .bin .lss (.tmp 30) (.const (.int .i64 0)), none, [], false, false⟩])
          (.cond (.tmp 31) (.region false [⟨(some 32), .move (.tmp 11), none, [], false, false⟩,
              ⟨(some 33), .bin .add (.tmp 32) (.const (.int .i64 1)), none, [], false, false⟩,
              ⟨(some 9), .move (.tmp 33), none, [], false, false⟩])
           (.region false [⟨(some 34), .move (.tmp 11), none, [], false, false⟩,
              ⟨(some 10), .move (.tmp 34), none, [], false, false⟩]))))))))
    (.seq (.region false [⟨(some 35), .move (.tmp 9), none, [], false, false⟩,
        ⟨(some 36), .move (.tmp 9), none, [], false, false⟩,
        ⟨(some 37), .move (.tmp 8), none, [], false, false⟩,
        ⟨(some 38), .bin .lss (.tmp 36) (.tmp 37), none, [], false, false⟩,
        ⟨(some 39), .move (.tmp 38), none, [], false, false⟩,
        ⟨(some 40), .move (.tmp 2), (some (39, true)), [], false, false⟩,
        ⟨(some 41), .move (.tmp 0), (some (39, true)), [], false, false⟩,
        ⟨(some 42), .move (.tmp 9), (some (39, true)), [], false, false⟩,
        ⟨(some 43), .indexAddr none 2 (.tmp 41) (.tmp 42), (some (39, true)), [], false, false⟩,
        ⟨(some 44), .load true 2 (.tmp 43), (some (39, true)), [], false, false⟩,
        ⟨(some 45), .move (.tmp 1), (some (39, true)), [], false, false⟩,
        ⟨(some 46), .callVal (.tmp 40) [(.tmp 44), (.tmp 45)], (some (39, true)), [], false, false⟩,
        ⟨(some 47), .bin .eql (.tmp 46) (.const (.int .i64 0)), (some (39, true)), [], false, false⟩,
        ⟨(some 48), .pick (.tmp 39) (.tmp 47) (.const (.bool false)), none, [], false, false⟩,
        ⟨(some 6), .move (.tmp 35), none, [], false, false⟩,
        ⟨(some 7), .move (.tmp 48), none, [], false, false⟩])
     (.ret))))),
 [.tmp 6, .tmp 7], .pure, 49⟩

/-- agraffe/upkeep.compareDays -/
def ef202 : EFun := ⟨
 .seq (.region false [⟨(some 2), .box (.tmp 0), none, [], false, false⟩,
    ⟨(some 4), .move (.const (.int .i64 0)), none, [], false, false⟩])
 (.seq (.region false [⟨(some 5), .fieldAddr 0 (.tmp 2), none, [], false, false⟩,
     ⟨(some 6), .load false 1 (.tmp 5), none, [], false, false⟩,
     ⟨(some 7), .move (.tmp 1), none, [], false, false⟩,
     ⟨(some 8), .call 228 [(.tmp 6), (.tmp 7)], none, [], false, false⟩,
     ⟨(some 4), .move (.tmp 8), none, [], false, false⟩])
  (.ret)),
 [.tmp 4], .pure, 9⟩

/-- agraffe/number.gcd -/
def ef218 : EFun := ⟨
 .seq (.region false [⟨(some 4), .move (.const (.int .i64 0)), none, [], false, false⟩])
 (.seq (.block 0 (.loop (some [0, 1]) (
    .seq (.seq (.region false [⟨(some 5), .move (.tmp 1), none, [], false, false⟩,
         ⟨(some 6), .bin .neq (.tmp 5) (.const (.int .i64 0)), none, [], false, false⟩])
      (.cond (.tmp 6) (.skip)
       (.exit 0)))
     (.block 1 (.region true [⟨(some 7), .move (.tmp 1), none, [], false, false⟩,
         ⟨(some 8), .move (.tmp 0), none, [], false, false⟩,
         ⟨(some 9), .move (.tmp 1), none, [], false, false⟩,
         ⟨(some 10), .bin .rem (.tmp 8) (.tmp 9), none, [], false, false⟩,
         ⟨(some 0), .move (.tmp 7), none, [], false, false⟩,
         ⟨(some 1), .move (.tmp 10), none, [], false, false⟩])))))
  (.seq (.seq (.region false [⟨(some 11), .move (.tmp 0), none, [], false, false⟩,
       ⟨(some 12), .bin .lss (.tmp 11) (.const (.int .i64 0)), none, [], false, false⟩])
    (.cond (.tmp 12) (.seq (.region false [⟨(some 13), .move (.tmp 0), none, [], false, false⟩,
         ⟨(some 14), .un .neg (.tmp 13), none, [], false, false⟩,
         ⟨(some 4), .move (.tmp 14), none, [], false, false⟩])
      (.ret))
     (.skip)))
   (.seq (.region false [⟨(some 15), .move (.tmp 0), none, [], false, false⟩,
       ⟨(some 4), .move (.tmp 15), none, [], false, false⟩])
    (.ret)))),
 [.tmp 4], .pure, 16⟩

/-- math/bits.Mul64 -/
def ef219 : EFun := ⟨
 .seq (.region false [⟨(some 4), .move (.const (.int .u64 0)), none, [], false, false⟩,
    ⟨(some 5), .move (.const (.int .u64 0)), none, [], false, false⟩])
 (.seq (.region false [⟨(some 14), .move (.tmp 0), none, [], false, false⟩,
     ⟨(some 15), .bin .and (.tmp 14) (.const (.int .u64 4294967295)), none, [], false, false⟩,
     ⟨(some 6), .move (.tmp 15), none, [], false, false⟩])
  (.seq (.region false [⟨(some 16), .move (.tmp 0), none, [], false, false⟩,
      ⟨(some 17), .bin .shr (.tmp 16) (.const (.int .u64 32)), none, [], false, false⟩,
      ⟨(some 7), .move (.tmp 17), none, [], false, false⟩])
   (.seq (.region false [⟨(some 18), .move (.tmp 1), none, [], false, false⟩,
       ⟨(some 19), .bin .and (.tmp 18) (.const (.int .u64 4294967295)), none, [], false, false⟩,
       ⟨(some 8), .move (.tmp 19), none, [], false, false⟩])
    (.seq (.region false [⟨(some 20), .move (.tmp 1), none, [], false, false⟩,
        ⟨(some 21), .bin .shr (.tmp 20) (.const (.int .u64 32)), none, [], false, false⟩,
        ⟨(some 9), .move (.tmp 21), none, [], false, false⟩])
     (.seq (.region false [⟨(some 22), .move (.tmp 6), none, [], false, false⟩,
         ⟨(some 23), .move (.tmp 8), none, [], false, false⟩,
         ⟨(some 24), .bin .mul (.tmp 22) (.tmp 23), none, [], false, false⟩,
         ⟨(some 10), .move (.tmp 24), none, [], false, false⟩])
      (.seq (.region false [⟨(some 25), .move (.tmp 7), none, [], false, false⟩,
          ⟨(some 26), .move (.tmp 8), none, [], false, false⟩,
          ⟨(some 27), .bin .mul (.tmp 25) (.tmp 26), none, [], false, false⟩,
          ⟨(some 28), .move (.tmp 10), none, [], false, false⟩,
          ⟨(some 29), .bin .shr (.tmp 28) (.const (.int .u64 32)), none, [], false, false⟩,
          ⟨(some 30), .bin .add (.tmp 27) (.tmp 29), none, [], false, false⟩,
          ⟨(some 11), .move (.tmp 30), none, [], false, false⟩])
       (.seq (.region false [⟨(some 31), .move (.tmp 11), none, [], false, false⟩,
           ⟨(some 32), .bin .and (.tmp 31) (.const (.int .u64 4294967295)), none, [], false, false⟩,
           ⟨(some 12), .move (.tmp 32), none, [], false, false⟩])
        (.seq (.region false [⟨(some 33), .move (.tmp 11), none, [], false, false⟩,
            ⟨(some 34), .bin .shr (.tmp 33) (.const (.int .u64 32)), none, [], false, false⟩,
            ⟨(some 13), .move (.tmp 34), none, [], false, false⟩])
         (.seq (.region false [⟨(some 35), .move (.tmp 12), none, [], false, false⟩,
             ⟨(some 36), .move (.tmp 6), none, [], false, false⟩,
             ⟨(some 37), .move (.tmp 9), none, [], false, false⟩,
             ⟨(some 38), .bin .mul (.tmp 36) (.tmp 37), none, [], false, false⟩,
             ⟨(some 39), .bin .add (.tmp 35) (.tmp 38), none, [], false, false⟩,
             ⟨(some 12), .move (.tmp 39), none, [], false, false⟩])
          (.seq (.region false [⟨(some 40), .move (.tmp 7), none, [], false, false⟩,
              ⟨(some 41), .move (.tmp 9), none, [], false, false⟩,
              ⟨(some 42), .bin .mul (.tmp 40) (.tmp 41), none, [], false, false⟩,
              ⟨(some 43), .move (.tmp 13), none, [], false, false⟩,
              ⟨(some 44), .bin .add (.tmp 42) (.tmp 43), none, [], false, false⟩,
              ⟨(some 45), .move (.tmp 12), none, [], false, false⟩,
              ⟨(some 46), .bin .shr (.tmp 45) (.const (.int .u64 32)), none, [], false, false⟩,
              ⟨(some 47), .bin .add (.tmp 44) (.tmp 46), none, [], false, false⟩,
              ⟨(some 4), .move (.tmp 47), none, [], false, false⟩])
           (.seq (.region false [⟨(some 48), .move (.tmp 0), none, [], false, false⟩,
               ⟨(some 49), .move (.tmp 1), none, [], false, false⟩,
               ⟨(some 50), .bin .mul (.tmp 48) (.tmp 49), none, [], false, false⟩,
               ⟨(some 5), .move (.tmp 50), none, [], false, false⟩])
            (.ret)))))))))))),
 [.tmp 4, .tmp 5], .pure, 51⟩

/-- (agraffe/number.natural).times -/
def ef220 : EFun := ⟨
 .seq (.region false [⟨(some 4), .move (.const (.slice none 0 0)), none, [], false, false⟩])
 (.seq (.region false [⟨(some 13), .move (.tmp 0), none, [], false, false⟩,
     ⟨(some 14), .len false (.tmp 13), none, [], false, false⟩,
     ⟨(some 15), .bin .add (.tmp 14) (.const (.int .i64 1)), none, [], false, false⟩,
     ⟨(some 16), .makeSlice 1 8 [(.int .u64 0)] (.const (.int .i64 0)) (.tmp 15), none, [], false, false⟩,
     ⟨(some 5), .move (.tmp 16), none, [], false, false⟩])
  (.seq (.region false [⟨(some 6), .move (.const (.int .u64 0)), none, [], false, false⟩])
   (.seq (.seq (.region false [⟨(some 17), .move (.tmp 0), none, [], false, false⟩,
        ⟨(some 18), .len false (.tmp 17), none, [], false, false⟩,
        ⟨(some 19), .move (.const (.int .i64 0)), none, [], false, false⟩])
     (.block 0 (.loop (some [1, 5, 6, 17, 18, 19]) (
       .seq (.region false [⟨(some 20), .bin .lss (.tmp 19) (.tmp 18), none, [], false, false⟩])
        (.seq (.cond (.tmp 20) (.skip)
          (.exit 0))
         (.seq (.block 1 (.seq (.region false [⟨(some 21), .indexAddr none 1 (.tmp 17) (.tmp 19), none, [], false, false⟩,
               ⟨(some 22), .load false 1 (.tmp 21), none, [], false, false⟩,
               ⟨(some 8), .move (.tmp 22), none, [], false, false⟩])
            (.seq (.region false [⟨(some 24), .move (.tmp 8), none, [], false, false⟩,
                ⟨(some 25), .move (.tmp 1), none, [], false, false⟩,
                ⟨(some 26), .call 219 [(.tmp 24), (.tmp 25)], none, [], false, false⟩,
                ⟨(some 23), .move (.tmp 26), none, [], false, false⟩,
                ⟨(some 27), .extract (.tmp 23) 0, none, [], false, false⟩,
                ⟨(some 28), .extract (.tmp 23) 1, none, [], false, false⟩,
                ⟨(some 9), .move (.tmp 27), none, [], false, false⟩,
                ⟨(some 10), .move (.tmp 28), none, [], false, false⟩])
             (.seq (.region false [⟨(some 30), .move (.tmp 10), none, [], false, false⟩,
                 ⟨(some 31), .move (.tmp 6), none, [], false, false⟩,
                 ⟨(some 32), .add64 (.tmp 30) (.tmp 31) (.const (.int .u64 0)), none, [], false, false⟩,
                 ⟨(some 29), .move (.tmp 32), none, [], false, false⟩,
                 ⟨(some 33), .extract (.tmp 29) 0, none, [], false, false⟩,
                 ⟨(some 34), .extract (.tmp 29) 1, none, [], false, false⟩,
                 ⟨(some 11), .move (.tmp 33), none, [], false, false⟩,
                 ⟨(some 12), .move (.tmp 34), none, [], false, false⟩])
              (.seq (.region false [⟨(some 35), .move (.tmp 5), none, [], false, false⟩,
                  ⟨(some 36), .move (.tmp 11), none, [], false, false⟩,
                  ⟨(some 37), .buildSlice 1 1 [(.int .u64 0)] [(0, 1, (.tmp 36))], none, [], false, false⟩,
                  ⟨(some 38), .append 1 8 (.tmp 35) (.tmp 37), none, [], false, false⟩,
                  ⟨(some 5), .move (.tmp 38), none, [], false, false⟩])
               (.region false [⟨(some 39), .move (.tmp 9), none, [], false, false⟩,
                  ⟨(some 40), .move (.tmp 12), none, [], false, false⟩,
                  ⟨(some 41), .bin .add (.tmp 39) (.tmp 40), none, [], false, false⟩,
                  ⟨(some 6), .move (.tmp 41), none, [], false, false⟩]))))))
          (.region false [⟨(some 42), .bin .add (.tmp 19) (.const (.int .i64 1)), none, [], false, false⟩,
             ⟨(some 19), .move (.tmp 42), none, [], false, false⟩])))))))
    (.seq (.seq (.region false [⟨(some 43), .move (.tmp 6), none, [], false, false⟩,
         ⟨(some 44), .bin .gtr (.tmp 43) (.const (.int .u64 0)), none, [], false, false⟩])
      (.cond (.tmp 44) (.region false [⟨(some 45), .move (.tmp 5), none, [], false, false⟩,
          ⟨(some 46), .move (.tmp 6), none, [], false, false⟩,
          ⟨(some 47), .buildSlice 1 1 [(.int .u64 0)] [(0, 1, (.tmp 46))], none, [], false, false⟩,
          ⟨(some 48), .append 1 8 (.tmp 45) (.tmp 47), none, [], false, false⟩,
          ⟨(some 5), .move (.tmp 48), none, [], false, false⟩])
       (.skip)))
     (.seq (.region false [⟨(some 49), .move (.tmp 5), none, [], false, false⟩,
         ⟨(some 4), .move (.tmp 49), none, [], false, false⟩])
      (.ret)))))),
 [.tmp 4], .pure, 50⟩

/-- agraffe/number.CheckRange -/
def ef221 : EFun := ⟨
 .seq (.region false [⟨(some 1), .box (.tmp 0), none, [], false, false⟩,
    ⟨(some 2), .move (.const (.int .i64 0)), none, [], false, false⟩])
 (.seq (.block 0 (.seq (.region false [⟨(some 4), .fieldAddr 0 (.tmp 1), none, [], false, false⟩,
       ⟨(some 5), .load false 1 (.tmp 4), none, [], false, false⟩,
       ⟨(some 6), .call 180 [(.tmp 5), (.const (.int .i64 (-1000000000000000))), (.const (.int .i64 1000000000000000))], none, [], false, false⟩,
       ⟨(some 7), .un .not (.tmp 6), none, [], false, false⟩,
       ⟨(some 8), .move (.tmp 7), none, [], false, false⟩,
       ⟨(some 9), .fieldAddr 1 (.tmp 1), (some (8, false)), [], false, false⟩,
       ⟨(some 10), .load false 1 (.tmp 9), (some (8, false)), [], false, false⟩,
       ⟨(some 11), .call 180 [(.tmp 10), (.const (.int .i64 (-1000000000000000))), (.const (.int .i64 1000000000000000))], (some (8, false)), [], false, false⟩,
       ⟨(some 12), .un .not (.tmp 11), (some (8, false)), [], false, false⟩,
       ⟨(some 13), .pick (.tmp 8) (.const (.bool true)) (.tmp 12), none, [], false, false⟩,
       ⟨(some 3), .move (.tmp 13), none, [], false, false⟩])
    (.cond (.tmp 3) (.seq (.region false [⟨(some 2), .move (.const (.int .i64 2)), none, [], false, false⟩])
      (.ret))
     (.seq (.region false [⟨(some 15), .fieldAddr 0 (.tmp 1), none, [], false, false⟩,
         ⟨(some 16), .load false 1 (.tmp 15), none, [], false, false⟩,
         ⟨(some 17), .fieldAddr 1 (.tmp 1), none, [], false, false⟩,
         ⟨(some 18), .load false 1 (.tmp 17), none, [], false, false⟩,
         ⟨(some 19), .bin .gtr (.tmp 16) (.tmp 18), none, [], false, false⟩,
         ⟨(some 14), .move (.tmp 19), none, [], false, false⟩])
      (.cond (.tmp 14) (.seq (.region false [⟨(some 2), .move (.const (.int .i64 9)), none, [], false, false⟩])
        (.ret))
       (.skip))))))
  (.seq (.region false [⟨(some 2), .move (.const (.int .i64 0)), none, [], false, false⟩])
   (.ret))),
 [.tmp 2], .pure, 20⟩

/-- agraffe/temper.place -/
def ef222 : EFun := ⟨
 .seq (.region false [⟨(some 2), .move (.const (.int .i64 0)), none, [], false, false⟩,
    ⟨(some 3), .move (.const (.int .i64 0)), none, [], false, false⟩])
 (.seq (.region false [⟨(some 4), .move (.tmp 0), none, [], false, false⟩,
     ⟨(some 5), .bin .add (.tmp 4) (.const (.int .i64 9)), none, [], false, false⟩,
     ⟨(some 6), .bin .rem (.tmp 5) (.const (.int .i64 12)), none, [], false, false⟩,
     ⟨(some 7), .move (.tmp 0), none, [], false, false⟩,
     ⟨(some 8), .bin .add (.tmp 7) (.const (.int .i64 9)), none, [], false, false⟩,
     ⟨(some 9), .bin .quo (.tmp 8) (.const (.int .i64 12)), none, [], false, false⟩,
     ⟨(some 2), .move (.tmp 6), none, [], false, false⟩,
     ⟨(some 3), .move (.tmp 9), none, [], false, false⟩])
  (.ret)),
 [.tmp 2, .tmp 3], .pure, 10⟩

/-- slices.siftDownOrdered[int] -/
def ef223 : EFun := ⟨
 .seq (.region false [⟨(some 10), .move (.tmp 1), none, [], false, false⟩,
    ⟨(some 8), .move (.tmp 10), none, [], false, false⟩])
 (.block 0 (.loop (some [0, 2, 3, 8]) (
   .block 1 (.seq (.region false [⟨(some 11), .move (.tmp 8), none, [], false, false⟩,
        ⟨(some 12), .bin .mul (.const (.int .i64 2)) (.tmp 11), none, [], false, false⟩,
        ⟨(some 13), .bin .add (.tmp 12) (.const (.int .i64 1)), none, [], false, false⟩,
        ⟨(some 9), .move (.tmp 13), none, [], false, false⟩])
     (.seq (.seq (.region false [⟨(some 14), .move (.tmp 9), none, [], false, false⟩,
          ⟨(some 15), .move (.tmp 2), none, [], false, false⟩,
          ⟨(some 16), .bin .geq (.tmp 14) (.tmp 15), none, [], false, false⟩])
       (.cond (.tmp 16) (.exit 0)
        (.skip)))
      (.seq (.seq (.region true [⟨(some 17), .move (.tmp 9), none, [], false, false⟩,
           ⟨(some 18), .bin .add (.tmp 17) (.const (.int .i64 1)), none, [], false, false⟩,
           ⟨(some 19), .move (.tmp 2), none, [], false, false⟩,
           ⟨(some 20), .bin .lss (.tmp 18) (.tmp 19), none, [], false, false⟩,
           ⟨(some 21), .move (.tmp 20), none, [], false, false⟩,
           ⟨(some 22), .move (.tmp 0), (some (21, true)), [], false, false⟩,
           ⟨(some 23), .move (.tmp 3), (some (21, true)), [], false, false⟩,
           ⟨(some 24), .move (.tmp 9), (some (21, true)), [], false, false⟩,
           ⟨(some 25), .bin .add (.tmp 23) (.tmp 24), (some (21, true)), [], false, false⟩,
           ⟨(some 26), .indexAddr none 1 (.tmp 22) (.tmp 25), (some (21, true)), [], false, false⟩,
           ⟨(some 27), .load false 1 (.tmp 26), (some (21, true)), [], false, false⟩,
           ⟨(some 28), .move (.tmp 0), (some (21, true)), [], false, false⟩,
           ⟨(some 29), .move (.tmp 3), (some (21, true)), [], false, false⟩,
           ⟨(some 30), .move (.tmp 9), (some (21, true)), [], false, false⟩,
           ⟨(some 31), .bin .add (.tmp 29) (.tmp 30), (some (21, true)), [], false, false⟩,
           ⟨(some 32), .bin .add (.tmp 31) (.const (.int .i64 1)), (some (21, true)), [], false, false⟩,
           ⟨(some 33), .indexAddr none 1 (.tmp 28) (.tmp 32), (some (21, true)), [], false, false⟩,
           ⟨(some 34), .load false 1 (.tmp 33), (some (21, true)), [], false, false⟩,
           ⟨(some 35), .call 159 [(.tmp 27), (.tmp 34)], (some (21, true)), [], false, false⟩,
           ⟨(some 36), .pick (.tmp 21) (.tmp 35) (.const (.bool false)), none, [], false, false⟩])
        (.cond (.tmp 36) (.region false [⟨(some 37), .move (.tmp 9), none, [], false, false⟩,
            ⟨(some 38), .bin .add (.tmp 37) (.const (.int .i64 1)), none, [], false, false⟩,
            ⟨(some 9), .move (.tmp 38), none, [], false, false⟩])
         (.skip)))
       (.seq (.seq (.region true [⟨(some 39), .move (.tmp 0), none, [], false, false⟩,
            ⟨(some 40), .move (.tmp 3), none, [], false, false⟩,
            ⟨(some 41), .move (.tmp 8), none, [], false, false⟩,
            ⟨(some 42), .bin .add (.tmp 40) (.tmp 41), none, [], false, false⟩,
            ⟨(some 43), .indexAddr none 1 (.tmp 39) (.tmp 42), none, [], false, false⟩,
            ⟨(some 44), .load false 1 (.tmp 43), none, [], false, false⟩,
            ⟨(some 45), .move (.tmp 0), none, [], false, false⟩,
            ⟨(some 46), .move (.tmp 3), none, [], false, false⟩,
            ⟨(some 47), .move (.tmp 9), none, [], false, false⟩,
            ⟨(some 48), .bin .add (.tmp 46) (.tmp 47), none, [], false, false⟩,
            ⟨(some 49), .indexAddr none 1 (.tmp 45) (.tmp 48), none, [], false, false⟩,
            ⟨(some 50), .load false 1 (.tmp 49), none, [], false, false⟩,
            ⟨(some 51), .call 159 [(.tmp 44), (.tmp 50)], none, [], false, false⟩,
            ⟨(some 52), .un .not (.tmp 51), none, [], false, false⟩])
         (.cond (.tmp 52) (.ret)
          (.skip)))
        (.seq (.region true [⟨(some 53), .move (.tmp 0), none, [], false, false⟩,
            ⟨(some 54), .move (.tmp 3), none, [], false, false⟩,
            ⟨(some 55), .move (.tmp 8), none, [], false, false⟩,
            ⟨(some 56), .bin .add (.tmp 54) (.tmp 55), none, [], false, false⟩,
            ⟨(some 57), .move (.tmp 0), none, [], false, false⟩,
            ⟨(some 58), .move (.tmp 3), none, [], false, false⟩,
            ⟨(some 59), .move (.tmp 9), none, [], false, false⟩,
            ⟨(some 60), .bin .add (.tmp 58) (.tmp 59), none, [], false, false⟩,
            ⟨(some 61), .move (.tmp 0), none, [], false, false⟩,
            ⟨(some 62), .move (.tmp 3), none, [], false, false⟩,
            ⟨(some 63), .move (.tmp 9), none, [], false, false⟩,
            ⟨(some 64), .bin .add (.tmp 62) (.tmp 63), none, [], false, false⟩,
            ⟨(some 65), .indexAddr none 1 (.tmp 61) (.tmp 64), none, [], false, false⟩,
            ⟨(some 66), .load false 1 (.tmp 65), none, [], false, false⟩,
            ⟨(some 67), .move (.tmp 0), none, [], false, false⟩,
            ⟨(some 68), .move (.tmp 3), none, [], false, false⟩,
            ⟨(some 69), .move (.tmp 8), none, [], false, false⟩,
            ⟨(some 70), .bin .add (.tmp 68) (.tmp 69), none, [], false, false⟩,
            ⟨(some 71), .indexAddr none 1 (.tmp 67) (.tmp 70), none, [], false, false⟩,
            ⟨(some 72), .load false 1 (.tmp 71), none, [], false, false⟩,
            ⟨(some 73), .indexAddr none 1 (.tmp 53) (.tmp 56), none, [], false, false⟩,
            ⟨none, .store 1 (.tmp 73) (.tmp 66), none, [], false, false⟩,
            ⟨(some 74), .indexAddr none 1 (.tmp 57) (.tmp 60), none, [], false, false⟩,
            ⟨none, .store 1 (.tmp 74) (.tmp 72), none, [], false, false⟩])
         (.region false [⟨(some 75), .move (.tmp 9), none, [], false, false⟩,
            ⟨(some 8), .move (.tmp 75), none, [], false, false⟩]))))))))),
 [], .trunc, 76⟩

/-- slices.nextPowerOfTwo -/
def ef224 : EFun := ⟨
 .seq (.region false [⟨(some 2), .move (.const (.int .u64 0)), none, [], false, false⟩])
 (.seq (.region false [⟨(some 3), .move (.tmp 0), none, [], false, false⟩,
     ⟨(some 4), .conv .u64 (.tmp 3), none, [], false, false⟩,
     ⟨(some 5), .call 157 [(.tmp 4)], none, [], false, false⟩,
     ⟨(some 6), .bin .shl (.const (.int .u64 1)) (.tmp 5), none, [], false, false⟩,
     ⟨(some 2), .move (.tmp 6), none, [], false, false⟩])
  (.ret)),
 [.tmp 2], .pure, 7⟩

/-- (*slices.xorshift).Next -/
def ef225 : EFun := ⟨
 .seq (.region false [⟨(some 2), .move (.const (.int .u64 0)), none, [], false, false⟩])
 (.seq (.region true [⟨(some 3), .move (.tmp 0), none, [], false, false⟩,
     ⟨(some 4), .nilCheck (.tmp 3), none, [], false, false⟩,
     ⟨(some 5), .load false 1 (.tmp 4), none, [], false, false⟩,
     ⟨(some 6), .move (.tmp 0), none, [], false, false⟩,
     ⟨(some 7), .nilCheck (.tmp 6), none, [], false, false⟩,
     ⟨(some 8), .load false 1 (.tmp 7), none, [], false, false⟩,
     ⟨(some 9), .bin .shl (.tmp 8) (.const (.int .u64 13)), none, [], false, false⟩,
     ⟨(some 10), .bin .xor (.tmp 5) (.tmp 9), none, [], false, false⟩,
     ⟨(some 11), .nilCheck (.tmp 3), none, [], false, false⟩,
     ⟨none, .store 1 (.tmp 11) (.tmp 10), none, [], false, false⟩])
  (.seq (.region true [⟨(some 12), .move (.tmp 0), none, [], false, false⟩,
      ⟨(some 13), .nilCheck (.tmp 12), none, [], false, false⟩,
      ⟨(some 14), .load false 1 (.tmp 13), none, [], false, false⟩,
      ⟨(some 15), .move (.tmp 0), none, [], false, false⟩,
      ⟨(some 16), .nilCheck (.tmp 15), none, [], false, false⟩,
      ⟨(some 17), .load false 1 (.tmp 16), none, [], false, false⟩,
      ⟨(some 18), .bin .shr (.tmp 17) (.const (.int .u64 7)), none, [], false, false⟩,
      ⟨(some 19), .bin .xor (.tmp 14) (.tmp 18), none, [], false, false⟩,
      ⟨(some 20), .nilCheck (.tmp 12), none, [], false, false⟩,
      ⟨none, .store 1 (.tmp 20) (.tmp 19), none, [], false, false⟩])
   (.seq (.region true [⟨(some 21), .move (.tmp 0), none, [], false, false⟩,
       ⟨(some 22), .nilCheck (.tmp 21), none, [], false, false⟩,
       ⟨(some 23), .load false 1 (.tmp 22), none, [], false, false⟩,
       ⟨(some 24), .move (.tmp 0), none, [], false, false⟩,
       ⟨(some 25), .nilCheck (.tmp 24), none, [], false, false⟩,
       ⟨(some 26), .load false 1 (.tmp 25), none, [], false, false⟩,
       ⟨(some 27), .bin .shl (.tmp 26) (.const (.int .u64 17)), none, [], false, false⟩,
       ⟨(some 28), .bin .xor (.tmp 23) (.tmp 27), none, [], false, false⟩,
       ⟨(some 29), .nilCheck (.tmp 21), none, [], false, false⟩,
       ⟨none, .store 1 (.tmp 29) (.tmp 28), none, [], false, false⟩])
    (.seq (.region false [⟨(some 30), .move (.tmp 0), none, [], false, false⟩,
        ⟨(some 31), .nilCheck (.tmp 30), none, [], false, false⟩,
        ⟨(some 32), .load false 1 (.tmp 31), none, [], false, false⟩,
        ⟨(some 2), .move (.tmp 32), none, [], false, false⟩])
     (.ret))))),
 [.tmp 2], .trunc, 33⟩

/-- slices.medianAdjacentOrdered[int] -/
def ef226 : EFun := ⟨
 .seq (.region false [⟨(some 6), .move (.const (.int .i64 0)), none, [], false, false⟩])
 (.seq (.region false [⟨(some 7), .move (.tmp 0), none, [], false, false⟩,
     ⟨(some 8), .move (.tmp 1), none, [], false, false⟩,
     ⟨(some 9), .bin .sub (.tmp 8) (.const (.int .i64 1)), none, [], false, false⟩,
     ⟨(some 10), .move (.tmp 1), none, [], false, false⟩,
     ⟨(some 11), .move (.tmp 1), none, [], false, false⟩,
     ⟨(some 12), .bin .add (.tmp 11) (.const (.int .i64 1)), none, [], false, false⟩,
     ⟨(some 13), .move (.tmp 2), none, [], false, false⟩,
     ⟨(some 14), .call 227 [(.tmp 7), (.tmp 9), (.tmp 10), (.tmp 12), (.tmp 13)], none, [], false, false⟩,
     ⟨(some 6), .move (.tmp 14), none, [], false, false⟩])
  (.ret)),
 [.tmp 6], .trunc, 15⟩

end Go.Abs.Z
