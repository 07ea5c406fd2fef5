/- The functions, compiled for the abstract evaluator. Written by wip/abs/Print.lean. -/
import Derived.Test.YtodofkolnmoliaaDoorAbsX0
set_option linter.unusedSimpArgs false
set_option linter.unusedVariables false
set_option maxRecDepth 100000
set_option maxHeartbeats 0
namespace Go.Abs.X
open Go Go.Abs
/-- agraffe/agrafferef03.CheckGirder -/
def ef46 : EFun := ⟨
 .seq (.region false [⟨(some 1), .box (.tmp 0), none, [], false, false⟩,
    ⟨(some 2), .move (.const (.int .i64 0)), none, [], false, false⟩])
 (.seq (.seq (.region false [⟨(some 3), .fieldAddr 0 (.tmp 1), none, [], false, false⟩,
      ⟨(some 4), .load false 1 (.tmp 3), none, [], false, false⟩,
      ⟨(some 5), .call 18 [(.tmp 4), (.const (.int .i64 (-20000))), (.const (.int .i64 20000))], none, [], false, false⟩,
      ⟨(some 6), .un .not (.tmp 5), none, [], false, false⟩,
      ⟨(some 7), .move (.tmp 6), none, [], false, false⟩,
      ⟨(some 8), .fieldAddr 1 (.tmp 1), (some (7, false)), [], false, false⟩,
      ⟨(some 9), .load false 1 (.tmp 8), (some (7, false)), [], false, false⟩,
      ⟨(some 10), .call 18 [(.tmp 9), (.const (.int .i64 (-20000))), (.const (.int .i64 20000))], (some (7, false)), [], false, false⟩,
      ⟨(some 11), .un .not (.tmp 10), (some (7, false)), [], false, false⟩,
      ⟨(some 12), .pick (.tmp 7) (.const (.bool true)) (.tmp 11), none, [], false, false⟩,
      ⟨(some 13), .move (.tmp 12), none, [], false, false⟩,
      ⟨(some 14), .fieldAddr 2 (.tmp 1), (some (13, false)), [], false, false⟩,
      ⟨(some 15), .load false 1 (.tmp 14), (some (13, false)), [], false, false⟩,
      ⟨(some 16), .call 18 [(.tmp 15), (.const (.int .i64 0)), (.const (.int .i64 1000000000000))], (some (13, false)), [], false, false⟩,
      ⟨(some 17), .un .not (.tmp 16), (some (13, false)), [], false, false⟩,
      ⟨(some 18), .pick (.tmp 13) (.const (.bool true)) (.tmp 17), none, [], false, false⟩])
   (.cond (.tmp 18) (.seq (.region false [⟨(some 2), .move (.const (.int .i64 2)), none, [], false, false⟩])
     (.ret))
    (.skip)))
  (.seq (.seq (.region false [⟨(some 19), .fieldAddr 0 (.tmp 1), none, [], false, false⟩,
       ⟨(some 20), .load false 1 (.tmp 19), none, [], false, false⟩,
       ⟨(some 21), .fieldAddr 1 (.tmp 1), none, [], false, false⟩,
       ⟨(some 22), .load false 1 (.tmp 21), none, [], false, false⟩,
       ⟨(some 23), .bin .geq (.tmp 20) (.tmp 22), none, [], false, false⟩])
    (.cond (.tmp 23) (.seq (.region false [⟨(some 2), .move (.const (.int .i64 9)), none, [], false, false⟩])
      (.ret))
     (.skip)))
   (.seq (.region false [⟨(some 2), .move (.const (.int .i64 0)), none, [], false, false⟩])
    (.ret)))),
 [.tmp 2], .pure, 24⟩

/-- agraffe/agrafferef03.CheckLoads -/
def ef47 : EFun := ⟨
 .seq (.region false [⟨(some 6), .move (.const (.int .i64 0)), none, [], false, false⟩])
 (.seq (.seq (.region false [⟨(some 8), .move (.tmp 0), none, [], false, false⟩,
      ⟨(some 9), .len false (.tmp 8), none, [], false, false⟩,
      ⟨(some 10), .bin .gtr (.tmp 9) (.const (.int .i64 100)), none, [], false, false⟩])
   (.cond (.tmp 10) (.seq (.region false [⟨(some 6), .move (.const (.int .i64 8)), none, [], false, false⟩])
     (.ret))
    (.skip)))
  (.seq (.seq (.region false [⟨(some 7), .move (.const (.int .i64 0)), none, [], false, false⟩])
    (.block 0 (.loop (some [0, 1, 2, 7]) (
      .seq (.seq (.region false [⟨(some 11), .move (.tmp 7), none, [], false, false⟩,
           ⟨(some 12), .move (.tmp 0), none, [], false, false⟩,
           ⟨(some 13), .len false (.tmp 12), none, [], false, false⟩,
           ⟨(some 14), .bin .lss (.tmp 11) (.tmp 13), none, [], false, false⟩])
        (.cond (.tmp 14) (.skip)
         (.exit 0)))
       (.seq (.block 1 (.seq (.region false [⟨(some 17), .move (.tmp 0), none, [], false, false⟩,
             ⟨(some 18), .move (.tmp 7), none, [], false, false⟩,
             ⟨(some 19), .indexAddr none 2 (.tmp 17) (.tmp 18), none, [], false, false⟩,
             ⟨(some 20), .indexAddr (some 2) 1 (.tmp 19) (.const (.int .i64 0)), none, [], false, false⟩,
             ⟨(some 21), .load false 1 (.tmp 20), none, [], false, false⟩,
             ⟨(some 22), .move (.tmp 1), none, [], false, false⟩,
             ⟨(some 23), .move (.tmp 2), none, [], false, false⟩,
             ⟨(some 24), .call 18 [(.tmp 21), (.tmp 22), (.tmp 23)], none, [], false, false⟩,
             ⟨(some 25), .un .not (.tmp 24), none, [], false, false⟩,
             ⟨(some 26), .move (.tmp 25), none, [], false, false⟩,
             ⟨(some 27), .move (.tmp 0), (some (26, false)), [], false, false⟩,
             ⟨(some 28), .move (.tmp 7), (some (26, false)), [], false, false⟩,
             ⟨(some 29), .indexAddr none 2 (.tmp 27) (.tmp 28), (some (26, false)), [], false, false⟩,
             ⟨(some 30), .indexAddr (some 2) 1 (.tmp 29) (.const (.int .i64 1)), (some (26, false)), [], false, false⟩,
             ⟨(some 31), .load false 1 (.tmp 30), (some (26, false)), [], false, false⟩,
             ⟨(some 32), .call 18 [(.tmp 31), (.const (.int .i64 (-1000000))), (.const (.int .i64 1000000))], (some (26, false)), [], false, false⟩,
             ⟨(some 33), .un .not (.tmp 32), (some (26, false)), [], false, false⟩,
             ⟨(some 34), .pick (.tmp 26) (.const (.bool true)) (.tmp 33), none, [], false, false⟩])
          (.cond (.tmp 34) (.seq (.region false [⟨(some 6), .move (.const (.int .i64 2)), none, [], false, false⟩])
            (.ret))
           (.skip))))
        (.region false [⟨(some 15), .move (.tmp 7), none, [], false, false⟩,
           ⟨(some 16), .bin .add (.tmp 15) (.const (.int .i64 1)), none, [], false, false⟩,
           ⟨(some 7), .move (.tmp 16), none, [], false, false⟩]))))))
   (.seq (.region false [⟨(some 6), .move (.const (.int .i64 0)), none, [], false, false⟩])
    (.ret)))),
 [.tmp 6], .pure, 35⟩

/-- agraffe/agrafferef03.IsPlace -/
def ef48 : EFun := ⟨
 .seq (.region false [⟨(some 1), .box (.tmp 0), none, [], false, false⟩,
    ⟨(some 2), .move (.const (.bool false)), none, [], false, false⟩])
 (.seq (.region false [⟨(some 3), .load true 3 (.tmp 1), none, [], false, false⟩,
     ⟨(some 4), .call 100 [(.tmp 3), (.const (.int .i64 1000000))], none, [], false, false⟩,
     ⟨(some 2), .move (.tmp 4), none, [], false, false⟩])
  (.ret)),
 [.tmp 2], .pure, 5⟩

/-- agraffe/plate.Reactions -/
def ef49 : EFun := ⟨
 .seq (.region false [⟨(some 2), .box (.tmp 0), none, [], false, false⟩,
    ⟨(some 4), .push [(.int .i64 0), (.int .i64 0), (.int .i64 0), (.int .i64 0)], none, [], false, false⟩,
    ⟨(some 5), .move (.const (.int .i64 0)), none, [], false, false⟩])
 (.seq (.seq (.region false [⟨(some 10), .load true 3 (.tmp 2), none, [], false, false⟩,
      ⟨(some 11), .move (.tmp 1), none, [], false, false⟩,
      ⟨(some 12), .call 101 [(.tmp 10), (.tmp 11)], none, [], false, false⟩,
      ⟨(some 6), .move (.tmp 12), none, [], false, false⟩])
   (.seq (.region false [⟨(some 13), .move (.tmp 6), none, [], false, false⟩,
       ⟨(some 14), .bin .neq (.tmp 13) (.const (.int .i64 0)), none, [], false, false⟩])
    (.cond (.tmp 14) (.seq (.region false [⟨(some 15), .build [(.int .i64 0), (.int .i64 0), (.int .i64 0), (.int .i64 0)] [], none, [], false, false⟩,
         ⟨(some 16), .move (.tmp 6), none, [], false, false⟩,
         ⟨none, .store 4 (.tmp 4) (.tmp 15), none, [], false, false⟩,
         ⟨(some 5), .move (.tmp 16), none, [], false, false⟩])
      (.ret))
     (.skip))))
  (.seq (.region false [⟨(some 17), .load true 3 (.tmp 2), none, [], false, false⟩,
      ⟨(some 18), .move (.tmp 1), none, [], false, false⟩,
      ⟨(some 19), .call 102 [(.tmp 17), (.tmp 18)], none, [], false, false⟩,
      ⟨(some 7), .push [(.int .i64 0), (.int .i64 0), (.int .i64 0), (.slice none 0 0)], none, [], false, false⟩,
      ⟨none, .store 4 (.tmp 7) (.tmp 19), none, [], false, false⟩])
   (.seq (.region false [⟨(some 21), .load true 4 (.tmp 7), none, [], false, false⟩,
       ⟨(some 22), .call 103 [(.tmp 21)], none, [], false, false⟩,
       ⟨(some 20), .move (.tmp 22), none, [], false, false⟩,
       ⟨(some 23), .extract (.tmp 20) 0, none, [], false, false⟩,
       ⟨(some 24), .extract (.tmp 20) 1, none, [], false, false⟩,
       ⟨(some 8), .move (.tmp 23), none, [], false, false⟩,
       ⟨(some 9), .move (.tmp 24), none, [], false, false⟩])
    (.seq (.region true [⟨(some 25), .move (.tmp 8), none, [], false, false⟩,
        ⟨(some 26), .load true 4 (.tmp 7), none, [], false, false⟩,
        ⟨(some 27), .call 105 [(.tmp 26)], none, [], false, true⟩,
        ⟨(some 28), .call 104 [(.tmp 25), (.tmp 27)], none, [], false, true⟩,
        ⟨(some 29), .move (.tmp 9), none, [], false, false⟩,
        ⟨(some 30), .load true 4 (.tmp 7), none, [], false, false⟩,
        ⟨(some 31), .call 105 [(.tmp 30)], none, [], false, false⟩,
        ⟨(some 32), .call 104 [(.tmp 29), (.tmp 31)], none, [], false, false⟩,
        ⟨(some 33), .build [(.int .i64 0), (.int .i64 0), (.int .i64 0), (.int .i64 0)] [(0, 2, (.tmp 28)), (2, 2, (.tmp 32))], none, [], false, false⟩,
        ⟨none, .store 4 (.tmp 4) (.tmp 33), none, [], false, false⟩,
        ⟨(some 5), .move (.const (.int .i64 0)), none, [], false, false⟩])
     (.ret))))),
 [.cell 4 true 4, .tmp 5], .pure, 34⟩

/-- agraffe/plate.Balanced -/
def ef50 : EFun := ⟨
 .seq (.region false [⟨(some 2), .move (.const (.bool false)), none, [], false, false⟩,
    ⟨(some 3), .move (.const (.int .i64 0)), none, [], false, false⟩])
 (.seq (.seq (.region false [⟨(some 5), .move (.tmp 0), none, [], false, false⟩,
      ⟨(some 6), .call 106 [(.tmp 5)], none, [], false, false⟩,
      ⟨(some 4), .move (.tmp 6), none, [], false, false⟩])
   (.seq (.region false [⟨(some 7), .move (.tmp 4), none, [], false, false⟩,
       ⟨(some 8), .bin .neq (.tmp 7) (.const (.int .i64 0)), none, [], false, false⟩])
    (.cond (.tmp 8) (.seq (.region false [⟨(some 9), .move (.tmp 4), none, [], false, false⟩,
         ⟨(some 2), .move (.const (.bool false)), none, [], false, false⟩,
         ⟨(some 3), .move (.tmp 9), none, [], false, false⟩])
      (.ret))
     (.skip))))
  (.seq (.region false [⟨(some 10), .move (.tmp 0), none, [], false, false⟩,
      ⟨(some 11), .call 107 [(.tmp 10)], none, [], false, false⟩,
      ⟨(some 12), .build [(.int .i64 0), (.int .i64 0), (.int .i64 0)] [], none, [], false, false⟩,
      ⟨(some 13), .eqAgg false [(.int .i64), (.int .i64), (.int .i64)] (.tmp 11) (.tmp 12), none, [], false, false⟩,
      ⟨(some 14), .move (.tmp 13), none, [], false, false⟩,
      ⟨(some 15), .move (.tmp 0), (some (14, true)), [], false, false⟩,
      ⟨(some 16), .build [(.int .i64 0), (.int .i64 0), (.int .i64 0)] [], (some (14, true)), [], false, false⟩,
      ⟨(some 17), .call 108 [(.tmp 15), (.tmp 16)], (some (14, true)), [], false, false⟩,
      ⟨(some 18), .build [(.int .i64 0), (.int .i64 0), (.int .i64 0)] [], (some (14, true)), [], false, false⟩,
      ⟨(some 19), .eqAgg false [(.int .i64), (.int .i64), (.int .i64)] (.tmp 17) (.tmp 18), (some (14, true)), [], false, false⟩,
      ⟨(some 20), .pick (.tmp 14) (.tmp 19) (.const (.bool false)), none, [], false, false⟩,
      ⟨(some 2), .move (.tmp 20), none, [], false, false⟩,
      ⟨(some 3), .move (.const (.int .i64 0)), none, [], false, false⟩])
   (.ret))),
 [.tmp 2, .tmp 3], .pure, 21⟩

/-- agraffe/plate.Moment -/
def ef51 : EFun := ⟨
 .seq (.region false [⟨(some 3), .box (.tmp 1), none, [], false, false⟩,
    ⟨(some 4), .push [(.int .i64 0), (.int .i64 0), (.int .i64 0)], none, [], false, false⟩,
    ⟨(some 5), .move (.const (.int .i64 0)), none, [], false, false⟩])
 (.seq (.seq (.region false [⟨(some 7), .move (.tmp 0), none, [], false, false⟩,
      ⟨(some 8), .load true 3 (.tmp 3), none, [], false, false⟩,
      ⟨(some 9), .call 109 [(.tmp 7), (.tmp 8)], none, [], false, false⟩,
      ⟨(some 6), .move (.tmp 9), none, [], false, false⟩])
   (.seq (.region false [⟨(some 10), .move (.tmp 6), none, [], false, false⟩,
       ⟨(some 11), .bin .neq (.tmp 10) (.const (.int .i64 0)), none, [], false, false⟩])
    (.cond (.tmp 11) (.seq (.region false [⟨(some 12), .build [(.int .i64 0), (.int .i64 0), (.int .i64 0)] [], none, [], false, false⟩,
         ⟨(some 13), .move (.tmp 6), none, [], false, false⟩,
         ⟨none, .store 3 (.tmp 4) (.tmp 12), none, [], false, false⟩,
         ⟨(some 5), .move (.tmp 13), none, [], false, false⟩])
      (.ret))
     (.skip))))
  (.seq (.region false [⟨(some 14), .move (.tmp 0), none, [], false, false⟩,
      ⟨(some 15), .load true 3 (.tmp 3), none, [], false, false⟩,
      ⟨(some 16), .call 108 [(.tmp 14), (.tmp 15)], none, [], false, false⟩,
      ⟨none, .store 3 (.tmp 4) (.tmp 16), none, [], false, false⟩,
      ⟨(some 5), .move (.const (.int .i64 0)), none, [], false, false⟩])
   (.ret))),
 [.cell 4 true 3, .tmp 5], .pure, 17⟩

/-- agraffe/plate.Balance -/
def ef52 : EFun := ⟨
 .seq (.region false [⟨(some 3), .box (.tmp 1), none, [], false, false⟩,
    ⟨(some 4), .push [(.int .i64 0), (.int .i64 0), (.int .i64 0), (.int .i64 0), (.int .i64 0), (.int .i64 0)], none, [], false, false⟩,
    ⟨(some 5), .push [(.int .i64 0), (.int .i64 0), (.int .i64 0)], none, [], false, false⟩,
    ⟨(some 6), .move (.const (.int .i64 0)), none, [], false, false⟩])
 (.seq (.seq (.region false [⟨(some 8), .move (.tmp 0), none, [], false, false⟩,
      ⟨(some 9), .load true 3 (.tmp 3), none, [], false, false⟩,
      ⟨(some 10), .call 109 [(.tmp 8), (.tmp 9)], none, [], false, false⟩,
      ⟨(some 7), .move (.tmp 10), none, [], false, false⟩])
   (.seq (.region false [⟨(some 11), .move (.tmp 7), none, [], false, false⟩,
       ⟨(some 12), .bin .neq (.tmp 11) (.const (.int .i64 0)), none, [], false, false⟩])
    (.cond (.tmp 12) (.seq (.region false [⟨(some 13), .build [(.int .i64 0), (.int .i64 0), (.int .i64 0), (.int .i64 0), (.int .i64 0), (.int .i64 0)] [], none, [], false, false⟩,
         ⟨(some 14), .build [(.int .i64 0), (.int .i64 0), (.int .i64 0)] [], none, [], false, false⟩,
         ⟨(some 15), .move (.tmp 7), none, [], false, false⟩,
         ⟨none, .store 6 (.tmp 4) (.tmp 13), none, [], false, false⟩,
         ⟨none, .store 3 (.tmp 5) (.tmp 14), none, [], false, false⟩,
         ⟨(some 6), .move (.tmp 15), none, [], false, false⟩])
      (.ret))
     (.skip))))
  (.seq (.region true [⟨(some 16), .load true 3 (.tmp 3), none, [], false, false⟩,
      ⟨(some 17), .build [(.int .i64 0), (.int .i64 0), (.int .i64 0)] [], none, [], false, false⟩,
      ⟨(some 18), .move (.tmp 0), none, [], false, false⟩,
      ⟨(some 19), .call 107 [(.tmp 18)], none, [], false, true⟩,
      ⟨(some 20), .call 110 [(.tmp 17), (.tmp 19), (.const (.int .i64 (-1)))], none, [], false, true⟩,
      ⟨(some 21), .build [(.int .i64 0), (.int .i64 0), (.int .i64 0), (.int .i64 0), (.int .i64 0), (.int .i64 0)] [(0, 3, (.tmp 16)), (3, 3, (.tmp 20))], none, [], false, false⟩,
      ⟨(some 22), .build [(.int .i64 0), (.int .i64 0), (.int .i64 0)] [], none, [], false, false⟩,
      ⟨(some 23), .move (.tmp 0), none, [], false, false⟩,
      ⟨(some 24), .load true 3 (.tmp 3), none, [], false, false⟩,
      ⟨(some 25), .call 108 [(.tmp 23), (.tmp 24)], none, [], false, true⟩,
      ⟨(some 26), .call 110 [(.tmp 22), (.tmp 25), (.const (.int .i64 (-1)))], none, [], false, true⟩,
      ⟨none, .store 6 (.tmp 4) (.tmp 21), none, [], false, false⟩,
      ⟨none, .store 3 (.tmp 5) (.tmp 26), none, [], false, false⟩,
      ⟨(some 6), .move (.const (.int .i64 0)), none, [], false, false⟩])
   (.ret))),
 [.cell 4 true 6, .cell 5 true 3, .tmp 6], .pure, 27⟩

/-- agraffe/number.Enclose -/
def ef57 : EFun := ⟨
 .seq (.region false [⟨(some 2), .box (.tmp 0), none, [], false, false⟩,
    ⟨(some 4), .push [(.int .i64 0), (.int .i64 0)], none, [], false, false⟩,
    ⟨(some 5), .move (.const (.int .i64 0)), none, [], false, false⟩])
 (.seq (.seq (.region false [⟨(some 13), .load true 4 (.tmp 2), none, [], false, false⟩,
      ⟨(some 14), .call 120 [(.tmp 13)], none, [], false, false⟩,
      ⟨(some 6), .move (.tmp 14), none, [], false, false⟩])
   (.seq (.region false [⟨(some 15), .move (.tmp 6), none, [], false, false⟩,
       ⟨(some 16), .bin .neq (.tmp 15) (.const (.int .i64 0)), none, [], false, false⟩])
    (.cond (.tmp 16) (.seq (.region false [⟨(some 17), .build [(.int .i64 0), (.int .i64 0)] [], none, [], false, false⟩,
         ⟨(some 18), .move (.tmp 6), none, [], false, false⟩,
         ⟨none, .store 2 (.tmp 4) (.tmp 17), none, [], false, false⟩,
         ⟨(some 5), .move (.tmp 18), none, [], false, false⟩])
      (.ret))
     (.skip))))
  (.seq (.seq (.region false [⟨(some 19), .move (.tmp 1), none, [], false, false⟩,
       ⟨(some 20), .call 121 [(.tmp 19), (.const (.int .i64 1)), (.const (.int .i64 1000000000))], none, [], false, false⟩,
       ⟨(some 21), .un .not (.tmp 20), none, [], false, false⟩])
    (.cond (.tmp 21) (.seq (.region false [⟨(some 22), .build [(.int .i64 0), (.int .i64 0)] [], none, [], false, false⟩,
         ⟨none, .store 2 (.tmp 4) (.tmp 22), none, [], false, false⟩,
         ⟨(some 5), .move (.const (.int .i64 2)), none, [], false, false⟩])
      (.ret))
     (.skip)))
   (.seq (.region false [⟨(some 23), .load true 4 (.tmp 2), none, [], false, false⟩,
       ⟨(some 24), .call 122 [(.tmp 23)], none, [], false, false⟩,
       ⟨none, .store 4 (.tmp 2) (.tmp 24), none, [], false, false⟩])
    (.seq (.region false [⟨(some 25), .load true 4 (.tmp 2), none, [], false, false⟩,
        ⟨(some 26), .call 124 [(.tmp 25)], none, [], false, false⟩,
        ⟨(some 27), .call 123 [(.tmp 26)], none, [], false, false⟩,
        ⟨(some 7), .push [(.slice none 0 0), (.slice none 0 0)], none, [], false, false⟩,
        ⟨none, .store 2 (.tmp 7) (.tmp 27), none, [], false, false⟩])
     (.seq (.region false [⟨(some 28), .move (.tmp 1), none, [], false, false⟩,
         ⟨(some 29), .conv .u64 (.tmp 28), none, [], false, false⟩,
         ⟨(some 30), .fieldAddr 3 (.tmp 2), none, [], false, false⟩,
         ⟨(some 31), .load false 1 (.tmp 30), none, [], false, false⟩,
         ⟨(some 32), .fieldAddr 0 (.tmp 7), none, [], false, false⟩,
         ⟨(some 33), .load false 1 (.tmp 32), none, [], false, false⟩,
         ⟨(some 34), .call 125 [(.tmp 29), (.tmp 31), (.tmp 33)], none, [], false, false⟩,
         ⟨(some 35), .fieldAddr 0 (.tmp 7), none, [], false, false⟩,
         ⟨none, .store 1 (.tmp 35) (.tmp 34), none, [], false, false⟩])
      (.seq (.region false [⟨(some 36), .makeFunc (.func 126) [(.tmp 2), (.tmp 7)], none, [], false, false⟩,
          ⟨(some 8), .move (.tmp 36), none, [], false, false⟩])
       (.seq (.region false [⟨(some 9), .move (.const (.int .i64 0)), none, [], false, false⟩,
           ⟨(some 10), .move (.const (.int .i64 1000000000000001)), none, [], false, false⟩])
        (.seq (.block 0 (.loop (some [4, 8, 9, 10]) (
           .seq (.seq (.region false [⟨(some 37), .move (.tmp 9), none, [], false, false⟩,
                ⟨(some 38), .move (.tmp 10), none, [], false, false⟩,
                ⟨(some 39), .bin .lss (.tmp 37) (.tmp 38), none, [], false, false⟩])
             (.cond (.tmp 39) (.skip)
              (.exit 0)))
            (.block 1 (.seq (.region false [⟨(some 40), .move (.tmp 10), none, [], false, false⟩,
                 ⟨(some 41), .move (.tmp 10), none, [], false, false⟩,
                 ⟨(some 42), .move (.tmp 9), none, [], false, false⟩,
                 ⟨(some 43), .bin .sub (.tmp 41) (.tmp 42), none, [], false, false⟩,
                 ⟨(some 44), .bin .quo (.tmp 43) (.const (.int .i64 2)), none, [], false, false⟩,
                 ⟨(some 45), .bin .sub (.tmp 40) (.tmp 44), none, [], false, false⟩,
                 ⟨(some 11), .move (.tmp 45), none, [], false, false⟩])
              (.seq (.region false [⟨(some 46), .move (.tmp 8), none, [], false, false⟩,
                  ⟨(some 47), .move (.tmp 11), none, [], false, false⟩,
                  ⟨(some 48), .callVal (.tmp 46) [(.tmp 47)], none, [], false, false⟩,
                  ⟨(some 49), .bin .leq (.tmp 48) (.const (.int .i64 0)), none, [], false, false⟩])
               (.cond (.tmp 49) (.region false [⟨(some 50), .move (.tmp 11), none, [], false, false⟩,
                   ⟨(some 9), .move (.tmp 50), none, [], false, false⟩])
                (.region false [⟨(some 51), .move (.tmp 11), none, [], false, false⟩,
                   ⟨(some 52), .bin .sub (.tmp 51) (.const (.int .i64 1)), none, [], false, false⟩,
                   ⟨(some 10), .move (.tmp 52), none, [], false, false⟩]))))))))
         (.seq (.region false [⟨(some 53), .move (.tmp 9), none, [], false, false⟩,
             ⟨(some 54), .move (.tmp 9), none, [], false, false⟩,
             ⟨(some 55), .build [(.int .i64 0), (.int .i64 0)] [(0, 1, (.tmp 53)), (1, 1, (.tmp 54))], none, [], false, false⟩,
             ⟨(some 12), .push [(.int .i64 0), (.int .i64 0)], none, [], false, false⟩,
             ⟨none, .store 2 (.tmp 12) (.tmp 55), none, [], false, false⟩])
          (.seq (.seq (.region false [⟨(some 56), .move (.tmp 9), none, [], false, false⟩,
               ⟨(some 57), .bin .eql (.tmp 56) (.const (.int .i64 0)), none, [], false, false⟩,
               ⟨(some 58), .move (.tmp 57), none, [], false, false⟩,
               ⟨(some 59), .move (.tmp 8), (some (58, false)), [], false, false⟩,
               ⟨(some 60), .move (.tmp 9), (some (58, false)), [], false, false⟩,
               ⟨(some 61), .callVal (.tmp 59) [(.tmp 60)], (some (58, false)), [], false, false⟩,
               ⟨(some 62), .bin .neq (.tmp 61) (.const (.int .i64 0)), (some (58, false)), [], false, false⟩,
               ⟨(some 63), .pick (.tmp 58) (.const (.bool true)) (.tmp 62), none, [], false, false⟩])
            (.cond (.tmp 63) (.region false [⟨(some 64), .fieldAddr 1 (.tmp 12), none, [], false, false⟩,
                ⟨(some 65), .load false 1 (.tmp 64), none, [], false, false⟩,
                ⟨(some 66), .bin .add (.tmp 65) (.const (.int .i64 1)), none, [], false, false⟩,
                ⟨(some 67), .fieldAddr 1 (.tmp 12), none, [], false, false⟩,
                ⟨none, .store 1 (.tmp 67) (.tmp 66), none, [], false, false⟩])
             (.skip)))
           (.seq (.region false [⟨(some 68), .load true 2 (.tmp 12), none, [], false, false⟩,
               ⟨(some 69), .call 128 [(.tmp 68)], none, [], false, false⟩,
               ⟨(some 70), .extract (.tmp 69) 0, none, [], false, false⟩,
               ⟨(some 71), .extract (.tmp 69) 1, none, [], false, false⟩,
               ⟨none, .store 2 (.tmp 4) (.tmp 70), none, [], false, false⟩,
               ⟨(some 5), .move (.tmp 71), none, [], false, false⟩])
            (.ret)))))))))))),
 [.cell 4 true 2, .tmp 5], .pure, 72⟩

/-- agraffe/scale.Tension -/
def ef58 : EFun := ⟨
 .seq (.region false [⟨(some 4), .box (.tmp 1), none, [], false, false⟩,
    ⟨(some 5), .box (.tmp 2), none, [], false, false⟩,
    ⟨(some 6), .push [(.int .i64 0), (.int .i64 0)], none, [], false, false⟩,
    ⟨(some 7), .move (.const (.int .i64 0)), none, [], false, false⟩])
 (.seq (.region false [⟨(some 11), .move (.tmp 0), none, [], false, false⟩,
     ⟨(some 12), .load true 5 (.tmp 4), none, [], false, false⟩,
     ⟨(some 13), .load true 2 (.tmp 5), none, [], false, false⟩,
     ⟨(some 14), .call 129 [(.tmp 11), (.tmp 12), (.tmp 13)], none, [], false, false⟩,
     ⟨(some 10), .move (.tmp 14), none, [], false, false⟩,
     ⟨(some 15), .extract (.tmp 10) 0, none, [], false, false⟩,
     ⟨(some 16), .extract (.tmp 10) 1, none, [], false, false⟩,
     ⟨(some 8), .push [(.string ⟨#[]⟩), (.int .i64 0), (.int .i64 0), (.int .i64 0), (.int .i64 0), (.int .i64 0), (.int .i64 0), (.string ⟨#[]⟩), (.string ⟨#[]⟩), (.int .i64 0), (.int .i64 0), (.int .i64 0), (.int .i64 0)], none, [], false, false⟩,
     ⟨none, .store 13 (.tmp 8) (.tmp 15), none, [], false, false⟩,
     ⟨(some 9), .move (.tmp 16), none, [], false, false⟩])
  (.seq (.region false [⟨(some 17), .fieldAddr 11 (.tmp 8), none, [], false, false⟩,
      ⟨(some 18), .load true 2 (.tmp 17), none, [], false, false⟩,
      ⟨(some 19), .move (.tmp 9), none, [], false, false⟩,
      ⟨none, .store 2 (.tmp 6) (.tmp 18), none, [], false, false⟩,
      ⟨(some 7), .move (.tmp 19), none, [], false, false⟩])
   (.ret))),
 [.cell 6 true 2, .tmp 7], .pure, 20⟩

/-- agraffe/agraffelaw02.Steel -/
def ef60 : EFun := ⟨
 .seq (.region false [⟨(some 0), .move (.const (.slice none 0 0)), none, [], false, false⟩])
 (.seq (.region false [⟨(some 1), .build [(.string ⟨#[]⟩), (.int .i64 0), (.int .i64 0), (.int .i64 0)] [(0, 1, (.const (.string ⟨#[115, 116, 101, 101, 108]⟩))), (1, 1, (.const (.int .i64 24661))), (2, 1, (.const (.int .i64 180000))), (3, 1, (.const (.int .i64 97000000)))], none, [], false, false⟩,
     ⟨(some 2), .buildSlice 4 1 [(.string ⟨#[]⟩), (.int .i64 0), (.int .i64 0), (.int .i64 0)] [(0, 4, (.tmp 1))], none, [], false, false⟩,
     ⟨(some 0), .move (.tmp 2), none, [], false, false⟩])
  (.ret)),
 [.tmp 0], .pure, 3⟩

/-- agraffe/agraffelaw02.Plain -/
def ef61 : EFun := ⟨
 .seq (.region false [⟨(some 0), .push [(.int .i64 0), (.int .i64 0), (.int .i64 0), (.string ⟨#[]⟩), (.string ⟨#[]⟩)], none, [], false, false⟩])
 (.seq (.region false [⟨(some 1), .build [(.int .i64 0), (.int .i64 0), (.int .i64 0), (.string ⟨#[]⟩), (.string ⟨#[]⟩)] [(0, 1, (.const (.int .i64 40000))), (1, 1, (.const (.int .i64 1000))), (3, 1, (.const (.string ⟨#[115, 116, 101, 101, 108]⟩)))], none, [], false, false⟩,
     ⟨none, .store 5 (.tmp 0) (.tmp 1), none, [], false, false⟩])
  (.ret)),
 [.cell 0 true 5], .pure, 2⟩

/-- agraffe/scale.within -/
def ef69 : EFun := ⟨
 .seq (.region false [⟨(some 6), .move (.const (.bool false)), none, [], false, false⟩])
 (.seq (.region false [⟨(some 7), .move (.tmp 1), none, [], false, false⟩,
     ⟨(some 8), .move (.tmp 0), none, [], false, false⟩,
     ⟨(some 9), .bin .leq (.tmp 7) (.tmp 8), none, [], false, false⟩,
     ⟨(some 10), .move (.tmp 9), none, [], false, false⟩,
     ⟨(some 11), .move (.tmp 0), (some (10, true)), [], false, false⟩,
     ⟨(some 12), .move (.tmp 2), (some (10, true)), [], false, false⟩,
     ⟨(some 13), .bin .leq (.tmp 11) (.tmp 12), (some (10, true)), [], false, false⟩,
     ⟨(some 14), .pick (.tmp 10) (.tmp 13) (.const (.bool false)), none, [], false, false⟩,
     ⟨(some 6), .move (.tmp 14), none, [], false, false⟩])
  (.ret)),
 [.tmp 6], .pure, 15⟩

/-- agraffe/scale.CheckWires -/
def ef70 : EFun := ⟨
 .seq (.region false [⟨(some 2), .move (.const (.int .i64 0)), none, [], false, false⟩])
 (.seq (.seq (.region false [⟨(some 6), .move (.tmp 0), none, [], false, false⟩,
      ⟨(some 7), .len false (.tmp 6), none, [], false, false⟩,
      ⟨(some 8), .bin .gtr (.tmp 7) (.const (.int .i64 20)), none, [], false, false⟩])
   (.cond (.tmp 8) (.seq (.region false [⟨(some 2), .move (.const (.int .i64 8)), none, [], false, false⟩])
     (.ret))
    (.skip)))
  (.seq (.region false [⟨(some 9), .makeMap, none, [], false, false⟩,
      ⟨(some 3), .move (.tmp 9), none, [], false, false⟩])
   (.seq (.seq (.region false [⟨(some 10), .move (.tmp 0), none, [], false, false⟩,
        ⟨(some 11), .len false (.tmp 10), none, [], false, false⟩,
        ⟨(some 12), .move (.const (.int .i64 0)), none, [], false, false⟩])
     (.block 0 (.loop (some [3, 10, 11, 12]) (
       .seq (.region false [⟨(some 13), .bin .lss (.tmp 12) (.tmp 11), none, [], false, false⟩])
        (.seq (.cond (.tmp 13) (.skip)
          (.exit 0))
         (.seq (.block 1 (.seq (.region false [⟨(some 14), .indexAddr none 4 (.tmp 10) (.tmp 12), none, [], false, false⟩,
               ⟨(some 15), .load true 4 (.tmp 14), none, [], false, false⟩,
               ⟨(some 5), .push [(.string ⟨#[]⟩), (.int .i64 0), (.int .i64 0), (.int .i64 0)], none, [], false, false⟩,
               ⟨none, .store 4 (.tmp 5) (.tmp 15), none, [], false, false⟩])
            (.seq (.block 2 (.seq (.region false [⟨(some 17), .fieldAddr 0 (.tmp 5), none, [], false, false⟩,
                  ⟨(some 18), .load false 1 (.tmp 17), none, [], false, false⟩,
                  ⟨(some 19), .call 131 [(.tmp 18)], none, [], false, false⟩,
                  ⟨(some 20), .un .not (.tmp 19), none, [], false, false⟩,
                  ⟨(some 16), .move (.tmp 20), none, [], false, false⟩])
               (.cond (.tmp 16) (.seq (.region false [⟨(some 2), .move (.const (.int .i64 4)), none, [], false, false⟩])
                 (.ret))
                (.seq (.region false [⟨(some 22), .move (.tmp 3), none, [], false, false⟩,
                    ⟨(some 23), .fieldAddr 0 (.tmp 5), none, [], false, false⟩,
                    ⟨(some 24), .load false 1 (.tmp 23), none, [], false, false⟩,
                    ⟨(some 25), .mapGet .str (.bool false) false (.tmp 22) (.tmp 24), none, [], false, false⟩,
                    ⟨(some 21), .move (.tmp 25), none, [], false, false⟩])
                 (.cond (.tmp 21) (.seq (.region false [⟨(some 2), .move (.const (.int .i64 5)), none, [], false, false⟩])
                   (.ret))
                  (.seq (.region false [⟨(some 27), .fieldAddr 1 (.tmp 5), none, [], false, false⟩,
                      ⟨(some 28), .load false 1 (.tmp 27), none, [], false, false⟩,
                      ⟨(some 29), .call 69 [(.tmp 28), (.const (.int .i64 1)), (.const (.int .i64 200000))], none, [], false, false⟩,
                      ⟨(some 30), .un .not (.tmp 29), none, [], false, false⟩,
                      ⟨(some 31), .move (.tmp 30), none, [], false, false⟩,
                      ⟨(some 32), .fieldAddr 2 (.tmp 5), (some (31, false)), [], false, false⟩,
                      ⟨(some 33), .load false 1 (.tmp 32), (some (31, false)), [], false, false⟩,
                      ⟨(some 34), .call 69 [(.tmp 33), (.const (.int .i64 1)), (.const (.int .i64 1000000))], (some (31, false)), [], false, false⟩,
                      ⟨(some 35), .un .not (.tmp 34), (some (31, false)), [], false, false⟩,
                      ⟨(some 36), .pick (.tmp 31) (.const (.bool true)) (.tmp 35), none, [], false, false⟩,
                      ⟨(some 37), .move (.tmp 36), none, [], false, false⟩,
                      ⟨(some 38), .fieldAddr 3 (.tmp 5), (some (37, false)), [], false, false⟩,
                      ⟨(some 39), .load false 1 (.tmp 38), (some (37, false)), [], false, false⟩,
                      ⟨(some 40), .call 69 [(.tmp 39), (.const (.int .i64 0)), (.const (.int .i64 100000000))], (some (37, false)), [], false, false⟩,
                      ⟨(some 41), .un .not (.tmp 40), (some (37, false)), [], false, false⟩,
                      ⟨(some 42), .pick (.tmp 37) (.const (.bool true)) (.tmp 41), none, [], false, false⟩,
                      ⟨(some 26), .move (.tmp 42), none, [], false, false⟩])
                   (.cond (.tmp 26) (.seq (.region false [⟨(some 2), .move (.const (.int .i64 2)), none, [], false, false⟩])
                     (.ret))
                    (.skip))))))))
             (.region false [⟨(some 43), .move (.tmp 3), none, [], false, false⟩,
                ⟨(some 44), .fieldAddr 0 (.tmp 5), none, [], false, false⟩,
                ⟨(some 45), .load false 1 (.tmp 44), none, [], false, false⟩,
                ⟨none, .mapSet .str (.tmp 43) (.tmp 45) (.const (.bool true)), none, [], false, false⟩]))))
          (.region false [⟨(some 46), .bin .add (.tmp 12) (.const (.int .i64 1)), none, [], false, false⟩,
             ⟨(some 12), .move (.tmp 46), none, [], false, false⟩])))))))
    (.seq (.region false [⟨(some 2), .move (.const (.int .i64 0)), none, [], false, false⟩])
     (.ret))))),
 [.tmp 2], .pure, 47⟩

/-- agraffe/scale.sounding -/
def ef89 : EFun := ⟨
 .seq (.region false [⟨(some 4), .box (.tmp 1), none, [], false, false⟩,
    ⟨(some 5), .box (.tmp 2), none, [], false, false⟩,
    ⟨(some 6), .push [(.string ⟨#[]⟩), (.int .i64 0), (.int .i64 0), (.int .i64 0), (.int .i64 0), (.int .i64 0), (.int .i64 0), (.string ⟨#[]⟩), (.string ⟨#[]⟩), (.int .i64 0), (.int .i64 0), (.int .i64 0), (.int .i64 0)], none, [], false, false⟩])
 (.seq (.region false [⟨(some 14), .move (.tmp 0), none, [], false, false⟩,
     ⟨(some 15), .fieldAddr 3 (.tmp 4), none, [], false, false⟩,
     ⟨(some 16), .load false 1 (.tmp 15), none, [], false, false⟩,
     ⟨(some 17), .call 145 [(.tmp 14), (.tmp 16)], none, [], false, false⟩,
     ⟨(some 13), .move (.tmp 17), none, [], false, false⟩,
     ⟨(some 18), .extract (.tmp 13) 0, none, [], false, false⟩,
     ⟨(some 19), .extract (.tmp 13) 1, none, [], false, false⟩,
     ⟨(some 7), .push [(.string ⟨#[]⟩), (.int .i64 0), (.int .i64 0), (.int .i64 0)], none, [], false, false⟩,
     ⟨none, .store 4 (.tmp 7) (.tmp 18), none, [], false, false⟩,
     ⟨(some 8), .move (.tmp 19), none, [], false, false⟩])
  (.seq (.region false [⟨(some 20), .fieldAddr 0 (.tmp 5), none, [], false, false⟩,
      ⟨(some 21), .load false 1 (.tmp 20), none, [], false, false⟩,
      ⟨(some 22), .fieldAddr 0 (.tmp 4), none, [], false, false⟩,
      ⟨(some 23), .load false 1 (.tmp 22), none, [], false, false⟩,
      ⟨(some 24), .bin .mul (.tmp 21) (.tmp 23), none, [], false, false⟩,
      ⟨(some 25), .fieldAddr 1 (.tmp 5), none, [], false, false⟩,
      ⟨(some 26), .load false 1 (.tmp 25), none, [], false, false⟩,
      ⟨(some 27), .fieldAddr 0 (.tmp 4), none, [], false, false⟩,
      ⟨(some 28), .load false 1 (.tmp 27), none, [], false, false⟩,
      ⟨(some 29), .bin .mul (.tmp 26) (.tmp 28), none, [], false, false⟩,
      ⟨(some 30), .call 146 [(.tmp 24), (.tmp 29), (.const (.int .i64 1000000))], none, [], false, false⟩,
      ⟨(some 9), .push [(.int .i64 0), (.int .i64 0)], none, [], false, false⟩,
      ⟨none, .store 2 (.tmp 9) (.tmp 30), none, [], false, false⟩])
   (.seq (.region false [⟨(some 31), .fieldAddr 0 (.tmp 9), none, [], false, false⟩,
       ⟨(some 32), .load false 1 (.tmp 31), none, [], false, false⟩,
       ⟨(some 33), .fieldAddr 0 (.tmp 9), none, [], false, false⟩,
       ⟨(some 34), .load false 1 (.tmp 33), none, [], false, false⟩,
       ⟨(some 35), .bin .mul (.tmp 32) (.tmp 34), none, [], false, false⟩,
       ⟨(some 36), .fieldAddr 1 (.tmp 9), none, [], false, false⟩,
       ⟨(some 37), .load false 1 (.tmp 36), none, [], false, false⟩,
       ⟨(some 38), .fieldAddr 1 (.tmp 9), none, [], false, false⟩,
       ⟨(some 39), .load false 1 (.tmp 38), none, [], false, false⟩,
       ⟨(some 40), .bin .mul (.tmp 37) (.tmp 39), none, [], false, false⟩,
       ⟨(some 41), .call 146 [(.tmp 35), (.tmp 40), (.const (.int .i64 10000))], none, [], false, false⟩,
       ⟨(some 10), .push [(.int .i64 0), (.int .i64 0)], none, [], false, false⟩,
       ⟨none, .store 2 (.tmp 10) (.tmp 41), none, [], false, false⟩])
    (.seq (.region false [⟨(some 42), .move (.tmp 0), none, [], false, false⟩,
        ⟨(some 43), .load true 5 (.tmp 4), none, [], false, false⟩,
        ⟨(some 44), .call 147 [(.tmp 42), (.tmp 43)], none, [], false, false⟩,
        ⟨(some 11), .move (.tmp 44), none, [], false, false⟩])
     (.seq (.region false [⟨(some 45), .move (.tmp 11), none, [], false, false⟩,
         ⟨(some 46), .move (.tmp 11), none, [], false, false⟩,
         ⟨(some 47), .call 146 [(.tmp 45), (.tmp 46), (.const (.int .i64 10000))], none, [], false, false⟩,
         ⟨(some 12), .push [(.int .i64 0), (.int .i64 0)], none, [], false, false⟩,
         ⟨none, .store 2 (.tmp 12) (.tmp 47), none, [], false, false⟩])
      (.seq (.region true [⟨(some 48), .load true 4 (.tmp 7), none, [], false, false⟩,
          ⟨(some 49), .load true 5 (.tmp 4), none, [], false, false⟩,
          ⟨(some 50), .load true 2 (.tmp 9), none, [], false, false⟩,
          ⟨(some 51), .fieldAddr 0 (.tmp 12), none, [], false, false⟩,
          ⟨(some 52), .load false 1 (.tmp 51), none, [], false, false⟩,
          ⟨(some 53), .fieldAddr 0 (.tmp 10), none, [], false, false⟩,
          ⟨(some 54), .load false 1 (.tmp 53), none, [], false, false⟩,
          ⟨(some 55), .bin .mul (.tmp 52) (.tmp 54), none, [], false, false⟩,
          ⟨(some 56), .fieldAddr 1 (.tmp 12), none, [], false, false⟩,
          ⟨(some 57), .load false 1 (.tmp 56), none, [], false, false⟩,
          ⟨(some 58), .fieldAddr 1 (.tmp 10), none, [], false, false⟩,
          ⟨(some 59), .load false 1 (.tmp 58), none, [], false, false⟩,
          ⟨(some 60), .bin .mul (.tmp 57) (.tmp 59), none, [], false, false⟩,
          ⟨(some 61), .call 146 [(.tmp 55), (.tmp 60), (.const (.int .i64 1000000))], none, [], false, true⟩,
          ⟨(some 62), .build [(.string ⟨#[]⟩), (.int .i64 0), (.int .i64 0), (.int .i64 0), (.int .i64 0), (.int .i64 0), (.int .i64 0), (.string ⟨#[]⟩), (.string ⟨#[]⟩), (.int .i64 0), (.int .i64 0), (.int .i64 0), (.int .i64 0)] [(0, 4, (.tmp 48)), (4, 5, (.tmp 49)), (9, 2, (.tmp 50)), (11, 2, (.tmp 61))], none, [], false, false⟩,
          ⟨none, .store 13 (.tmp 6) (.tmp 62), none, [], false, false⟩])
       (.ret))))))),
 [.cell 6 true 13], .pure, 63⟩

/-- agraffe/scale.CheckStrand -/
def ef92 : EFun := ⟨
 .seq (.region false [⟨(some 3), .box (.tmp 1), none, [], false, false⟩,
    ⟨(some 4), .move (.const (.int .i64 0)), none, [], false, false⟩])
 (.seq (.seq (.region false [⟨(some 10), .move (.tmp 0), none, [], false, false⟩,
      ⟨(some 11), .call 70 [(.tmp 10)], none, [], false, false⟩,
      ⟨(some 5), .move (.tmp 11), none, [], false, false⟩])
   (.seq (.region false [⟨(some 12), .move (.tmp 5), none, [], false, false⟩,
       ⟨(some 13), .bin .neq (.tmp 12) (.const (.int .i64 0)), none, [], false, false⟩])
    (.cond (.tmp 13) (.seq (.region false [⟨(some 14), .move (.tmp 5), none, [], false, false⟩,
         ⟨(some 4), .move (.tmp 14), none, [], false, false⟩])
      (.ret))
     (.skip))))
  (.seq (.region false [⟨(some 16), .move (.tmp 0), none, [], false, false⟩,
      ⟨(some 17), .fieldAddr 3 (.tmp 3), none, [], false, false⟩,
      ⟨(some 18), .load false 1 (.tmp 17), none, [], false, false⟩,
      ⟨(some 19), .call 145 [(.tmp 16), (.tmp 18)], none, [], false, false⟩,
      ⟨(some 15), .move (.tmp 19), none, [], false, false⟩,
      ⟨(some 20), .extract (.tmp 15) 0, none, [], false, false⟩,
      ⟨(some 21), .extract (.tmp 15) 1, none, [], false, false⟩,
      ⟨(some 6), .push [(.string ⟨#[]⟩), (.int .i64 0), (.int .i64 0), (.int .i64 0)], none, [], false, false⟩,
      ⟨none, .store 4 (.tmp 6) (.tmp 20), none, [], false, false⟩,
      ⟨(some 7), .move (.tmp 21), none, [], false, false⟩])
   (.seq (.region false [⟨(some 23), .move (.tmp 0), none, [], false, false⟩,
       ⟨(some 24), .fieldAddr 4 (.tmp 3), none, [], false, false⟩,
       ⟨(some 25), .load false 1 (.tmp 24), none, [], false, false⟩,
       ⟨(some 26), .call 145 [(.tmp 23), (.tmp 25)], none, [], false, false⟩,
       ⟨(some 22), .move (.tmp 26), none, [], false, false⟩,
       ⟨(some 27), .extract (.tmp 22) 0, none, [], false, false⟩,
       ⟨(some 28), .extract (.tmp 22) 1, none, [], false, false⟩,
       ⟨(some 8), .push [(.string ⟨#[]⟩), (.int .i64 0), (.int .i64 0), (.int .i64 0)], none, [], false, false⟩,
       ⟨none, .store 4 (.tmp 8) (.tmp 27), none, [], false, false⟩,
       ⟨(some 9), .move (.tmp 28), none, [], false, false⟩])
    (.seq (.block 0 (.seq (.region false [⟨(some 30), .fieldAddr 0 (.tmp 3), none, [], false, false⟩,
          ⟨(some 31), .load false 1 (.tmp 30), none, [], false, false⟩,
          ⟨(some 32), .call 69 [(.tmp 31), (.const (.int .i64 1000)), (.const (.int .i64 300000))], none, [], false, false⟩,
          ⟨(some 33), .un .not (.tmp 32), none, [], false, false⟩,
          ⟨(some 34), .move (.tmp 33), none, [], false, false⟩,
          ⟨(some 35), .fieldAddr 1 (.tmp 3), (some (34, false)), [], false, false⟩,
          ⟨(some 36), .load false 1 (.tmp 35), (some (34, false)), [], false, false⟩,
          ⟨(some 37), .call 69 [(.tmp 36), (.const (.int .i64 100)), (.const (.int .i64 3000))], (some (34, false)), [], false, false⟩,
          ⟨(some 38), .un .not (.tmp 37), (some (34, false)), [], false, false⟩,
          ⟨(some 39), .pick (.tmp 34) (.const (.bool true)) (.tmp 38), none, [], false, false⟩,
          ⟨(some 40), .move (.tmp 39), none, [], false, false⟩,
          ⟨(some 41), .fieldAddr 2 (.tmp 3), (some (40, false)), [], false, false⟩,
          ⟨(some 42), .load false 1 (.tmp 41), (some (40, false)), [], false, false⟩,
          ⟨(some 43), .call 69 [(.tmp 42), (.const (.int .i64 0)), (.const (.int .i64 10000))], (some (40, false)), [], false, false⟩,
          ⟨(some 44), .un .not (.tmp 43), (some (40, false)), [], false, false⟩,
          ⟨(some 45), .pick (.tmp 40) (.const (.bool true)) (.tmp 44), none, [], false, false⟩,
          ⟨(some 29), .move (.tmp 45), none, [], false, false⟩])
       (.cond (.tmp 29) (.seq (.region false [⟨(some 4), .move (.const (.int .i64 2)), none, [], false, false⟩])
         (.ret))
        (.seq (.region false [⟨(some 47), .fieldAddr 2 (.tmp 3), none, [], false, false⟩,
            ⟨(some 48), .load false 1 (.tmp 47), none, [], false, false⟩,
            ⟨(some 49), .bin .neq (.tmp 48) (.const (.int .i64 0)), none, [], false, false⟩,
            ⟨(some 50), .move (.tmp 49), none, [], false, false⟩,
            ⟨(some 51), .fieldAddr 2 (.tmp 3), (some (50, true)), [], false, false⟩,
            ⟨(some 52), .load false 1 (.tmp 51), (some (50, true)), [], false, false⟩,
            ⟨(some 53), .fieldAddr 1 (.tmp 3), (some (50, true)), [], false, false⟩,
            ⟨(some 54), .load false 1 (.tmp 53), (some (50, true)), [], false, false⟩,
            ⟨(some 55), .bin .leq (.tmp 52) (.tmp 54), (some (50, true)), [], false, false⟩,
            ⟨(some 56), .pick (.tmp 50) (.tmp 55) (.const (.bool false)), none, [], false, false⟩,
            ⟨(some 57), .move (.tmp 56), none, [], false, false⟩,
            ⟨(some 58), .fieldAddr 2 (.tmp 3), (some (57, false)), [], false, false⟩,
            ⟨(some 59), .load false 1 (.tmp 58), (some (57, false)), [], false, false⟩,
            ⟨(some 60), .bin .eql (.tmp 59) (.const (.int .i64 0)), (some (57, false)), [], false, false⟩,
            ⟨(some 61), .fieldAddr 4 (.tmp 3), (some (57, false)), [], false, false⟩,
            ⟨(some 62), .load false 1 (.tmp 61), (some (57, false)), [], false, false⟩,
            ⟨(some 63), .bin .eql (.tmp 62) (.const (.string ⟨#[]⟩)), (some (57, false)), [], false, false⟩,
            ⟨(some 64), .eqBool true (.tmp 60) (.tmp 63), (some (57, false)), [], false, false⟩,
            ⟨(some 65), .pick (.tmp 57) (.const (.bool true)) (.tmp 64), none, [], false, false⟩,
            ⟨(some 46), .move (.tmp 65), none, [], false, false⟩])
         (.cond (.tmp 46) (.seq (.region false [⟨(some 4), .move (.const (.int .i64 3)), none, [], false, false⟩])
           (.ret))
          (.seq (.region false [⟨(some 67), .move (.tmp 7), none, [], false, false⟩,
              ⟨(some 68), .un .not (.tmp 67), none, [], false, false⟩,
              ⟨(some 69), .move (.tmp 68), none, [], false, false⟩,
              ⟨(some 70), .fieldAddr 2 (.tmp 3), (some (69, false)), [], false, false⟩,
              ⟨(some 71), .load false 1 (.tmp 70), (some (69, false)), [], false, false⟩,
              ⟨(some 72), .bin .neq (.tmp 71) (.const (.int .i64 0)), (some (69, false)), [], false, false⟩,
              ⟨(some 73), .move (.tmp 72), (some (69, false)), [], false, false⟩,
              ⟨(some 74), .move (.tmp 9), (some (73, true)), [], false, false⟩,
              ⟨(some 75), .un .not (.tmp 74), (some (73, true)), [], false, false⟩,
              ⟨(some 76), .pick (.tmp 73) (.tmp 75) (.const (.bool false)), (some (69, false)), [], false, false⟩,
              ⟨(some 77), .pick (.tmp 69) (.const (.bool true)) (.tmp 76), none, [], false, false⟩,
              ⟨(some 66), .move (.tmp 77), none, [], false, false⟩])
           (.cond (.tmp 66) (.seq (.region false [⟨(some 4), .move (.const (.int .i64 6)), none, [], false, false⟩])
             (.ret))
            (.seq (.region false [⟨(some 79), .fieldAddr 2 (.tmp 6), none, [], false, false⟩,
                ⟨(some 80), .load false 1 (.tmp 79), none, [], false, false⟩,
                ⟨(some 81), .fieldAddr 1 (.tmp 3), none, [], false, false⟩,
                ⟨(some 82), .load false 1 (.tmp 81), none, [], false, false⟩,
                ⟨(some 83), .bin .mul (.tmp 80) (.tmp 82), none, [], false, false⟩,
                ⟨(some 84), .fieldAddr 1 (.tmp 3), none, [], false, false⟩,
                ⟨(some 85), .load false 1 (.tmp 84), none, [], false, false⟩,
                ⟨(some 86), .bin .mul (.tmp 83) (.tmp 85), none, [], false, false⟩,
                ⟨(some 87), .bin .lss (.tmp 86) (.const (.int .i64 1000000)), none, [], false, false⟩,
                ⟨(some 78), .move (.tmp 87), none, [], false, false⟩])
             (.cond (.tmp 78) (.seq (.region false [⟨(some 4), .move (.const (.int .i64 11)), none, [], false, false⟩])
               (.ret))
              (.skip))))))))))
     (.seq (.region false [⟨(some 4), .move (.const (.int .i64 0)), none, [], false, false⟩])
      (.ret)))))),
 [.tmp 4], .pure, 88⟩

/-- agraffe/agrafferef03.size -/
def ef100 : EFun := ⟨
 .seq (.region false [⟨(some 2), .box (.tmp 0), none, [], false, false⟩,
    ⟨(some 4), .move (.const (.bool false)), none, [], false, false⟩])
 (.seq (.seq (.region false [⟨(some 5), .move (.const (.int .i64 0)), none, [], false, false⟩])
   (.block 0 (.loop (some [1, 2, 5]) (
     .seq (.seq (.region false [⟨(some 6), .move (.tmp 5), none, [], false, false⟩,
          ⟨(some 7), .bin .lss (.tmp 6) (.const (.int .i64 3)), none, [], false, false⟩])
       (.cond (.tmp 7) (.skip)
        (.exit 0)))
      (.seq (.block 1 (.seq (.region false [⟨(some 10), .move (.tmp 5), none, [], false, false⟩,
            ⟨(some 11), .indexAddr (some 3) 1 (.tmp 2) (.tmp 10), none, [], false, false⟩,
            ⟨(some 12), .load false 1 (.tmp 11), none, [], false, false⟩,
            ⟨(some 13), .move (.tmp 1), none, [], false, false⟩,
            ⟨(some 14), .un .neg (.tmp 13), none, [], false, false⟩,
            ⟨(some 15), .move (.tmp 1), none, [], false, false⟩,
            ⟨(some 16), .call 18 [(.tmp 12), (.tmp 14), (.tmp 15)], none, [], false, false⟩,
            ⟨(some 17), .un .not (.tmp 16), none, [], false, false⟩])
         (.cond (.tmp 17) (.seq (.region false [⟨(some 4), .move (.const (.bool false)), none, [], false, false⟩])
           (.ret))
          (.skip))))
       (.region false [⟨(some 8), .move (.tmp 5), none, [], false, false⟩,
          ⟨(some 9), .bin .add (.tmp 8) (.const (.int .i64 1)), none, [], false, false⟩,
          ⟨(some 5), .move (.tmp 9), none, [], false, false⟩]))))))
  (.seq (.region false [⟨(some 4), .move (.const (.bool true)), none, [], false, false⟩])
   (.ret))),
 [.tmp 4], .pure, 18⟩

/-- agraffe/plate.check -/
def ef101 : EFun := ⟨
 .seq (.region false [⟨(some 2), .box (.tmp 0), none, [], false, false⟩,
    ⟨(some 4), .move (.const (.int .i64 0)), none, [], false, false⟩])
 (.seq (.seq (.region false [⟨(some 6), .load true 3 (.tmp 2), none, [], false, false⟩,
      ⟨(some 7), .call 153 [(.tmp 6)], none, [], false, false⟩,
      ⟨(some 5), .move (.tmp 7), none, [], false, false⟩])
   (.seq (.region false [⟨(some 8), .move (.tmp 5), none, [], false, false⟩,
       ⟨(some 9), .bin .neq (.tmp 8) (.const (.int .i64 0)), none, [], false, false⟩])
    (.cond (.tmp 9) (.seq (.region false [⟨(some 10), .move (.tmp 5), none, [], false, false⟩,
         ⟨(some 4), .move (.tmp 10), none, [], false, false⟩])
      (.ret))
     (.skip))))
  (.seq (.region false [⟨(some 11), .move (.tmp 1), none, [], false, false⟩,
      ⟨(some 12), .fieldAddr 0 (.tmp 2), none, [], false, false⟩,
      ⟨(some 13), .load false 1 (.tmp 12), none, [], false, false⟩,
      ⟨(some 14), .fieldAddr 1 (.tmp 2), none, [], false, false⟩,
      ⟨(some 15), .load false 1 (.tmp 14), none, [], false, false⟩,
      ⟨(some 16), .call 154 [(.tmp 11), (.tmp 13), (.tmp 15)], none, [], false, false⟩,
      ⟨(some 4), .move (.tmp 16), none, [], false, false⟩])
   (.ret))),
 [.tmp 4], .pure, 17⟩

/-- agraffe/plate.beamOf -/
def ef102 : EFun := ⟨
 .seq (.region false [⟨(some 2), .box (.tmp 0), none, [], false, false⟩,
    ⟨(some 4), .push [(.int .i64 0), (.int .i64 0), (.int .i64 0), (.slice none 0 0)], none, [], false, false⟩])
 (.seq (.region false [⟨(some 8), .load true 3 (.tmp 2), none, [], false, false⟩,
     ⟨(some 9), .build [(.int .i64 0), (.int .i64 0), (.int .i64 0), (.slice none 0 0)] [(0, 3, (.tmp 8))], none, [], false, false⟩,
     ⟨(some 5), .push [(.int .i64 0), (.int .i64 0), (.int .i64 0), (.slice none 0 0)], none, [], false, false⟩,
     ⟨none, .store 4 (.tmp 5) (.tmp 9), none, [], false, false⟩])
  (.seq (.seq (.region false [⟨(some 10), .move (.tmp 1), none, [], false, false⟩,
       ⟨(some 11), .len false (.tmp 10), none, [], false, false⟩,
       ⟨(some 12), .move (.const (.int .i64 0)), none, [], false, false⟩])
    (.block 0 (.loop (some [4, 5, 10, 11, 12]) (
      .seq (.region false [⟨(some 13), .bin .lss (.tmp 12) (.tmp 11), none, [], false, false⟩])
       (.seq (.cond (.tmp 13) (.skip)
         (.exit 0))
        (.seq (.block 1 (.seq (.region false [⟨(some 14), .indexAddr none 2 (.tmp 10) (.tmp 12), none, [], false, false⟩,
              ⟨(some 15), .load true 2 (.tmp 14), none, [], false, false⟩,
              ⟨(some 7), .push [(.int .i64 0), (.int .i64 0)], none, [], false, false⟩,
              ⟨none, .store 2 (.tmp 7) (.tmp 15), none, [], false, false⟩])
           (.region false [⟨(some 16), .fieldAddr 3 (.tmp 5), none, [], false, false⟩,
              ⟨(some 17), .load false 1 (.tmp 16), none, [], false, false⟩,
              ⟨(some 18), .load true 2 (.tmp 7), none, [], false, false⟩,
              ⟨(some 19), .buildSlice 2 1 [(.int .i64 0), (.int .i64 0)] [(0, 2, (.tmp 18))], none, [], false, false⟩,
              ⟨(some 20), .append 2 16 (.tmp 17) (.tmp 19), none, [], false, false⟩,
              ⟨(some 21), .fieldAddr 3 (.tmp 5), none, [], false, false⟩,
              ⟨none, .store 1 (.tmp 21) (.tmp 20), none, [], false, false⟩])))
         (.region false [⟨(some 22), .bin .add (.tmp 12) (.const (.int .i64 1)), none, [], false, false⟩,
            ⟨(some 12), .move (.tmp 22), none, [], false, false⟩])))))))
   (.seq (.region false [⟨(some 23), .load true 4 (.tmp 5), none, [], false, false⟩,
       ⟨none, .store 4 (.tmp 4) (.tmp 23), none, [], false, false⟩])
    (.ret)))),
 [.cell 4 true 4], .pure, 24⟩

/-- (agraffe/plate.beam).reactions -/
def ef103 : EFun := ⟨
 .seq (.region false [⟨(some 1), .box (.tmp 0), none, [], false, false⟩,
    ⟨(some 2), .move (.const (.int .i64 0)), none, [], false, false⟩,
    ⟨(some 3), .move (.const (.int .i64 0)), none, [], false, false⟩])
 (.seq (.seq (.region false [⟨(some 6), .fieldAddr 3 (.tmp 1), none, [], false, false⟩,
      ⟨(some 7), .load false 1 (.tmp 6), none, [], false, false⟩,
      ⟨(some 8), .len false (.tmp 7), none, [], false, false⟩,
      ⟨(some 9), .move (.const (.int .i64 0)), none, [], false, false⟩])
   (.block 0 (.loop (some [1, 2, 3, 7, 8, 9]) (
     .seq (.region false [⟨(some 10), .bin .lss (.tmp 9) (.tmp 8), none, [], false, false⟩])
      (.seq (.cond (.tmp 10) (.skip)
        (.exit 0))
       (.seq (.block 1 (.seq (.region false [⟨(some 11), .indexAddr none 2 (.tmp 7) (.tmp 9), none, [], false, false⟩,
             ⟨(some 12), .load true 2 (.tmp 11), none, [], false, false⟩,
             ⟨(some 5), .push [(.int .i64 0), (.int .i64 0)], none, [], false, false⟩,
             ⟨none, .store 2 (.tmp 5) (.tmp 12), none, [], false, false⟩])
          (.seq (.region false [⟨(some 13), .move (.tmp 2), none, [], false, false⟩,
              ⟨(some 14), .indexAddr (some 2) 1 (.tmp 5) (.const (.int .i64 1)), none, [], false, false⟩,
              ⟨(some 15), .load false 1 (.tmp 14), none, [], false, false⟩,
              ⟨(some 16), .fieldAddr 0 (.tmp 1), none, [], false, false⟩,
              ⟨(some 17), .fieldAddr 1 (.tmp 16), none, [], false, false⟩,
              ⟨(some 18), .load false 1 (.tmp 17), none, [], false, false⟩,
              ⟨(some 19), .indexAddr (some 2) 1 (.tmp 5) (.const (.int .i64 0)), none, [], false, false⟩,
              ⟨(some 20), .load false 1 (.tmp 19), none, [], false, false⟩,
              ⟨(some 21), .bin .sub (.tmp 18) (.tmp 20), none, [], false, false⟩,
              ⟨(some 22), .bin .mul (.tmp 15) (.tmp 21), none, [], false, false⟩,
              ⟨(some 23), .bin .add (.tmp 13) (.tmp 22), none, [], false, false⟩,
              ⟨(some 2), .move (.tmp 23), none, [], false, false⟩])
           (.region false [⟨(some 24), .move (.tmp 3), none, [], false, false⟩,
              ⟨(some 25), .indexAddr (some 2) 1 (.tmp 5) (.const (.int .i64 1)), none, [], false, false⟩,
              ⟨(some 26), .load false 1 (.tmp 25), none, [], false, false⟩,
              ⟨(some 27), .indexAddr (some 2) 1 (.tmp 5) (.const (.int .i64 0)), none, [], false, false⟩,
              ⟨(some 28), .load false 1 (.tmp 27), none, [], false, false⟩,
              ⟨(some 29), .fieldAddr 0 (.tmp 1), none, [], false, false⟩,
              ⟨(some 30), .fieldAddr 0 (.tmp 29), none, [], false, false⟩,
              ⟨(some 31), .load false 1 (.tmp 30), none, [], false, false⟩,
              ⟨(some 32), .bin .sub (.tmp 28) (.tmp 31), none, [], false, false⟩,
              ⟨(some 33), .bin .mul (.tmp 26) (.tmp 32), none, [], false, false⟩,
              ⟨(some 34), .bin .add (.tmp 24) (.tmp 33), none, [], false, false⟩,
              ⟨(some 3), .move (.tmp 34), none, [], false, false⟩]))))
        (.region false [⟨(some 35), .bin .add (.tmp 9) (.const (.int .i64 1)), none, [], false, false⟩,
           ⟨(some 9), .move (.tmp 35), none, [], false, false⟩])))))))
  (.seq (.region false [⟨(some 36), .move (.tmp 2), none, [], false, false⟩,
      ⟨(some 37), .move (.tmp 3), none, [], false, false⟩,
      ⟨(some 2), .move (.tmp 36), none, [], false, false⟩,
      ⟨(some 3), .move (.tmp 37), none, [], false, false⟩])
   (.ret))),
 [.tmp 2, .tmp 3], .pure, 38⟩

/-- agraffe/plate.lowest -/
def ef104 : EFun := ⟨
 .seq (.region false [⟨(some 4), .push [(.int .i64 0), (.int .i64 0)], none, [], false, false⟩])
 (.seq (.region false [⟨(some 6), .move (.tmp 0), none, [], false, false⟩,
     ⟨(some 7), .move (.tmp 1), none, [], false, false⟩,
     ⟨(some 8), .call 155 [(.tmp 6), (.tmp 7)], none, [], false, false⟩,
     ⟨(some 5), .move (.tmp 8), none, [], false, false⟩])
  (.seq (.region true [⟨(some 9), .move (.tmp 0), none, [], false, false⟩,
      ⟨(some 10), .move (.tmp 5), none, [], false, false⟩,
      ⟨(some 11), .bin .quo (.tmp 9) (.tmp 10), none, [], false, false⟩,
      ⟨(some 12), .move (.tmp 1), none, [], false, false⟩,
      ⟨(some 13), .move (.tmp 5), none, [], false, false⟩,
      ⟨(some 14), .bin .quo (.tmp 12) (.tmp 13), none, [], false, false⟩,
      ⟨(some 15), .build [(.int .i64 0), (.int .i64 0)] [(0, 1, (.tmp 11)), (1, 1, (.tmp 14))], none, [], false, false⟩,
      ⟨none, .store 2 (.tmp 4) (.tmp 15), none, [], false, false⟩])
   (.ret))),
 [.cell 4 true 2], .pure, 16⟩

/-- (agraffe/plate.beam).width -/
def ef105 : EFun := ⟨
 .seq (.region false [⟨(some 1), .box (.tmp 0), none, [], false, false⟩,
    ⟨(some 2), .move (.const (.int .i64 0)), none, [], false, false⟩])
 (.seq (.region false [⟨(some 3), .fieldAddr 0 (.tmp 1), none, [], false, false⟩,
     ⟨(some 4), .fieldAddr 1 (.tmp 3), none, [], false, false⟩,
     ⟨(some 5), .load false 1 (.tmp 4), none, [], false, false⟩,
     ⟨(some 6), .fieldAddr 0 (.tmp 1), none, [], false, false⟩,
     ⟨(some 7), .fieldAddr 0 (.tmp 6), none, [], false, false⟩,
     ⟨(some 8), .load false 1 (.tmp 7), none, [], false, false⟩,
     ⟨(some 9), .bin .sub (.tmp 5) (.tmp 8), none, [], false, false⟩,
     ⟨(some 2), .move (.tmp 9), none, [], false, false⟩])
  (.ret)),
 [.tmp 2], .pure, 10⟩

/-- agraffe/plate.CheckForces -/
def ef106 : EFun := ⟨
 .seq (.region false [⟨(some 2), .move (.const (.int .i64 0)), none, [], false, false⟩])
 (.seq (.seq (.region false [⟨(some 5), .move (.tmp 0), none, [], false, false⟩,
      ⟨(some 6), .len false (.tmp 5), none, [], false, false⟩,
      ⟨(some 7), .bin .gtr (.tmp 6) (.const (.int .i64 300)), none, [], false, false⟩])
   (.cond (.tmp 7) (.seq (.region false [⟨(some 2), .move (.const (.int .i64 8)), none, [], false, false⟩])
     (.ret))
    (.skip)))
  (.seq (.seq (.region false [⟨(some 8), .move (.tmp 0), none, [], false, false⟩,
       ⟨(some 9), .len false (.tmp 8), none, [], false, false⟩,
       ⟨(some 10), .move (.const (.int .i64 0)), none, [], false, false⟩])
    (.block 0 (.loop (some [8, 9, 10]) (
      .seq (.region false [⟨(some 11), .bin .lss (.tmp 10) (.tmp 9), none, [], false, false⟩])
       (.seq (.cond (.tmp 11) (.skip)
         (.exit 0))
        (.seq (.block 1 (.seq (.region false [⟨(some 12), .indexAddr none 6 (.tmp 8) (.tmp 10), none, [], false, false⟩,
              ⟨(some 13), .load true 6 (.tmp 12), none, [], false, false⟩,
              ⟨(some 4), .push [(.int .i64 0), (.int .i64 0), (.int .i64 0), (.int .i64 0), (.int .i64 0), (.int .i64 0)], none, [], false, false⟩,
              ⟨none, .store 6 (.tmp 4) (.tmp 13), none, [], false, false⟩])
           (.seq (.region false [⟨(some 14), .fieldAddr 0 (.tmp 4), none, [], false, false⟩,
               ⟨(some 15), .load true 3 (.tmp 14), none, [], false, false⟩,
               ⟨(some 16), .call 112 [(.tmp 15), (.const (.int .i64 1000000))], none, [], false, false⟩,
               ⟨(some 17), .un .not (.tmp 16), none, [], false, false⟩,
               ⟨(some 18), .move (.tmp 17), none, [], false, false⟩,
               ⟨(some 19), .fieldAddr 3 (.tmp 4), (some (18, false)), [], false, false⟩,
               ⟨(some 20), .load true 3 (.tmp 19), (some (18, false)), [], false, false⟩,
               ⟨(some 21), .call 112 [(.tmp 20), (.const (.int .i64 1000000000))], (some (18, false)), [], false, false⟩,
               ⟨(some 22), .un .not (.tmp 21), (some (18, false)), [], false, false⟩,
               ⟨(some 23), .pick (.tmp 18) (.const (.bool true)) (.tmp 22), none, [], false, false⟩])
            (.cond (.tmp 23) (.seq (.region false [⟨(some 2), .move (.const (.int .i64 2)), none, [], false, false⟩])
              (.ret))
             (.skip)))))
         (.region false [⟨(some 24), .bin .add (.tmp 10) (.const (.int .i64 1)), none, [], false, false⟩,
            ⟨(some 10), .move (.tmp 24), none, [], false, false⟩])))))))
   (.seq (.region false [⟨(some 2), .move (.const (.int .i64 0)), none, [], false, false⟩])
    (.ret)))),
 [.tmp 2], .pure, 25⟩

/-- agraffe/plate.sum -/
def ef107 : EFun := ⟨
 .seq (.region false [⟨(some 2), .push [(.int .i64 0), (.int .i64 0), (.int .i64 0)], none, [], false, false⟩])
 (.seq (.region false [⟨(some 3), .push [(.int .i64 0), (.int .i64 0), (.int .i64 0)], none, [], false, false⟩])
  (.seq (.seq (.region false [⟨(some 6), .move (.tmp 0), none, [], false, false⟩,
       ⟨(some 7), .len false (.tmp 6), none, [], false, false⟩,
       ⟨(some 8), .move (.const (.int .i64 0)), none, [], false, false⟩])
    (.block 0 (.loop (some [2, 3, 6, 7, 8]) (
      .seq (.region false [⟨(some 9), .bin .lss (.tmp 8) (.tmp 7), none, [], false, false⟩])
       (.seq (.cond (.tmp 9) (.skip)
         (.exit 0))
        (.seq (.block 1 (.seq (.region false [⟨(some 10), .indexAddr none 6 (.tmp 6) (.tmp 8), none, [], false, false⟩,
              ⟨(some 11), .load true 6 (.tmp 10), none, [], false, false⟩,
              ⟨(some 5), .push [(.int .i64 0), (.int .i64 0), (.int .i64 0), (.int .i64 0), (.int .i64 0), (.int .i64 0)], none, [], false, false⟩,
              ⟨none, .store 6 (.tmp 5) (.tmp 11), none, [], false, false⟩])
           (.region false [⟨(some 12), .load true 3 (.tmp 3), none, [], false, false⟩,
              ⟨(some 13), .fieldAddr 3 (.tmp 5), none, [], false, false⟩,
              ⟨(some 14), .load true 3 (.tmp 13), none, [], false, false⟩,
              ⟨(some 15), .call 110 [(.tmp 12), (.tmp 14), (.const (.int .i64 1))], none, [], false, false⟩,
              ⟨none, .store 3 (.tmp 3) (.tmp 15), none, [], false, false⟩])))
         (.region false [⟨(some 16), .bin .add (.tmp 8) (.const (.int .i64 1)), none, [], false, false⟩,
            ⟨(some 8), .move (.tmp 16), none, [], false, false⟩])))))))
   (.seq (.region false [⟨(some 17), .load true 3 (.tmp 3), none, [], false, false⟩,
       ⟨none, .store 3 (.tmp 2) (.tmp 17), none, [], false, false⟩])
    (.ret)))),
 [.cell 2 true 3], .pure, 18⟩

/-- agraffe/plate.moment -/
def ef108 : EFun := ⟨
 .seq (.region false [⟨(some 3), .box (.tmp 1), none, [], false, false⟩,
    ⟨(some 4), .push [(.int .i64 0), (.int .i64 0), (.int .i64 0)], none, [], false, false⟩])
 (.seq (.region false [⟨(some 5), .push [(.int .i64 0), (.int .i64 0), (.int .i64 0)], none, [], false, false⟩])
  (.seq (.seq (.region false [⟨(some 8), .move (.tmp 0), none, [], false, false⟩,
       ⟨(some 9), .len false (.tmp 8), none, [], false, false⟩,
       ⟨(some 10), .move (.const (.int .i64 0)), none, [], false, false⟩])
    (.block 0 (.loop (some [3, 4, 5, 8, 9, 10]) (
      .seq (.region false [⟨(some 11), .bin .lss (.tmp 10) (.tmp 9), none, [], false, false⟩])
       (.seq (.cond (.tmp 11) (.skip)
         (.exit 0))
        (.seq (.block 1 (.seq (.region false [⟨(some 12), .indexAddr none 6 (.tmp 8) (.tmp 10), none, [], false, false⟩,
              ⟨(some 13), .load true 6 (.tmp 12), none, [], false, false⟩,
              ⟨(some 7), .push [(.int .i64 0), (.int .i64 0), (.int .i64 0), (.int .i64 0), (.int .i64 0), (.int .i64 0)], none, [], false, false⟩,
              ⟨none, .store 6 (.tmp 7) (.tmp 13), none, [], false, false⟩])
           (.region true [⟨(some 14), .load true 3 (.tmp 5), none, [], false, false⟩,
              ⟨(some 15), .fieldAddr 0 (.tmp 7), none, [], false, false⟩,
              ⟨(some 16), .load true 3 (.tmp 15), none, [], false, false⟩,
              ⟨(some 17), .load true 3 (.tmp 3), none, [], false, false⟩,
              ⟨(some 18), .call 110 [(.tmp 16), (.tmp 17), (.const (.int .i64 (-1)))], none, [], false, true⟩,
              ⟨(some 19), .fieldAddr 3 (.tmp 7), none, [], false, false⟩,
              ⟨(some 20), .load true 3 (.tmp 19), none, [], false, false⟩,
              ⟨(some 21), .call 156 [(.tmp 18), (.tmp 20)], none, [], false, true⟩,
              ⟨(some 22), .call 110 [(.tmp 14), (.tmp 21), (.const (.int .i64 1))], none, [], false, false⟩,
              ⟨none, .store 3 (.tmp 5) (.tmp 22), none, [], false, false⟩])))
         (.region false [⟨(some 23), .bin .add (.tmp 10) (.const (.int .i64 1)), none, [], false, false⟩,
            ⟨(some 10), .move (.tmp 23), none, [], false, false⟩])))))))
   (.seq (.region false [⟨(some 24), .load true 3 (.tmp 5), none, [], false, false⟩,
       ⟨none, .store 3 (.tmp 4) (.tmp 24), none, [], false, false⟩])
    (.ret)))),
 [.cell 4 true 3], .pure, 25⟩

/-- agraffe/plate.about -/
def ef109 : EFun := ⟨
 .seq (.region false [⟨(some 3), .box (.tmp 1), none, [], false, false⟩,
    ⟨(some 4), .move (.const (.int .i64 0)), none, [], false, false⟩])
 (.seq (.seq (.region false [⟨(some 6), .move (.tmp 0), none, [], false, false⟩,
      ⟨(some 7), .call 106 [(.tmp 6)], none, [], false, false⟩,
      ⟨(some 5), .move (.tmp 7), none, [], false, false⟩])
   (.seq (.region false [⟨(some 8), .move (.tmp 5), none, [], false, false⟩,
       ⟨(some 9), .bin .neq (.tmp 8) (.const (.int .i64 0)), none, [], false, false⟩])
    (.cond (.tmp 9) (.seq (.region false [⟨(some 10), .move (.tmp 5), none, [], false, false⟩,
         ⟨(some 4), .move (.tmp 10), none, [], false, false⟩])
      (.ret))
     (.skip))))
  (.seq (.seq (.region false [⟨(some 11), .load true 3 (.tmp 3), none, [], false, false⟩,
       ⟨(some 12), .call 112 [(.tmp 11), (.const (.int .i64 1000000))], none, [], false, false⟩,
       ⟨(some 13), .un .not (.tmp 12), none, [], false, false⟩])
    (.cond (.tmp 13) (.seq (.region false [⟨(some 4), .move (.const (.int .i64 2)), none, [], false, false⟩])
      (.ret))
     (.skip)))
   (.seq (.region false [⟨(some 4), .move (.const (.int .i64 0)), none, [], false, false⟩])
    (.ret)))),
 [.tmp 4], .pure, 14⟩

/-- (agraffe/plate.vector).plus -/
def ef110 : EFun := ⟨
 .seq (.region false [⟨(some 3), .box (.tmp 0), none, [], false, false⟩,
    ⟨(some 4), .box (.tmp 1), none, [], false, false⟩,
    ⟨(some 6), .push [(.int .i64 0), (.int .i64 0), (.int .i64 0)], none, [], false, false⟩])
 (.seq (.seq (.region false [⟨(some 8), .move (.const (.int .i64 0)), none, [], false, false⟩])
   (.block 0 (.loop (some [2, 3, 4, 6, 8]) (
     .seq (.region false [⟨(some 9), .bin .lss (.tmp 8) (.const (.int .i64 3)), none, [], false, false⟩])
      (.seq (.cond (.tmp 9) (.skip)
        (.exit 0))
       (.seq (.block 1 (.seq (.region false [⟨(some 10), .move (.tmp 8), none, [], false, false⟩,
             ⟨(some 7), .move (.tmp 10), none, [], false, false⟩])
          (.region true [⟨(some 11), .move (.tmp 7), none, [], false, false⟩,
             ⟨(some 12), .indexAddr (some 3) 1 (.tmp 3) (.tmp 11), none, [], false, false⟩,
             ⟨(some 13), .load false 1 (.tmp 12), none, [], false, false⟩,
             ⟨(some 14), .move (.tmp 2), none, [], false, false⟩,
             ⟨(some 15), .move (.tmp 7), none, [], false, false⟩,
             ⟨(some 16), .indexAddr (some 3) 1 (.tmp 4) (.tmp 15), none, [], false, false⟩,
             ⟨(some 17), .load false 1 (.tmp 16), none, [], false, false⟩,
             ⟨(some 18), .bin .mul (.tmp 14) (.tmp 17), none, [], false, false⟩,
             ⟨(some 19), .bin .add (.tmp 13) (.tmp 18), none, [], false, false⟩,
             ⟨(some 20), .indexAddr (some 3) 1 (.tmp 3) (.tmp 11), none, [], false, false⟩,
             ⟨none, .store 1 (.tmp 20) (.tmp 19), none, [], false, false⟩])))
        (.region false [⟨(some 21), .bin .add (.tmp 8) (.const (.int .i64 1)), none, [], false, false⟩,
           ⟨(some 8), .move (.tmp 21), none, [], false, false⟩])))))))
  (.seq (.region false [⟨(some 22), .load true 3 (.tmp 3), none, [], false, false⟩,
      ⟨none, .store 3 (.tmp 6) (.tmp 22), none, [], false, false⟩])
   (.ret))),
 [.cell 6 true 3], .pure, 23⟩

/-- (agraffe/plate.vector).all -/
def ef112 : EFun := ⟨
 .seq (.region false [⟨(some 2), .box (.tmp 0), none, [], false, false⟩,
    ⟨(some 3), .box (.tmp 1), none, [], false, false⟩,
    ⟨(some 4), .move (.const (.bool false)), none, [], false, false⟩])
 (.seq (.region false [⟨(some 5), .arrSlice 3 1 (.tmp 2) none none, none, [], false, false⟩,
     ⟨(some 6), .makeFunc (.func 158) [(.tmp 3)], none, [], false, false⟩,
     ⟨(some 7), .call 157 [(.tmp 5), (.tmp 6)], none, [], false, false⟩,
     ⟨(some 8), .un .not (.tmp 7), none, [], false, false⟩,
     ⟨(some 4), .move (.tmp 8), none, [], false, false⟩])
  (.ret)),
 [.tmp 4], .pure, 9⟩

end Go.Abs.X
