/- The functions, compiled for the abstract evaluator. Written by wip/abs/Print.lean. -/
import Derived.Test.YtinbdefjjfmfoaaDoorAbsT0
set_option linter.unusedSimpArgs false
set_option linter.unusedVariables false
set_option maxRecDepth 100000
set_option maxHeartbeats 0
namespace Go.Abs.T
open Go Go.Abs
/-- agraffe/temper.TestsOf -/
def ef38 : EFun := ⟨
 .seq (.region false [⟨(some 6), .move (.const (.slice none 0 0)), none, [], false, false⟩,
    ⟨(some 7), .move (.const (.int .i64 0)), none, [], false, false⟩])
 (.seq (.region false [⟨(some 13), .call 100 [], none, [], false, false⟩,
     ⟨(some 14), .move (.tmp 0), none, [], false, false⟩,
     ⟨(some 15), .mapGet (.int .i64) (.agg #[(.int .i64 0), (.int .i64 0)]) true (.tmp 13) (.tmp 14), none, [], false, false⟩,
     ⟨(some 12), .move (.tmp 15), none, [], false, false⟩,
     ⟨(some 16), .extract (.tmp 12) 0, none, [], false, false⟩,
     ⟨(some 17), .extract (.tmp 12) 1, none, [], false, false⟩,
     ⟨(some 8), .push [(.int .i64 0), (.int .i64 0)], none, [], false, false⟩,
     ⟨none, .store 2 (.tmp 8) (.tmp 16), none, [], false, false⟩,
     ⟨(some 9), .move (.tmp 17), none, [], false, false⟩])
  (.seq (.block 0 (.seq (.region false [⟨(some 19), .move (.tmp 9), none, [], false, false⟩,
        ⟨(some 20), .un .not (.tmp 19), none, [], false, false⟩,
        ⟨(some 18), .move (.tmp 20), none, [], false, false⟩])
     (.cond (.tmp 18) (.seq (.region false [⟨(some 6), .move (.const (.slice none 0 0)), none, [], false, false⟩,
          ⟨(some 7), .move (.const (.int .i64 12)), none, [], false, false⟩])
       (.ret))
      (.seq (.region false [⟨(some 22), .move (.tmp 1), none, [], false, false⟩,
          ⟨(some 23), .call 85 [(.tmp 22)], none, [], false, false⟩,
          ⟨(some 24), .un .not (.tmp 23), none, [], false, false⟩,
          ⟨(some 25), .move (.tmp 24), none, [], false, false⟩,
          ⟨(some 26), .move (.tmp 2), (some (25, false)), [], false, false⟩,
          ⟨(some 27), .call 85 [(.tmp 26)], (some (25, false)), [], false, false⟩,
          ⟨(some 28), .un .not (.tmp 27), (some (25, false)), [], false, false⟩,
          ⟨(some 29), .pick (.tmp 25) (.const (.bool true)) (.tmp 28), none, [], false, false⟩,
          ⟨(some 21), .move (.tmp 29), none, [], false, false⟩])
       (.cond (.tmp 21) (.seq (.region false [⟨(some 6), .move (.const (.slice none 0 0)), none, [], false, false⟩,
            ⟨(some 7), .move (.const (.int .i64 2)), none, [], false, false⟩])
         (.ret))
        (.seq (.region false [⟨(some 31), .move (.tmp 2), none, [], false, false⟩,
            ⟨(some 32), .move (.tmp 1), none, [], false, false⟩,
            ⟨(some 33), .bin .lss (.tmp 31) (.tmp 32), none, [], false, false⟩,
            ⟨(some 30), .move (.tmp 33), none, [], false, false⟩])
         (.cond (.tmp 30) (.seq (.region false [⟨(some 6), .move (.const (.slice none 0 0)), none, [], false, false⟩,
              ⟨(some 7), .move (.const (.int .i64 9)), none, [], false, false⟩])
           (.ret))
          (.skip))))))))
   (.seq (.region false [⟨(some 10), .move (.const (.slice none 0 0)), none, [], false, false⟩])
    (.seq (.seq (.region false [⟨(some 34), .move (.tmp 1), none, [], false, false⟩,
         ⟨(some 11), .move (.tmp 34), none, [], false, false⟩])
      (.block 1 (.loop (some [0, 2, 8, 10, 11]) (
        .seq (.seq (.region false [⟨(some 35), .move (.tmp 11), none, [], false, false⟩,
             ⟨(some 36), .move (.tmp 0), none, [], false, false⟩,
             ⟨(some 37), .bin .add (.tmp 35) (.tmp 36), none, [], false, false⟩,
             ⟨(some 38), .move (.tmp 2), none, [], false, false⟩,
             ⟨(some 39), .bin .leq (.tmp 37) (.tmp 38), none, [], false, false⟩])
          (.cond (.tmp 39) (.skip)
           (.exit 1)))
         (.seq (.block 2 (.region false [⟨(some 42), .move (.tmp 10), none, [], false, false⟩,
              ⟨(some 43), .move (.tmp 11), none, [], false, false⟩,
              ⟨(some 44), .move (.tmp 11), none, [], false, false⟩,
              ⟨(some 45), .move (.tmp 0), none, [], false, false⟩,
              ⟨(some 46), .bin .add (.tmp 44) (.tmp 45), none, [], false, false⟩,
              ⟨(some 47), .fieldAddr 0 (.tmp 8), none, [], false, false⟩,
              ⟨(some 48), .load false 1 (.tmp 47), none, [], false, false⟩,
              ⟨(some 49), .fieldAddr 1 (.tmp 8), none, [], false, false⟩,
              ⟨(some 50), .load false 1 (.tmp 49), none, [], false, false⟩,
              ⟨(some 51), .build [(.int .i64 0), (.int .i64 0), (.int .i64 0), (.int .i64 0)] [(0, 1, (.tmp 43)), (1, 1, (.tmp 46)), (2, 1, (.tmp 48)), (3, 1, (.tmp 50))], none, [], false, false⟩,
              ⟨(some 52), .buildSlice 4 1 [(.int .i64 0), (.int .i64 0), (.int .i64 0), (.int .i64 0)] [(0, 4, (.tmp 51))], none, [], false, false⟩,
              ⟨(some 53), .append 4 32 (.tmp 42) (.tmp 52), none, [], false, false⟩,
              ⟨(some 10), .move (.tmp 53), none, [], false, false⟩]))
          (.region false [⟨(some 40), .move (.tmp 11), none, [], false, false⟩,
             ⟨(some 41), .bin .add (.tmp 40) (.const (.int .i64 1)), none, [], false, false⟩,
             ⟨(some 11), .move (.tmp 41), none, [], false, false⟩]))))))
     (.seq (.region false [⟨(some 54), .move (.tmp 10), none, [], false, false⟩,
         ⟨(some 6), .move (.tmp 54), none, [], false, false⟩,
         ⟨(some 7), .move (.const (.int .i64 0)), none, [], false, false⟩])
      (.ret)))))),
 [.tmp 6, .tmp 7], .pure, 55⟩

/-- agraffe/agrafferef06.RatioOf -/
def ef39 : EFun := ⟨
 .seq (.region false [⟨(some 2), .move (.const (.int .i64 0)), none, [], false, false⟩,
    ⟨(some 3), .move (.const (.int .i64 0)), none, [], false, false⟩])
 (.seq (.seq (.region false [⟨(some 4), .move (.tmp 0), none, [], false, false⟩])
   (.block 0 (.seq (.region false [⟨(some 6), .bin .eql (.tmp 4) (.const (.int .i64 3)), none, [], false, false⟩,
        ⟨(some 5), .move (.tmp 6), none, [], false, false⟩])
     (.cond (.tmp 5) (.seq (.region false [⟨(some 2), .move (.const (.int .i64 6)), none, [], false, false⟩,
          ⟨(some 3), .move (.const (.int .i64 5)), none, [], false, false⟩])
       (.ret))
      (.seq (.region false [⟨(some 8), .bin .eql (.tmp 4) (.const (.int .i64 4)), none, [], false, false⟩,
          ⟨(some 7), .move (.tmp 8), none, [], false, false⟩])
       (.cond (.tmp 7) (.seq (.region false [⟨(some 2), .move (.const (.int .i64 5)), none, [], false, false⟩,
            ⟨(some 3), .move (.const (.int .i64 4)), none, [], false, false⟩])
         (.ret))
        (.seq (.region false [⟨(some 10), .bin .eql (.tmp 4) (.const (.int .i64 5)), none, [], false, false⟩,
            ⟨(some 9), .move (.tmp 10), none, [], false, false⟩])
         (.cond (.tmp 9) (.seq (.region false [⟨(some 2), .move (.const (.int .i64 4)), none, [], false, false⟩,
              ⟨(some 3), .move (.const (.int .i64 3)), none, [], false, false⟩])
           (.ret))
          (.seq (.region false [⟨(some 12), .bin .eql (.tmp 4) (.const (.int .i64 7)), none, [], false, false⟩,
              ⟨(some 11), .move (.tmp 12), none, [], false, false⟩])
           (.cond (.tmp 11) (.seq (.region false [⟨(some 2), .move (.const (.int .i64 3)), none, [], false, false⟩,
                ⟨(some 3), .move (.const (.int .i64 2)), none, [], false, false⟩])
             (.ret))
            (.seq (.region false [⟨(some 14), .bin .eql (.tmp 4) (.const (.int .i64 8)), none, [], false, false⟩,
                ⟨(some 13), .move (.tmp 14), none, [], false, false⟩])
             (.cond (.tmp 13) (.seq (.region false [⟨(some 2), .move (.const (.int .i64 8)), none, [], false, false⟩,
                  ⟨(some 3), .move (.const (.int .i64 5)), none, [], false, false⟩])
               (.ret))
              (.seq (.region false [⟨(some 16), .bin .eql (.tmp 4) (.const (.int .i64 9)), none, [], false, false⟩,
                  ⟨(some 15), .move (.tmp 16), none, [], false, false⟩])
               (.cond (.tmp 15) (.seq (.region false [⟨(some 2), .move (.const (.int .i64 5)), none, [], false, false⟩,
                    ⟨(some 3), .move (.const (.int .i64 3)), none, [], false, false⟩])
                 (.ret))
                (.seq (.region false [⟨(some 18), .bin .eql (.tmp 4) (.const (.int .i64 12)), none, [], false, false⟩,
                    ⟨(some 17), .move (.tmp 18), none, [], false, false⟩])
                 (.cond (.tmp 17) (.seq (.region false [⟨(some 2), .move (.const (.int .i64 2)), none, [], false, false⟩,
                      ⟨(some 3), .move (.const (.int .i64 1)), none, [], false, false⟩])
                   (.ret))
                  (.seq (.region false [⟨(some 20), .bin .eql (.tmp 4) (.const (.int .i64 15)), none, [], false, false⟩,
                      ⟨(some 19), .move (.tmp 20), none, [], false, false⟩])
                   (.cond (.tmp 19) (.seq (.region false [⟨(some 2), .move (.const (.int .i64 12)), none, [], false, false⟩,
                        ⟨(some 3), .move (.const (.int .i64 5)), none, [], false, false⟩])
                     (.ret))
                    (.seq (.region false [⟨(some 22), .bin .eql (.tmp 4) (.const (.int .i64 16)), none, [], false, false⟩,
                        ⟨(some 21), .move (.tmp 22), none, [], false, false⟩])
                     (.cond (.tmp 21) (.seq (.region false [⟨(some 2), .move (.const (.int .i64 5)), none, [], false, false⟩,
                          ⟨(some 3), .move (.const (.int .i64 2)), none, [], false, false⟩])
                       (.ret))
                      (.seq (.region false [⟨(some 24), .bin .eql (.tmp 4) (.const (.int .i64 17)), none, [], false, false⟩,
                          ⟨(some 23), .move (.tmp 24), none, [], false, false⟩])
                       (.cond (.tmp 23) (.seq (.region false [⟨(some 2), .move (.const (.int .i64 8)), none, [], false, false⟩,
                            ⟨(some 3), .move (.const (.int .i64 3)), none, [], false, false⟩])
                         (.ret))
                        (.seq (.region false [⟨(some 26), .bin .eql (.tmp 4) (.const (.int .i64 19)), none, [], false, false⟩,
                            ⟨(some 25), .move (.tmp 26), none, [], false, false⟩])
                         (.cond (.tmp 25) (.seq (.region false [⟨(some 2), .move (.const (.int .i64 3)), none, [], false, false⟩,
                              ⟨(some 3), .move (.const (.int .i64 1)), none, [], false, false⟩])
                           (.ret))
                          (.seq (.region false [⟨(some 28), .bin .eql (.tmp 4) (.const (.int .i64 24)), none, [], false, false⟩,
                              ⟨(some 27), .move (.tmp 28), none, [], false, false⟩])
                           (.cond (.tmp 27) (.seq (.region false [⟨(some 2), .move (.const (.int .i64 4)), none, [], false, false⟩,
                                ⟨(some 3), .move (.const (.int .i64 1)), none, [], false, false⟩])
                             (.ret))
                            (.seq (.region false [⟨(some 30), .bin .eql (.tmp 4) (.const (.int .i64 28)), none, [], false, false⟩,
                                ⟨(some 29), .move (.tmp 30), none, [], false, false⟩])
                             (.cond (.tmp 29) (.seq (.region false [⟨(some 2), .move (.const (.int .i64 5)), none, [], false, false⟩,
                                  ⟨(some 3), .move (.const (.int .i64 1)), none, [], false, false⟩])
                               (.ret))
                              (.skip)))))))))))))))))))))))))))))
  (.seq (.region false [⟨(some 2), .move (.const (.int .i64 0)), none, [], false, false⟩,
      ⟨(some 3), .move (.const (.int .i64 0)), none, [], false, false⟩])
   (.ret))),
 [.tmp 2, .tmp 3], .pure, 31⟩

/-- agraffe/agraffelaw06.sameTests -/
def ef40 : EFun := ⟨
 .seq (.region false [⟨(some 4), .move (.const (.bool false)), none, [], false, false⟩])
 (.seq (.seq (.region false [⟨(some 6), .move (.tmp 0), none, [], false, false⟩,
      ⟨(some 7), .len false (.tmp 6), none, [], false, false⟩,
      ⟨(some 8), .move (.tmp 1), none, [], false, false⟩,
      ⟨(some 9), .len false (.tmp 8), none, [], false, false⟩,
      ⟨(some 10), .bin .neq (.tmp 7) (.tmp 9), none, [], false, false⟩])
   (.cond (.tmp 10) (.seq (.region false [⟨(some 4), .move (.const (.bool false)), none, [], false, false⟩])
     (.ret))
    (.skip)))
  (.seq (.seq (.region false [⟨(some 5), .move (.const (.int .i64 0)), none, [], false, false⟩])
    (.block 0 (.loop (some [0, 1, 5]) (
      .seq (.seq (.region false [⟨(some 11), .move (.tmp 5), none, [], false, false⟩,
           ⟨(some 12), .move (.tmp 0), none, [], false, false⟩,
           ⟨(some 13), .len false (.tmp 12), none, [], false, false⟩,
           ⟨(some 14), .bin .lss (.tmp 11) (.tmp 13), none, [], false, false⟩])
        (.cond (.tmp 14) (.skip)
         (.exit 0)))
       (.seq (.block 1 (.seq (.region true [⟨(some 17), .move (.tmp 0), none, [], false, false⟩,
             ⟨(some 18), .move (.tmp 5), none, [], false, false⟩,
             ⟨(some 19), .indexAddr none 4 (.tmp 17) (.tmp 18), none, [], false, false⟩,
             ⟨(some 20), .load true 4 (.tmp 19), none, [], false, false⟩,
             ⟨(some 21), .move (.tmp 1), none, [], false, false⟩,
             ⟨(some 22), .move (.tmp 5), none, [], false, false⟩,
             ⟨(some 23), .indexAddr none 4 (.tmp 21) (.tmp 22), none, [], false, false⟩,
             ⟨(some 24), .load true 4 (.tmp 23), none, [], false, false⟩,
             ⟨(some 25), .eqAgg true [(.int .i64), (.int .i64), (.int .i64), (.int .i64)] (.tmp 20) (.tmp 24), none, [], false, false⟩])
          (.cond (.tmp 25) (.seq (.region false [⟨(some 4), .move (.const (.bool false)), none, [], false, false⟩])
            (.ret))
           (.skip))))
        (.region false [⟨(some 15), .move (.tmp 5), none, [], false, false⟩,
           ⟨(some 16), .bin .add (.tmp 15) (.const (.int .i64 1)), none, [], false, false⟩,
           ⟨(some 5), .move (.tmp 16), none, [], false, false⟩]))))))
   (.seq (.region false [⟨(some 4), .move (.const (.bool true)), none, [], false, false⟩])
    (.ret)))),
 [.tmp 4], .pure, 26⟩

/-- agraffe/agrafferef06.TestsOf -/
def ef41 : EFun := ⟨
 .seq (.region false [⟨(some 6), .move (.const (.slice none 0 0)), none, [], false, false⟩])
 (.seq (.region false [⟨(some 12), .move (.tmp 0), none, [], false, false⟩,
     ⟨(some 13), .call 39 [(.tmp 12)], none, [], false, false⟩,
     ⟨(some 11), .move (.tmp 13), none, [], false, false⟩,
     ⟨(some 14), .extract (.tmp 11) 0, none, [], false, false⟩,
     ⟨(some 15), .extract (.tmp 11) 1, none, [], false, false⟩,
     ⟨(some 7), .move (.tmp 14), none, [], false, false⟩,
     ⟨(some 8), .move (.tmp 15), none, [], false, false⟩])
  (.seq (.region false [⟨(some 9), .move (.const (.slice none 0 0)), none, [], false, false⟩])
   (.seq (.seq (.region false [⟨(some 16), .move (.tmp 1), none, [], false, false⟩,
        ⟨(some 10), .move (.tmp 16), none, [], false, false⟩])
     (.block 0 (.loop (some [0, 2, 7, 8, 9, 10]) (
       .seq (.seq (.region false [⟨(some 17), .move (.tmp 10), none, [], false, false⟩,
            ⟨(some 18), .move (.tmp 0), none, [], false, false⟩,
            ⟨(some 19), .bin .add (.tmp 17) (.tmp 18), none, [], false, false⟩,
            ⟨(some 20), .move (.tmp 2), none, [], false, false⟩,
            ⟨(some 21), .bin .leq (.tmp 19) (.tmp 20), none, [], false, false⟩])
         (.cond (.tmp 21) (.skip)
          (.exit 0)))
        (.seq (.block 1 (.region false [⟨(some 24), .move (.tmp 9), none, [], false, false⟩,
             ⟨(some 25), .move (.tmp 10), none, [], false, false⟩,
             ⟨(some 26), .move (.tmp 10), none, [], false, false⟩,
             ⟨(some 27), .move (.tmp 0), none, [], false, false⟩,
             ⟨(some 28), .bin .add (.tmp 26) (.tmp 27), none, [], false, false⟩,
             ⟨(some 29), .move (.tmp 7), none, [], false, false⟩,
             ⟨(some 30), .move (.tmp 8), none, [], false, false⟩,
             ⟨(some 31), .build [(.int .i64 0), (.int .i64 0), (.int .i64 0), (.int .i64 0)] [(0, 1, (.tmp 25)), (1, 1, (.tmp 28)), (2, 1, (.tmp 29)), (3, 1, (.tmp 30))], none, [], false, false⟩,
             ⟨(some 32), .buildSlice 4 1 [(.int .i64 0), (.int .i64 0), (.int .i64 0), (.int .i64 0)] [(0, 4, (.tmp 31))], none, [], false, false⟩,
             ⟨(some 33), .append 4 32 (.tmp 24) (.tmp 32), none, [], false, false⟩,
             ⟨(some 9), .move (.tmp 33), none, [], false, false⟩]))
         (.region false [⟨(some 22), .move (.tmp 10), none, [], false, false⟩,
            ⟨(some 23), .bin .add (.tmp 22) (.const (.int .i64 1)), none, [], false, false⟩,
            ⟨(some 10), .move (.tmp 23), none, [], false, false⟩]))))))
    (.seq (.region false [⟨(some 34), .move (.tmp 9), none, [], false, false⟩,
        ⟨(some 6), .move (.tmp 34), none, [], false, false⟩])
     (.ret))))),
 [.tmp 6], .pure, 35⟩

/-- agraffe/agrafferef06.FifthOf -/
def ef46 : EFun := ⟨
 .seq (.region false [⟨(some 2), .box (.tmp 0), none, [], false, false⟩,
    ⟨(some 4), .push [(.int .i64 0), (.int .i64 0), (.int .i64 0)], none, [], false, false⟩])
 (.seq (.region false [⟨(some 7), .move (.tmp 1), none, [], false, false⟩,
     ⟨(some 8), .call 103 [(.tmp 7), (.const (.int .i64 12))], none, [], false, false⟩,
     ⟨(some 1), .move (.tmp 8), none, [], false, false⟩])
  (.seq (.region true [⟨(some 9), .move (.tmp 1), none, [], false, false⟩,
      ⟨(some 10), .fieldAddr 1 (.tmp 2), none, [], false, false⟩,
      ⟨(some 11), .indexAddr (some 12) 1 (.tmp 10) (.tmp 9), none, [], false, false⟩,
      ⟨(some 12), .load false 1 (.tmp 11), none, [], false, false⟩,
      ⟨(some 13), .move (.tmp 1), none, [], false, false⟩,
      ⟨(some 14), .fieldAddr 13 (.tmp 2), none, [], false, false⟩,
      ⟨(some 15), .indexAddr (some 12) 1 (.tmp 14) (.tmp 13), none, [], false, false⟩,
      ⟨(some 16), .load false 1 (.tmp 15), none, [], false, false⟩,
      ⟨(some 5), .move (.tmp 12), none, [], false, false⟩,
      ⟨(some 6), .move (.tmp 16), none, [], false, false⟩])
   (.seq (.region false [⟨(some 17), .move (.tmp 5), none, [], false, false⟩,
       ⟨(some 18), .bin .mul (.const (.int .i64 19)) (.tmp 17), none, [], false, false⟩,
       ⟨(some 19), .bin .add (.const (.int .i64 (-12))) (.tmp 18), none, [], false, false⟩,
       ⟨(some 20), .move (.tmp 6), none, [], false, false⟩,
       ⟨(some 21), .bin .mul (.const (.int .i64 4)) (.tmp 20), none, [], false, false⟩,
       ⟨(some 22), .bin .add (.tmp 19) (.tmp 21), none, [], false, false⟩,
       ⟨(some 23), .move (.tmp 5), none, [], false, false⟩,
       ⟨(some 24), .bin .mul (.const (.int .i64 12)) (.tmp 23), none, [], false, false⟩,
       ⟨(some 25), .bin .sub (.const (.int .i64 12)) (.tmp 24), none, [], false, false⟩,
       ⟨(some 26), .move (.tmp 6), none, [], false, false⟩,
       ⟨(some 27), .bin .mul (.const (.int .i64 4)) (.tmp 26), none, [], false, false⟩,
       ⟨(some 28), .bin .sub (.tmp 25) (.tmp 27), none, [], false, false⟩,
       ⟨(some 29), .move (.tmp 6), none, [], false, false⟩,
       ⟨(some 30), .build [(.int .i64 0), (.int .i64 0), (.int .i64 0)] [(0, 1, (.tmp 22)), (1, 1, (.tmp 28)), (2, 1, (.tmp 29))], none, [], false, false⟩,
       ⟨none, .store 3 (.tmp 4) (.tmp 30), none, [], false, false⟩])
    (.ret)))),
 [.cell 4 true 3], .pure, 31⟩

/-- agraffe/agrafferef06.Class -/
def ef48 : EFun := ⟨
 .seq (.region false [⟨(some 2), .box (.tmp 0), none, [], false, false⟩,
    ⟨(some 4), .push [(.int .i64 0), (.int .i64 0), (.int .i64 0)], none, [], false, false⟩])
 (.seq (.region false [⟨(some 8), .move (.tmp 1), none, [], false, false⟩,
     ⟨(some 9), .call 104 [(.tmp 8)], none, [], false, false⟩,
     ⟨(some 5), .move (.tmp 9), none, [], false, false⟩])
  (.seq (.region false [⟨(some 6), .push [(.int .i64 0), (.int .i64 0), (.int .i64 0)], none, [], false, false⟩])
   (.seq (.seq (.region false [⟨(some 7), .move (.const (.int .i64 0)), none, [], false, false⟩])
     (.block 0 (.loop (some [2, 4, 5, 6, 7]) (
       .seq (.seq (.region false [⟨(some 10), .move (.tmp 7), none, [], false, false⟩,
            ⟨(some 11), .move (.tmp 5), none, [], false, false⟩,
            ⟨(some 12), .bin .lss (.tmp 10) (.tmp 11), none, [], false, false⟩])
         (.cond (.tmp 12) (.skip)
          (.exit 0)))
        (.seq (.block 1 (.region true [⟨(some 15), .load true 3 (.tmp 6), none, [], false, false⟩,
             ⟨(some 16), .load true 25 (.tmp 2), none, [], false, false⟩,
             ⟨(some 17), .move (.tmp 7), none, [], false, false⟩,
             ⟨(some 18), .call 46 [(.tmp 16), (.tmp 17)], none, [], false, true⟩,
             ⟨(some 19), .call 91 [(.tmp 15), (.const (.int .i64 1)), (.tmp 18)], none, [], false, false⟩,
             ⟨none, .store 3 (.tmp 6) (.tmp 19), none, [], false, false⟩]))
         (.region false [⟨(some 13), .move (.tmp 7), none, [], false, false⟩,
            ⟨(some 14), .bin .add (.tmp 13) (.const (.int .i64 1)), none, [], false, false⟩,
            ⟨(some 7), .move (.tmp 14), none, [], false, false⟩]))))))
    (.seq (.region true [⟨(some 20), .load true 3 (.tmp 6), none, [], false, false⟩,
        ⟨(some 21), .move (.tmp 5), none, [], false, false⟩,
        ⟨(some 22), .bin .mul (.const (.int .i64 7)) (.tmp 21), none, [], false, false⟩,
        ⟨(some 23), .bin .quo (.tmp 22) (.const (.int .i64 12)), none, [], false, false⟩,
        ⟨(some 24), .un .neg (.tmp 23), none, [], false, false⟩,
        ⟨(some 25), .call 105 [], none, [], false, true⟩,
        ⟨(some 26), .call 91 [(.tmp 20), (.tmp 24), (.tmp 25)], none, [], false, false⟩,
        ⟨none, .store 3 (.tmp 4) (.tmp 26), none, [], false, false⟩])
     (.ret))))),
 [.cell 4 true 3], .pure, 27⟩

/-- agraffe/temper.CheckTemperament -/
def ef51 : EFun := ⟨
 .seq (.region false [⟨(some 1), .box (.tmp 0), none, [], false, false⟩,
    ⟨(some 2), .move (.const (.int .i64 0)), none, [], false, false⟩])
 (.seq (.region false [⟨(some 3), .move (.func 108), none, [], false, false⟩])
  (.seq (.block 0 (.seq (.region false [⟨(some 5), .fieldAddr 0 (.tmp 1), none, [], false, false⟩,
        ⟨(some 6), .load false 1 (.tmp 5), none, [], false, false⟩,
        ⟨(some 7), .call 109 [(.tmp 6)], none, [], false, false⟩,
        ⟨(some 8), .un .not (.tmp 7), none, [], false, false⟩,
        ⟨(some 4), .move (.tmp 8), none, [], false, false⟩])
     (.cond (.tmp 4) (.seq (.region false [⟨(some 2), .move (.const (.int .i64 4)), none, [], false, false⟩])
       (.ret))
      (.seq (.region false [⟨(some 10), .fieldAddr 1 (.tmp 1), none, [], false, false⟩,
          ⟨(some 11), .arrSlice 12 1 (.tmp 10) none none, none, [], false, false⟩,
          ⟨(some 12), .move (.tmp 3), none, [], false, false⟩,
          ⟨(some 13), .call 110 [(.tmp 11), (.tmp 12)], none, [], false, false⟩,
          ⟨(some 14), .move (.tmp 13), none, [], false, false⟩,
          ⟨(some 15), .fieldAddr 13 (.tmp 1), (some (14, false)), [], false, false⟩,
          ⟨(some 16), .arrSlice 12 1 (.tmp 15) none none, (some (14, false)), [], false, false⟩,
          ⟨(some 17), .move (.tmp 3), (some (14, false)), [], false, false⟩,
          ⟨(some 18), .call 110 [(.tmp 16), (.tmp 17)], (some (14, false)), [], false, false⟩,
          ⟨(some 19), .pick (.tmp 14) (.const (.bool true)) (.tmp 18), none, [], false, false⟩,
          ⟨(some 9), .move (.tmp 19), none, [], false, false⟩])
       (.cond (.tmp 9) (.seq (.region false [⟨(some 2), .move (.const (.int .i64 2)), none, [], false, false⟩])
         (.ret))
        (.seq (.region false [⟨(some 21), .fieldAddr 1 (.tmp 1), none, [], false, false⟩,
            ⟨(some 22), .arrSlice 12 1 (.tmp 21) none none, none, [], false, false⟩,
            ⟨(some 23), .call 111 [(.tmp 22)], none, [], false, false⟩,
            ⟨(some 24), .bin .neq (.tmp 23) (.const (.int .i64 12)), none, [], false, false⟩,
            ⟨(some 25), .move (.tmp 24), none, [], false, false⟩,
            ⟨(some 26), .fieldAddr 13 (.tmp 1), (some (25, false)), [], false, false⟩,
            ⟨(some 27), .arrSlice 12 1 (.tmp 26) none none, (some (25, false)), [], false, false⟩,
            ⟨(some 28), .call 111 [(.tmp 27)], (some (25, false)), [], false, false⟩,
            ⟨(some 29), .bin .neq (.tmp 28) (.const (.int .i64 0)), (some (25, false)), [], false, false⟩,
            ⟨(some 30), .pick (.tmp 25) (.const (.bool true)) (.tmp 29), none, [], false, false⟩,
            ⟨(some 20), .move (.tmp 30), none, [], false, false⟩])
         (.cond (.tmp 20) (.seq (.region false [⟨(some 2), .move (.const (.int .i64 25)), none, [], false, false⟩])
           (.ret))
          (.seq (.region false [⟨(some 32), .load true 25 (.tmp 1), none, [], false, false⟩,
              ⟨(some 33), .call 112 [(.tmp 32)], none, [], false, false⟩,
              ⟨(some 34), .call 113 [(.tmp 33)], none, [], false, false⟩,
              ⟨(some 35), .bin .gtr (.tmp 34) (.const (.int .i64 300)), none, [], false, false⟩,
              ⟨(some 31), .move (.tmp 35), none, [], false, false⟩])
           (.cond (.tmp 31) (.seq (.region false [⟨(some 2), .move (.const (.int .i64 8)), none, [], false, false⟩])
             (.ret))
            (.skip))))))))))
   (.seq (.region false [⟨(some 2), .move (.const (.int .i64 0)), none, [], false, false⟩])
    (.ret)))),
 [.tmp 2], .pure, 36⟩

/-- agraffe/number.Join -/
def ef52 : EFun := ⟨
 .seq (.region false [⟨(some 2), .box (.tmp 0), none, [], false, false⟩,
    ⟨(some 3), .box (.tmp 1), none, [], false, false⟩,
    ⟨(some 4), .push [(.int .i64 0), (.int .i64 0), (.int .i64 0), (.int .i64 0)], none, [], false, false⟩,
    ⟨(some 5), .move (.const (.int .i64 0)), none, [], false, false⟩])
 (.seq (.seq (.region false [⟨(some 7), .load true 4 (.tmp 2), none, [], false, false⟩,
      ⟨(some 8), .load true 4 (.tmp 3), none, [], false, false⟩,
      ⟨(some 9), .call 114 [(.tmp 7), (.tmp 8)], none, [], false, false⟩,
      ⟨(some 6), .move (.tmp 9), none, [], false, false⟩])
   (.seq (.region false [⟨(some 10), .move (.tmp 6), none, [], false, false⟩,
       ⟨(some 11), .bin .neq (.tmp 10) (.const (.int .i64 0)), none, [], false, false⟩])
    (.cond (.tmp 11) (.seq (.region false [⟨(some 12), .build [(.int .i64 0), (.int .i64 0), (.int .i64 0), (.int .i64 0)] [], none, [], false, false⟩,
         ⟨(some 13), .move (.tmp 6), none, [], false, false⟩,
         ⟨none, .store 4 (.tmp 4) (.tmp 12), none, [], false, false⟩,
         ⟨(some 5), .move (.tmp 13), none, [], false, false⟩])
      (.ret))
     (.skip))))
  (.seq (.region false [⟨(some 14), .load true 4 (.tmp 2), none, [], false, false⟩,
      ⟨(some 15), .load true 4 (.tmp 3), none, [], false, false⟩,
      ⟨(some 16), .call 116 [(.tmp 14), (.tmp 15), (.const (.int .i64 1))], none, [], false, false⟩,
      ⟨(some 17), .call 115 [(.tmp 16)], none, [], false, false⟩,
      ⟨(some 18), .extract (.tmp 17) 0, none, [], false, false⟩,
      ⟨(some 19), .extract (.tmp 17) 1, none, [], false, false⟩,
      ⟨none, .store 4 (.tmp 4) (.tmp 18), none, [], false, false⟩,
      ⟨(some 5), .move (.tmp 19), none, [], false, false⟩])
   (.ret))),
 [.cell 4 true 4, .tmp 5], .pure, 20⟩

/-- agraffe/temper.Named -/
def ef57 : EFun := ⟨
 .seq (.region false [⟨(some 2), .push [(.string ⟨#[]⟩), (.int .i64 0), (.int .i64 0), (.int .i64 0), (.int .i64 0), (.int .i64 0), (.int .i64 0), (.int .i64 0), (.int .i64 0), (.int .i64 0), (.int .i64 0), (.int .i64 0), (.int .i64 0), (.int .i64 0), (.int .i64 0), (.int .i64 0), (.int .i64 0), (.int .i64 0), (.int .i64 0), (.int .i64 0), (.int .i64 0), (.int .i64 0), (.int .i64 0), (.int .i64 0), (.int .i64 0)], none, [], false, false⟩,
    ⟨(some 3), .move (.const (.int .i64 0)), none, [], false, false⟩])
 (.seq (.region false [⟨(some 5), .move (.tmp 0), none, [], false, false⟩,
     ⟨(some 6), .build [(.string ⟨#[]⟩), (.int .i64 0), (.int .i64 0), (.int .i64 0), (.int .i64 0), (.int .i64 0), (.int .i64 0), (.int .i64 0), (.int .i64 0), (.int .i64 0), (.int .i64 0), (.int .i64 0), (.int .i64 0), (.int .i64 0), (.int .i64 0), (.int .i64 0), (.int .i64 0), (.int .i64 0), (.int .i64 0), (.int .i64 0), (.int .i64 0), (.int .i64 0), (.int .i64 0), (.int .i64 0), (.int .i64 0)] [(0, 1, (.tmp 5))], none, [], false, false⟩,
     ⟨(some 4), .push [(.string ⟨#[]⟩), (.int .i64 0), (.int .i64 0), (.int .i64 0), (.int .i64 0), (.int .i64 0), (.int .i64 0), (.int .i64 0), (.int .i64 0), (.int .i64 0), (.int .i64 0), (.int .i64 0), (.int .i64 0), (.int .i64 0), (.int .i64 0), (.int .i64 0), (.int .i64 0), (.int .i64 0), (.int .i64 0), (.int .i64 0), (.int .i64 0), (.int .i64 0), (.int .i64 0), (.int .i64 0), (.int .i64 0)], none, [], false, false⟩,
     ⟨none, .store 25 (.tmp 4) (.tmp 6), none, [], false, false⟩])
  (.seq (.seq (.region false [⟨(some 7), .move (.tmp 0), none, [], false, false⟩])
    (.block 0 (.seq (.region false [⟨(some 10), .bin .eql (.tmp 7) (.const (.string ⟨#[101, 113, 117, 97, 108]⟩)), none, [], false, false⟩,
         ⟨(some 9), .move (.tmp 10), none, [], false, false⟩])
      (.cond (.tmp 9) (.region false [⟨(some 11), .fieldAddr 1 (.tmp 4), none, [], false, false⟩,
          ⟨(some 12), .buildSlice 1 12 (List.replicate 12 (.int .i64 0)) [(0, 1, (.const (.int .i64 0))), (1, 1, (.const (.int .i64 1))), (2, 1, (.const (.int .i64 2))), (3, 1, (.const (.int .i64 3))), (4, 1, (.const (.int .i64 4))), (5, 1, (.const (.int .i64 5))), (6, 1, (.const (.int .i64 6))), (7, 1, (.const (.int .i64 7))), (8, 1, (.const (.int .i64 8))), (9, 1, (.const (.int .i64 9))), (10, 1, (.const (.int .i64 10))), (11, 1, (.const (.int .i64 11)))], none, [], false, false⟩,
          ⟨(some 13), .call 124 [(.tmp 11), (.const (.int .i64 1)), (.tmp 12)], none, [], false, false⟩])
       (.seq (.region false [⟨(some 15), .bin .eql (.tmp 7) (.const (.string ⟨#[112, 121, 116, 104, 97, 103, 111, 114, 97, 115]⟩)), none, [], false, false⟩,
           ⟨(some 14), .move (.tmp 15), none, [], false, false⟩])
        (.cond (.tmp 14) (.region false [⟨(some 16), .fieldAddr 1 (.tmp 4), none, [], false, false⟩,
            ⟨(some 17), .indexAddr (some 12) 1 (.tmp 16) (.const (.int .i64 8)), none, [], false, false⟩,
            ⟨none, .store 1 (.tmp 17) (.const (.int .i64 12)), none, [], false, false⟩])
         (.seq (.region false [⟨(some 19), .bin .eql (.tmp 7) (.const (.string ⟨#[109, 101, 97, 110, 116, 111, 110, 101]⟩)), none, [], false, false⟩,
             ⟨(some 18), .move (.tmp 19), none, [], false, false⟩])
          (.cond (.tmp 18) (.seq (.region false [⟨(some 20), .fieldAddr 13 (.tmp 4), none, [], false, false⟩,
               ⟨(some 21), .buildSlice 1 11 (List.replicate 11 (.int .i64 0)) [(0, 1, (.const (.int .i64 0))), (1, 1, (.const (.int .i64 1))), (2, 1, (.const (.int .i64 2))), (3, 1, (.const (.int .i64 3))), (4, 1, (.const (.int .i64 4))), (5, 1, (.const (.int .i64 5))), (6, 1, (.const (.int .i64 6))), (7, 1, (.const (.int .i64 7))), (8, 1, (.const (.int .i64 9))), (9, 1, (.const (.int .i64 10))), (10, 1, (.const (.int .i64 11)))], none, [], false, false⟩,
               ⟨(some 22), .call 124 [(.tmp 20), (.const (.int .i64 3)), (.tmp 21)], none, [], false, false⟩])
            (.region false [⟨(some 23), .fieldAddr 1 (.tmp 4), none, [], false, false⟩,
               ⟨(some 24), .indexAddr (some 12) 1 (.tmp 23) (.const (.int .i64 8)), none, [], false, false⟩,
               ⟨none, .store 1 (.tmp 24) (.const (.int .i64 12)), none, [], false, false⟩,
               ⟨(some 25), .fieldAddr 13 (.tmp 4), none, [], false, false⟩,
               ⟨(some 26), .indexAddr (some 12) 1 (.tmp 25) (.const (.int .i64 8)), none, [], false, false⟩,
               ⟨none, .store 1 (.tmp 26) (.const (.int .i64 (-33))), none, [], false, false⟩]))
           (.seq (.region false [⟨(some 28), .bin .eql (.tmp 7) (.const (.string ⟨#[119, 101, 114, 99, 107, 109, 101, 105, 115, 116, 101, 114]⟩)), none, [], false, false⟩,
               ⟨(some 27), .move (.tmp 28), none, [], false, false⟩])
            (.cond (.tmp 27) (.region false [⟨(some 29), .fieldAddr 1 (.tmp 4), none, [], false, false⟩,
                ⟨(some 30), .buildSlice 1 4 [(.int .i64 0), (.int .i64 0), (.int .i64 0), (.int .i64 0)] [(0, 1, (.const (.int .i64 0))), (1, 1, (.const (.int .i64 1))), (2, 1, (.const (.int .i64 2))), (3, 1, (.const (.int .i64 5)))], none, [], false, false⟩,
                ⟨(some 31), .call 124 [(.tmp 29), (.const (.int .i64 3)), (.tmp 30)], none, [], false, false⟩])
             (.seq (.region false [⟨(some 33), .bin .eql (.tmp 7) (.const (.string ⟨#[107, 105, 114, 110, 98, 101, 114, 103, 101, 114]⟩)), none, [], false, false⟩,
                 ⟨(some 32), .move (.tmp 33), none, [], false, false⟩])
              (.cond (.tmp 32) (.seq (.region false [⟨(some 34), .fieldAddr 13 (.tmp 4), none, [], false, false⟩,
                   ⟨(some 35), .buildSlice 1 4 [(.int .i64 0), (.int .i64 0), (.int .i64 0), (.int .i64 0)] [(0, 1, (.const (.int .i64 0))), (1, 1, (.const (.int .i64 1))), (2, 1, (.const (.int .i64 2))), (3, 1, (.const (.int .i64 3)))], none, [], false, false⟩,
                   ⟨(some 36), .call 124 [(.tmp 34), (.const (.int .i64 3)), (.tmp 35)], none, [], false, false⟩])
                (.region false [⟨(some 37), .fieldAddr 1 (.tmp 4), none, [], false, false⟩,
                   ⟨(some 38), .indexAddr (some 12) 1 (.tmp 37) (.const (.int .i64 6)), none, [], false, false⟩,
                   ⟨none, .store 1 (.tmp 38) (.const (.int .i64 12)), none, [], false, false⟩,
                   ⟨(some 39), .fieldAddr 13 (.tmp 4), none, [], false, false⟩,
                   ⟨(some 40), .indexAddr (some 12) 1 (.tmp 39) (.const (.int .i64 6)), none, [], false, false⟩,
                   ⟨none, .store 1 (.tmp 40) (.const (.int .i64 (-12))), none, [], false, false⟩]))
               (.seq (.region false [⟨(some 42), .bin .eql (.tmp 7) (.const (.string ⟨#[118, 97, 108, 108, 111, 116, 116, 105]⟩)), none, [], false, false⟩,
                   ⟨(some 41), .move (.tmp 42), none, [], false, false⟩])
                (.cond (.tmp 41) (.region false [⟨(some 43), .fieldAddr 1 (.tmp 4), none, [], false, false⟩,
                    ⟨(some 44), .buildSlice 1 6 [(.int .i64 0), (.int .i64 0), (.int .i64 0), (.int .i64 0), (.int .i64 0), (.int .i64 0)] [(0, 1, (.const (.int .i64 11))), (1, 1, (.const (.int .i64 0))), (2, 1, (.const (.int .i64 1))), (3, 1, (.const (.int .i64 2))), (4, 1, (.const (.int .i64 3))), (5, 1, (.const (.int .i64 4)))], none, [], false, false⟩,
                    ⟨(some 45), .call 124 [(.tmp 43), (.const (.int .i64 2)), (.tmp 44)], none, [], false, false⟩])
                 (.seq (.region false [⟨(some 47), .bin .eql (.tmp 7) (.const (.string ⟨#[121, 111, 117, 110, 103]⟩)), none, [], false, false⟩,
                     ⟨(some 46), .move (.tmp 47), none, [], false, false⟩])
                  (.cond (.tmp 46) (.region false [⟨(some 48), .fieldAddr 1 (.tmp 4), none, [], false, false⟩,
                      ⟨(some 49), .buildSlice 1 6 [(.int .i64 0), (.int .i64 0), (.int .i64 0), (.int .i64 0), (.int .i64 0), (.int .i64 0)] [(0, 1, (.const (.int .i64 0))), (1, 1, (.const (.int .i64 1))), (2, 1, (.const (.int .i64 2))), (3, 1, (.const (.int .i64 3))), (4, 1, (.const (.int .i64 4))), (5, 1, (.const (.int .i64 5)))], none, [], false, false⟩,
                      ⟨(some 50), .call 124 [(.tmp 48), (.const (.int .i64 2)), (.tmp 49)], none, [], false, false⟩])
                   (.seq (.region false [⟨(some 8), .build [(.string ⟨#[]⟩), (.int .i64 0), (.int .i64 0), (.int .i64 0), (.int .i64 0), (.int .i64 0), (.int .i64 0), (.int .i64 0), (.int .i64 0), (.int .i64 0), (.int .i64 0), (.int .i64 0), (.int .i64 0), (.int .i64 0), (.int .i64 0), (.int .i64 0), (.int .i64 0), (.int .i64 0), (.int .i64 0), (.int .i64 0), (.int .i64 0), (.int .i64 0), (.int .i64 0), (.int .i64 0), (.int .i64 0)] [], none, [], false, false⟩,
                       ⟨none, .store 25 (.tmp 2) (.tmp 8), none, [], false, false⟩,
                       ⟨(some 3), .move (.const (.int .i64 6)), none, [], false, false⟩])
                    (.ret))))))))))))))))))
   (.seq (.region false [⟨(some 51), .load true 25 (.tmp 4), none, [], false, false⟩,
       ⟨none, .store 25 (.tmp 2) (.tmp 51), none, [], false, false⟩,
       ⟨(some 3), .move (.const (.int .i64 0)), none, [], false, false⟩])
    (.ret)))),
 [.cell 2 true 25, .tmp 3], .pure, 52⟩

/-- agraffe/agrafferef06.Named -/
def ef58 : EFun := ⟨
 .seq (.region false [⟨(some 2), .push [(.string ⟨#[]⟩), (.int .i64 0), (.int .i64 0), (.int .i64 0), (.int .i64 0), (.int .i64 0), (.int .i64 0), (.int .i64 0), (.int .i64 0), (.int .i64 0), (.int .i64 0), (.int .i64 0), (.int .i64 0), (.int .i64 0), (.int .i64 0), (.int .i64 0), (.int .i64 0), (.int .i64 0), (.int .i64 0), (.int .i64 0), (.int .i64 0), (.int .i64 0), (.int .i64 0), (.int .i64 0), (.int .i64 0)], none, [], false, false⟩,
    ⟨(some 3), .move (.const (.bool false)), none, [], false, false⟩])
 (.seq (.region false [⟨(some 8), .move (.tmp 0), none, [], false, false⟩,
     ⟨(some 9), .build [(.string ⟨#[]⟩), (.int .i64 0), (.int .i64 0), (.int .i64 0), (.int .i64 0), (.int .i64 0), (.int .i64 0), (.int .i64 0), (.int .i64 0), (.int .i64 0), (.int .i64 0), (.int .i64 0), (.int .i64 0), (.int .i64 0), (.int .i64 0), (.int .i64 0), (.int .i64 0), (.int .i64 0), (.int .i64 0), (.int .i64 0), (.int .i64 0), (.int .i64 0), (.int .i64 0), (.int .i64 0), (.int .i64 0)] [(0, 1, (.tmp 8))], none, [], false, false⟩,
     ⟨(some 4), .push [(.string ⟨#[]⟩), (.int .i64 0), (.int .i64 0), (.int .i64 0), (.int .i64 0), (.int .i64 0), (.int .i64 0), (.int .i64 0), (.int .i64 0), (.int .i64 0), (.int .i64 0), (.int .i64 0), (.int .i64 0), (.int .i64 0), (.int .i64 0), (.int .i64 0), (.int .i64 0), (.int .i64 0), (.int .i64 0), (.int .i64 0), (.int .i64 0), (.int .i64 0), (.int .i64 0), (.int .i64 0), (.int .i64 0)], none, [], false, false⟩,
     ⟨none, .store 25 (.tmp 4) (.tmp 9), none, [], false, false⟩])
  (.seq (.seq (.region false [⟨(some 10), .move (.tmp 0), none, [], false, false⟩])
    (.block 0 (.seq (.region false [⟨(some 13), .bin .eql (.tmp 10) (.const (.string ⟨#[101, 113, 117, 97, 108]⟩)), none, [], false, false⟩,
         ⟨(some 12), .move (.tmp 13), none, [], false, false⟩])
      (.cond (.tmp 12) (.seq (.region false [⟨(some 5), .move (.const (.int .i64 0)), none, [], false, false⟩])
        (.block 1 (.loop (some [2, 4, 5]) (
          .seq (.seq (.region false [⟨(some 14), .move (.tmp 5), none, [], false, false⟩,
               ⟨(some 15), .bin .lss (.tmp 14) (.const (.int .i64 12)), none, [], false, false⟩])
            (.cond (.tmp 15) (.skip)
             (.exit 1)))
           (.seq (.block 2 (.region false [⟨(some 18), .move (.tmp 5), none, [], false, false⟩,
                ⟨(some 19), .fieldAddr 1 (.tmp 4), none, [], false, false⟩,
                ⟨(some 20), .indexAddr (some 12) 1 (.tmp 19) (.tmp 18), none, [], false, false⟩,
                ⟨none, .store 1 (.tmp 20) (.const (.int .i64 1)), none, [], false, false⟩]))
            (.region false [⟨(some 16), .move (.tmp 5), none, [], false, false⟩,
               ⟨(some 17), .bin .add (.tmp 16) (.const (.int .i64 1)), none, [], false, false⟩,
               ⟨(some 5), .move (.tmp 17), none, [], false, false⟩]))))))
       (.seq (.region false [⟨(some 22), .bin .eql (.tmp 10) (.const (.string ⟨#[112, 121, 116, 104, 97, 103, 111, 114, 97, 115]⟩)), none, [], false, false⟩,
           ⟨(some 21), .move (.tmp 22), none, [], false, false⟩])
        (.cond (.tmp 21) (.region false [⟨(some 23), .fieldAddr 1 (.tmp 4), none, [], false, false⟩,
            ⟨(some 24), .indexAddr (some 12) 1 (.tmp 23) (.const (.int .i64 8)), none, [], false, false⟩,
            ⟨none, .store 1 (.tmp 24) (.const (.int .i64 12)), none, [], false, false⟩])
         (.seq (.region false [⟨(some 26), .bin .eql (.tmp 10) (.const (.string ⟨#[109, 101, 97, 110, 116, 111, 110, 101]⟩)), none, [], false, false⟩,
             ⟨(some 25), .move (.tmp 26), none, [], false, false⟩])
          (.cond (.tmp 25) (.seq (.seq (.region false [⟨(some 6), .move (.const (.int .i64 0)), none, [], false, false⟩])
             (.block 3 (.loop (some [2, 4, 6]) (
               .seq (.seq (.region false [⟨(some 27), .move (.tmp 6), none, [], false, false⟩,
                    ⟨(some 28), .bin .lss (.tmp 27) (.const (.int .i64 12)), none, [], false, false⟩])
                 (.cond (.tmp 28) (.skip)
                  (.exit 3)))
                (.seq (.block 4 (.region false [⟨(some 31), .move (.tmp 6), none, [], false, false⟩,
                     ⟨(some 32), .fieldAddr 13 (.tmp 4), none, [], false, false⟩,
                     ⟨(some 33), .indexAddr (some 12) 1 (.tmp 32) (.tmp 31), none, [], false, false⟩,
                     ⟨none, .store 1 (.tmp 33) (.const (.int .i64 3)), none, [], false, false⟩]))
                 (.region false [⟨(some 29), .move (.tmp 6), none, [], false, false⟩,
                    ⟨(some 30), .bin .add (.tmp 29) (.const (.int .i64 1)), none, [], false, false⟩,
                    ⟨(some 6), .move (.tmp 30), none, [], false, false⟩]))))))
            (.region false [⟨(some 34), .fieldAddr 1 (.tmp 4), none, [], false, false⟩,
               ⟨(some 35), .indexAddr (some 12) 1 (.tmp 34) (.const (.int .i64 8)), none, [], false, false⟩,
               ⟨none, .store 1 (.tmp 35) (.const (.int .i64 12)), none, [], false, false⟩,
               ⟨(some 36), .fieldAddr 13 (.tmp 4), none, [], false, false⟩,
               ⟨(some 37), .indexAddr (some 12) 1 (.tmp 36) (.const (.int .i64 8)), none, [], false, false⟩,
               ⟨none, .store 1 (.tmp 37) (.const (.int .i64 (-33))), none, [], false, false⟩]))
           (.seq (.region false [⟨(some 39), .bin .eql (.tmp 10) (.const (.string ⟨#[119, 101, 114, 99, 107, 109, 101, 105, 115, 116, 101, 114]⟩)), none, [], false, false⟩,
               ⟨(some 38), .move (.tmp 39), none, [], false, false⟩])
            (.cond (.tmp 38) (.region false [⟨(some 40), .fieldAddr 1 (.tmp 4), none, [], false, false⟩,
                ⟨(some 41), .indexAddr (some 12) 1 (.tmp 40) (.const (.int .i64 0)), none, [], false, false⟩,
                ⟨none, .store 1 (.tmp 41) (.const (.int .i64 3)), none, [], false, false⟩,
                ⟨(some 42), .fieldAddr 1 (.tmp 4), none, [], false, false⟩,
                ⟨(some 43), .indexAddr (some 12) 1 (.tmp 42) (.const (.int .i64 1)), none, [], false, false⟩,
                ⟨none, .store 1 (.tmp 43) (.const (.int .i64 3)), none, [], false, false⟩,
                ⟨(some 44), .fieldAddr 1 (.tmp 4), none, [], false, false⟩,
                ⟨(some 45), .indexAddr (some 12) 1 (.tmp 44) (.const (.int .i64 2)), none, [], false, false⟩,
                ⟨none, .store 1 (.tmp 45) (.const (.int .i64 3)), none, [], false, false⟩,
                ⟨(some 46), .fieldAddr 1 (.tmp 4), none, [], false, false⟩,
                ⟨(some 47), .indexAddr (some 12) 1 (.tmp 46) (.const (.int .i64 5)), none, [], false, false⟩,
                ⟨none, .store 1 (.tmp 47) (.const (.int .i64 3)), none, [], false, false⟩])
             (.seq (.region false [⟨(some 49), .bin .eql (.tmp 10) (.const (.string ⟨#[107, 105, 114, 110, 98, 101, 114, 103, 101, 114]⟩)), none, [], false, false⟩,
                 ⟨(some 48), .move (.tmp 49), none, [], false, false⟩])
              (.cond (.tmp 48) (.seq (.region false [⟨(some 50), .fieldAddr 13 (.tmp 4), none, [], false, false⟩,
                   ⟨(some 51), .indexAddr (some 12) 1 (.tmp 50) (.const (.int .i64 0)), none, [], false, false⟩,
                   ⟨none, .store 1 (.tmp 51) (.const (.int .i64 3)), none, [], false, false⟩,
                   ⟨(some 52), .fieldAddr 13 (.tmp 4), none, [], false, false⟩,
                   ⟨(some 53), .indexAddr (some 12) 1 (.tmp 52) (.const (.int .i64 1)), none, [], false, false⟩,
                   ⟨none, .store 1 (.tmp 53) (.const (.int .i64 3)), none, [], false, false⟩,
                   ⟨(some 54), .fieldAddr 13 (.tmp 4), none, [], false, false⟩,
                   ⟨(some 55), .indexAddr (some 12) 1 (.tmp 54) (.const (.int .i64 2)), none, [], false, false⟩,
                   ⟨none, .store 1 (.tmp 55) (.const (.int .i64 3)), none, [], false, false⟩,
                   ⟨(some 56), .fieldAddr 13 (.tmp 4), none, [], false, false⟩,
                   ⟨(some 57), .indexAddr (some 12) 1 (.tmp 56) (.const (.int .i64 3)), none, [], false, false⟩,
                   ⟨none, .store 1 (.tmp 57) (.const (.int .i64 3)), none, [], false, false⟩])
                (.region false [⟨(some 58), .fieldAddr 1 (.tmp 4), none, [], false, false⟩,
                   ⟨(some 59), .indexAddr (some 12) 1 (.tmp 58) (.const (.int .i64 6)), none, [], false, false⟩,
                   ⟨none, .store 1 (.tmp 59) (.const (.int .i64 12)), none, [], false, false⟩,
                   ⟨(some 60), .fieldAddr 13 (.tmp 4), none, [], false, false⟩,
                   ⟨(some 61), .indexAddr (some 12) 1 (.tmp 60) (.const (.int .i64 6)), none, [], false, false⟩,
                   ⟨none, .store 1 (.tmp 61) (.const (.int .i64 (-12))), none, [], false, false⟩]))
               (.seq (.region false [⟨(some 63), .bin .eql (.tmp 10) (.const (.string ⟨#[118, 97, 108, 108, 111, 116, 116, 105]⟩)), none, [], false, false⟩,
                   ⟨(some 62), .move (.tmp 63), none, [], false, false⟩])
                (.cond (.tmp 62) (.region false [⟨(some 64), .fieldAddr 1 (.tmp 4), none, [], false, false⟩,
                    ⟨(some 65), .indexAddr (some 12) 1 (.tmp 64) (.const (.int .i64 11)), none, [], false, false⟩,
                    ⟨none, .store 1 (.tmp 65) (.const (.int .i64 2)), none, [], false, false⟩,
                    ⟨(some 66), .fieldAddr 1 (.tmp 4), none, [], false, false⟩,
                    ⟨(some 67), .indexAddr (some 12) 1 (.tmp 66) (.const (.int .i64 0)), none, [], false, false⟩,
                    ⟨none, .store 1 (.tmp 67) (.const (.int .i64 2)), none, [], false, false⟩,
                    ⟨(some 68), .fieldAddr 1 (.tmp 4), none, [], false, false⟩,
                    ⟨(some 69), .indexAddr (some 12) 1 (.tmp 68) (.const (.int .i64 1)), none, [], false, false⟩,
                    ⟨none, .store 1 (.tmp 69) (.const (.int .i64 2)), none, [], false, false⟩,
                    ⟨(some 70), .fieldAddr 1 (.tmp 4), none, [], false, false⟩,
                    ⟨(some 71), .indexAddr (some 12) 1 (.tmp 70) (.const (.int .i64 2)), none, [], false, false⟩,
                    ⟨none, .store 1 (.tmp 71) (.const (.int .i64 2)), none, [], false, false⟩,
                    ⟨(some 72), .fieldAddr 1 (.tmp 4), none, [], false, false⟩,
                    ⟨(some 73), .indexAddr (some 12) 1 (.tmp 72) (.const (.int .i64 3)), none, [], false, false⟩,
                    ⟨none, .store 1 (.tmp 73) (.const (.int .i64 2)), none, [], false, false⟩,
                    ⟨(some 74), .fieldAddr 1 (.tmp 4), none, [], false, false⟩,
                    ⟨(some 75), .indexAddr (some 12) 1 (.tmp 74) (.const (.int .i64 4)), none, [], false, false⟩,
                    ⟨none, .store 1 (.tmp 75) (.const (.int .i64 2)), none, [], false, false⟩])
                 (.seq (.region false [⟨(some 77), .bin .eql (.tmp 10) (.const (.string ⟨#[121, 111, 117, 110, 103]⟩)), none, [], false, false⟩,
                     ⟨(some 76), .move (.tmp 77), none, [], false, false⟩])
                  (.cond (.tmp 76) (.seq (.region false [⟨(some 7), .move (.const (.int .i64 0)), none, [], false, false⟩])
                    (.block 5 (.loop (some [2, 4, 7]) (
                      .seq (.seq (.region false [⟨(some 78), .move (.tmp 7), none, [], false, false⟩,
                           ⟨(some 79), .bin .lss (.tmp 78) (.const (.int .i64 6)), none, [], false, false⟩])
                        (.cond (.tmp 79) (.skip)
                         (.exit 5)))
                       (.seq (.block 6 (.region false [⟨(some 82), .move (.tmp 7), none, [], false, false⟩,
                            ⟨(some 83), .fieldAddr 1 (.tmp 4), none, [], false, false⟩,
                            ⟨(some 84), .indexAddr (some 12) 1 (.tmp 83) (.tmp 82), none, [], false, false⟩,
                            ⟨none, .store 1 (.tmp 84) (.const (.int .i64 2)), none, [], false, false⟩]))
                        (.region false [⟨(some 80), .move (.tmp 7), none, [], false, false⟩,
                           ⟨(some 81), .bin .add (.tmp 80) (.const (.int .i64 1)), none, [], false, false⟩,
                           ⟨(some 7), .move (.tmp 81), none, [], false, false⟩]))))))
                   (.seq (.region false [⟨(some 11), .build [(.string ⟨#[]⟩), (.int .i64 0), (.int .i64 0), (.int .i64 0), (.int .i64 0), (.int .i64 0), (.int .i64 0), (.int .i64 0), (.int .i64 0), (.int .i64 0), (.int .i64 0), (.int .i64 0), (.int .i64 0), (.int .i64 0), (.int .i64 0), (.int .i64 0), (.int .i64 0), (.int .i64 0), (.int .i64 0), (.int .i64 0), (.int .i64 0), (.int .i64 0), (.int .i64 0), (.int .i64 0), (.int .i64 0)] [], none, [], false, false⟩,
                       ⟨none, .store 25 (.tmp 2) (.tmp 11), none, [], false, false⟩,
                       ⟨(some 3), .move (.const (.bool false)), none, [], false, false⟩])
                    (.ret))))))))))))))))))
   (.seq (.region false [⟨(some 85), .load true 25 (.tmp 4), none, [], false, false⟩,
       ⟨none, .store 25 (.tmp 2) (.tmp 85), none, [], false, false⟩,
       ⟨(some 3), .move (.const (.bool true)), none, [], false, false⟩])
    (.ret)))),
 [.cell 2 true 25, .tmp 3], .pure, 86⟩

/-- agraffe/agraffebase.Within -/
def ef60 : EFun := ⟨
 .seq (.region false [⟨(some 6), .move (.const (.bool false)), none, [], false, false⟩])
 (.seq (.region false [⟨(some 7), .move (.tmp 0), none, [], false, false⟩,
     ⟨(some 8), .move (.tmp 1), none, [], false, false⟩,
     ⟨(some 9), .bin .geq (.tmp 7) (.tmp 8), none, [], false, false⟩,
     ⟨(some 10), .move (.tmp 9), none, [], false, false⟩,
     ⟨(some 11), .move (.tmp 0), (some (10, true)), [], false, false⟩,
     ⟨(some 12), .move (.tmp 2), (some (10, true)), [], false, false⟩,
     ⟨(some 13), .bin .leq (.tmp 11) (.tmp 12), (some (10, true)), [], false, false⟩,
     ⟨(some 14), .pick (.tmp 10) (.tmp 13) (.const (.bool false)), none, [], false, false⟩,
     ⟨(some 6), .move (.tmp 14), none, [], false, false⟩])
  (.ret)),
 [.tmp 6], .pure, 15⟩

/-- agraffe/agraffelaw06.steps -/
def ef62 : EFun := ⟨
 .seq (.region false [⟨(some 2), .move (.const (.bool false)), none, [], false, false⟩])
 (.seq (.region false [⟨(some 3), .move (.tmp 0), none, [], false, false⟩,
     ⟨(some 4), .len false (.tmp 3), none, [], false, false⟩,
     ⟨(some 5), .bin .leq (.tmp 4) (.const (.int .i64 103)), none, [], false, false⟩,
     ⟨(some 2), .move (.tmp 5), none, [], false, false⟩])
  (.ret)),
 [.tmp 2], .pure, 6⟩

/-- agraffe/temper.CheckOrder -/
def ef63 : EFun := ⟨
 .seq (.region false [⟨(some 6), .move (.const (.int .i64 0)), none, [], false, false⟩])
 (.seq (.seq (.region false [⟨(some 9), .move (.tmp 1), none, [], false, false⟩,
      ⟨(some 10), .call 85 [(.tmp 9)], none, [], false, false⟩,
      ⟨(some 11), .un .not (.tmp 10), none, [], false, false⟩,
      ⟨(some 12), .move (.tmp 11), none, [], false, false⟩,
      ⟨(some 13), .move (.tmp 2), (some (12, false)), [], false, false⟩,
      ⟨(some 14), .call 85 [(.tmp 13)], (some (12, false)), [], false, false⟩,
      ⟨(some 15), .un .not (.tmp 14), (some (12, false)), [], false, false⟩,
      ⟨(some 16), .pick (.tmp 12) (.const (.bool true)) (.tmp 15), none, [], false, false⟩,
      ⟨(some 17), .move (.tmp 16), none, [], false, false⟩,
      ⟨(some 18), .move (.tmp 1), (some (17, false)), [], false, false⟩,
      ⟨(some 19), .bin .gtr (.tmp 18) (.const (.int .i64 48)), (some (17, false)), [], false, false⟩,
      ⟨(some 20), .pick (.tmp 17) (.const (.bool true)) (.tmp 19), none, [], false, false⟩,
      ⟨(some 21), .move (.tmp 20), none, [], false, false⟩,
      ⟨(some 22), .move (.tmp 2), (some (21, false)), [], false, false⟩,
      ⟨(some 23), .bin .lss (.tmp 22) (.const (.int .i64 48)), (some (21, false)), [], false, false⟩,
      ⟨(some 24), .pick (.tmp 21) (.const (.bool true)) (.tmp 23), none, [], false, false⟩])
   (.cond (.tmp 24) (.seq (.region false [⟨(some 6), .move (.const (.int .i64 2)), none, [], false, false⟩])
     (.ret))
    (.skip)))
  (.seq (.region false [⟨(some 26), .move (.tmp 0), none, [], false, false⟩,
      ⟨(some 27), .move (.tmp 1), none, [], false, false⟩,
      ⟨(some 28), .move (.tmp 2), none, [], false, false⟩,
      ⟨(some 29), .call 125 [(.tmp 26), (.tmp 27), (.tmp 28)], none, [], false, false⟩,
      ⟨(some 25), .move (.tmp 29), none, [], false, false⟩,
      ⟨(some 30), .extract (.tmp 25) 0, none, [], false, false⟩,
      ⟨(some 31), .extract (.tmp 25) 1, none, [], false, false⟩,
      ⟨(some 7), .move (.tmp 30), none, [], false, false⟩,
      ⟨(some 8), .move (.tmp 31), none, [], false, false⟩])
   (.seq (.block 0 (.seq (.region false [⟨(some 33), .move (.tmp 8), none, [], false, false⟩,
         ⟨(some 34), .bin .neq (.tmp 33) (.const (.int .i64 0)), none, [], false, false⟩,
         ⟨(some 32), .move (.tmp 34), none, [], false, false⟩])
      (.cond (.tmp 32) (.seq (.region false [⟨(some 35), .move (.tmp 8), none, [], false, false⟩,
           ⟨(some 6), .move (.tmp 35), none, [], false, false⟩])
        (.ret))
       (.seq (.region false [⟨(some 37), .move (.tmp 7), none, [], false, false⟩,
           ⟨(some 38), .lenMap (.tmp 37), none, [], false, false⟩,
           ⟨(some 39), .move (.tmp 2), none, [], false, false⟩,
           ⟨(some 40), .move (.tmp 1), none, [], false, false⟩,
           ⟨(some 41), .bin .sub (.tmp 39) (.tmp 40), none, [], false, false⟩,
           ⟨(some 42), .bin .add (.tmp 41) (.const (.int .i64 1)), none, [], false, false⟩,
           ⟨(some 43), .bin .lss (.tmp 38) (.tmp 42), none, [], false, false⟩,
           ⟨(some 36), .move (.tmp 43), none, [], false, false⟩])
        (.cond (.tmp 36) (.seq (.region false [⟨(some 6), .move (.const (.int .i64 14)), none, [], false, false⟩])
          (.ret))
         (.skip))))))
    (.seq (.region false [⟨(some 6), .move (.const (.int .i64 0)), none, [], false, false⟩])
     (.ret))))),
 [.tmp 6], .pure, 44⟩

/-- agraffe/agrafferef06.CheckOrder -/
def ef64 : EFun := ⟨
 .seq (.region false [⟨(some 6), .move (.const (.int .i64 0)), none, [], false, false⟩])
 (.seq (.seq (.region false [⟨(some 9), .move (.tmp 1), none, [], false, false⟩,
      ⟨(some 10), .call 24 [(.tmp 9)], none, [], false, false⟩,
      ⟨(some 11), .un .not (.tmp 10), none, [], false, false⟩,
      ⟨(some 12), .move (.tmp 11), none, [], false, false⟩,
      ⟨(some 13), .move (.tmp 2), (some (12, false)), [], false, false⟩,
      ⟨(some 14), .call 24 [(.tmp 13)], (some (12, false)), [], false, false⟩,
      ⟨(some 15), .un .not (.tmp 14), (some (12, false)), [], false, false⟩,
      ⟨(some 16), .pick (.tmp 12) (.const (.bool true)) (.tmp 15), none, [], false, false⟩,
      ⟨(some 17), .move (.tmp 16), none, [], false, false⟩,
      ⟨(some 18), .move (.tmp 1), (some (17, false)), [], false, false⟩,
      ⟨(some 19), .move (.tmp 2), (some (17, false)), [], false, false⟩,
      ⟨(some 20), .call 60 [(.const (.int .i64 48)), (.tmp 18), (.tmp 19)], (some (17, false)), [], false, false⟩,
      ⟨(some 21), .un .not (.tmp 20), (some (17, false)), [], false, false⟩,
      ⟨(some 22), .pick (.tmp 17) (.const (.bool true)) (.tmp 21), none, [], false, false⟩])
   (.cond (.tmp 22) (.seq (.region false [⟨(some 6), .move (.const (.int .i64 2)), none, [], false, false⟩])
     (.ret))
    (.skip)))
  (.seq (.region false [⟨(some 24), .move (.tmp 0), none, [], false, false⟩,
      ⟨(some 25), .move (.tmp 1), none, [], false, false⟩,
      ⟨(some 26), .move (.tmp 2), none, [], false, false⟩,
      ⟨(some 27), .call 79 [(.tmp 24), (.tmp 25), (.tmp 26)], none, [], false, false⟩,
      ⟨(some 23), .move (.tmp 27), none, [], false, false⟩,
      ⟨(some 28), .extract (.tmp 23) 0, none, [], false, false⟩,
      ⟨(some 29), .extract (.tmp 23) 1, none, [], false, false⟩,
      ⟨(some 7), .move (.tmp 28), none, [], false, false⟩,
      ⟨(some 8), .move (.tmp 29), none, [], false, false⟩])
   (.seq (.seq (.region false [⟨(some 30), .move (.tmp 8), none, [], false, false⟩,
        ⟨(some 31), .bin .neq (.tmp 30) (.const (.int .i64 0)), none, [], false, false⟩])
     (.cond (.tmp 31) (.seq (.region false [⟨(some 32), .move (.tmp 8), none, [], false, false⟩,
          ⟨(some 6), .move (.tmp 32), none, [], false, false⟩])
       (.ret))
      (.skip)))
    (.seq (.seq (.region false [⟨(some 33), .move (.tmp 7), none, [], false, false⟩,
         ⟨(some 34), .len false (.tmp 33), none, [], false, false⟩,
         ⟨(some 35), .move (.tmp 2), none, [], false, false⟩,
         ⟨(some 36), .move (.tmp 1), none, [], false, false⟩,
         ⟨(some 37), .bin .sub (.tmp 35) (.tmp 36), none, [], false, false⟩,
         ⟨(some 38), .bin .add (.tmp 37) (.const (.int .i64 1)), none, [], false, false⟩,
         ⟨(some 39), .bin .neq (.tmp 34) (.tmp 38), none, [], false, false⟩])
      (.cond (.tmp 39) (.seq (.region false [⟨(some 6), .move (.const (.int .i64 14)), none, [], false, false⟩])
        (.ret))
       (.skip)))
     (.seq (.region false [⟨(some 6), .move (.const (.int .i64 0)), none, [], false, false⟩])
      (.ret)))))),
 [.tmp 6], .pure, 40⟩

/-- agraffe/agraffelaw06.sameSteps -/
def ef65 : EFun := ⟨
 .seq (.region false [⟨(some 4), .move (.const (.bool false)), none, [], false, false⟩])
 (.seq (.seq (.region false [⟨(some 6), .move (.tmp 0), none, [], false, false⟩,
      ⟨(some 7), .len false (.tmp 6), none, [], false, false⟩,
      ⟨(some 8), .move (.tmp 1), none, [], false, false⟩,
      ⟨(some 9), .len false (.tmp 8), none, [], false, false⟩,
      ⟨(some 10), .bin .neq (.tmp 7) (.tmp 9), none, [], false, false⟩])
   (.cond (.tmp 10) (.seq (.region false [⟨(some 4), .move (.const (.bool false)), none, [], false, false⟩])
     (.ret))
    (.skip)))
  (.seq (.seq (.region false [⟨(some 5), .move (.const (.int .i64 0)), none, [], false, false⟩])
    (.block 0 (.loop (some [0, 1, 5]) (
      .seq (.seq (.region false [⟨(some 11), .move (.tmp 5), none, [], false, false⟩,
           ⟨(some 12), .move (.tmp 0), none, [], false, false⟩,
           ⟨(some 13), .len false (.tmp 12), none, [], false, false⟩,
           ⟨(some 14), .bin .lss (.tmp 11) (.tmp 13), none, [], false, false⟩])
        (.cond (.tmp 14) (.skip)
         (.exit 0)))
       (.seq (.block 1 (.seq (.region true [⟨(some 17), .move (.tmp 0), none, [], false, false⟩,
             ⟨(some 18), .move (.tmp 5), none, [], false, false⟩,
             ⟨(some 19), .indexAddr none 2 (.tmp 17) (.tmp 18), none, [], false, false⟩,
             ⟨(some 20), .load true 2 (.tmp 19), none, [], false, false⟩,
             ⟨(some 21), .move (.tmp 1), none, [], false, false⟩,
             ⟨(some 22), .move (.tmp 5), none, [], false, false⟩,
             ⟨(some 23), .indexAddr none 2 (.tmp 21) (.tmp 22), none, [], false, false⟩,
             ⟨(some 24), .load true 2 (.tmp 23), none, [], false, false⟩,
             ⟨(some 25), .eqAgg true [(.int .i64), (.int .i64)] (.tmp 20) (.tmp 24), none, [], false, false⟩])
          (.cond (.tmp 25) (.seq (.region false [⟨(some 4), .move (.const (.bool false)), none, [], false, false⟩])
            (.ret))
           (.skip))))
        (.region false [⟨(some 15), .move (.tmp 5), none, [], false, false⟩,
           ⟨(some 16), .bin .add (.tmp 15) (.const (.int .i64 1)), none, [], false, false⟩,
           ⟨(some 5), .move (.tmp 16), none, [], false, false⟩]))))))
   (.seq (.region false [⟨(some 4), .move (.const (.bool true)), none, [], false, false⟩])
    (.ret)))),
 [.tmp 4], .pure, 26⟩

/-- agraffe/temper.Bearings -/
def ef66 : EFun := ⟨
 .seq (.region false [⟨(some 0), .move (.const (.slice none 0 0)), none, [], false, false⟩])
 (.seq (.region false [⟨(some 4), .build [(.int .i64 0), (.int .i64 0)] [(0, 1, (.const (.int .i64 48))), (1, 1, (.const (.int .i64 36)))], none, [], false, false⟩,
     ⟨(some 5), .buildSlice 2 1 [(.int .i64 0), (.int .i64 0)] [(0, 2, (.tmp 4))], none, [], false, false⟩,
     ⟨(some 1), .move (.tmp 5), none, [], false, false⟩])
  (.seq (.seq (.region false [⟨(some 2), .move (.const (.int .i64 36)), none, [], false, false⟩])
    (.block 0 (.loop (some [1, 2]) (
      .seq (.seq (.region false [⟨(some 6), .move (.tmp 1), none, [], false, false⟩,
           ⟨(some 7), .len false (.tmp 6), none, [], false, false⟩,
           ⟨(some 8), .bin .lss (.tmp 7) (.const (.int .i64 12)), none, [], false, false⟩])
        (.cond (.tmp 8) (.skip)
         (.exit 0)))
       (.block 1 (.seq (.region false [⟨(some 9), .move (.tmp 2), none, [], false, false⟩,
            ⟨(some 10), .bin .add (.tmp 9) (.const (.int .i64 7)), none, [], false, false⟩,
            ⟨(some 3), .move (.tmp 10), none, [], false, false⟩])
         (.seq (.seq (.region false [⟨(some 11), .move (.tmp 3), none, [], false, false⟩,
              ⟨(some 12), .bin .gtr (.tmp 11) (.const (.int .i64 44)), none, [], false, false⟩])
           (.cond (.tmp 12) (.region false [⟨(some 13), .move (.tmp 2), none, [], false, false⟩,
               ⟨(some 14), .bin .sub (.tmp 13) (.const (.int .i64 5)), none, [], false, false⟩,
               ⟨(some 3), .move (.tmp 14), none, [], false, false⟩])
            (.skip)))
          (.seq (.region false [⟨(some 15), .move (.tmp 1), none, [], false, false⟩,
              ⟨(some 16), .move (.tmp 2), none, [], false, false⟩,
              ⟨(some 17), .move (.tmp 3), none, [], false, false⟩,
              ⟨(some 18), .build [(.int .i64 0), (.int .i64 0)] [(0, 1, (.tmp 16)), (1, 1, (.tmp 17))], none, [], false, false⟩,
              ⟨(some 19), .buildSlice 2 1 [(.int .i64 0), (.int .i64 0)] [(0, 2, (.tmp 18))], none, [], false, false⟩,
              ⟨(some 20), .append 2 16 (.tmp 15) (.tmp 19), none, [], false, false⟩,
              ⟨(some 1), .move (.tmp 20), none, [], false, false⟩])
           (.region false [⟨(some 21), .move (.tmp 3), none, [], false, false⟩,
              ⟨(some 2), .move (.tmp 21), none, [], false, false⟩])))))))))
   (.seq (.region false [⟨(some 22), .move (.tmp 1), none, [], false, false⟩,
       ⟨(some 23), .build [(.int .i64 0), (.int .i64 0)] [(0, 1, (.const (.int .i64 44))), (1, 1, (.const (.int .i64 32)))], none, [], false, false⟩,
       ⟨(some 24), .buildSlice 2 1 [(.int .i64 0), (.int .i64 0)] [(0, 2, (.tmp 23))], none, [], false, false⟩,
       ⟨(some 25), .append 2 16 (.tmp 22) (.tmp 24), none, [], false, false⟩,
       ⟨(some 0), .move (.tmp 25), none, [], false, false⟩])
    (.ret)))),
 [.tmp 0], .pure, 26⟩

/-- agraffe/agrafferef06.Bearings -/
def ef67 : EFun := ⟨
 .seq (.region false [⟨(some 0), .move (.const (.slice none 0 0)), none, [], false, false⟩])
 (.seq (.region false [⟨(some 5), .build [(.int .i64 0), (.int .i64 0)] [(0, 1, (.const (.int .i64 48))), (1, 1, (.const (.int .i64 36)))], none, [], false, false⟩,
     ⟨(some 6), .buildSlice 2 1 [(.int .i64 0), (.int .i64 0)] [(0, 2, (.tmp 5))], none, [], false, false⟩,
     ⟨(some 1), .move (.tmp 6), none, [], false, false⟩])
  (.seq (.region false [⟨(some 2), .move (.const (.int .i64 36)), none, [], false, false⟩])
   (.seq (.seq (.region false [⟨(some 3), .move (.const (.int .i64 0)), none, [], false, false⟩])
     (.block 0 (.loop (some [1, 2, 3]) (
       .seq (.seq (.region false [⟨(some 7), .move (.tmp 3), none, [], false, false⟩,
            ⟨(some 8), .bin .lss (.tmp 7) (.const (.int .i64 11)), none, [], false, false⟩])
         (.cond (.tmp 8) (.skip)
          (.exit 0)))
        (.seq (.block 1 (.seq (.region false [⟨(some 11), .move (.tmp 2), none, [], false, false⟩,
              ⟨(some 12), .bin .add (.tmp 11) (.const (.int .i64 7)), none, [], false, false⟩,
              ⟨(some 4), .move (.tmp 12), none, [], false, false⟩])
           (.seq (.seq (.region false [⟨(some 13), .move (.tmp 4), none, [], false, false⟩,
                ⟨(some 14), .bin .gtr (.tmp 13) (.const (.int .i64 44)), none, [], false, false⟩])
             (.cond (.tmp 14) (.region false [⟨(some 15), .move (.tmp 2), none, [], false, false⟩,
                 ⟨(some 16), .bin .sub (.tmp 15) (.const (.int .i64 5)), none, [], false, false⟩,
                 ⟨(some 4), .move (.tmp 16), none, [], false, false⟩])
              (.skip)))
            (.seq (.region false [⟨(some 17), .move (.tmp 1), none, [], false, false⟩,
                ⟨(some 18), .move (.tmp 2), none, [], false, false⟩,
                ⟨(some 19), .move (.tmp 4), none, [], false, false⟩,
                ⟨(some 20), .build [(.int .i64 0), (.int .i64 0)] [(0, 1, (.tmp 18)), (1, 1, (.tmp 19))], none, [], false, false⟩,
                ⟨(some 21), .buildSlice 2 1 [(.int .i64 0), (.int .i64 0)] [(0, 2, (.tmp 20))], none, [], false, false⟩,
                ⟨(some 22), .append 2 16 (.tmp 17) (.tmp 21), none, [], false, false⟩,
                ⟨(some 1), .move (.tmp 22), none, [], false, false⟩])
             (.region false [⟨(some 23), .move (.tmp 4), none, [], false, false⟩,
                ⟨(some 2), .move (.tmp 23), none, [], false, false⟩])))))
         (.region false [⟨(some 9), .move (.tmp 3), none, [], false, false⟩,
            ⟨(some 10), .bin .add (.tmp 9) (.const (.int .i64 1)), none, [], false, false⟩,
            ⟨(some 3), .move (.tmp 10), none, [], false, false⟩]))))))
    (.seq (.region false [⟨(some 24), .move (.tmp 1), none, [], false, false⟩,
        ⟨(some 25), .build [(.int .i64 0), (.int .i64 0)] [(0, 1, (.const (.int .i64 44))), (1, 1, (.const (.int .i64 32)))], none, [], false, false⟩,
        ⟨(some 26), .buildSlice 2 1 [(.int .i64 0), (.int .i64 0)] [(0, 2, (.tmp 25))], none, [], false, false⟩,
        ⟨(some 27), .append 2 16 (.tmp 24) (.tmp 26), none, [], false, false⟩,
        ⟨(some 0), .move (.tmp 27), none, [], false, false⟩])
     (.ret))))),
 [.tmp 0], .pure, 28⟩

/-- agraffe/temper.Order -/
def ef68 : EFun := ⟨
 .seq (.region false [⟨(some 4), .move (.const (.slice none 0 0)), none, [], false, false⟩,
    ⟨(some 5), .move (.const (.int .i64 0)), none, [], false, false⟩])
 (.seq (.seq (.region false [⟨(some 9), .move (.tmp 0), none, [], false, false⟩,
      ⟨(some 10), .bin .lss (.tmp 9) (.const (.int .i64 0)), none, [], false, false⟩,
      ⟨(some 11), .move (.tmp 10), none, [], false, false⟩,
      ⟨(some 12), .move (.tmp 0), (some (11, false)), [], false, false⟩,
      ⟨(some 13), .bin .gtr (.tmp 12) (.const (.int .i64 32)), (some (11, false)), [], false, false⟩,
      ⟨(some 14), .pick (.tmp 11) (.const (.bool true)) (.tmp 13), none, [], false, false⟩,
      ⟨(some 15), .move (.tmp 14), none, [], false, false⟩,
      ⟨(some 16), .move (.tmp 1), (some (15, false)), [], false, false⟩,
      ⟨(some 17), .bin .lss (.tmp 16) (.const (.int .i64 48)), (some (15, false)), [], false, false⟩,
      ⟨(some 18), .pick (.tmp 15) (.const (.bool true)) (.tmp 17), none, [], false, false⟩,
      ⟨(some 19), .move (.tmp 18), none, [], false, false⟩,
      ⟨(some 20), .move (.tmp 1), (some (19, false)), [], false, false⟩,
      ⟨(some 21), .bin .gtr (.tmp 20) (.const (.int .i64 87)), (some (19, false)), [], false, false⟩,
      ⟨(some 22), .pick (.tmp 19) (.const (.bool true)) (.tmp 21), none, [], false, false⟩])
   (.cond (.tmp 22) (.seq (.region false [⟨(some 4), .move (.const (.slice none 0 0)), none, [], false, false⟩,
        ⟨(some 5), .move (.const (.int .i64 2)), none, [], false, false⟩])
     (.ret))
    (.skip)))
  (.seq (.region false [⟨(some 23), .call 66 [], none, [], false, false⟩,
      ⟨(some 6), .move (.tmp 23), none, [], false, false⟩])
   (.seq (.seq (.region false [⟨(some 7), .move (.const (.int .i64 45)), none, [], false, false⟩])
     (.block 0 (.loop (some [0, 1, 6, 7]) (
       .seq (.seq (.region false [⟨(some 24), .move (.tmp 7), none, [], false, false⟩,
            ⟨(some 25), .move (.tmp 1), none, [], false, false⟩,
            ⟨(some 26), .bin .leq (.tmp 24) (.tmp 25), none, [], false, false⟩])
         (.cond (.tmp 26) (.skip)
          (.exit 0)))
        (.seq (.block 1 (.seq (.region false [⟨(some 29), .move (.tmp 7), none, [], false, false⟩,
              ⟨(some 30), .bin .neq (.tmp 29) (.const (.int .i64 48)), none, [], false, false⟩])
           (.cond (.tmp 30) (.region false [⟨(some 31), .move (.tmp 6), none, [], false, false⟩,
               ⟨(some 32), .move (.tmp 7), none, [], false, false⟩,
               ⟨(some 33), .bin .sub (.tmp 32) (.const (.int .i64 12)), none, [], false, false⟩,
               ⟨(some 34), .move (.tmp 7), none, [], false, false⟩,
               ⟨(some 35), .build [(.int .i64 0), (.int .i64 0)] [(0, 1, (.tmp 33)), (1, 1, (.tmp 34))], none, [], false, false⟩,
               ⟨(some 36), .buildSlice 2 1 [(.int .i64 0), (.int .i64 0)] [(0, 2, (.tmp 35))], none, [], false, false⟩,
               ⟨(some 37), .append 2 16 (.tmp 31) (.tmp 36), none, [], false, false⟩,
               ⟨(some 6), .move (.tmp 37), none, [], false, false⟩])
            (.skip))))
         (.region false [⟨(some 27), .move (.tmp 7), none, [], false, false⟩,
            ⟨(some 28), .bin .add (.tmp 27) (.const (.int .i64 1)), none, [], false, false⟩,
            ⟨(some 7), .move (.tmp 28), none, [], false, false⟩]))))))
    (.seq (.seq (.region false [⟨(some 8), .move (.const (.int .i64 31)), none, [], false, false⟩])
      (.block 2 (.loop (some [0, 6, 8]) (
        .seq (.seq (.region false [⟨(some 38), .move (.tmp 8), none, [], false, false⟩,
             ⟨(some 39), .move (.tmp 0), none, [], false, false⟩,
             ⟨(some 40), .bin .geq (.tmp 38) (.tmp 39), none, [], false, false⟩])
          (.cond (.tmp 40) (.skip)
           (.exit 2)))
         (.seq (.block 3 (.region false [⟨(some 43), .move (.tmp 6), none, [], false, false⟩,
              ⟨(some 44), .move (.tmp 8), none, [], false, false⟩,
              ⟨(some 45), .bin .add (.tmp 44) (.const (.int .i64 12)), none, [], false, false⟩,
              ⟨(some 46), .move (.tmp 8), none, [], false, false⟩,
              ⟨(some 47), .build [(.int .i64 0), (.int .i64 0)] [(0, 1, (.tmp 45)), (1, 1, (.tmp 46))], none, [], false, false⟩,
              ⟨(some 48), .buildSlice 2 1 [(.int .i64 0), (.int .i64 0)] [(0, 2, (.tmp 47))], none, [], false, false⟩,
              ⟨(some 49), .append 2 16 (.tmp 43) (.tmp 48), none, [], false, false⟩,
              ⟨(some 6), .move (.tmp 49), none, [], false, false⟩]))
          (.region false [⟨(some 41), .move (.tmp 8), none, [], false, false⟩,
             ⟨(some 42), .bin .sub (.tmp 41) (.const (.int .i64 1)), none, [], false, false⟩,
             ⟨(some 8), .move (.tmp 42), none, [], false, false⟩]))))))
     (.seq (.region false [⟨(some 50), .move (.tmp 6), none, [], false, false⟩,
         ⟨(some 4), .move (.tmp 50), none, [], false, false⟩,
         ⟨(some 5), .move (.const (.int .i64 0)), none, [], false, false⟩])
      (.ret)))))),
 [.tmp 4, .tmp 5], .pure, 51⟩

/-- agraffe/agrafferef06.Order -/
def ef69 : EFun := ⟨
 .seq (.region false [⟨(some 4), .move (.const (.slice none 0 0)), none, [], false, false⟩])
 (.seq (.region false [⟨(some 8), .call 67 [], none, [], false, false⟩,
     ⟨(some 5), .move (.tmp 8), none, [], false, false⟩])
  (.seq (.seq (.region false [⟨(some 6), .move (.const (.int .i64 45)), none, [], false, false⟩])
    (.block 0 (.loop (some [0, 1, 5, 6]) (
      .seq (.seq (.region false [⟨(some 9), .move (.tmp 6), none, [], false, false⟩,
           ⟨(some 10), .move (.tmp 1), none, [], false, false⟩,
           ⟨(some 11), .bin .leq (.tmp 9) (.tmp 10), none, [], false, false⟩])
        (.cond (.tmp 11) (.skip)
         (.exit 0)))
       (.seq (.block 1 (.seq (.region false [⟨(some 14), .move (.tmp 6), none, [], false, false⟩,
             ⟨(some 15), .bin .neq (.tmp 14) (.const (.int .i64 48)), none, [], false, false⟩])
          (.cond (.tmp 15) (.region false [⟨(some 16), .move (.tmp 5), none, [], false, false⟩,
              ⟨(some 17), .move (.tmp 6), none, [], false, false⟩,
              ⟨(some 18), .bin .sub (.tmp 17) (.const (.int .i64 12)), none, [], false, false⟩,
              ⟨(some 19), .move (.tmp 6), none, [], false, false⟩,
              ⟨(some 20), .build [(.int .i64 0), (.int .i64 0)] [(0, 1, (.tmp 18)), (1, 1, (.tmp 19))], none, [], false, false⟩,
              ⟨(some 21), .buildSlice 2 1 [(.int .i64 0), (.int .i64 0)] [(0, 2, (.tmp 20))], none, [], false, false⟩,
              ⟨(some 22), .append 2 16 (.tmp 16) (.tmp 21), none, [], false, false⟩,
              ⟨(some 5), .move (.tmp 22), none, [], false, false⟩])
           (.skip))))
        (.region false [⟨(some 12), .move (.tmp 6), none, [], false, false⟩,
           ⟨(some 13), .bin .add (.tmp 12) (.const (.int .i64 1)), none, [], false, false⟩,
           ⟨(some 6), .move (.tmp 13), none, [], false, false⟩]))))))
   (.seq (.seq (.region false [⟨(some 7), .move (.const (.int .i64 31)), none, [], false, false⟩])
     (.block 2 (.loop (some [0, 5, 7]) (
       .seq (.seq (.region false [⟨(some 23), .move (.tmp 7), none, [], false, false⟩,
            ⟨(some 24), .move (.tmp 0), none, [], false, false⟩,
            ⟨(some 25), .bin .geq (.tmp 23) (.tmp 24), none, [], false, false⟩])
         (.cond (.tmp 25) (.skip)
          (.exit 2)))
        (.seq (.block 3 (.region false [⟨(some 28), .move (.tmp 5), none, [], false, false⟩,
             ⟨(some 29), .move (.tmp 7), none, [], false, false⟩,
             ⟨(some 30), .bin .add (.tmp 29) (.const (.int .i64 12)), none, [], false, false⟩,
             ⟨(some 31), .move (.tmp 7), none, [], false, false⟩,
             ⟨(some 32), .build [(.int .i64 0), (.int .i64 0)] [(0, 1, (.tmp 30)), (1, 1, (.tmp 31))], none, [], false, false⟩,
             ⟨(some 33), .buildSlice 2 1 [(.int .i64 0), (.int .i64 0)] [(0, 2, (.tmp 32))], none, [], false, false⟩,
             ⟨(some 34), .append 2 16 (.tmp 28) (.tmp 33), none, [], false, false⟩,
             ⟨(some 5), .move (.tmp 34), none, [], false, false⟩]))
         (.region false [⟨(some 26), .move (.tmp 7), none, [], false, false⟩,
            ⟨(some 27), .bin .sub (.tmp 26) (.const (.int .i64 1)), none, [], false, false⟩,
            ⟨(some 7), .move (.tmp 27), none, [], false, false⟩]))))))
    (.seq (.region false [⟨(some 35), .move (.tmp 5), none, [], false, false⟩,
        ⟨(some 4), .move (.tmp 35), none, [], false, false⟩])
     (.ret))))),
 [.tmp 4], .pure, 36⟩

/-- agraffe/agraffetop.tuned -/
def ef70 : EFun := ⟨
 .seq (.region false [⟨(some 0), .move (.const (.bool false)), none, [], false, false⟩])
 (.seq (.region false [⟨(some 10), .call 57 [(.const (.string ⟨#[112, 121, 116, 104, 97, 103, 111, 114, 97, 115]⟩))], none, [], false, false⟩,
     ⟨(some 9), .move (.tmp 10), none, [], false, false⟩,
     ⟨(some 11), .extract (.tmp 9) 0, none, [], false, false⟩,
     ⟨(some 12), .extract (.tmp 9) 1, none, [], false, false⟩,
     ⟨(some 1), .push [(.string ⟨#[]⟩), (.int .i64 0), (.int .i64 0), (.int .i64 0), (.int .i64 0), (.int .i64 0), (.int .i64 0), (.int .i64 0), (.int .i64 0), (.int .i64 0), (.int .i64 0), (.int .i64 0), (.int .i64 0), (.int .i64 0), (.int .i64 0), (.int .i64 0), (.int .i64 0), (.int .i64 0), (.int .i64 0), (.int .i64 0), (.int .i64 0), (.int .i64 0), (.int .i64 0), (.int .i64 0), (.int .i64 0)], none, [], false, false⟩,
     ⟨none, .store 25 (.tmp 1) (.tmp 11), none, [], false, false⟩,
     ⟨(some 2), .move (.tmp 12), none, [], false, false⟩])
  (.seq (.region false [⟨(some 14), .load true 25 (.tmp 1), none, [], false, false⟩,
      ⟨(some 15), .call 22 [(.tmp 14), (.const (.int .i64 36)), (.const (.int .i64 43))], none, [], false, false⟩,
      ⟨(some 13), .move (.tmp 15), none, [], false, false⟩,
      ⟨(some 16), .extract (.tmp 13) 0, none, [], false, false⟩,
      ⟨(some 17), .extract (.tmp 13) 1, none, [], false, false⟩,
      ⟨(some 3), .push [(.int .i64 0), (.int .i64 0), (.int .i64 0), (.int .i64 0)], none, [], false, false⟩,
      ⟨none, .store 4 (.tmp 3) (.tmp 16), none, [], false, false⟩,
      ⟨(some 4), .move (.tmp 17), none, [], false, false⟩])
   (.seq (.region false [⟨(some 19), .load true 4 (.tmp 3), none, [], false, false⟩,
       ⟨(some 20), .call 82 [(.tmp 19), (.const (.int .i64 220000))], none, [], false, false⟩,
       ⟨(some 18), .move (.tmp 20), none, [], false, false⟩,
       ⟨(some 21), .extract (.tmp 18) 0, none, [], false, false⟩,
       ⟨(some 22), .extract (.tmp 18) 1, none, [], false, false⟩,
       ⟨(some 5), .push [(.int .i64 0), (.int .i64 0)], none, [], false, false⟩,
       ⟨none, .store 2 (.tmp 5) (.tmp 21), none, [], false, false⟩,
       ⟨(some 6), .move (.tmp 22), none, [], false, false⟩])
    (.seq (.region false [⟨(some 24), .load true 25 (.tmp 1), none, [], false, false⟩,
        ⟨(some 25), .call 31 [(.tmp 24), (.const (.int .i64 440000)), (.const (.int .i64 43))], none, [], false, false⟩,
        ⟨(some 23), .move (.tmp 25), none, [], false, false⟩,
        ⟨(some 26), .extract (.tmp 23) 0, none, [], false, false⟩,
        ⟨(some 27), .extract (.tmp 23) 1, none, [], false, false⟩,
        ⟨(some 7), .push [(.int .i64 0), (.int .i64 0)], none, [], false, false⟩,
        ⟨none, .store 2 (.tmp 7) (.tmp 26), none, [], false, false⟩,
        ⟨(some 8), .move (.tmp 27), none, [], false, false⟩])
     (.seq (.region false [⟨(some 28), .move (.tmp 2), none, [], false, false⟩,
         ⟨(some 29), .bin .eql (.tmp 28) (.const (.int .i64 0)), none, [], false, false⟩,
         ⟨(some 30), .move (.tmp 29), none, [], false, false⟩,
         ⟨(some 31), .move (.tmp 4), (some (30, true)), [], false, false⟩,
         ⟨(some 32), .bin .eql (.tmp 31) (.const (.int .i64 0)), (some (30, true)), [], false, false⟩,
         ⟨(some 33), .pick (.tmp 30) (.tmp 32) (.const (.bool false)), none, [], false, false⟩,
         ⟨(some 34), .move (.tmp 33), none, [], false, false⟩,
         ⟨(some 35), .move (.tmp 6), (some (34, true)), [], false, false⟩,
         ⟨(some 36), .bin .eql (.tmp 35) (.const (.int .i64 0)), (some (34, true)), [], false, false⟩,
         ⟨(some 37), .pick (.tmp 34) (.tmp 36) (.const (.bool false)), none, [], false, false⟩,
         ⟨(some 38), .move (.tmp 37), none, [], false, false⟩,
         ⟨(some 39), .move (.tmp 8), (some (38, true)), [], false, false⟩,
         ⟨(some 40), .bin .eql (.tmp 39) (.const (.int .i64 0)), (some (38, true)), [], false, false⟩,
         ⟨(some 41), .pick (.tmp 38) (.tmp 40) (.const (.bool false)), none, [], false, false⟩,
         ⟨(some 42), .move (.tmp 41), none, [], false, false⟩,
         ⟨(some 43), .load true 2 (.tmp 5), (some (42, true)), [], false, false⟩,
         ⟨(some 44), .build [(.int .i64 0), (.int .i64 0)] [(0, 1, (.const (.int .i64 330000))), (1, 1, (.const (.int .i64 330000)))], (some (42, true)), [], false, false⟩,
         ⟨(some 45), .eqAgg false [(.int .i64), (.int .i64)] (.tmp 43) (.tmp 44), (some (42, true)), [], false, false⟩,
         ⟨(some 46), .pick (.tmp 42) (.tmp 45) (.const (.bool false)), none, [], false, false⟩,
         ⟨(some 47), .move (.tmp 46), none, [], false, false⟩,
         ⟨(some 48), .load true 2 (.tmp 5), (some (47, true)), [], false, false⟩,
         ⟨(some 49), .load true 2 (.tmp 7), (some (47, true)), [], false, false⟩,
         ⟨(some 50), .eqAgg false [(.int .i64), (.int .i64)] (.tmp 48) (.tmp 49), (some (47, true)), [], false, false⟩,
         ⟨(some 51), .pick (.tmp 47) (.tmp 50) (.const (.bool false)), none, [], false, false⟩,
         ⟨(some 0), .move (.tmp 51), none, [], false, false⟩])
      (.ret)))))),
 [.tmp 0], .pure, 52⟩

/-- agraffe/agraffebase.Ints -/
def ef76 : EFun := ⟨
 .seq (.region false [⟨(some 4), .move (.const (.bool false)), none, [], false, false⟩])
 (.seq (.seq (.region false [⟨(some 6), .move (.tmp 0), none, [], false, false⟩,
      ⟨(some 7), .len false (.tmp 6), none, [], false, false⟩,
      ⟨(some 8), .move (.tmp 1), none, [], false, false⟩,
      ⟨(some 9), .len false (.tmp 8), none, [], false, false⟩,
      ⟨(some 10), .bin .neq (.tmp 7) (.tmp 9), none, [], false, false⟩])
   (.cond (.tmp 10) (.seq (.region false [⟨(some 4), .move (.const (.bool false)), none, [], false, false⟩])
     (.ret))
    (.skip)))
  (.seq (.seq (.region false [⟨(some 5), .move (.const (.int .i64 0)), none, [], false, false⟩])
    (.block 0 (.loop (some [0, 1, 5]) (
      .seq (.seq (.region false [⟨(some 11), .move (.tmp 5), none, [], false, false⟩,
           ⟨(some 12), .move (.tmp 0), none, [], false, false⟩,
           ⟨(some 13), .len false (.tmp 12), none, [], false, false⟩,
           ⟨(some 14), .bin .lss (.tmp 11) (.tmp 13), none, [], false, false⟩])
        (.cond (.tmp 14) (.skip)
         (.exit 0)))
       (.seq (.block 1 (.seq (.region true [⟨(some 17), .move (.tmp 0), none, [], false, false⟩,
             ⟨(some 18), .move (.tmp 5), none, [], false, false⟩,
             ⟨(some 19), .indexAddr none 1 (.tmp 17) (.tmp 18), none, [], false, false⟩,
             ⟨(some 20), .load false 1 (.tmp 19), none, [], false, false⟩,
             ⟨(some 21), .move (.tmp 1), none, [], false, false⟩,
             ⟨(some 22), .move (.tmp 5), none, [], false, false⟩,
             ⟨(some 23), .indexAddr none 1 (.tmp 21) (.tmp 22), none, [], false, false⟩,
             ⟨(some 24), .load false 1 (.tmp 23), none, [], false, false⟩,
             ⟨(some 25), .bin .neq (.tmp 20) (.tmp 24), none, [], false, false⟩])
          (.cond (.tmp 25) (.seq (.region false [⟨(some 4), .move (.const (.bool false)), none, [], false, false⟩])
            (.ret))
           (.skip))))
        (.region false [⟨(some 15), .move (.tmp 5), none, [], false, false⟩,
           ⟨(some 16), .bin .add (.tmp 15) (.const (.int .i64 1)), none, [], false, false⟩,
           ⟨(some 5), .move (.tmp 16), none, [], false, false⟩]))))))
   (.seq (.region false [⟨(some 4), .move (.const (.bool true)), none, [], false, false⟩])
    (.ret)))),
 [.tmp 4], .pure, 26⟩

/-- agraffe/temper.Derived -/
def ef78 : EFun := ⟨
 .seq (.region false [⟨(some 3), .box (.tmp 0), none, [], false, false⟩,
    ⟨(some 6), .push [(.int .i64 0), (.int .i64 0), (.int .i64 0), (.int .i64 0)], none, [], false, false⟩,
    ⟨(some 7), .move (.const (.slice none 0 0)), none, [], false, false⟩,
    ⟨(some 8), .move (.const (.int .i64 0)), none, [], false, false⟩])
 (.seq (.region false [⟨(some 18), .load true 25 (.tmp 3), none, [], false, false⟩,
     ⟨(some 19), .call 84 [(.tmp 18), (.const (.slice none 0 0))], none, [], false, false⟩,
     ⟨(some 17), .move (.tmp 19), none, [], false, false⟩,
     ⟨(some 20), .extract (.tmp 17) 0, none, [], false, false⟩,
     ⟨(some 21), .extract (.tmp 17) 1, none, [], false, false⟩,
     ⟨(some 9), .move (.tmp 20), none, [], false, false⟩,
     ⟨(some 10), .move (.tmp 21), none, [], false, false⟩])
  (.seq (.seq (.region false [⟨(some 22), .move (.tmp 10), none, [], false, false⟩,
       ⟨(some 23), .bin .neq (.tmp 22) (.const (.int .i64 0)), none, [], false, false⟩])
    (.cond (.tmp 23) (.seq (.region false [⟨(some 24), .build [(.int .i64 0), (.int .i64 0), (.int .i64 0), (.int .i64 0)] [], none, [], false, false⟩,
         ⟨(some 25), .move (.tmp 10), none, [], false, false⟩,
         ⟨none, .store 4 (.tmp 6) (.tmp 24), none, [], false, false⟩,
         ⟨(some 7), .move (.const (.slice none 0 0)), none, [], false, false⟩,
         ⟨(some 8), .move (.tmp 25), none, [], false, false⟩])
      (.ret))
     (.skip)))
   (.seq (.region false [⟨(some 27), .move (.tmp 1), none, [], false, false⟩,
       ⟨(some 28), .call 125 [(.tmp 27), (.const (.int .i64 0)), (.const (.int .i64 87))], none, [], false, false⟩,
       ⟨(some 26), .move (.tmp 28), none, [], false, false⟩,
       ⟨(some 29), .extract (.tmp 26) 0, none, [], false, false⟩,
       ⟨(some 30), .extract (.tmp 26) 1, none, [], false, false⟩,
       ⟨(some 11), .move (.tmp 29), none, [], false, false⟩,
       ⟨(some 10), .move (.tmp 30), none, [], false, false⟩])
    (.seq (.block 0 (.seq (.region false [⟨(some 32), .move (.tmp 10), none, [], false, false⟩,
          ⟨(some 33), .bin .neq (.tmp 32) (.const (.int .i64 0)), none, [], false, false⟩,
          ⟨(some 31), .move (.tmp 33), none, [], false, false⟩])
       (.cond (.tmp 31) (.seq (.region false [⟨(some 34), .build [(.int .i64 0), (.int .i64 0), (.int .i64 0), (.int .i64 0)] [], none, [], false, false⟩,
            ⟨(some 35), .move (.tmp 10), none, [], false, false⟩,
            ⟨none, .store 4 (.tmp 6) (.tmp 34), none, [], false, false⟩,
            ⟨(some 7), .move (.const (.slice none 0 0)), none, [], false, false⟩,
            ⟨(some 8), .move (.tmp 35), none, [], false, false⟩])
         (.ret))
        (.seq (.region false [⟨(some 37), .move (.tmp 2), none, [], false, false⟩,
            ⟨(some 38), .call 85 [(.tmp 37)], none, [], false, false⟩,
            ⟨(some 39), .un .not (.tmp 38), none, [], false, false⟩,
            ⟨(some 36), .move (.tmp 39), none, [], false, false⟩])
         (.cond (.tmp 36) (.seq (.region false [⟨(some 40), .build [(.int .i64 0), (.int .i64 0), (.int .i64 0), (.int .i64 0)] [], none, [], false, false⟩,
              ⟨none, .store 4 (.tmp 6) (.tmp 40), none, [], false, false⟩,
              ⟨(some 7), .move (.const (.slice none 0 0)), none, [], false, false⟩,
              ⟨(some 8), .move (.const (.int .i64 2)), none, [], false, false⟩])
           (.ret))
          (.skip))))))
     (.seq (.seq (.region false [⟨(some 42), .move (.tmp 11), none, [], false, false⟩,
          ⟨(some 43), .move (.tmp 2), none, [], false, false⟩,
          ⟨(some 44), .mapGet (.int .i64) (.int .i64 0) true (.tmp 42) (.tmp 43), none, [], false, false⟩,
          ⟨(some 41), .move (.tmp 44), none, [], false, false⟩,
          ⟨(some 45), .extract (.tmp 41) 0, none, [], false, false⟩,
          ⟨(some 46), .extract (.tmp 41) 1, none, [], false, false⟩,
          ⟨(some 12), .move (.tmp 45), none, [], false, false⟩,
          ⟨(some 13), .move (.tmp 46), none, [], false, false⟩])
       (.seq (.region false [⟨(some 47), .move (.tmp 13), none, [], false, false⟩,
           ⟨(some 48), .un .not (.tmp 47), none, [], false, false⟩])
        (.cond (.tmp 48) (.seq (.region false [⟨(some 49), .build [(.int .i64 0), (.int .i64 0), (.int .i64 0), (.int .i64 0)] [], none, [], false, false⟩,
             ⟨none, .store 4 (.tmp 6) (.tmp 49), none, [], false, false⟩,
             ⟨(some 7), .move (.const (.slice none 0 0)), none, [], false, false⟩,
             ⟨(some 8), .move (.const (.int .i64 6)), none, [], false, false⟩])
          (.ret))
         (.skip))))
      (.seq (.region false [⟨(some 50), .move (.tmp 2), none, [], false, false⟩,
          ⟨(some 51), .buildSlice 1 1 [(.int .i64 0)] [(0, 1, (.tmp 50))], none, [], false, false⟩,
          ⟨(some 14), .move (.tmp 51), none, [], false, false⟩])
       (.seq (.block 1 (.loop (some [2, 6, 9, 11, 14]) (
          .seq (.seq (.region false [⟨(some 52), .move (.tmp 2), none, [], false, false⟩,
               ⟨(some 53), .bin .neq (.tmp 52) (.const (.int .i64 48)), none, [], false, false⟩])
            (.cond (.tmp 53) (.skip)
             (.exit 1)))
           (.block 2 (.seq (.region false [⟨(some 54), .move (.tmp 11), none, [], false, false⟩,
                ⟨(some 55), .move (.tmp 2), none, [], false, false⟩,
                ⟨(some 56), .mapGet (.int .i64) (.int .i64 0) false (.tmp 54) (.tmp 55), none, [], false, false⟩,
                ⟨(some 2), .move (.tmp 56), none, [], false, false⟩])
             (.region false [⟨(some 57), .move (.tmp 14), none, [], false, false⟩,
                ⟨(some 58), .move (.tmp 2), none, [], false, false⟩,
                ⟨(some 59), .buildSlice 1 1 [(.int .i64 0)] [(0, 1, (.tmp 58))], none, [], false, false⟩,
                ⟨(some 60), .append 1 8 (.tmp 57) (.tmp 59), none, [], false, false⟩,
                ⟨(some 14), .move (.tmp 60), none, [], false, false⟩]))))))
        (.seq (.region false [⟨(some 61), .move (.tmp 14), none, [], false, false⟩,
            ⟨(some 62), .call 126 [(.tmp 61)], none, [], false, false⟩])
         (.seq (.region false [⟨(some 63), .build [(.int .i64 0), (.int .i64 0), (.int .i64 0), (.int .i64 0)] [(3, 1, (.const (.int .i64 1)))], none, [], false, false⟩,
             ⟨(some 15), .push [(.int .i64 0), (.int .i64 0), (.int .i64 0), (.int .i64 0)], none, [], false, false⟩,
             ⟨none, .store 4 (.tmp 15) (.tmp 63), none, [], false, false⟩])
          (.seq (.seq (.region false [⟨(some 16), .move (.const (.int .i64 1)), none, [], false, false⟩])
            (.block 3 (.loop (some [6, 9, 14, 15, 16]) (
              .seq (.seq (.region false [⟨(some 64), .move (.tmp 16), none, [], false, false⟩,
                   ⟨(some 65), .move (.tmp 14), none, [], false, false⟩,
                   ⟨(some 66), .len false (.tmp 65), none, [], false, false⟩,
                   ⟨(some 67), .bin .lss (.tmp 64) (.tmp 66), none, [], false, false⟩])
                (.cond (.tmp 67) (.skip)
                 (.exit 3)))
               (.seq (.block 4 (.seq (.region true [⟨(some 71), .load true 4 (.tmp 15), none, [], false, false⟩,
                     ⟨(some 72), .move (.tmp 9), none, [], false, false⟩,
                     ⟨(some 73), .move (.tmp 14), none, [], false, false⟩,
                     ⟨(some 74), .move (.tmp 16), none, [], false, false⟩,
                     ⟨(some 75), .bin .sub (.tmp 74) (.const (.int .i64 1)), none, [], false, false⟩,
                     ⟨(some 76), .indexAddr none 1 (.tmp 73) (.tmp 75), none, [], false, false⟩,
                     ⟨(some 77), .load false 1 (.tmp 76), none, [], false, false⟩,
                     ⟨(some 78), .move (.tmp 14), none, [], false, false⟩,
                     ⟨(some 79), .move (.tmp 16), none, [], false, false⟩,
                     ⟨(some 80), .indexAddr none 1 (.tmp 78) (.tmp 79), none, [], false, false⟩,
                     ⟨(some 81), .load false 1 (.tmp 80), none, [], false, false⟩,
                     ⟨(some 82), .call 86 [(.tmp 72), (.tmp 77), (.tmp 81)], none, [], false, true⟩,
                     ⟨(some 83), .call 87 [(.tmp 82)], none, [], false, true⟩,
                     ⟨(some 84), .call 52 [(.tmp 71), (.tmp 83)], none, [], false, false⟩,
                     ⟨(some 70), .move (.tmp 84), none, [], false, false⟩,
                     ⟨(some 85), .extract (.tmp 70) 0, none, [], false, false⟩,
                     ⟨(some 86), .extract (.tmp 70) 1, none, [], false, false⟩,
                     ⟨none, .store 4 (.tmp 15) (.tmp 85), none, [], false, false⟩,
                     ⟨(some 10), .move (.tmp 86), none, [], false, false⟩])
                  (.seq (.region false [⟨(some 87), .move (.tmp 10), none, [], false, false⟩,
                      ⟨(some 88), .bin .neq (.tmp 87) (.const (.int .i64 0)), none, [], false, false⟩])
                   (.cond (.tmp 88) (.seq (.region false [⟨(some 89), .build [(.int .i64 0), (.int .i64 0), (.int .i64 0), (.int .i64 0)] [], none, [], false, false⟩,
                        ⟨(some 90), .move (.tmp 10), none, [], false, false⟩,
                        ⟨none, .store 4 (.tmp 6) (.tmp 89), none, [], false, false⟩,
                        ⟨(some 7), .move (.const (.slice none 0 0)), none, [], false, false⟩,
                        ⟨(some 8), .move (.tmp 90), none, [], false, false⟩])
                     (.ret))
                    (.skip)))))
                (.region false [⟨(some 68), .move (.tmp 16), none, [], false, false⟩,
                   ⟨(some 69), .bin .add (.tmp 68) (.const (.int .i64 1)), none, [], false, false⟩,
                   ⟨(some 16), .move (.tmp 69), none, [], false, false⟩]))))))
           (.seq (.region false [⟨(some 91), .load true 4 (.tmp 15), none, [], false, false⟩,
               ⟨(some 92), .move (.tmp 14), none, [], false, false⟩,
               ⟨none, .store 4 (.tmp 6) (.tmp 91), none, [], false, false⟩,
               ⟨(some 7), .move (.tmp 92), none, [], false, false⟩,
               ⟨(some 8), .move (.const (.int .i64 0)), none, [], false, false⟩])
            (.ret)))))))))))),
 [.cell 6 true 4, .tmp 7, .tmp 8], .pure, 93⟩

/-- agraffe/agrafferef06.CheckSteps -/
def ef79 : EFun := ⟨
 .seq (.region false [⟨(some 6), .move (.const (.slice none 0 0)), none, [], false, false⟩,
    ⟨(some 7), .move (.const (.int .i64 0)), none, [], false, false⟩])
 (.seq (.region false [⟨(some 13), .buildSlice 1 1 [(.int .i64 0)] [(0, 1, (.const (.int .i64 48)))], none, [], false, false⟩,
     ⟨(some 8), .move (.tmp 13), none, [], false, false⟩])
  (.seq (.seq (.region false [⟨(some 14), .move (.tmp 0), none, [], false, false⟩,
       ⟨(some 15), .len false (.tmp 14), none, [], false, false⟩,
       ⟨(some 16), .bin .gtr (.tmp 15) (.const (.int .i64 100)), none, [], false, false⟩])
    (.cond (.tmp 16) (.seq (.region false [⟨(some 6), .move (.const (.slice none 0 0)), none, [], false, false⟩,
         ⟨(some 7), .move (.const (.int .i64 8)), none, [], false, false⟩])
      (.ret))
     (.skip)))
   (.seq (.seq (.region false [⟨(some 9), .move (.const (.int .i64 0)), none, [], false, false⟩])
     (.block 0 (.loop (some [0, 1, 2, 8, 9]) (
       .seq (.seq (.region false [⟨(some 17), .move (.tmp 9), none, [], false, false⟩,
            ⟨(some 18), .move (.tmp 0), none, [], false, false⟩,
            ⟨(some 19), .len false (.tmp 18), none, [], false, false⟩,
            ⟨(some 20), .bin .lss (.tmp 17) (.tmp 19), none, [], false, false⟩])
         (.cond (.tmp 20) (.skip)
          (.exit 0)))
        (.seq (.block 1 (.seq (.region false [⟨(some 23), .move (.tmp 0), none, [], false, false⟩,
              ⟨(some 24), .move (.tmp 9), none, [], false, false⟩,
              ⟨(some 25), .indexAddr none 2 (.tmp 23) (.tmp 24), none, [], false, false⟩,
              ⟨(some 26), .load true 2 (.tmp 25), none, [], false, false⟩,
              ⟨(some 10), .push [(.int .i64 0), (.int .i64 0)], none, [], false, false⟩,
              ⟨none, .store 2 (.tmp 10) (.tmp 26), none, [], false, false⟩])
           (.seq (.seq (.region false [⟨(some 27), .fieldAddr 0 (.tmp 10), none, [], false, false⟩,
                ⟨(some 28), .load false 1 (.tmp 27), none, [], false, false⟩,
                ⟨(some 29), .move (.tmp 1), none, [], false, false⟩,
                ⟨(some 30), .move (.tmp 2), none, [], false, false⟩,
                ⟨(some 31), .call 60 [(.tmp 28), (.tmp 29), (.tmp 30)], none, [], false, false⟩,
                ⟨(some 32), .un .not (.tmp 31), none, [], false, false⟩,
                ⟨(some 33), .move (.tmp 32), none, [], false, false⟩,
                ⟨(some 34), .fieldAddr 1 (.tmp 10), (some (33, false)), [], false, false⟩,
                ⟨(some 35), .load false 1 (.tmp 34), (some (33, false)), [], false, false⟩,
                ⟨(some 36), .move (.tmp 1), (some (33, false)), [], false, false⟩,
                ⟨(some 37), .move (.tmp 2), (some (33, false)), [], false, false⟩,
                ⟨(some 38), .call 60 [(.tmp 35), (.tmp 36), (.tmp 37)], (some (33, false)), [], false, false⟩,
                ⟨(some 39), .un .not (.tmp 38), (some (33, false)), [], false, false⟩,
                ⟨(some 40), .pick (.tmp 33) (.const (.bool true)) (.tmp 39), none, [], false, false⟩])
             (.cond (.tmp 40) (.seq (.region false [⟨(some 6), .move (.const (.slice none 0 0)), none, [], false, false⟩,
                  ⟨(some 7), .move (.const (.int .i64 2)), none, [], false, false⟩])
               (.ret))
              (.skip)))
            (.seq (.seq (.region false [⟨(some 41), .move (.tmp 8), none, [], false, false⟩,
                 ⟨(some 42), .fieldAddr 0 (.tmp 10), none, [], false, false⟩,
                 ⟨(some 43), .load false 1 (.tmp 42), none, [], false, false⟩,
                 ⟨(some 44), .call 127 [(.tmp 41), (.tmp 43)], none, [], false, false⟩,
                 ⟨(some 45), .un .not (.tmp 44), none, [], false, false⟩])
              (.cond (.tmp 45) (.seq (.region false [⟨(some 6), .move (.const (.slice none 0 0)), none, [], false, false⟩,
                   ⟨(some 7), .move (.const (.int .i64 24)), none, [], false, false⟩])
                (.ret))
               (.skip)))
             (.seq (.seq (.region false [⟨(some 46), .move (.tmp 8), none, [], false, false⟩,
                  ⟨(some 47), .fieldAddr 1 (.tmp 10), none, [], false, false⟩,
                  ⟨(some 48), .load false 1 (.tmp 47), none, [], false, false⟩,
                  ⟨(some 49), .call 127 [(.tmp 46), (.tmp 48)], none, [], false, false⟩])
               (.cond (.tmp 49) (.seq (.region false [⟨(some 6), .move (.const (.slice none 0 0)), none, [], false, false⟩,
                    ⟨(some 7), .move (.const (.int .i64 5)), none, [], false, false⟩])
                 (.ret))
                (.skip)))
              (.seq (.seq (.region false [⟨(some 51), .fieldAddr 0 (.tmp 10), none, [], false, false⟩,
                   ⟨(some 52), .load false 1 (.tmp 51), none, [], false, false⟩,
                   ⟨(some 53), .fieldAddr 1 (.tmp 10), none, [], false, false⟩,
                   ⟨(some 54), .load false 1 (.tmp 53), none, [], false, false⟩,
                   ⟨(some 55), .bin .sub (.tmp 52) (.tmp 54), none, [], false, false⟩,
                   ⟨(some 56), .call 128 [(.tmp 55)], none, [], false, false⟩,
                   ⟨(some 57), .call 39 [(.tmp 56)], none, [], false, false⟩,
                   ⟨(some 50), .move (.tmp 57), none, [], false, false⟩,
                   ⟨(some 58), .extract (.tmp 50) 0, none, [], false, false⟩,
                   ⟨(some 59), .extract (.tmp 50) 1, none, [], false, false⟩,
                   ⟨(some 11), .move (.tmp 58), none, [], false, false⟩,
                   ⟨(some 12), .move (.tmp 59), none, [], false, false⟩])
                (.seq (.region false [⟨(some 60), .move (.tmp 11), none, [], false, false⟩,
                    ⟨(some 61), .bin .eql (.tmp 60) (.const (.int .i64 0)), none, [], false, false⟩])
                 (.cond (.tmp 61) (.seq (.region false [⟨(some 6), .move (.const (.slice none 0 0)), none, [], false, false⟩,
                      ⟨(some 7), .move (.const (.int .i64 15)), none, [], false, false⟩])
                   (.ret))
                  (.skip))))
               (.region false [⟨(some 62), .move (.tmp 8), none, [], false, false⟩,
                  ⟨(some 63), .fieldAddr 1 (.tmp 10), none, [], false, false⟩,
                  ⟨(some 64), .load false 1 (.tmp 63), none, [], false, false⟩,
                  ⟨(some 65), .buildSlice 1 1 [(.int .i64 0)] [(0, 1, (.tmp 64))], none, [], false, false⟩,
                  ⟨(some 66), .append 1 8 (.tmp 62) (.tmp 65), none, [], false, false⟩,
                  ⟨(some 8), .move (.tmp 66), none, [], false, false⟩])))))))
         (.region false [⟨(some 21), .move (.tmp 9), none, [], false, false⟩,
            ⟨(some 22), .bin .add (.tmp 21) (.const (.int .i64 1)), none, [], false, false⟩,
            ⟨(some 9), .move (.tmp 22), none, [], false, false⟩]))))))
    (.seq (.region false [⟨(some 67), .move (.tmp 8), none, [], false, false⟩,
        ⟨(some 6), .move (.tmp 67), none, [], false, false⟩,
        ⟨(some 7), .move (.const (.int .i64 0)), none, [], false, false⟩])
     (.ret))))),
 [.tmp 6, .tmp 7], .pure, 68⟩

/-- agraffe/agrafferef06.Chain -/
def ef80 : EFun := ⟨
 .seq (.region false [⟨(some 4), .move (.const (.slice none 0 0)), none, [], false, false⟩])
 (.seq (.seq (.region false [⟨(some 6), .move (.tmp 1), none, [], false, false⟩,
      ⟨(some 7), .bin .eql (.tmp 6) (.const (.int .i64 48)), none, [], false, false⟩])
   (.cond (.tmp 7) (.seq (.region false [⟨(some 8), .move (.tmp 1), none, [], false, false⟩,
        ⟨(some 9), .buildSlice 1 1 [(.int .i64 0)] [(0, 1, (.tmp 8))], none, [], false, false⟩,
        ⟨(some 4), .move (.tmp 9), none, [], false, false⟩])
     (.ret))
    (.skip)))
  (.seq (.seq (.region false [⟨(some 5), .move (.const (.int .i64 0)), none, [], false, false⟩])
    (.block 0 (.loop (some [0, 1, 5]) (
      .seq (.seq (.region false [⟨(some 10), .move (.tmp 5), none, [], false, false⟩,
           ⟨(some 11), .move (.tmp 0), none, [], false, false⟩,
           ⟨(some 12), .len false (.tmp 11), none, [], false, false⟩,
           ⟨(some 13), .bin .lss (.tmp 10) (.tmp 12), none, [], false, false⟩])
        (.cond (.tmp 13) (.skip)
         (.exit 0)))
       (.seq (.block 1 (.seq (.region false [⟨(some 16), .move (.tmp 0), none, [], false, false⟩,
             ⟨(some 17), .move (.tmp 5), none, [], false, false⟩,
             ⟨(some 18), .indexAddr none 2 (.tmp 16) (.tmp 17), none, [], false, false⟩,
             ⟨(some 19), .fieldAddr 1 (.tmp 18), none, [], false, false⟩,
             ⟨(some 20), .load false 1 (.tmp 19), none, [], false, false⟩,
             ⟨(some 21), .move (.tmp 1), none, [], false, false⟩,
             ⟨(some 22), .bin .eql (.tmp 20) (.tmp 21), none, [], false, false⟩])
          (.cond (.tmp 22) (.seq (.region true [⟨(some 23), .move (.tmp 0), none, [], false, false⟩,
               ⟨(some 24), .move (.tmp 5), none, [], false, false⟩,
               ⟨(some 25), .slice 2 (.tmp 23) none (some (.tmp 24)), none, [], false, false⟩,
               ⟨(some 26), .move (.tmp 0), none, [], false, false⟩,
               ⟨(some 27), .move (.tmp 5), none, [], false, false⟩,
               ⟨(some 28), .indexAddr none 2 (.tmp 26) (.tmp 27), none, [], false, false⟩,
               ⟨(some 29), .fieldAddr 0 (.tmp 28), none, [], false, false⟩,
               ⟨(some 30), .load false 1 (.tmp 29), none, [], false, false⟩,
               ⟨(some 31), .call 80 [(.tmp 25), (.tmp 30)], none, [], false, true⟩,
               ⟨(some 32), .move (.tmp 1), none, [], false, false⟩,
               ⟨(some 33), .buildSlice 1 1 [(.int .i64 0)] [(0, 1, (.tmp 32))], none, [], false, false⟩,
               ⟨(some 34), .append 1 8 (.tmp 31) (.tmp 33), none, [], false, false⟩,
               ⟨(some 4), .move (.tmp 34), none, [], false, false⟩])
            (.ret))
           (.skip))))
        (.region false [⟨(some 14), .move (.tmp 5), none, [], false, false⟩,
           ⟨(some 15), .bin .add (.tmp 14) (.const (.int .i64 1)), none, [], false, false⟩,
           ⟨(some 5), .move (.tmp 15), none, [], false, false⟩]))))))
   (.seq (.region false [⟨(some 4), .move (.const (.slice none 0 0)), none, [], false, false⟩])
    (.ret)))),
 [.tmp 4], .pure, 35⟩

/-- agraffe/agrafferef06.Along -/
def ef81 : EFun := ⟨
 .seq (.region false [⟨(some 2), .box (.tmp 0), none, [], false, false⟩,
    ⟨(some 4), .push [(.int .i64 0), (.int .i64 0), (.int .i64 0)], none, [], false, false⟩])
 (.seq (.region false [⟨(some 5), .push [(.int .i64 0), (.int .i64 0), (.int .i64 0)], none, [], false, false⟩])
  (.seq (.seq (.region false [⟨(some 6), .move (.const (.int .i64 1)), none, [], false, false⟩])
    (.block 0 (.loop (some [1, 2, 4, 5, 6]) (
      .seq (.seq (.region false [⟨(some 7), .move (.tmp 6), none, [], false, false⟩,
           ⟨(some 8), .move (.tmp 1), none, [], false, false⟩,
           ⟨(some 9), .len false (.tmp 8), none, [], false, false⟩,
           ⟨(some 10), .bin .lss (.tmp 7) (.tmp 9), none, [], false, false⟩])
        (.cond (.tmp 10) (.skip)
         (.exit 0)))
       (.seq (.block 1 (.region true [⟨(some 13), .load true 3 (.tmp 5), none, [], false, false⟩,
            ⟨(some 14), .load true 25 (.tmp 2), none, [], false, false⟩,
            ⟨(some 15), .move (.tmp 1), none, [], false, false⟩,
            ⟨(some 16), .move (.tmp 6), none, [], false, false⟩,
            ⟨(some 17), .bin .sub (.tmp 16) (.const (.int .i64 1)), none, [], false, false⟩,
            ⟨(some 18), .indexAddr none 1 (.tmp 15) (.tmp 17), none, [], false, false⟩,
            ⟨(some 19), .load false 1 (.tmp 18), none, [], false, false⟩,
            ⟨(some 20), .move (.tmp 1), none, [], false, false⟩,
            ⟨(some 21), .move (.tmp 6), none, [], false, false⟩,
            ⟨(some 22), .indexAddr none 1 (.tmp 20) (.tmp 21), none, [], false, false⟩,
            ⟨(some 23), .load false 1 (.tmp 22), none, [], false, false⟩,
            ⟨(some 24), .call 27 [(.tmp 14), (.tmp 19), (.tmp 23)], none, [], false, true⟩,
            ⟨(some 25), .call 91 [(.tmp 13), (.const (.int .i64 1)), (.tmp 24)], none, [], false, false⟩,
            ⟨none, .store 3 (.tmp 5) (.tmp 25), none, [], false, false⟩]))
        (.region false [⟨(some 11), .move (.tmp 6), none, [], false, false⟩,
           ⟨(some 12), .bin .add (.tmp 11) (.const (.int .i64 1)), none, [], false, false⟩,
           ⟨(some 6), .move (.tmp 12), none, [], false, false⟩]))))))
   (.seq (.region false [⟨(some 26), .load true 3 (.tmp 5), none, [], false, false⟩,
       ⟨none, .store 3 (.tmp 4) (.tmp 26), none, [], false, false⟩])
    (.ret)))),
 [.cell 4 true 3], .pure, 27⟩

/-- agraffe/number.Enclose -/
def ef82 : EFun := ⟨
 .seq (.region false [⟨(some 2), .box (.tmp 0), none, [], false, false⟩,
    ⟨(some 4), .push [(.int .i64 0), (.int .i64 0)], none, [], false, false⟩,
    ⟨(some 5), .move (.const (.int .i64 0)), none, [], false, false⟩])
 (.seq (.seq (.region false [⟨(some 13), .load true 4 (.tmp 2), none, [], false, false⟩,
      ⟨(some 14), .call 129 [(.tmp 13)], none, [], false, false⟩,
      ⟨(some 6), .move (.tmp 14), none, [], false, false⟩])
   (.seq (.region false [⟨(some 15), .move (.tmp 6), none, [], false, false⟩,
       ⟨(some 16), .bin .neq (.tmp 15) (.const (.int .i64 0)), none, [], false, false⟩])
    (.cond (.tmp 16) (.seq (.region false [⟨(some 17), .build [(.int .i64 0), (.int .i64 0)] [], none, [], false, false⟩,
         ⟨(some 18), .move (.tmp 6), none, [], false, false⟩,
         ⟨none, .store 2 (.tmp 4) (.tmp 17), none, [], false, false⟩,
         ⟨(some 5), .move (.tmp 18), none, [], false, false⟩])
      (.ret))
     (.skip))))
  (.seq (.seq (.region false [⟨(some 19), .move (.tmp 1), none, [], false, false⟩,
       ⟨(some 20), .call 130 [(.tmp 19), (.const (.int .i64 1)), (.const (.int .i64 1000000000))], none, [], false, false⟩,
       ⟨(some 21), .un .not (.tmp 20), none, [], false, false⟩])
    (.cond (.tmp 21) (.seq (.region false [⟨(some 22), .build [(.int .i64 0), (.int .i64 0)] [], none, [], false, false⟩,
         ⟨none, .store 2 (.tmp 4) (.tmp 22), none, [], false, false⟩,
         ⟨(some 5), .move (.const (.int .i64 2)), none, [], false, false⟩])
      (.ret))
     (.skip)))
   (.seq (.region false [⟨(some 23), .load true 4 (.tmp 2), none, [], false, false⟩,
       ⟨(some 24), .call 131 [(.tmp 23)], none, [], false, false⟩,
       ⟨none, .store 4 (.tmp 2) (.tmp 24), none, [], false, false⟩])
    (.seq (.region false [⟨(some 25), .load true 4 (.tmp 2), none, [], false, false⟩,
        ⟨(some 26), .call 133 [(.tmp 25)], none, [], false, false⟩,
        ⟨(some 27), .call 132 [(.tmp 26)], none, [], false, false⟩,
        ⟨(some 7), .push [(.slice none 0 0), (.slice none 0 0)], none, [], false, false⟩,
        ⟨none, .store 2 (.tmp 7) (.tmp 27), none, [], false, false⟩])
     (.seq (.region false [⟨(some 28), .move (.tmp 1), none, [], false, false⟩,
         ⟨(some 29), .conv .u64 (.tmp 28), none, [], false, false⟩,
         ⟨(some 30), .fieldAddr 3 (.tmp 2), none, [], false, false⟩,
         ⟨(some 31), .load false 1 (.tmp 30), none, [], false, false⟩,
         ⟨(some 32), .fieldAddr 0 (.tmp 7), none, [], false, false⟩,
         ⟨(some 33), .load false 1 (.tmp 32), none, [], false, false⟩,
         ⟨(some 34), .call 134 [(.tmp 29), (.tmp 31), (.tmp 33)], none, [], false, false⟩,
         ⟨(some 35), .fieldAddr 0 (.tmp 7), none, [], false, false⟩,
         ⟨none, .store 1 (.tmp 35) (.tmp 34), none, [], false, false⟩])
      (.seq (.region false [⟨(some 36), .makeFunc (.func 135) [(.tmp 2), (.tmp 7)], none, [], false, false⟩,
          ⟨(some 8), .move (.tmp 36), none, [], false, false⟩])
       (.seq (.region false [⟨(some 9), .move (.const (.int .i64 0)), none, [], false, false⟩,
           ⟨(some 10), .move (.const (.int .i64 1000000000000001)), none, [], false, false⟩])
        (.seq (.block 0 (.loop (some [4, 8, 9, 10]) (
           .seq (.seq (.region false [⟨(some 37), .move (.tmp 9), none, [], false, false⟩,
                ⟨(some 38), .move (.tmp 10), none, [], false, false⟩,
                ⟨(some 39), .bin .lss (.tmp 37) (.tmp 38), none, [], false, false⟩])
             (.cond (.tmp 39) (.skip)
              (.exit 0)))
            (.block 1 (.seq (.region false [⟨(some 40), .move (.tmp 10), none, [], false, false⟩,
                 ⟨(some 41), .move (.tmp 10), none, [], false, false⟩,
                 ⟨(some 42), .move (.tmp 9), none, [], false, false⟩,
                 ⟨(some 43), .bin .sub (.tmp 41) (.tmp 42), none, [], false, false⟩,
                 ⟨(some 44), .bin .quo (.tmp 43) (.const (.int .i64 2)), none, [], false, false⟩,
                 ⟨(some 45), .bin .sub (.tmp 40) (.tmp 44), none, [], false, false⟩,
                 ⟨(some 11), .move (.tmp 45), none, [], false, false⟩])
              (.seq (.region false [⟨(some 46), .move (.tmp 8), none, [], false, false⟩,
                  ⟨(some 47), .move (.tmp 11), none, [], false, false⟩,
                  ⟨(some 48), .callVal (.tmp 46) [(.tmp 47)], none, [], false, false⟩,
                  ⟨(some 49), .bin .leq (.tmp 48) (.const (.int .i64 0)), none, [], false, false⟩])
               (.cond (.tmp 49) (.region false [⟨(some 50), .move (.tmp 11), none, [], false, false⟩,
                   ⟨(some 9), .move (.tmp 50), none, [], false, false⟩])
                (.region false [⟨(some 51), .move (.tmp 11), none, [], false, false⟩,
                   ⟨(some 52), .bin .sub (.tmp 51) (.const (.int .i64 1)), none, [], false, false⟩,
                   ⟨(some 10), .move (.tmp 52), none, [], false, false⟩]))))))))
         (.seq (.region false [⟨(some 53), .move (.tmp 9), none, [], false, false⟩,
             ⟨(some 54), .move (.tmp 9), none, [], false, false⟩,
             ⟨(some 55), .build [(.int .i64 0), (.int .i64 0)] [(0, 1, (.tmp 53)), (1, 1, (.tmp 54))], none, [], false, false⟩,
             ⟨(some 12), .push [(.int .i64 0), (.int .i64 0)], none, [], false, false⟩,
             ⟨none, .store 2 (.tmp 12) (.tmp 55), none, [], false, false⟩])
          (.seq (.seq (.region false [⟨(some 56), .move (.tmp 9), none, [], false, false⟩,
               ⟨(some 57), .bin .eql (.tmp 56) (.const (.int .i64 0)), none, [], false, false⟩,
               ⟨(some 58), .move (.tmp 57), none, [], false, false⟩,
               ⟨(some 59), .move (.tmp 8), (some (58, false)), [], false, false⟩,
               ⟨(some 60), .move (.tmp 9), (some (58, false)), [], false, false⟩,
               ⟨(some 61), .callVal (.tmp 59) [(.tmp 60)], (some (58, false)), [], false, false⟩,
               ⟨(some 62), .bin .neq (.tmp 61) (.const (.int .i64 0)), (some (58, false)), [], false, false⟩,
               ⟨(some 63), .pick (.tmp 58) (.const (.bool true)) (.tmp 62), none, [], false, false⟩])
            (.cond (.tmp 63) (.region false [⟨(some 64), .fieldAddr 1 (.tmp 12), none, [], false, false⟩,
                ⟨(some 65), .load false 1 (.tmp 64), none, [], false, false⟩,
                ⟨(some 66), .bin .add (.tmp 65) (.const (.int .i64 1)), none, [], false, false⟩,
                ⟨(some 67), .fieldAddr 1 (.tmp 12), none, [], false, false⟩,
                ⟨none, .store 1 (.tmp 67) (.tmp 66), none, [], false, false⟩])
             (.skip)))
           (.seq (.region false [⟨(some 68), .load true 2 (.tmp 12), none, [], false, false⟩,
               ⟨(some 69), .call 137 [(.tmp 68)], none, [], false, false⟩,
               ⟨(some 70), .extract (.tmp 69) 0, none, [], false, false⟩,
               ⟨(some 71), .extract (.tmp 69) 1, none, [], false, false⟩,
               ⟨none, .store 2 (.tmp 4) (.tmp 70), none, [], false, false⟩,
               ⟨(some 5), .move (.tmp 71), none, [], false, false⟩])
            (.ret)))))))))))),
 [.cell 4 true 2, .tmp 5], .pure, 72⟩

/-- agraffe/agraffelaw06.Equal -/
def ef83 : EFun := ⟨
 .seq (.region false [⟨(some 0), .push [(.string ⟨#[]⟩), (.int .i64 0), (.int .i64 0), (.int .i64 0), (.int .i64 0), (.int .i64 0), (.int .i64 0), (.int .i64 0), (.int .i64 0), (.int .i64 0), (.int .i64 0), (.int .i64 0), (.int .i64 0), (.int .i64 0), (.int .i64 0), (.int .i64 0), (.int .i64 0), (.int .i64 0), (.int .i64 0), (.int .i64 0), (.int .i64 0), (.int .i64 0), (.int .i64 0), (.int .i64 0), (.int .i64 0)], none, [], false, false⟩])
 (.seq (.region false [⟨(some 4), .call 58 [(.const (.string ⟨#[101, 113, 117, 97, 108]⟩))], none, [], false, false⟩,
     ⟨(some 3), .move (.tmp 4), none, [], false, false⟩,
     ⟨(some 5), .extract (.tmp 3) 0, none, [], false, false⟩,
     ⟨(some 6), .extract (.tmp 3) 1, none, [], false, false⟩,
     ⟨(some 1), .push [(.string ⟨#[]⟩), (.int .i64 0), (.int .i64 0), (.int .i64 0), (.int .i64 0), (.int .i64 0), (.int .i64 0), (.int .i64 0), (.int .i64 0), (.int .i64 0), (.int .i64 0), (.int .i64 0), (.int .i64 0), (.int .i64 0), (.int .i64 0), (.int .i64 0), (.int .i64 0), (.int .i64 0), (.int .i64 0), (.int .i64 0), (.int .i64 0), (.int .i64 0), (.int .i64 0), (.int .i64 0), (.int .i64 0)], none, [], false, false⟩,
     ⟨none, .store 25 (.tmp 1) (.tmp 5), none, [], false, false⟩,
     ⟨(some 2), .move (.tmp 6), none, [], false, false⟩])
  (.seq (.region false [⟨(some 7), .load true 25 (.tmp 1), none, [], false, false⟩,
      ⟨none, .store 25 (.tmp 0) (.tmp 7), none, [], false, false⟩])
   (.ret))),
 [.cell 0 true 25], .pure, 8⟩

/-- agraffe/temper.begin -/
def ef84 : EFun := ⟨
 .seq (.region false [⟨(some 2), .box (.tmp 0), none, [], false, false⟩,
    ⟨(some 4), .move (.const (.pointer none)), none, [], false, false⟩,
    ⟨(some 5), .move (.const (.int .i64 0)), none, [], false, false⟩])
 (.seq (.seq (.region false [⟨(some 7), .load true 25 (.tmp 2), none, [], false, false⟩,
      ⟨(some 8), .call 51 [(.tmp 7)], none, [], false, false⟩,
      ⟨(some 6), .move (.tmp 8), none, [], false, false⟩])
   (.seq (.region false [⟨(some 9), .move (.tmp 6), none, [], false, false⟩,
       ⟨(some 10), .bin .neq (.tmp 9) (.const (.int .i64 0)), none, [], false, false⟩])
    (.cond (.tmp 10) (.seq (.region false [⟨(some 11), .move (.tmp 6), none, [], false, false⟩,
         ⟨(some 4), .move (.const (.pointer none)), none, [], false, false⟩,
         ⟨(some 5), .move (.tmp 11), none, [], false, false⟩])
      (.ret))
     (.skip))))
  (.seq (.seq (.region false [⟨(some 12), .move (.tmp 1), none, [], false, false⟩,
       ⟨(some 13), .call 138 [(.tmp 12), (.const (.bool false))], none, [], false, false⟩])
    (.cond (.tmp 13) (.seq (.region false [⟨(some 4), .move (.const (.pointer none)), none, [], false, false⟩,
         ⟨(some 5), .move (.const (.int .i64 2)), none, [], false, false⟩])
      (.ret))
     (.skip)))
   (.seq (.region false [⟨(some 14), .load true 25 (.tmp 2), none, [], false, false⟩,
       ⟨(some 15), .call 112 [(.tmp 14)], none, [], false, false⟩,
       ⟨(some 4), .move (.tmp 15), none, [], false, false⟩,
       ⟨(some 5), .move (.const (.int .i64 0)), none, [], false, false⟩])
    (.ret)))),
 [.tmp 4, .tmp 5], .pure, 16⟩

/-- agraffe/temper.isNote -/
def ef85 : EFun := ⟨
 .seq (.region false [⟨(some 2), .move (.const (.bool false)), none, [], false, false⟩])
 (.seq (.region false [⟨(some 3), .move (.tmp 0), none, [], false, false⟩,
     ⟨(some 4), .bin .geq (.tmp 3) (.const (.int .i64 0)), none, [], false, false⟩,
     ⟨(some 5), .move (.tmp 4), none, [], false, false⟩,
     ⟨(some 6), .move (.tmp 0), (some (5, true)), [], false, false⟩,
     ⟨(some 7), .bin .leq (.tmp 6) (.const (.int .i64 87)), (some (5, true)), [], false, false⟩,
     ⟨(some 8), .pick (.tmp 5) (.tmp 7) (.const (.bool false)), none, [], false, false⟩,
     ⟨(some 2), .move (.tmp 8), none, [], false, false⟩])
  (.ret)),
 [.tmp 2], .pure, 9⟩

/-- (*agraffe/temper.circle).interval -/
def ef86 : EFun := ⟨
 .seq (.region false [⟨(some 6), .push [(.int .i64 0), (.int .i64 0), (.int .i64 0)], none, [], false, false⟩])
 (.seq (.region false [⟨(some 7), .move (.tmp 0), none, [], false, false⟩,
     ⟨(some 8), .move (.tmp 2), none, [], false, false⟩,
     ⟨(some 9), .call 139 [(.tmp 7), (.tmp 8)], none, [], false, false⟩,
     ⟨(some 10), .move (.tmp 0), none, [], false, false⟩,
     ⟨(some 11), .move (.tmp 1), none, [], false, false⟩,
     ⟨(some 12), .call 139 [(.tmp 10), (.tmp 11)], none, [], false, false⟩,
     ⟨(some 13), .call 122 [(.tmp 9), (.tmp 12), (.const (.int .i64 (-1)))], none, [], false, false⟩,
     ⟨none, .store 3 (.tmp 6) (.tmp 13), none, [], false, false⟩])
  (.ret)),
 [.cell 6 true 3], .pure, 14⟩

/-- (agraffe/temper.exponents).pitch -/
def ef87 : EFun := ⟨
 .seq (.region false [⟨(some 1), .box (.tmp 0), none, [], false, false⟩,
    ⟨(some 2), .push [(.int .i64 0), (.int .i64 0), (.int .i64 0), (.int .i64 0)], none, [], false, false⟩])
 (.seq (.region false [⟨(some 6), .indexAddr (some 3) 1 (.tmp 1) (.const (.int .i64 0)), none, [], false, false⟩,
     ⟨(some 7), .load false 1 (.tmp 6), none, [], false, false⟩,
     ⟨(some 8), .indexAddr (some 3) 1 (.tmp 1) (.const (.int .i64 1)), none, [], false, false⟩,
     ⟨(some 9), .load false 1 (.tmp 8), none, [], false, false⟩,
     ⟨(some 10), .indexAddr (some 3) 1 (.tmp 1) (.const (.int .i64 2)), none, [], false, false⟩,
     ⟨(some 11), .load false 1 (.tmp 10), none, [], false, false⟩,
     ⟨(some 12), .build [(.int .i64 0), (.int .i64 0), (.int .i64 0), (.int .i64 0)] [(0, 1, (.tmp 7)), (1, 1, (.tmp 9)), (2, 1, (.tmp 11)), (3, 1, (.const (.int .i64 12)))], none, [], false, false⟩,
     ⟨(some 13), .call 140 [(.tmp 12)], none, [], false, false⟩,
     ⟨(some 5), .move (.tmp 13), none, [], false, false⟩,
     ⟨(some 14), .extract (.tmp 5) 0, none, [], false, false⟩,
     ⟨(some 15), .extract (.tmp 5) 1, none, [], false, false⟩,
     ⟨(some 3), .push [(.int .i64 0), (.int .i64 0), (.int .i64 0), (.int .i64 0)], none, [], false, false⟩,
     ⟨none, .store 4 (.tmp 3) (.tmp 14), none, [], false, false⟩,
     ⟨(some 4), .move (.tmp 15), none, [], false, false⟩])
  (.seq (.region false [⟨(some 16), .load true 4 (.tmp 3), none, [], false, false⟩,
      ⟨none, .store 4 (.tmp 2) (.tmp 16), none, [], false, false⟩])
   (.ret))),
 [.cell 2 true 4], .pure, 17⟩

/-- agraffe/agraffebase.IsName -/
def ef88 : EFun := ⟨
 .seq (.region false [⟨(some 2), .move (.const (.bool false)), none, [], false, false⟩])
 (.seq (.seq (.region false [⟨(some 4), .move (.tmp 0), none, [], false, false⟩,
      ⟨(some 5), .len true (.tmp 4), none, [], false, false⟩,
      ⟨(some 6), .bin .eql (.tmp 5) (.const (.int .i64 0)), none, [], false, false⟩,
      ⟨(some 7), .move (.tmp 6), none, [], false, false⟩,
      ⟨(some 8), .move (.tmp 0), (some (7, false)), [], false, false⟩,
      ⟨(some 9), .len true (.tmp 8), (some (7, false)), [], false, false⟩,
      ⟨(some 10), .bin .gtr (.tmp 9) (.const (.int .i64 12)), (some (7, false)), [], false, false⟩,
      ⟨(some 11), .pick (.tmp 7) (.const (.bool true)) (.tmp 10), none, [], false, false⟩,
      ⟨(some 12), .move (.tmp 11), none, [], false, false⟩,
      ⟨(some 13), .move (.tmp 0), (some (12, false)), [], false, false⟩,
      ⟨(some 14), .strIndex (.tmp 13) (.const (.int .i64 0)), (some (12, false)), [], false, false⟩,
      ⟨(some 15), .call 141 [(.tmp 14)], (some (12, false)), [], false, false⟩,
      ⟨(some 16), .un .not (.tmp 15), (some (12, false)), [], false, false⟩,
      ⟨(some 17), .pick (.tmp 12) (.const (.bool true)) (.tmp 16), none, [], false, false⟩])
   (.cond (.tmp 17) (.seq (.region false [⟨(some 2), .move (.const (.bool false)), none, [], false, false⟩])
     (.ret))
    (.skip)))
  (.seq (.seq (.region false [⟨(some 3), .move (.const (.int .i64 0)), none, [], false, false⟩])
    (.block 0 (.loop (some [0, 3]) (
      .seq (.seq (.region false [⟨(some 18), .move (.tmp 3), none, [], false, false⟩,
           ⟨(some 19), .move (.tmp 0), none, [], false, false⟩,
           ⟨(some 20), .len true (.tmp 19), none, [], false, false⟩,
           ⟨(some 21), .bin .lss (.tmp 18) (.tmp 20), none, [], false, false⟩])
        (.cond (.tmp 21) (.skip)
         (.exit 0)))
       (.seq (.block 1 (.seq (.region false [⟨(some 24), .move (.tmp 0), none, [], false, false⟩,
             ⟨(some 25), .move (.tmp 3), none, [], false, false⟩,
             ⟨(some 26), .strIndex (.tmp 24) (.tmp 25), none, [], false, false⟩,
             ⟨(some 27), .call 141 [(.tmp 26)], none, [], false, false⟩,
             ⟨(some 28), .un .not (.tmp 27), none, [], false, false⟩,
             ⟨(some 29), .move (.tmp 28), none, [], false, false⟩,
             ⟨(some 30), .move (.tmp 0), (some (29, true)), [], false, false⟩,
             ⟨(some 31), .move (.tmp 3), (some (29, true)), [], false, false⟩,
             ⟨(some 32), .strIndex (.tmp 30) (.tmp 31), (some (29, true)), [], false, false⟩,
             ⟨(some 33), .call 142 [(.tmp 32)], (some (29, true)), [], false, false⟩,
             ⟨(some 34), .un .not (.tmp 33), (some (29, true)), [], false, false⟩,
             ⟨(some 35), .pick (.tmp 29) (.tmp 34) (.const (.bool false)), none, [], false, false⟩,
             ⟨(some 36), .move (.tmp 35), none, [], false, false⟩,
             ⟨(some 37), .move (.tmp 0), (some (36, true)), [], false, false⟩,
             ⟨(some 38), .move (.tmp 3), (some (36, true)), [], false, false⟩,
             ⟨(some 39), .strIndex (.tmp 37) (.tmp 38), (some (36, true)), [], false, false⟩,
             ⟨(some 40), .bin .neq (.tmp 39) (.const (.int .u8 45)), (some (36, true)), [], false, false⟩,
             ⟨(some 41), .pick (.tmp 36) (.tmp 40) (.const (.bool false)), none, [], false, false⟩])
          (.cond (.tmp 41) (.seq (.region false [⟨(some 2), .move (.const (.bool false)), none, [], false, false⟩])
            (.ret))
           (.skip))))
        (.region false [⟨(some 22), .move (.tmp 3), none, [], false, false⟩,
           ⟨(some 23), .bin .add (.tmp 22) (.const (.int .i64 1)), none, [], false, false⟩,
           ⟨(some 3), .move (.tmp 23), none, [], false, false⟩]))))))
   (.seq (.region false [⟨(some 2), .move (.const (.bool true)), none, [], false, false⟩])
    (.ret)))),
 [.tmp 2], .pure, 42⟩

/-- agraffe/agrafferef06.Spread -/
def ef89 : EFun := ⟨
 .seq (.region false [⟨(some 1), .box (.tmp 0), none, [], false, false⟩,
    ⟨(some 2), .push [(.int .i64 0), (.int .i64 0), (.int .i64 0)], none, [], false, false⟩])
 (.seq (.region true [⟨(some 8), .load true 25 (.tmp 1), none, [], false, false⟩,
     ⟨(some 9), .call 48 [(.tmp 8), (.const (.int .i64 0))], none, [], false, true⟩,
     ⟨(some 10), .load true 25 (.tmp 1), none, [], false, false⟩,
     ⟨(some 11), .call 48 [(.tmp 10), (.const (.int .i64 0))], none, [], false, true⟩,
     ⟨(some 3), .push [(.int .i64 0), (.int .i64 0), (.int .i64 0)], none, [], false, false⟩,
     ⟨(some 4), .push [(.int .i64 0), (.int .i64 0), (.int .i64 0)], none, [], false, false⟩,
     ⟨none, .store 3 (.tmp 3) (.tmp 9), none, [], false, false⟩,
     ⟨none, .store 3 (.tmp 4) (.tmp 11), none, [], false, false⟩])
  (.seq (.seq (.region false [⟨(some 5), .move (.const (.int .i64 1)), none, [], false, false⟩])
    (.block 0 (.loop (some [1, 2, 3, 4, 5]) (
      .seq (.seq (.region false [⟨(some 12), .move (.tmp 5), none, [], false, false⟩,
           ⟨(some 13), .bin .lss (.tmp 12) (.const (.int .i64 12)), none, [], false, false⟩])
        (.cond (.tmp 13) (.skip)
         (.exit 0)))
       (.seq (.block 1 (.seq (.region false [⟨(some 16), .load true 25 (.tmp 1), none, [], false, false⟩,
             ⟨(some 17), .move (.tmp 5), none, [], false, false⟩,
             ⟨(some 18), .call 48 [(.tmp 16), (.tmp 17)], none, [], false, false⟩,
             ⟨(some 6), .push [(.int .i64 0), (.int .i64 0), (.int .i64 0)], none, [], false, false⟩,
             ⟨none, .store 3 (.tmp 6) (.tmp 18), none, [], false, false⟩])
          (.seq (.region false [⟨(some 7), .move (.const (.int .i64 0)), none, [], false, false⟩])
           (.block 2 (.loop (some [1, 2, 3, 4, 5, 6, 7]) (
             .seq (.seq (.region false [⟨(some 19), .move (.tmp 7), none, [], false, false⟩,
                  ⟨(some 20), .bin .lss (.tmp 19) (.const (.int .i64 3)), none, [], false, false⟩])
               (.cond (.tmp 20) (.skip)
                (.exit 2)))
              (.seq (.block 3 (.region true [⟨(some 23), .move (.tmp 7), none, [], false, false⟩,
                   ⟨(some 24), .move (.tmp 7), none, [], false, false⟩,
                   ⟨(some 25), .move (.tmp 7), none, [], false, false⟩,
                   ⟨(some 26), .indexAddr (some 3) 1 (.tmp 3) (.tmp 25), none, [], false, false⟩,
                   ⟨(some 27), .load false 1 (.tmp 26), none, [], false, false⟩,
                   ⟨(some 28), .move (.tmp 7), none, [], false, false⟩,
                   ⟨(some 29), .indexAddr (some 3) 1 (.tmp 6) (.tmp 28), none, [], false, false⟩,
                   ⟨(some 30), .load false 1 (.tmp 29), none, [], false, false⟩,
                   ⟨(some 31), .min [(.tmp 27), (.tmp 30)], none, [], false, false⟩,
                   ⟨(some 32), .move (.tmp 7), none, [], false, false⟩,
                   ⟨(some 33), .indexAddr (some 3) 1 (.tmp 4) (.tmp 32), none, [], false, false⟩,
                   ⟨(some 34), .load false 1 (.tmp 33), none, [], true, false⟩,
                   ⟨(some 35), .move (.tmp 7), none, [], false, false⟩,
                   ⟨(some 36), .indexAddr (some 3) 1 (.tmp 6) (.tmp 35), none, [], false, false⟩,
                   ⟨(some 37), .load false 1 (.tmp 36), none, [], true, false⟩,
                   ⟨(some 38), .max [(.tmp 34), (.tmp 37)], none, [], false, false⟩,
                   ⟨(some 39), .indexAddr (some 3) 1 (.tmp 3) (.tmp 23), none, [], false, false⟩,
                   ⟨none, .store 1 (.tmp 39) (.tmp 31), none, [11, 14], false, false⟩,
                   ⟨(some 40), .indexAddr (some 3) 1 (.tmp 4) (.tmp 24), none, [], false, false⟩,
                   ⟨none, .store 1 (.tmp 40) (.tmp 38), none, [], false, false⟩]))
               (.region false [⟨(some 21), .move (.tmp 7), none, [], false, false⟩,
                  ⟨(some 22), .bin .add (.tmp 21) (.const (.int .i64 1)), none, [], false, false⟩,
                  ⟨(some 7), .move (.tmp 22), none, [], false, false⟩]))))))))
        (.region false [⟨(some 14), .move (.tmp 5), none, [], false, false⟩,
           ⟨(some 15), .bin .add (.tmp 14) (.const (.int .i64 1)), none, [], false, false⟩,
           ⟨(some 5), .move (.tmp 15), none, [], false, false⟩]))))))
   (.seq (.region false [⟨(some 41), .indexAddr (some 3) 1 (.tmp 4) (.const (.int .i64 0)), none, [], false, false⟩,
       ⟨(some 42), .load false 1 (.tmp 41), none, [], false, false⟩,
       ⟨(some 43), .indexAddr (some 3) 1 (.tmp 3) (.const (.int .i64 0)), none, [], false, false⟩,
       ⟨(some 44), .load false 1 (.tmp 43), none, [], false, false⟩,
       ⟨(some 45), .bin .sub (.tmp 42) (.tmp 44), none, [], false, false⟩,
       ⟨(some 46), .indexAddr (some 3) 1 (.tmp 4) (.const (.int .i64 1)), none, [], false, false⟩,
       ⟨(some 47), .load false 1 (.tmp 46), none, [], false, false⟩,
       ⟨(some 48), .indexAddr (some 3) 1 (.tmp 3) (.const (.int .i64 1)), none, [], false, false⟩,
       ⟨(some 49), .load false 1 (.tmp 48), none, [], false, false⟩,
       ⟨(some 50), .bin .sub (.tmp 47) (.tmp 49), none, [], false, false⟩,
       ⟨(some 51), .indexAddr (some 3) 1 (.tmp 4) (.const (.int .i64 2)), none, [], false, false⟩,
       ⟨(some 52), .load false 1 (.tmp 51), none, [], false, false⟩,
       ⟨(some 53), .indexAddr (some 3) 1 (.tmp 3) (.const (.int .i64 2)), none, [], false, false⟩,
       ⟨(some 54), .load false 1 (.tmp 53), none, [], false, false⟩,
       ⟨(some 55), .bin .sub (.tmp 52) (.tmp 54), none, [], false, false⟩,
       ⟨(some 56), .build [(.int .i64 0), (.int .i64 0), (.int .i64 0)] [(0, 1, (.tmp 45)), (1, 1, (.tmp 50)), (2, 1, (.tmp 55))], none, [], false, false⟩,
       ⟨none, .store 3 (.tmp 2) (.tmp 56), none, [], false, false⟩])
    (.ret)))),
 [.cell 2 true 3], .pure, 57⟩

/-- agraffe/agrafferef01.Normal -/
def ef90 : EFun := ⟨
 .seq (.region false [⟨(some 1), .box (.tmp 0), none, [], false, false⟩,
    ⟨(some 2), .push [(.int .i64 0), (.int .i64 0), (.int .i64 0), (.int .i64 0)], none, [], false, false⟩])
 (.seq (.region true [⟨(some 4), .fieldAddr 0 (.tmp 1), none, [], false, false⟩,
     ⟨(some 5), .load false 1 (.tmp 4), none, [], false, false⟩,
     ⟨(some 6), .fieldAddr 1 (.tmp 1), none, [], false, false⟩,
     ⟨(some 7), .load false 1 (.tmp 6), none, [], false, false⟩,
     ⟨(some 8), .call 143 [(.tmp 5), (.tmp 7)], none, [], false, true⟩,
     ⟨(some 9), .fieldAddr 2 (.tmp 1), none, [], false, false⟩,
     ⟨(some 10), .load false 1 (.tmp 9), none, [], false, false⟩,
     ⟨(some 11), .fieldAddr 3 (.tmp 1), none, [], false, false⟩,
     ⟨(some 12), .load false 1 (.tmp 11), none, [], false, false⟩,
     ⟨(some 13), .call 143 [(.tmp 10), (.tmp 12)], none, [], false, false⟩,
     ⟨(some 14), .call 143 [(.tmp 8), (.tmp 13)], none, [], false, false⟩,
     ⟨(some 3), .move (.tmp 14), none, [], false, false⟩])
  (.seq (.region true [⟨(some 15), .fieldAddr 0 (.tmp 1), none, [], false, false⟩,
      ⟨(some 16), .load false 1 (.tmp 15), none, [], false, false⟩,
      ⟨(some 17), .move (.tmp 3), none, [], false, false⟩,
      ⟨(some 18), .bin .quo (.tmp 16) (.tmp 17), none, [], false, false⟩,
      ⟨(some 19), .fieldAddr 1 (.tmp 1), none, [], false, false⟩,
      ⟨(some 20), .load false 1 (.tmp 19), none, [], false, false⟩,
      ⟨(some 21), .move (.tmp 3), none, [], false, false⟩,
      ⟨(some 22), .bin .quo (.tmp 20) (.tmp 21), none, [], false, false⟩,
      ⟨(some 23), .fieldAddr 2 (.tmp 1), none, [], false, false⟩,
      ⟨(some 24), .load false 1 (.tmp 23), none, [], false, false⟩,
      ⟨(some 25), .move (.tmp 3), none, [], false, false⟩,
      ⟨(some 26), .bin .quo (.tmp 24) (.tmp 25), none, [], false, false⟩,
      ⟨(some 27), .fieldAddr 3 (.tmp 1), none, [], false, false⟩,
      ⟨(some 28), .load false 1 (.tmp 27), none, [], false, false⟩,
      ⟨(some 29), .move (.tmp 3), none, [], false, false⟩,
      ⟨(some 30), .bin .quo (.tmp 28) (.tmp 29), none, [], false, false⟩,
      ⟨(some 31), .build [(.int .i64 0), (.int .i64 0), (.int .i64 0), (.int .i64 0)] [(0, 1, (.tmp 18)), (1, 1, (.tmp 22)), (2, 1, (.tmp 26)), (3, 1, (.tmp 30))], none, [], false, false⟩,
      ⟨none, .store 4 (.tmp 2) (.tmp 31), none, [], false, false⟩])
   (.ret))),
 [.cell 2 true 4], .pure, 32⟩

/-- agraffe/agrafferef06.plus -/
def ef91 : EFun := ⟨
 .seq (.region false [⟨(some 3), .box (.tmp 0), none, [], false, false⟩,
    ⟨(some 5), .box (.tmp 2), none, [], false, false⟩,
    ⟨(some 6), .push [(.int .i64 0), (.int .i64 0), (.int .i64 0)], none, [], false, false⟩])
 (.seq (.seq (.region false [⟨(some 7), .move (.const (.int .i64 0)), none, [], false, false⟩])
   (.block 0 (.loop (some [1, 3, 5, 6, 7]) (
     .seq (.seq (.region false [⟨(some 8), .move (.tmp 7), none, [], false, false⟩,
          ⟨(some 9), .bin .lss (.tmp 8) (.const (.int .i64 3)), none, [], false, false⟩])
       (.cond (.tmp 9) (.skip)
        (.exit 0)))
      (.seq (.block 1 (.region true [⟨(some 12), .move (.tmp 7), none, [], false, false⟩,
           ⟨(some 13), .move (.tmp 7), none, [], false, false⟩,
           ⟨(some 14), .indexAddr (some 3) 1 (.tmp 3) (.tmp 13), none, [], false, false⟩,
           ⟨(some 15), .load false 1 (.tmp 14), none, [], false, false⟩,
           ⟨(some 16), .move (.tmp 1), none, [], false, false⟩,
           ⟨(some 17), .move (.tmp 7), none, [], false, false⟩,
           ⟨(some 18), .indexAddr (some 3) 1 (.tmp 5) (.tmp 17), none, [], false, false⟩,
           ⟨(some 19), .load false 1 (.tmp 18), none, [], false, false⟩,
           ⟨(some 20), .bin .mul (.tmp 16) (.tmp 19), none, [], false, false⟩,
           ⟨(some 21), .bin .add (.tmp 15) (.tmp 20), none, [], false, false⟩,
           ⟨(some 22), .indexAddr (some 3) 1 (.tmp 3) (.tmp 12), none, [], false, false⟩,
           ⟨none, .store 1 (.tmp 22) (.tmp 21), none, [], false, false⟩]))
       (.region false [⟨(some 10), .move (.tmp 7), none, [], false, false⟩,
          ⟨(some 11), .bin .add (.tmp 10) (.const (.int .i64 1)), none, [], false, false⟩,
          ⟨(some 7), .move (.tmp 11), none, [], false, false⟩]))))))
  (.seq (.region false [⟨(some 23), .load true 3 (.tmp 3), none, [], false, false⟩,
      ⟨none, .store 3 (.tmp 6) (.tmp 23), none, [], false, false⟩])
   (.ret))),
 [.cell 6 true 3], .pure, 24⟩

/-- agraffe/agrafferef06.Note -/
def ef92 : EFun := ⟨
 .seq (.region false [⟨(some 2), .box (.tmp 0), none, [], false, false⟩,
    ⟨(some 4), .push [(.int .i64 0), (.int .i64 0), (.int .i64 0)], none, [], false, false⟩])
 (.seq (.region false [⟨(some 5), .load true 25 (.tmp 2), none, [], false, false⟩,
     ⟨(some 6), .move (.tmp 1), none, [], false, false⟩,
     ⟨(some 7), .bin .add (.tmp 6) (.const (.int .i64 9)), none, [], false, false⟩,
     ⟨(some 8), .bin .rem (.tmp 7) (.const (.int .i64 12)), none, [], false, false⟩,
     ⟨(some 9), .call 48 [(.tmp 5), (.tmp 8)], none, [], false, false⟩,
     ⟨(some 10), .move (.tmp 1), none, [], false, false⟩,
     ⟨(some 11), .bin .add (.tmp 10) (.const (.int .i64 9)), none, [], false, false⟩,
     ⟨(some 12), .bin .quo (.tmp 11) (.const (.int .i64 12)), none, [], false, false⟩,
     ⟨(some 13), .call 105 [], none, [], false, false⟩,
     ⟨(some 14), .call 91 [(.tmp 9), (.tmp 12), (.tmp 13)], none, [], false, false⟩,
     ⟨none, .store 3 (.tmp 4) (.tmp 14), none, [], false, false⟩])
  (.ret)),
 [.cell 4 true 3], .pure, 15⟩

/-- agraffe/temper.isFork -/
def ef93 : EFun := ⟨
 .seq (.region false [⟨(some 2), .move (.const (.bool false)), none, [], false, false⟩])
 (.seq (.region false [⟨(some 3), .move (.tmp 0), none, [], false, false⟩,
     ⟨(some 4), .bin .geq (.tmp 3) (.const (.int .i64 1)), none, [], false, false⟩,
     ⟨(some 5), .move (.tmp 4), none, [], false, false⟩,
     ⟨(some 6), .move (.tmp 0), (some (5, true)), [], false, false⟩,
     ⟨(some 7), .bin .leq (.tmp 6) (.const (.int .i64 1000000)), (some (5, true)), [], false, false⟩,
     ⟨(some 8), .pick (.tmp 5) (.tmp 7) (.const (.bool false)), none, [], false, false⟩,
     ⟨(some 2), .move (.tmp 8), none, [], false, false⟩])
  (.ret)),
 [.tmp 2], .pure, 9⟩

/-- (*agraffe/temper.circle).beats -/
def ef94 : EFun := ⟨
 .seq (.region false [⟨(some 5), .box (.tmp 2), none, [], false, false⟩,
    ⟨(some 6), .push [(.int .i64 0), (.int .i64 0)], none, [], false, false⟩,
    ⟨(some 7), .move (.const (.int .i64 0)), none, [], false, false⟩])
 (.seq (.region false [⟨(some 12), .move (.tmp 0), none, [], false, false⟩,
     ⟨(some 13), .move (.tmp 1), none, [], false, false⟩,
     ⟨(some 14), .fieldAddr 3 (.tmp 5), none, [], false, false⟩,
     ⟨(some 15), .load false 1 (.tmp 14), none, [], false, false⟩,
     ⟨(some 16), .bin .mul (.tmp 13) (.tmp 15), none, [], false, false⟩,
     ⟨(some 17), .fieldAddr 1 (.tmp 5), none, [], false, false⟩,
     ⟨(some 18), .load false 1 (.tmp 17), none, [], false, false⟩,
     ⟨(some 19), .call 96 [(.tmp 12), (.tmp 16), (.tmp 18)], none, [], false, false⟩,
     ⟨(some 11), .move (.tmp 19), none, [], false, false⟩,
     ⟨(some 20), .extract (.tmp 11) 0, none, [], false, false⟩,
     ⟨(some 21), .extract (.tmp 11) 1, none, [], false, false⟩,
     ⟨(some 8), .push [(.int .i64 0), (.int .i64 0)], none, [], false, false⟩,
     ⟨none, .store 2 (.tmp 8) (.tmp 20), none, [], false, false⟩,
     ⟨(some 9), .move (.tmp 21), none, [], false, false⟩])
  (.seq (.seq (.region false [⟨(some 22), .move (.tmp 9), none, [], false, false⟩,
       ⟨(some 23), .bin .neq (.tmp 22) (.const (.int .i64 0)), none, [], false, false⟩])
    (.cond (.tmp 23) (.seq (.region false [⟨(some 24), .build [(.int .i64 0), (.int .i64 0)] [], none, [], false, false⟩,
         ⟨(some 25), .move (.tmp 9), none, [], false, false⟩,
         ⟨none, .store 2 (.tmp 6) (.tmp 24), none, [], false, false⟩,
         ⟨(some 7), .move (.tmp 25), none, [], false, false⟩])
      (.ret))
     (.skip)))
   (.seq (.region false [⟨(some 27), .move (.tmp 0), none, [], false, false⟩,
       ⟨(some 28), .move (.tmp 1), none, [], false, false⟩,
       ⟨(some 29), .fieldAddr 2 (.tmp 5), none, [], false, false⟩,
       ⟨(some 30), .load false 1 (.tmp 29), none, [], false, false⟩,
       ⟨(some 31), .bin .mul (.tmp 28) (.tmp 30), none, [], false, false⟩,
       ⟨(some 32), .fieldAddr 0 (.tmp 5), none, [], false, false⟩,
       ⟨(some 33), .load false 1 (.tmp 32), none, [], false, false⟩,
       ⟨(some 34), .call 96 [(.tmp 27), (.tmp 31), (.tmp 33)], none, [], false, false⟩,
       ⟨(some 26), .move (.tmp 34), none, [], false, false⟩,
       ⟨(some 35), .extract (.tmp 26) 0, none, [], false, false⟩,
       ⟨(some 36), .extract (.tmp 26) 1, none, [], false, false⟩,
       ⟨(some 10), .push [(.int .i64 0), (.int .i64 0)], none, [], false, false⟩,
       ⟨none, .store 2 (.tmp 10) (.tmp 35), none, [], false, false⟩,
       ⟨(some 9), .move (.tmp 36), none, [], false, false⟩])
    (.seq (.seq (.region false [⟨(some 37), .move (.tmp 9), none, [], false, false⟩,
         ⟨(some 38), .bin .neq (.tmp 37) (.const (.int .i64 0)), none, [], false, false⟩])
      (.cond (.tmp 38) (.seq (.region false [⟨(some 39), .build [(.int .i64 0), (.int .i64 0)] [], none, [], false, false⟩,
           ⟨(some 40), .move (.tmp 9), none, [], false, false⟩,
           ⟨none, .store 2 (.tmp 6) (.tmp 39), none, [], false, false⟩,
           ⟨(some 7), .move (.tmp 40), none, [], false, false⟩])
        (.ret))
       (.skip)))
     (.seq (.region false [⟨(some 41), .fieldAddr 0 (.tmp 8), none, [], false, false⟩,
         ⟨(some 42), .load false 1 (.tmp 41), none, [], false, false⟩,
         ⟨(some 43), .fieldAddr 1 (.tmp 10), none, [], false, false⟩,
         ⟨(some 44), .load false 1 (.tmp 43), none, [], false, false⟩,
         ⟨(some 45), .bin .sub (.tmp 42) (.tmp 44), none, [], false, false⟩,
         ⟨(some 46), .fieldAddr 1 (.tmp 8), none, [], false, false⟩,
         ⟨(some 47), .load false 1 (.tmp 46), none, [], false, false⟩,
         ⟨(some 48), .fieldAddr 0 (.tmp 10), none, [], false, false⟩,
         ⟨(some 49), .load false 1 (.tmp 48), none, [], false, false⟩,
         ⟨(some 50), .bin .sub (.tmp 47) (.tmp 49), none, [], false, false⟩,
         ⟨(some 51), .build [(.int .i64 0), (.int .i64 0)] [(0, 1, (.tmp 45)), (1, 1, (.tmp 50))], none, [], false, false⟩,
         ⟨none, .store 2 (.tmp 6) (.tmp 51), none, [], false, false⟩,
         ⟨(some 7), .move (.const (.int .i64 0)), none, [], false, false⟩])
      (.ret)))))),
 [.cell 6 true 2, .tmp 7], .pure, 52⟩

end Go.Abs.T
