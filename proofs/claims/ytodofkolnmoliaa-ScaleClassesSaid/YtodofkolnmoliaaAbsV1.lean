/- The functions, compiled for the abstract evaluator. Written by wip/abs/Print.lean. -/
import Derived.Test.YtodofkolnmoliaaAbsV0
set_option linter.unusedSimpArgs false
set_option linter.unusedVariables false
set_option maxRecDepth 100000
set_option maxHeartbeats 0
namespace Go.Abs.V
open Go Go.Abs
/-- agraffe/agraffelaw02.ScaleGrows -/
def ef3 : EFun := ⟨
 .seq (.region false [⟨(some 4), .box (.tmp 1), none, [], false, false⟩,
    ⟨(some 5), .box (.tmp 2), none, [], false, false⟩,
    ⟨(some 6), .move (.const (.bool false)), none, [], false, false⟩])
 (.seq (.seq (.region false [⟨(some 21), .call 9 [], none, [], false, false⟩,
      ⟨(some 22), .un .not (.tmp 21), none, [], false, false⟩])
   (.cond (.tmp 22) (.seq (.region false [⟨(some 6), .move (.const (.bool false)), none, [], false, false⟩])
     (.ret))
    (.skip)))
  (.seq (.region false [⟨(some 23), .indexAddr (some 4) 1 (.tmp 5) (.const (.int .i64 0)), none, [], false, false⟩,
      ⟨(some 24), .load false 1 (.tmp 23), none, [], false, false⟩,
      ⟨(some 25), .indexAddr (some 4) 1 (.tmp 5) (.const (.int .i64 0)), none, [], false, false⟩,
      ⟨(some 26), .load false 1 (.tmp 25), none, [], false, false⟩,
      ⟨(some 27), .build [(.int .i64 0), (.int .i64 0)] [(0, 1, (.tmp 24)), (1, 1, (.tmp 26))], none, [], false, false⟩,
      ⟨(some 7), .push [(.int .i64 0), (.int .i64 0)], none, [], false, false⟩,
      ⟨none, .store 2 (.tmp 7) (.tmp 27), none, [], false, false⟩])
   (.seq (.region true [⟨(some 28), .indexAddr (some 4) 1 (.tmp 5) (.const (.int .i64 0)), none, [], false, false⟩,
       ⟨(some 29), .load false 1 (.tmp 28), none, [], false, false⟩,
       ⟨(some 30), .indexAddr (some 4) 1 (.tmp 5) (.const (.int .i64 0)), none, [], false, false⟩,
       ⟨(some 31), .load false 1 (.tmp 30), none, [], false, false⟩,
       ⟨(some 32), .indexAddr (some 4) 1 (.tmp 5) (.const (.int .i64 1)), none, [], false, false⟩,
       ⟨(some 33), .load false 1 (.tmp 32), none, [], false, false⟩,
       ⟨(some 34), .call 10 [(.tmp 33), (.const (.int .i64 1000))], none, [], false, true⟩,
       ⟨(some 35), .bin .add (.tmp 31) (.tmp 34), none, [], false, false⟩,
       ⟨(some 36), .build [(.int .i64 0), (.int .i64 0)] [(0, 1, (.tmp 29)), (1, 1, (.tmp 35))], none, [], false, false⟩,
       ⟨(some 8), .push [(.int .i64 0), (.int .i64 0)], none, [], false, false⟩,
       ⟨none, .store 2 (.tmp 8) (.tmp 36), none, [], false, false⟩])
    (.seq (.region true [⟨(some 37), .load true 5 (.tmp 4), none, [], false, false⟩,
        ⟨(some 38), .load true 5 (.tmp 4), none, [], true, false⟩,
        ⟨(some 9), .push [(.int .i64 0), (.int .i64 0), (.int .i64 0), (.string ⟨#[]⟩), (.string ⟨#[]⟩)], none, [], false, false⟩,
        ⟨(some 10), .push [(.int .i64 0), (.int .i64 0), (.int .i64 0), (.string ⟨#[]⟩), (.string ⟨#[]⟩)], none, [], false, false⟩,
        ⟨none, .store 5 (.tmp 9) (.tmp 37), none, [1], false, false⟩,
        ⟨none, .store 5 (.tmp 10) (.tmp 38), none, [], false, false⟩])
     (.seq (.region true [⟨(some 39), .fieldAddr 0 (.tmp 4), none, [], false, false⟩,
         ⟨(some 40), .load false 1 (.tmp 39), none, [], false, false⟩,
         ⟨(some 41), .indexAddr (some 4) 1 (.tmp 5) (.const (.int .i64 2)), none, [], false, false⟩,
         ⟨(some 42), .load false 1 (.tmp 41), none, [], false, false⟩,
         ⟨(some 43), .call 10 [(.tmp 42), (.const (.int .i64 5000))], none, [], false, true⟩,
         ⟨(some 44), .bin .add (.tmp 40) (.tmp 43), none, [], false, false⟩,
         ⟨(some 45), .fieldAddr 0 (.tmp 9), none, [], false, false⟩,
         ⟨none, .store 1 (.tmp 45) (.tmp 44), none, [], false, false⟩])
      (.seq (.region true [⟨(some 46), .fieldAddr 1 (.tmp 4), none, [], false, false⟩,
          ⟨(some 47), .load false 1 (.tmp 46), none, [], false, false⟩,
          ⟨(some 48), .indexAddr (some 4) 1 (.tmp 5) (.const (.int .i64 3)), none, [], false, false⟩,
          ⟨(some 49), .load false 1 (.tmp 48), none, [], false, false⟩,
          ⟨(some 50), .call 10 [(.tmp 49), (.const (.int .i64 200))], none, [], false, true⟩,
          ⟨(some 51), .bin .add (.tmp 47) (.tmp 50), none, [], false, false⟩,
          ⟨(some 52), .fieldAddr 1 (.tmp 10), none, [], false, false⟩,
          ⟨none, .store 1 (.tmp 52) (.tmp 51), none, [], false, false⟩])
       (.seq (.seq (.region false [⟨(some 53), .move (.tmp 0), none, [], false, false⟩,
            ⟨(some 54), .call 11 [(.tmp 53)], none, [], false, false⟩,
            ⟨(some 55), .un .not (.tmp 54), none, [], false, false⟩,
            ⟨(some 56), .move (.tmp 55), none, [], false, false⟩,
            ⟨(some 57), .load true 5 (.tmp 4), (some (56, false)), [], false, false⟩,
            ⟨(some 58), .call 12 [(.tmp 57)], (some (56, false)), [], false, false⟩,
            ⟨(some 59), .un .not (.tmp 58), (some (56, false)), [], false, false⟩,
            ⟨(some 60), .pick (.tmp 56) (.const (.bool true)) (.tmp 59), none, [], false, false⟩,
            ⟨(some 61), .move (.tmp 60), none, [], false, false⟩,
            ⟨(some 62), .fieldAddr 2 (.tmp 4), (some (61, false)), [], false, false⟩,
            ⟨(some 63), .load false 1 (.tmp 62), (some (61, false)), [], false, false⟩,
            ⟨(some 64), .bin .neq (.tmp 63) (.const (.int .i64 0)), (some (61, false)), [], false, false⟩,
            ⟨(some 65), .pick (.tmp 61) (.const (.bool true)) (.tmp 64), none, [], false, false⟩,
            ⟨(some 66), .move (.tmp 65), none, [], false, false⟩,
            ⟨(some 67), .indexAddr (some 4) 1 (.tmp 5) (.const (.int .i64 0)), (some (66, false)), [], false, false⟩,
            ⟨(some 68), .load false 1 (.tmp 67), (some (66, false)), [], false, false⟩,
            ⟨(some 69), .call 13 [(.tmp 68), (.const (.int .i64 1)), (.const (.int .i64 9000000))], (some (66, false)), [], false, false⟩,
            ⟨(some 70), .un .not (.tmp 69), (some (66, false)), [], false, false⟩,
            ⟨(some 71), .pick (.tmp 66) (.const (.bool true)) (.tmp 70), none, [], false, false⟩,
            ⟨(some 72), .move (.tmp 71), none, [], false, false⟩,
            ⟨(some 73), .move (.tmp 0), (some (72, false)), [], false, false⟩,
            ⟨(some 74), .load true 5 (.tmp 9), (some (72, false)), [], false, false⟩,
            ⟨(some 75), .call 14 [(.tmp 73), (.tmp 74)], (some (72, false)), [], false, false⟩,
            ⟨(some 76), .bin .neq (.tmp 75) (.const (.int .i64 0)), (some (72, false)), [], false, false⟩,
            ⟨(some 77), .pick (.tmp 72) (.const (.bool true)) (.tmp 76), none, [], false, false⟩,
            ⟨(some 78), .move (.tmp 77), none, [], false, false⟩,
            ⟨(some 79), .move (.tmp 0), (some (78, false)), [], false, false⟩,
            ⟨(some 80), .load true 5 (.tmp 10), (some (78, false)), [], false, false⟩,
            ⟨(some 81), .call 14 [(.tmp 79), (.tmp 80)], (some (78, false)), [], false, false⟩,
            ⟨(some 82), .bin .neq (.tmp 81) (.const (.int .i64 0)), (some (78, false)), [], false, false⟩,
            ⟨(some 83), .pick (.tmp 78) (.const (.bool true)) (.tmp 82), none, [], false, false⟩,
            ⟨(some 84), .move (.tmp 83), none, [], false, false⟩,
            ⟨(some 85), .move (.tmp 0), (some (84, false)), [], false, false⟩,
            ⟨(some 86), .load true 5 (.tmp 4), (some (84, false)), [], false, false⟩,
            ⟨(some 87), .call 14 [(.tmp 85), (.tmp 86)], (some (84, false)), [], false, false⟩,
            ⟨(some 88), .bin .neq (.tmp 87) (.const (.int .i64 0)), (some (84, false)), [], false, false⟩,
            ⟨(some 89), .pick (.tmp 84) (.const (.bool true)) (.tmp 88), none, [], false, false⟩])
         (.cond (.tmp 89) (.seq (.region false [⟨(some 6), .move (.const (.bool true)), none, [], false, false⟩])
           (.ret))
          (.skip)))
        (.seq (.region false [⟨(some 91), .move (.tmp 0), none, [], false, false⟩,
            ⟨(some 92), .load true 5 (.tmp 4), none, [], false, false⟩,
            ⟨(some 93), .load true 2 (.tmp 7), none, [], false, false⟩,
            ⟨(some 94), .call 15 [(.tmp 91), (.tmp 92), (.tmp 93)], none, [], false, false⟩,
            ⟨(some 90), .move (.tmp 94), none, [], false, false⟩,
            ⟨(some 95), .extract (.tmp 90) 0, none, [], false, false⟩,
            ⟨(some 96), .extract (.tmp 90) 1, none, [], false, false⟩,
            ⟨(some 11), .push [(.int .i64 0), (.int .i64 0)], none, [], false, false⟩,
            ⟨none, .store 2 (.tmp 11) (.tmp 95), none, [], false, false⟩,
            ⟨(some 12), .move (.tmp 96), none, [], false, false⟩])
         (.seq (.region false [⟨(some 98), .move (.tmp 0), none, [], false, false⟩,
             ⟨(some 99), .load true 5 (.tmp 9), none, [], false, false⟩,
             ⟨(some 100), .load true 2 (.tmp 7), none, [], false, false⟩,
             ⟨(some 101), .call 15 [(.tmp 98), (.tmp 99), (.tmp 100)], none, [], false, false⟩,
             ⟨(some 97), .move (.tmp 101), none, [], false, false⟩,
             ⟨(some 102), .extract (.tmp 97) 0, none, [], false, false⟩,
             ⟨(some 103), .extract (.tmp 97) 1, none, [], false, false⟩,
             ⟨(some 13), .push [(.int .i64 0), (.int .i64 0)], none, [], false, false⟩,
             ⟨none, .store 2 (.tmp 13) (.tmp 102), none, [], false, false⟩,
             ⟨(some 14), .move (.tmp 103), none, [], false, false⟩])
          (.seq (.region false [⟨(some 105), .move (.tmp 0), none, [], false, false⟩,
              ⟨(some 106), .load true 5 (.tmp 10), none, [], false, false⟩,
              ⟨(some 107), .load true 2 (.tmp 7), none, [], false, false⟩,
              ⟨(some 108), .call 15 [(.tmp 105), (.tmp 106), (.tmp 107)], none, [], false, false⟩,
              ⟨(some 104), .move (.tmp 108), none, [], false, false⟩,
              ⟨(some 109), .extract (.tmp 104) 0, none, [], false, false⟩,
              ⟨(some 110), .extract (.tmp 104) 1, none, [], false, false⟩,
              ⟨(some 15), .push [(.int .i64 0), (.int .i64 0)], none, [], false, false⟩,
              ⟨none, .store 2 (.tmp 15) (.tmp 109), none, [], false, false⟩,
              ⟨(some 16), .move (.tmp 110), none, [], false, false⟩])
           (.seq (.region false [⟨(some 112), .move (.tmp 0), none, [], false, false⟩,
               ⟨(some 113), .load true 5 (.tmp 4), none, [], false, false⟩,
               ⟨(some 114), .load true 2 (.tmp 8), none, [], false, false⟩,
               ⟨(some 115), .call 15 [(.tmp 112), (.tmp 113), (.tmp 114)], none, [], false, false⟩,
               ⟨(some 111), .move (.tmp 115), none, [], false, false⟩,
               ⟨(some 116), .extract (.tmp 111) 0, none, [], false, false⟩,
               ⟨(some 117), .extract (.tmp 111) 1, none, [], false, false⟩,
               ⟨(some 17), .push [(.int .i64 0), (.int .i64 0)], none, [], false, false⟩,
               ⟨none, .store 2 (.tmp 17) (.tmp 116), none, [], false, false⟩,
               ⟨(some 18), .move (.tmp 117), none, [], false, false⟩])
            (.seq (.region false [⟨(some 119), .move (.tmp 0), none, [], false, false⟩,
                ⟨(some 120), .load true 5 (.tmp 4), none, [], false, false⟩,
                ⟨(some 121), .fieldAddr 1 (.tmp 8), none, [], false, false⟩,
                ⟨(some 122), .load false 1 (.tmp 121), none, [], false, false⟩,
                ⟨(some 123), .fieldAddr 1 (.tmp 8), none, [], false, false⟩,
                ⟨(some 124), .load false 1 (.tmp 123), none, [], false, false⟩,
                ⟨(some 125), .build [(.int .i64 0), (.int .i64 0)] [(0, 1, (.tmp 122)), (1, 1, (.tmp 124))], none, [], false, false⟩,
                ⟨(some 126), .call 15 [(.tmp 119), (.tmp 120), (.tmp 125)], none, [], false, false⟩,
                ⟨(some 118), .move (.tmp 126), none, [], false, false⟩,
                ⟨(some 127), .extract (.tmp 118) 0, none, [], false, false⟩,
                ⟨(some 128), .extract (.tmp 118) 1, none, [], false, false⟩,
                ⟨(some 19), .push [(.int .i64 0), (.int .i64 0)], none, [], false, false⟩,
                ⟨none, .store 2 (.tmp 19) (.tmp 127), none, [], false, false⟩,
                ⟨(some 20), .move (.tmp 128), none, [], false, false⟩])
             (.seq (.seq (.region false [⟨(some 129), .move (.tmp 12), none, [], false, false⟩,
                  ⟨(some 130), .bin .neq (.tmp 129) (.const (.int .i64 0)), none, [], false, false⟩,
                  ⟨(some 131), .move (.tmp 130), none, [], false, false⟩,
                  ⟨(some 132), .move (.tmp 14), (some (131, false)), [], false, false⟩,
                  ⟨(some 133), .bin .neq (.tmp 132) (.const (.int .i64 0)), (some (131, false)), [], false, false⟩,
                  ⟨(some 134), .pick (.tmp 131) (.const (.bool true)) (.tmp 133), none, [], false, false⟩,
                  ⟨(some 135), .move (.tmp 134), none, [], false, false⟩,
                  ⟨(some 136), .move (.tmp 16), (some (135, false)), [], false, false⟩,
                  ⟨(some 137), .bin .neq (.tmp 136) (.const (.int .i64 0)), (some (135, false)), [], false, false⟩,
                  ⟨(some 138), .pick (.tmp 135) (.const (.bool true)) (.tmp 137), none, [], false, false⟩,
                  ⟨(some 139), .move (.tmp 138), none, [], false, false⟩,
                  ⟨(some 140), .move (.tmp 18), (some (139, false)), [], false, false⟩,
                  ⟨(some 141), .bin .neq (.tmp 140) (.const (.int .i64 0)), (some (139, false)), [], false, false⟩,
                  ⟨(some 142), .pick (.tmp 139) (.const (.bool true)) (.tmp 141), none, [], false, false⟩,
                  ⟨(some 143), .move (.tmp 142), none, [], false, false⟩,
                  ⟨(some 144), .move (.tmp 20), (some (143, false)), [], false, false⟩,
                  ⟨(some 145), .bin .neq (.tmp 144) (.const (.int .i64 0)), (some (143, false)), [], false, false⟩,
                  ⟨(some 146), .pick (.tmp 143) (.const (.bool true)) (.tmp 145), none, [], false, false⟩])
               (.cond (.tmp 146) (.seq (.region false [⟨(some 6), .move (.const (.bool false)), none, [], false, false⟩])
                 (.ret))
                (.skip)))
              (.seq (.region false [⟨(some 147), .fieldAddr 0 (.tmp 11), none, [], false, false⟩,
                  ⟨(some 148), .load false 1 (.tmp 147), none, [], false, false⟩,
                  ⟨(some 149), .fieldAddr 1 (.tmp 11), none, [], false, false⟩,
                  ⟨(some 150), .load false 1 (.tmp 149), none, [], false, false⟩,
                  ⟨(some 151), .bin .leq (.tmp 148) (.tmp 150), none, [], false, false⟩,
                  ⟨(some 152), .move (.tmp 151), none, [], false, false⟩,
                  ⟨(some 153), .fieldAddr 0 (.tmp 13), (some (152, true)), [], false, false⟩,
                  ⟨(some 154), .load false 1 (.tmp 153), (some (152, true)), [], false, false⟩,
                  ⟨(some 155), .fieldAddr 0 (.tmp 11), (some (152, true)), [], false, false⟩,
                  ⟨(some 156), .load false 1 (.tmp 155), (some (152, true)), [], false, false⟩,
                  ⟨(some 157), .bin .geq (.tmp 154) (.tmp 156), (some (152, true)), [], false, false⟩,
                  ⟨(some 158), .pick (.tmp 152) (.tmp 157) (.const (.bool false)), none, [], false, false⟩,
                  ⟨(some 159), .move (.tmp 158), none, [], false, false⟩,
                  ⟨(some 160), .fieldAddr 1 (.tmp 13), (some (159, true)), [], false, false⟩,
                  ⟨(some 161), .load false 1 (.tmp 160), (some (159, true)), [], false, false⟩,
                  ⟨(some 162), .fieldAddr 1 (.tmp 11), (some (159, true)), [], false, false⟩,
                  ⟨(some 163), .load false 1 (.tmp 162), (some (159, true)), [], false, false⟩,
                  ⟨(some 164), .bin .geq (.tmp 161) (.tmp 163), (some (159, true)), [], false, false⟩,
                  ⟨(some 165), .pick (.tmp 159) (.tmp 164) (.const (.bool false)), none, [], false, false⟩,
                  ⟨(some 166), .move (.tmp 165), none, [], false, false⟩,
                  ⟨(some 167), .fieldAddr 0 (.tmp 15), (some (166, true)), [], false, false⟩,
                  ⟨(some 168), .load false 1 (.tmp 167), (some (166, true)), [], false, false⟩,
                  ⟨(some 169), .fieldAddr 0 (.tmp 11), (some (166, true)), [], false, false⟩,
                  ⟨(some 170), .load false 1 (.tmp 169), (some (166, true)), [], false, false⟩,
                  ⟨(some 171), .bin .geq (.tmp 168) (.tmp 170), (some (166, true)), [], false, false⟩,
                  ⟨(some 172), .pick (.tmp 166) (.tmp 171) (.const (.bool false)), none, [], false, false⟩,
                  ⟨(some 173), .move (.tmp 172), none, [], false, false⟩,
                  ⟨(some 174), .fieldAddr 1 (.tmp 15), (some (173, true)), [], false, false⟩,
                  ⟨(some 175), .load false 1 (.tmp 174), (some (173, true)), [], false, false⟩,
                  ⟨(some 176), .fieldAddr 1 (.tmp 11), (some (173, true)), [], false, false⟩,
                  ⟨(some 177), .load false 1 (.tmp 176), (some (173, true)), [], false, false⟩,
                  ⟨(some 178), .bin .geq (.tmp 175) (.tmp 177), (some (173, true)), [], false, false⟩,
                  ⟨(some 179), .pick (.tmp 173) (.tmp 178) (.const (.bool false)), none, [], false, false⟩,
                  ⟨(some 180), .move (.tmp 179), none, [], false, false⟩,
                  ⟨(some 181), .fieldAddr 0 (.tmp 19), (some (180, true)), [], false, false⟩,
                  ⟨(some 182), .load false 1 (.tmp 181), (some (180, true)), [], false, false⟩,
                  ⟨(some 183), .fieldAddr 0 (.tmp 11), (some (180, true)), [], false, false⟩,
                  ⟨(some 184), .load false 1 (.tmp 183), (some (180, true)), [], false, false⟩,
                  ⟨(some 185), .bin .geq (.tmp 182) (.tmp 184), (some (180, true)), [], false, false⟩,
                  ⟨(some 186), .pick (.tmp 180) (.tmp 185) (.const (.bool false)), none, [], false, false⟩,
                  ⟨(some 187), .move (.tmp 186), none, [], false, false⟩,
                  ⟨(some 188), .fieldAddr 1 (.tmp 19), (some (187, true)), [], false, false⟩,
                  ⟨(some 189), .load false 1 (.tmp 188), (some (187, true)), [], false, false⟩,
                  ⟨(some 190), .fieldAddr 1 (.tmp 11), (some (187, true)), [], false, false⟩,
                  ⟨(some 191), .load false 1 (.tmp 190), (some (187, true)), [], false, false⟩,
                  ⟨(some 192), .bin .geq (.tmp 189) (.tmp 191), (some (187, true)), [], false, false⟩,
                  ⟨(some 193), .pick (.tmp 187) (.tmp 192) (.const (.bool false)), none, [], false, false⟩,
                  ⟨(some 194), .move (.tmp 193), none, [], false, false⟩,
                  ⟨(some 195), .load true 2 (.tmp 11), (some (194, true)), [], false, false⟩,
                  ⟨(some 196), .load true 2 (.tmp 17), (some (194, true)), [], false, false⟩,
                  ⟨(some 197), .call 16 [(.tmp 195), (.tmp 196)], (some (194, true)), [], false, false⟩,
                  ⟨(some 198), .pick (.tmp 194) (.tmp 197) (.const (.bool false)), none, [], false, false⟩,
                  ⟨(some 199), .move (.tmp 198), none, [], false, false⟩,
                  ⟨(some 200), .load true 2 (.tmp 19), (some (199, true)), [], false, false⟩,
                  ⟨(some 201), .load true 2 (.tmp 17), (some (199, true)), [], false, false⟩,
                  ⟨(some 202), .call 16 [(.tmp 200), (.tmp 201)], (some (199, true)), [], false, false⟩,
                  ⟨(some 203), .pick (.tmp 199) (.tmp 202) (.const (.bool false)), none, [], false, false⟩,
                  ⟨(some 6), .move (.tmp 203), none, [], false, false⟩])
               (.ret))))))))))))))),
 [.tmp 6], .pure, 204⟩

/-- agraffe/agraffelaw02.ScaleStrands -/
def ef4 : EFun := ⟨
 .seq (.region false [⟨(some 3), .box (.tmp 1), none, [], false, false⟩,
    ⟨(some 4), .move (.const (.bool false)), none, [], false, false⟩])
 (.seq (.seq (.region false [⟨(some 8), .call 9 [], none, [], false, false⟩,
      ⟨(some 9), .un .not (.tmp 8), none, [], false, false⟩])
   (.cond (.tmp 9) (.seq (.region false [⟨(some 4), .move (.const (.bool false)), none, [], false, false⟩])
     (.ret))
    (.skip)))
  (.seq (.seq (.region false [⟨(some 10), .move (.tmp 0), none, [], false, false⟩,
       ⟨(some 11), .call 11 [(.tmp 10)], none, [], false, false⟩,
       ⟨(some 12), .un .not (.tmp 11), none, [], false, false⟩,
       ⟨(some 13), .move (.tmp 12), none, [], false, false⟩,
       ⟨(some 14), .load true 5 (.tmp 3), (some (13, false)), [], false, false⟩,
       ⟨(some 15), .call 12 [(.tmp 14)], (some (13, false)), [], false, false⟩,
       ⟨(some 16), .un .not (.tmp 15), (some (13, false)), [], false, false⟩,
       ⟨(some 17), .pick (.tmp 13) (.const (.bool true)) (.tmp 16), none, [], false, false⟩])
    (.cond (.tmp 17) (.seq (.region false [⟨(some 4), .move (.const (.bool true)), none, [], false, false⟩])
      (.ret))
     (.skip)))
   (.seq (.region true [⟨(some 19), .move (.tmp 0), none, [], false, false⟩,
       ⟨(some 20), .call 18 [(.tmp 19)], none, [], false, true⟩,
       ⟨(some 21), .load true 5 (.tmp 3), none, [], false, false⟩,
       ⟨(some 22), .call 17 [(.tmp 20), (.tmp 21)], none, [], false, false⟩,
       ⟨(some 18), .move (.tmp 22), none, [], false, false⟩,
       ⟨(some 23), .extract (.tmp 18) 0, none, [], false, false⟩,
       ⟨(some 24), .extract (.tmp 18) 1, none, [], false, false⟩,
       ⟨(some 5), .move (.tmp 23), none, [], false, false⟩,
       ⟨(some 6), .move (.tmp 24), none, [], false, false⟩])
    (.seq (.region false [⟨(some 25), .move (.tmp 0), none, [], false, false⟩,
        ⟨(some 26), .load true 5 (.tmp 3), none, [], false, false⟩,
        ⟨(some 27), .call 14 [(.tmp 25), (.tmp 26)], none, [], false, false⟩,
        ⟨(some 7), .move (.tmp 27), none, [], false, false⟩])
     (.seq (.seq (.region true [⟨(some 28), .move (.tmp 0), none, [], false, false⟩,
          ⟨(some 29), .call 18 [(.tmp 28)], none, [], false, false⟩,
          ⟨(some 30), .call 19 [(.tmp 29)], none, [], false, false⟩,
          ⟨(some 31), .move (.tmp 0), none, [], false, false⟩,
          ⟨(some 32), .call 20 [(.tmp 31)], none, [], false, false⟩,
          ⟨(some 33), .bin .neq (.tmp 30) (.tmp 32), none, [], false, false⟩,
          ⟨(some 34), .move (.tmp 33), none, [], false, false⟩,
          ⟨(some 35), .move (.tmp 0), (some (34, false)), [], false, false⟩,
          ⟨(some 36), .call 18 [(.tmp 35)], (some (34, false)), [], false, true⟩,
          ⟨(some 37), .load true 5 (.tmp 3), (some (34, false)), [], false, false⟩,
          ⟨(some 38), .call 21 [(.tmp 36), (.tmp 37)], (some (34, false)), [], false, false⟩,
          ⟨(some 39), .move (.tmp 7), (some (34, false)), [], false, false⟩,
          ⟨(some 40), .bin .neq (.tmp 38) (.tmp 39), (some (34, false)), [], false, false⟩,
          ⟨(some 41), .pick (.tmp 34) (.const (.bool true)) (.tmp 40), none, [], false, false⟩])
       (.cond (.tmp 41) (.seq (.region false [⟨(some 4), .move (.const (.bool false)), none, [], false, false⟩])
         (.ret))
        (.skip)))
      (.seq (.seq (.region false [⟨(some 42), .move (.tmp 7), none, [], false, false⟩,
           ⟨(some 43), .bin .neq (.tmp 42) (.const (.int .i64 0)), none, [], false, false⟩])
        (.cond (.tmp 43) (.seq (.region false [⟨(some 44), .move (.tmp 6), none, [], false, false⟩,
             ⟨(some 45), .move (.tmp 7), none, [], false, false⟩,
             ⟨(some 46), .bin .eql (.tmp 44) (.tmp 45), none, [], false, false⟩,
             ⟨(some 47), .move (.tmp 46), none, [], false, false⟩,
             ⟨(some 48), .move (.tmp 5), (some (47, true)), [], false, false⟩,
             ⟨(some 49), .bin .eql (.tmp 48) (.const (.int .i64 0)), (some (47, true)), [], false, false⟩,
             ⟨(some 50), .pick (.tmp 47) (.tmp 49) (.const (.bool false)), none, [], false, false⟩,
             ⟨(some 4), .move (.tmp 50), none, [], false, false⟩])
          (.ret))
         (.skip)))
       (.seq (.region false [⟨(some 51), .move (.tmp 6), none, [], false, false⟩,
           ⟨(some 52), .bin .eql (.tmp 51) (.const (.int .i64 0)), none, [], false, false⟩,
           ⟨(some 53), .move (.tmp 52), none, [], false, false⟩,
           ⟨(some 54), .move (.tmp 5), (some (53, true)), [], false, false⟩,
           ⟨(some 55), .move (.tmp 0), (some (53, true)), [], false, false⟩,
           ⟨(some 56), .load true 5 (.tmp 3), (some (53, true)), [], false, false⟩,
           ⟨(some 57), .call 22 [(.tmp 55), (.tmp 56)], (some (53, true)), [], false, false⟩,
           ⟨(some 58), .bin .eql (.tmp 54) (.tmp 57), (some (53, true)), [], false, false⟩,
           ⟨(some 59), .pick (.tmp 53) (.tmp 58) (.const (.bool false)), none, [], false, false⟩,
           ⟨(some 4), .move (.tmp 59), none, [], false, false⟩])
        (.ret)))))))),
 [.tmp 4], .pure, 60⟩

/-- agraffe/agraffelaw02.ScaleTensions -/
def ef5 : EFun := ⟨
 .seq (.region false [⟨(some 4), .box (.tmp 1), none, [], false, false⟩,
    ⟨(some 5), .box (.tmp 2), none, [], false, false⟩,
    ⟨(some 6), .move (.const (.bool false)), none, [], false, false⟩])
 (.seq (.seq (.region false [⟨(some 12), .call 9 [], none, [], false, false⟩,
      ⟨(some 13), .un .not (.tmp 12), none, [], false, false⟩])
   (.cond (.tmp 13) (.seq (.region false [⟨(some 6), .move (.const (.bool false)), none, [], false, false⟩])
     (.ret))
    (.skip)))
  (.seq (.seq (.region false [⟨(some 14), .move (.tmp 0), none, [], false, false⟩,
       ⟨(some 15), .call 11 [(.tmp 14)], none, [], false, false⟩,
       ⟨(some 16), .un .not (.tmp 15), none, [], false, false⟩,
       ⟨(some 17), .move (.tmp 16), none, [], false, false⟩,
       ⟨(some 18), .load true 5 (.tmp 4), (some (17, false)), [], false, false⟩,
       ⟨(some 19), .call 12 [(.tmp 18)], (some (17, false)), [], false, false⟩,
       ⟨(some 20), .un .not (.tmp 19), (some (17, false)), [], false, false⟩,
       ⟨(some 21), .pick (.tmp 17) (.const (.bool true)) (.tmp 20), none, [], false, false⟩])
    (.cond (.tmp 21) (.seq (.region false [⟨(some 6), .move (.const (.bool true)), none, [], false, false⟩])
      (.ret))
     (.skip)))
   (.seq (.region true [⟨(some 23), .move (.tmp 0), none, [], false, false⟩,
       ⟨(some 24), .call 18 [(.tmp 23)], none, [], false, true⟩,
       ⟨(some 25), .load true 5 (.tmp 4), none, [], false, false⟩,
       ⟨(some 26), .load true 2 (.tmp 5), none, [], false, false⟩,
       ⟨(some 27), .call 15 [(.tmp 24), (.tmp 25), (.tmp 26)], none, [], false, true⟩,
       ⟨(some 22), .move (.tmp 27), none, [], false, false⟩,
       ⟨(some 28), .extract (.tmp 22) 0, none, [], false, false⟩,
       ⟨(some 29), .extract (.tmp 22) 1, none, [], false, false⟩,
       ⟨(some 7), .push [(.int .i64 0), (.int .i64 0)], none, [], false, false⟩,
       ⟨none, .store 2 (.tmp 7) (.tmp 28), none, [], false, false⟩,
       ⟨(some 8), .move (.tmp 29), none, [], false, false⟩])
    (.seq (.region true [⟨(some 31), .move (.tmp 0), none, [], false, false⟩,
        ⟨(some 32), .call 18 [(.tmp 31)], none, [], false, true⟩,
        ⟨(some 33), .load true 5 (.tmp 4), none, [], false, false⟩,
        ⟨(some 34), .load true 2 (.tmp 5), none, [], false, false⟩,
        ⟨(some 35), .call 23 [(.tmp 32), (.tmp 33), (.tmp 34)], none, [], false, true⟩,
        ⟨(some 30), .move (.tmp 35), none, [], false, false⟩,
        ⟨(some 36), .extract (.tmp 30) 0, none, [], false, false⟩,
        ⟨(some 37), .extract (.tmp 30) 1, none, [], false, false⟩,
        ⟨(some 9), .push [(.int .i64 0), (.int .i64 0)], none, [], false, false⟩,
        ⟨none, .store 2 (.tmp 9) (.tmp 36), none, [], false, false⟩,
        ⟨(some 10), .move (.tmp 37), none, [], false, false⟩])
     (.seq (.region false [⟨(some 38), .move (.tmp 0), none, [], false, false⟩,
         ⟨(some 39), .load true 5 (.tmp 4), none, [], false, false⟩,
         ⟨(some 40), .call 14 [(.tmp 38), (.tmp 39)], none, [], false, false⟩,
         ⟨(some 11), .move (.tmp 40), none, [], false, false⟩])
      (.seq (.seq (.region false [⟨(some 41), .move (.tmp 11), none, [], false, false⟩,
           ⟨(some 42), .bin .eql (.tmp 41) (.const (.int .i64 0)), none, [], false, false⟩,
           ⟨(some 43), .move (.tmp 42), none, [], false, false⟩,
           ⟨(some 44), .load true 2 (.tmp 5), (some (43, true)), [], false, false⟩,
           ⟨(some 45), .call 24 [(.tmp 44)], (some (43, true)), [], false, false⟩,
           ⟨(some 46), .un .not (.tmp 45), (some (43, true)), [], false, false⟩,
           ⟨(some 47), .pick (.tmp 43) (.tmp 46) (.const (.bool false)), none, [], false, false⟩])
        (.cond (.tmp 47) (.region false [⟨(some 11), .move (.const (.int .i64 2)), none, [], false, false⟩])
         (.skip)))
       (.seq (.seq (.region false [⟨(some 48), .move (.tmp 11), none, [], false, false⟩,
            ⟨(some 49), .bin .neq (.tmp 48) (.const (.int .i64 0)), none, [], false, false⟩])
         (.cond (.tmp 49) (.seq (.region false [⟨(some 50), .move (.tmp 8), none, [], false, false⟩,
              ⟨(some 51), .move (.tmp 11), none, [], false, false⟩,
              ⟨(some 52), .bin .eql (.tmp 50) (.tmp 51), none, [], false, false⟩,
              ⟨(some 53), .move (.tmp 52), none, [], false, false⟩,
              ⟨(some 54), .move (.tmp 10), (some (53, true)), [], false, false⟩,
              ⟨(some 55), .move (.tmp 11), (some (53, true)), [], false, false⟩,
              ⟨(some 56), .bin .eql (.tmp 54) (.tmp 55), (some (53, true)), [], false, false⟩,
              ⟨(some 57), .pick (.tmp 53) (.tmp 56) (.const (.bool false)), none, [], false, false⟩,
              ⟨(some 58), .move (.tmp 57), none, [], false, false⟩,
              ⟨(some 59), .load true 2 (.tmp 7), (some (58, true)), [], false, false⟩,
              ⟨(some 60), .build [(.int .i64 0), (.int .i64 0)] [], (some (58, true)), [], false, false⟩,
              ⟨(some 61), .eqAgg false [(.int .i64), (.int .i64)] (.tmp 59) (.tmp 60), (some (58, true)), [], false, false⟩,
              ⟨(some 62), .pick (.tmp 58) (.tmp 61) (.const (.bool false)), none, [], false, false⟩,
              ⟨(some 63), .move (.tmp 62), none, [], false, false⟩,
              ⟨(some 64), .load true 2 (.tmp 9), (some (63, true)), [], false, false⟩,
              ⟨(some 65), .build [(.int .i64 0), (.int .i64 0)] [], (some (63, true)), [], false, false⟩,
              ⟨(some 66), .eqAgg false [(.int .i64), (.int .i64)] (.tmp 64) (.tmp 65), (some (63, true)), [], false, false⟩,
              ⟨(some 67), .pick (.tmp 63) (.tmp 66) (.const (.bool false)), none, [], false, false⟩,
              ⟨(some 6), .move (.tmp 67), none, [], false, false⟩])
           (.ret))
          (.skip)))
        (.seq (.region true [⟨(some 68), .move (.tmp 8), none, [], false, false⟩,
            ⟨(some 69), .bin .eql (.tmp 68) (.const (.int .i64 0)), none, [], false, false⟩,
            ⟨(some 70), .move (.tmp 69), none, [], false, false⟩,
            ⟨(some 71), .move (.tmp 10), (some (70, true)), [], false, false⟩,
            ⟨(some 72), .bin .eql (.tmp 71) (.const (.int .i64 0)), (some (70, true)), [], false, false⟩,
            ⟨(some 73), .pick (.tmp 70) (.tmp 72) (.const (.bool false)), none, [], false, false⟩,
            ⟨(some 74), .move (.tmp 73), none, [], false, false⟩,
            ⟨(some 75), .load true 2 (.tmp 7), (some (74, true)), [], false, false⟩,
            ⟨(some 76), .move (.tmp 0), (some (74, true)), [], false, false⟩,
            ⟨(some 77), .load true 5 (.tmp 4), (some (74, true)), [], false, false⟩,
            ⟨(some 78), .load true 2 (.tmp 5), (some (74, true)), [], false, false⟩,
            ⟨(some 79), .call 25 [(.tmp 76), (.tmp 77), (.tmp 78)], (some (74, true)), [], false, true⟩,
            ⟨(some 80), .eqAgg false [(.int .i64), (.int .i64)] (.tmp 75) (.tmp 79), (some (74, true)), [], false, false⟩,
            ⟨(some 81), .pick (.tmp 74) (.tmp 80) (.const (.bool false)), none, [], false, false⟩,
            ⟨(some 82), .move (.tmp 81), none, [], false, false⟩,
            ⟨(some 83), .load true 2 (.tmp 9), (some (82, true)), [], false, false⟩,
            ⟨(some 84), .move (.tmp 0), (some (82, true)), [], false, false⟩,
            ⟨(some 85), .load true 5 (.tmp 4), (some (82, true)), [], false, false⟩,
            ⟨(some 86), .load true 2 (.tmp 5), (some (82, true)), [], false, false⟩,
            ⟨(some 87), .call 26 [(.tmp 84), (.tmp 85), (.tmp 86)], (some (82, true)), [], false, true⟩,
            ⟨(some 88), .eqAgg false [(.int .i64), (.int .i64)] (.tmp 83) (.tmp 87), (some (82, true)), [], false, false⟩,
            ⟨(some 89), .pick (.tmp 82) (.tmp 88) (.const (.bool false)), none, [], false, false⟩,
            ⟨(some 6), .move (.tmp 89), none, [], false, false⟩])
         (.ret))))))))),
 [.tmp 6], .pure, 90⟩

/-- agraffe/agraffelaw02.ScaleSounds -/
def ef6 : EFun := ⟨
 .seq (.region false [⟨(some 4), .box (.tmp 1), none, [], false, false⟩,
    ⟨(some 5), .box (.tmp 2), none, [], false, false⟩,
    ⟨(some 6), .move (.const (.bool false)), none, [], false, false⟩])
 (.seq (.seq (.region false [⟨(some 16), .call 9 [], none, [], false, false⟩,
      ⟨(some 17), .un .not (.tmp 16), none, [], false, false⟩])
   (.cond (.tmp 17) (.seq (.region false [⟨(some 6), .move (.const (.bool false)), none, [], false, false⟩])
     (.ret))
    (.skip)))
  (.seq (.seq (.region false [⟨(some 18), .move (.tmp 0), none, [], false, false⟩,
       ⟨(some 19), .call 11 [(.tmp 18)], none, [], false, false⟩,
       ⟨(some 20), .un .not (.tmp 19), none, [], false, false⟩,
       ⟨(some 21), .move (.tmp 20), none, [], false, false⟩,
       ⟨(some 22), .load true 5 (.tmp 4), (some (21, false)), [], false, false⟩,
       ⟨(some 23), .call 12 [(.tmp 22)], (some (21, false)), [], false, false⟩,
       ⟨(some 24), .un .not (.tmp 23), (some (21, false)), [], false, false⟩,
       ⟨(some 25), .pick (.tmp 21) (.const (.bool true)) (.tmp 24), none, [], false, false⟩])
    (.cond (.tmp 25) (.seq (.region false [⟨(some 6), .move (.const (.bool true)), none, [], false, false⟩])
      (.ret))
     (.skip)))
   (.seq (.region true [⟨(some 27), .move (.tmp 0), none, [], false, false⟩,
       ⟨(some 28), .call 18 [(.tmp 27)], none, [], false, true⟩,
       ⟨(some 29), .load true 5 (.tmp 4), none, [], false, false⟩,
       ⟨(some 30), .load true 2 (.tmp 5), none, [], false, false⟩,
       ⟨(some 31), .call 27 [(.tmp 28), (.tmp 29), (.tmp 30)], none, [], false, true⟩,
       ⟨(some 26), .move (.tmp 31), none, [], false, false⟩,
       ⟨(some 32), .extract (.tmp 26) 0, none, [], false, false⟩,
       ⟨(some 33), .extract (.tmp 26) 1, none, [], false, false⟩,
       ⟨(some 7), .push [(.int .i64 0), (.int .i64 0)], none, [], false, false⟩,
       ⟨none, .store 2 (.tmp 7) (.tmp 32), none, [], false, false⟩,
       ⟨(some 8), .move (.tmp 33), none, [], false, false⟩])
    (.seq (.region true [⟨(some 35), .move (.tmp 0), none, [], false, false⟩,
        ⟨(some 36), .call 18 [(.tmp 35)], none, [], false, true⟩,
        ⟨(some 37), .load true 5 (.tmp 4), none, [], false, false⟩,
        ⟨(some 38), .load true 2 (.tmp 5), none, [], false, false⟩,
        ⟨(some 39), .call 28 [(.tmp 36), (.tmp 37), (.tmp 38)], none, [], false, true⟩,
        ⟨(some 34), .move (.tmp 39), none, [], false, false⟩,
        ⟨(some 40), .extract (.tmp 34) 0, none, [], false, false⟩,
        ⟨(some 41), .extract (.tmp 34) 1, none, [], false, false⟩,
        ⟨(some 9), .push [(.int .i64 0), (.int .i64 0)], none, [], false, false⟩,
        ⟨none, .store 2 (.tmp 9) (.tmp 40), none, [], false, false⟩,
        ⟨(some 10), .move (.tmp 41), none, [], false, false⟩])
     (.seq (.region false [⟨(some 42), .move (.tmp 0), none, [], false, false⟩,
         ⟨(some 43), .load true 5 (.tmp 4), none, [], false, false⟩,
         ⟨(some 44), .call 14 [(.tmp 42), (.tmp 43)], none, [], false, false⟩,
         ⟨(some 11), .move (.tmp 44), none, [], false, false⟩])
      (.seq (.seq (.region false [⟨(some 45), .move (.tmp 11), none, [], false, false⟩,
           ⟨(some 46), .bin .eql (.tmp 45) (.const (.int .i64 0)), none, [], false, false⟩,
           ⟨(some 47), .move (.tmp 46), none, [], false, false⟩,
           ⟨(some 48), .load true 2 (.tmp 5), (some (47, true)), [], false, false⟩,
           ⟨(some 49), .call 24 [(.tmp 48)], (some (47, true)), [], false, false⟩,
           ⟨(some 50), .un .not (.tmp 49), (some (47, true)), [], false, false⟩,
           ⟨(some 51), .pick (.tmp 47) (.tmp 50) (.const (.bool false)), none, [], false, false⟩])
        (.cond (.tmp 51) (.region false [⟨(some 11), .move (.const (.int .i64 2)), none, [], false, false⟩])
         (.skip)))
       (.seq (.seq (.region false [⟨(some 52), .move (.tmp 11), none, [], false, false⟩,
            ⟨(some 53), .bin .neq (.tmp 52) (.const (.int .i64 0)), none, [], false, false⟩])
         (.cond (.tmp 53) (.seq (.region false [⟨(some 54), .move (.tmp 8), none, [], false, false⟩,
              ⟨(some 55), .move (.tmp 11), none, [], false, false⟩,
              ⟨(some 56), .bin .eql (.tmp 54) (.tmp 55), none, [], false, false⟩,
              ⟨(some 57), .move (.tmp 56), none, [], false, false⟩,
              ⟨(some 58), .move (.tmp 10), (some (57, true)), [], false, false⟩,
              ⟨(some 59), .move (.tmp 11), (some (57, true)), [], false, false⟩,
              ⟨(some 60), .bin .eql (.tmp 58) (.tmp 59), (some (57, true)), [], false, false⟩,
              ⟨(some 61), .pick (.tmp 57) (.tmp 60) (.const (.bool false)), none, [], false, false⟩,
              ⟨(some 62), .move (.tmp 61), none, [], false, false⟩,
              ⟨(some 63), .load true 2 (.tmp 7), (some (62, true)), [], false, false⟩,
              ⟨(some 64), .build [(.int .i64 0), (.int .i64 0)] [], (some (62, true)), [], false, false⟩,
              ⟨(some 65), .eqAgg false [(.int .i64), (.int .i64)] (.tmp 63) (.tmp 64), (some (62, true)), [], false, false⟩,
              ⟨(some 66), .pick (.tmp 62) (.tmp 65) (.const (.bool false)), none, [], false, false⟩,
              ⟨(some 67), .move (.tmp 66), none, [], false, false⟩,
              ⟨(some 68), .load true 2 (.tmp 9), (some (67, true)), [], false, false⟩,
              ⟨(some 69), .build [(.int .i64 0), (.int .i64 0)] [], (some (67, true)), [], false, false⟩,
              ⟨(some 70), .eqAgg false [(.int .i64), (.int .i64)] (.tmp 68) (.tmp 69), (some (67, true)), [], false, false⟩,
              ⟨(some 71), .pick (.tmp 67) (.tmp 70) (.const (.bool false)), none, [], false, false⟩,
              ⟨(some 6), .move (.tmp 71), none, [], false, false⟩])
           (.ret))
          (.skip)))
        (.seq (.region false [⟨(some 73), .move (.tmp 0), none, [], false, false⟩,
            ⟨(some 74), .load true 5 (.tmp 4), none, [], false, false⟩,
            ⟨(some 75), .load true 2 (.tmp 5), none, [], false, false⟩,
            ⟨(some 76), .call 29 [(.tmp 73), (.tmp 74), (.tmp 75)], none, [], false, false⟩,
            ⟨(some 72), .move (.tmp 76), none, [], false, false⟩,
            ⟨(some 77), .extract (.tmp 72) 0, none, [], false, false⟩,
            ⟨(some 78), .extract (.tmp 72) 1, none, [], false, false⟩,
            ⟨(some 12), .push [(.int .i64 0), (.int .i64 0)], none, [], false, false⟩,
            ⟨none, .store 2 (.tmp 12) (.tmp 77), none, [], false, false⟩,
            ⟨(some 13), .move (.tmp 78), none, [], false, false⟩])
         (.seq (.region false [⟨(some 80), .move (.tmp 0), none, [], false, false⟩,
             ⟨(some 81), .load true 5 (.tmp 4), none, [], false, false⟩,
             ⟨(some 82), .load true 2 (.tmp 5), none, [], false, false⟩,
             ⟨(some 83), .call 30 [(.tmp 80), (.tmp 81), (.tmp 82)], none, [], false, false⟩,
             ⟨(some 79), .move (.tmp 83), none, [], false, false⟩,
             ⟨(some 84), .extract (.tmp 79) 0, none, [], false, false⟩,
             ⟨(some 85), .extract (.tmp 79) 1, none, [], false, false⟩,
             ⟨(some 14), .push [(.int .i64 0), (.int .i64 0)], none, [], false, false⟩,
             ⟨none, .store 2 (.tmp 14) (.tmp 84), none, [], false, false⟩,
             ⟨(some 15), .move (.tmp 85), none, [], false, false⟩])
          (.seq (.region false [⟨(some 86), .move (.tmp 8), none, [], false, false⟩,
              ⟨(some 87), .move (.tmp 13), none, [], false, false⟩,
              ⟨(some 88), .bin .eql (.tmp 86) (.tmp 87), none, [], false, false⟩,
              ⟨(some 89), .move (.tmp 88), none, [], false, false⟩,
              ⟨(some 90), .load true 2 (.tmp 7), (some (89, true)), [], false, false⟩,
              ⟨(some 91), .load true 2 (.tmp 12), (some (89, true)), [], false, false⟩,
              ⟨(some 92), .eqAgg false [(.int .i64), (.int .i64)] (.tmp 90) (.tmp 91), (some (89, true)), [], false, false⟩,
              ⟨(some 93), .pick (.tmp 89) (.tmp 92) (.const (.bool false)), none, [], false, false⟩,
              ⟨(some 94), .move (.tmp 93), none, [], false, false⟩,
              ⟨(some 95), .move (.tmp 10), (some (94, true)), [], false, false⟩,
              ⟨(some 96), .move (.tmp 15), (some (94, true)), [], false, false⟩,
              ⟨(some 97), .bin .eql (.tmp 95) (.tmp 96), (some (94, true)), [], false, false⟩,
              ⟨(some 98), .pick (.tmp 94) (.tmp 97) (.const (.bool false)), none, [], false, false⟩,
              ⟨(some 99), .move (.tmp 98), none, [], false, false⟩,
              ⟨(some 100), .load true 2 (.tmp 9), (some (99, true)), [], false, false⟩,
              ⟨(some 101), .load true 2 (.tmp 14), (some (99, true)), [], false, false⟩,
              ⟨(some 102), .eqAgg false [(.int .i64), (.int .i64)] (.tmp 100) (.tmp 101), (some (99, true)), [], false, false⟩,
              ⟨(some 103), .pick (.tmp 99) (.tmp 102) (.const (.bool false)), none, [], false, false⟩,
              ⟨(some 6), .move (.tmp 103), none, [], false, false⟩])
           (.ret))))))))))),
 [.tmp 6], .pure, 104⟩

/-- agraffe/agraffelaw02.ScaleLengths -/
def ef7 : EFun := ⟨
 .seq (.region false [⟨(some 3), .box (.tmp 1), none, [], false, false⟩,
    ⟨(some 4), .move (.const (.bool false)), none, [], false, false⟩])
 (.seq (.seq (.region false [⟨(some 15), .call 9 [], none, [], false, false⟩,
      ⟨(some 16), .un .not (.tmp 15), none, [], false, false⟩])
   (.cond (.tmp 16) (.seq (.region false [⟨(some 4), .move (.const (.bool false)), none, [], false, false⟩])
     (.ret))
    (.skip)))
  (.seq (.seq (.region false [⟨(some 17), .move (.tmp 0), none, [], false, false⟩,
       ⟨(some 18), .len false (.tmp 17), none, [], false, false⟩,
       ⟨(some 19), .bin .gtr (.tmp 18) (.const (.int .i64 12)), none, [], false, false⟩,
       ⟨(some 20), .move (.tmp 19), none, [], false, false⟩,
       ⟨(some 21), .move (.tmp 0), (some (20, true)), [], false, false⟩,
       ⟨(some 22), .len false (.tmp 21), (some (20, true)), [], false, false⟩,
       ⟨(some 23), .bin .leq (.tmp 22) (.const (.int .i64 50)), (some (20, true)), [], false, false⟩,
       ⟨(some 24), .pick (.tmp 20) (.tmp 23) (.const (.bool false)), none, [], false, false⟩,
       ⟨(some 25), .move (.tmp 24), none, [], false, false⟩,
       ⟨(some 26), .move (.tmp 0), (some (25, false)), [], false, false⟩,
       ⟨(some 27), .len false (.tmp 26), (some (25, false)), [], false, false⟩,
       ⟨(some 28), .bin .gtr (.tmp 27) (.const (.int .i64 55)), (some (25, false)), [], false, false⟩,
       ⟨(some 29), .pick (.tmp 25) (.const (.bool true)) (.tmp 28), none, [], false, false⟩])
    (.cond (.tmp 29) (.seq (.region false [⟨(some 4), .move (.const (.bool true)), none, [], false, false⟩])
      (.ret))
     (.skip)))
   (.seq (.region true [⟨(some 31), .buildSlice 2 0 [] [], none, [], false, false⟩,
       ⟨(some 32), .move (.tmp 0), none, [], false, false⟩,
       ⟨(some 33), .append 2 16 (.tmp 31) (.tmp 32), none, [], true, false⟩,
       ⟨(some 34), .load true 2 (.tmp 3), none, [2], false, false⟩,
       ⟨(some 35), .call 31 [(.tmp 33), (.tmp 34)], none, [], false, false⟩,
       ⟨(some 30), .move (.tmp 35), none, [], false, false⟩,
       ⟨(some 36), .extract (.tmp 30) 0, none, [], false, false⟩,
       ⟨(some 37), .extract (.tmp 30) 1, none, [], false, false⟩,
       ⟨(some 5), .move (.tmp 36), none, [], false, false⟩,
       ⟨(some 6), .move (.tmp 37), none, [], false, false⟩])
    (.seq (.region true [⟨(some 39), .buildSlice 2 0 [] [], none, [], false, false⟩,
        ⟨(some 40), .move (.tmp 0), none, [], false, false⟩,
        ⟨(some 41), .append 2 16 (.tmp 39) (.tmp 40), none, [], true, false⟩,
        ⟨(some 42), .load true 2 (.tmp 3), none, [2], false, false⟩,
        ⟨(some 43), .call 32 [(.tmp 41), (.tmp 42)], none, [], false, false⟩,
        ⟨(some 38), .move (.tmp 43), none, [], false, false⟩,
        ⟨(some 44), .extract (.tmp 38) 0, none, [], false, false⟩,
        ⟨(some 45), .extract (.tmp 38) 1, none, [], false, false⟩,
        ⟨(some 46), .extract (.tmp 38) 2, none, [], false, false⟩,
        ⟨(some 7), .move (.tmp 44), none, [], false, false⟩,
        ⟨(some 8), .move (.tmp 45), none, [], false, false⟩,
        ⟨(some 9), .move (.tmp 46), none, [], false, false⟩])
     (.seq (.seq (.region false [⟨(some 47), .move (.tmp 0), none, [], false, false⟩,
          ⟨(some 48), .load true 2 (.tmp 3), none, [], false, false⟩,
          ⟨(some 49), .call 33 [(.tmp 47), (.tmp 48)], none, [], false, false⟩,
          ⟨(some 10), .move (.tmp 49), none, [], false, false⟩])
       (.seq (.region false [⟨(some 50), .move (.tmp 10), none, [], false, false⟩,
           ⟨(some 51), .bin .neq (.tmp 50) (.const (.int .i64 0)), none, [], false, false⟩])
        (.cond (.tmp 51) (.seq (.region false [⟨(some 52), .move (.tmp 6), none, [], false, false⟩,
             ⟨(some 53), .move (.tmp 10), none, [], false, false⟩,
             ⟨(some 54), .bin .eql (.tmp 52) (.tmp 53), none, [], false, false⟩,
             ⟨(some 55), .move (.tmp 54), none, [], false, false⟩,
             ⟨(some 56), .move (.tmp 9), (some (55, true)), [], false, false⟩,
             ⟨(some 57), .move (.tmp 10), (some (55, true)), [], false, false⟩,
             ⟨(some 58), .bin .eql (.tmp 56) (.tmp 57), (some (55, true)), [], false, false⟩,
             ⟨(some 59), .pick (.tmp 55) (.tmp 58) (.const (.bool false)), none, [], false, false⟩,
             ⟨(some 60), .move (.tmp 59), none, [], false, false⟩,
             ⟨(some 61), .move (.tmp 5), (some (60, true)), [], false, false⟩,
             ⟨(some 62), .len false (.tmp 61), (some (60, true)), [], false, false⟩,
             ⟨(some 63), .move (.tmp 7), (some (60, true)), [], false, false⟩,
             ⟨(some 64), .len false (.tmp 63), (some (60, true)), [], false, false⟩,
             ⟨(some 65), .bin .add (.tmp 62) (.tmp 64), (some (60, true)), [], false, false⟩,
             ⟨(some 66), .move (.tmp 8), (some (60, true)), [], false, false⟩,
             ⟨(some 67), .len false (.tmp 66), (some (60, true)), [], false, false⟩,
             ⟨(some 68), .bin .add (.tmp 65) (.tmp 67), (some (60, true)), [], false, false⟩,
             ⟨(some 69), .bin .eql (.tmp 68) (.const (.int .i64 0)), (some (60, true)), [], false, false⟩,
             ⟨(some 70), .pick (.tmp 60) (.tmp 69) (.const (.bool false)), none, [], false, false⟩,
             ⟨(some 4), .move (.tmp 70), none, [], false, false⟩])
          (.ret))
         (.skip))))
      (.seq (.seq (.region false [⟨(some 71), .move (.tmp 6), none, [], false, false⟩,
           ⟨(some 72), .bin .neq (.tmp 71) (.const (.int .i64 0)), none, [], false, false⟩,
           ⟨(some 73), .move (.tmp 72), none, [], false, false⟩,
           ⟨(some 74), .move (.tmp 5), (some (73, false)), [], false, false⟩,
           ⟨(some 75), .move (.tmp 0), (some (73, false)), [], false, false⟩,
           ⟨(some 76), .load true 2 (.tmp 3), (some (73, false)), [], false, false⟩,
           ⟨(some 77), .call 35 [(.tmp 75), (.tmp 76)], (some (73, false)), [], false, false⟩,
           ⟨(some 78), .call 34 [(.tmp 74), (.tmp 77)], (some (73, false)), [], false, false⟩,
           ⟨(some 79), .un .not (.tmp 78), (some (73, false)), [], false, false⟩,
           ⟨(some 80), .pick (.tmp 73) (.const (.bool true)) (.tmp 79), none, [], false, false⟩])
        (.cond (.tmp 80) (.seq (.region false [⟨(some 4), .move (.const (.bool false)), none, [], false, false⟩])
          (.ret))
         (.skip)))
       (.seq (.region false [⟨(some 82), .move (.tmp 0), none, [], false, false⟩,
           ⟨(some 83), .load true 2 (.tmp 3), none, [], false, false⟩,
           ⟨(some 84), .call 36 [(.tmp 82), (.tmp 83)], none, [], false, false⟩,
           ⟨(some 81), .move (.tmp 84), none, [], false, false⟩,
           ⟨(some 85), .extract (.tmp 81) 0, none, [], false, false⟩,
           ⟨(some 86), .extract (.tmp 81) 1, none, [], false, false⟩,
           ⟨(some 11), .move (.tmp 85), none, [], false, false⟩,
           ⟨(some 12), .move (.tmp 86), none, [], false, false⟩])
        (.seq (.seq (.region false [⟨(some 87), .move (.tmp 12), none, [], false, false⟩])
          (.cond (.tmp 87) (.seq (.region false [⟨(some 88), .move (.tmp 9), none, [], false, false⟩,
               ⟨(some 89), .bin .eql (.tmp 88) (.const (.int .i64 0)), none, [], false, false⟩,
               ⟨(some 90), .move (.tmp 89), none, [], false, false⟩,
               ⟨(some 91), .move (.tmp 7), (some (90, true)), [], false, false⟩,
               ⟨(some 92), .move (.tmp 11), (some (90, true)), [], false, false⟩,
               ⟨(some 93), .call 37 [(.tmp 91), (.tmp 92)], (some (90, true)), [], false, false⟩,
               ⟨(some 94), .pick (.tmp 90) (.tmp 93) (.const (.bool false)), none, [], false, false⟩,
               ⟨(some 95), .move (.tmp 94), none, [], false, false⟩,
               ⟨(some 96), .move (.tmp 8), (some (95, true)), [], false, false⟩,
               ⟨(some 97), .len false (.tmp 96), (some (95, true)), [], false, false⟩,
               ⟨(some 98), .bin .eql (.tmp 97) (.const (.int .i64 0)), (some (95, true)), [], false, false⟩,
               ⟨(some 99), .pick (.tmp 95) (.tmp 98) (.const (.bool false)), none, [], false, false⟩,
               ⟨(some 4), .move (.tmp 99), none, [], false, false⟩])
            (.ret))
           (.skip)))
         (.seq (.region false [⟨(some 101), .move (.tmp 0), none, [], false, false⟩,
             ⟨(some 102), .len false (.tmp 101), none, [], false, false⟩,
             ⟨(some 103), .bin .add (.tmp 102) (.const (.int .i64 1)), none, [], false, false⟩,
             ⟨(some 104), .move (.tmp 5), none, [], false, false⟩,
             ⟨(some 105), .move (.tmp 8), none, [], false, false⟩,
             ⟨(some 106), .call 39 [(.tmp 105)], none, [], false, false⟩,
             ⟨(some 107), .call 38 [(.tmp 103), (.tmp 104), (.tmp 106)], none, [], false, false⟩,
             ⟨(some 100), .move (.tmp 107), none, [], false, false⟩,
             ⟨(some 108), .extract (.tmp 100) 0, none, [], false, false⟩,
             ⟨(some 109), .extract (.tmp 100) 1, none, [], false, false⟩,
             ⟨(some 13), .move (.tmp 108), none, [], false, false⟩,
             ⟨(some 14), .move (.tmp 109), none, [], false, false⟩])
          (.seq (.region false [⟨(some 110), .move (.tmp 9), none, [], false, false⟩,
              ⟨(some 111), .bin .eql (.tmp 110) (.const (.int .i64 21)), none, [], false, false⟩,
              ⟨(some 112), .move (.tmp 111), none, [], false, false⟩,
              ⟨(some 113), .move (.tmp 7), (some (112, true)), [], false, false⟩,
              ⟨(some 114), .len false (.tmp 113), (some (112, true)), [], false, false⟩,
              ⟨(some 115), .bin .eql (.tmp 114) (.const (.int .i64 0)), (some (112, true)), [], false, false⟩,
              ⟨(some 116), .pick (.tmp 112) (.tmp 115) (.const (.bool false)), none, [], false, false⟩,
              ⟨(some 117), .move (.tmp 116), none, [], false, false⟩,
              ⟨(some 118), .move (.tmp 14), (some (117, true)), [], false, false⟩,
              ⟨(some 119), .bin .eql (.tmp 118) (.const (.int .i64 0)), (some (117, true)), [], false, false⟩,
              ⟨(some 120), .pick (.tmp 117) (.tmp 119) (.const (.bool false)), none, [], false, false⟩,
              ⟨(some 121), .move (.tmp 120), none, [], false, false⟩,
              ⟨(some 122), .move (.tmp 13), (some (121, true)), [], false, false⟩,
              ⟨(some 123), .bin .lss (.tmp 122) (.const (.int .i64 0)), (some (121, true)), [], false, false⟩,
              ⟨(some 124), .pick (.tmp 121) (.tmp 123) (.const (.bool false)), none, [], false, false⟩,
              ⟨(some 4), .move (.tmp 124), none, [], false, false⟩])
           (.ret))))))))))),
 [.tmp 4], .pure, 125⟩

/-- agraffe/agraffelaw02.ScaleClasses -/
def ef8 : EFun := ⟨
 .seq (.region false [⟨(some 3), .box (.tmp 1), none, [], false, false⟩,
    ⟨(some 4), .move (.const (.bool false)), none, [], false, false⟩])
 (.seq (.seq (.region false [⟨(some 9), .call 9 [], none, [], false, false⟩,
      ⟨(some 10), .un .not (.tmp 9), none, [], false, false⟩])
   (.cond (.tmp 10) (.seq (.region false [⟨(some 4), .move (.const (.bool false)), none, [], false, false⟩])
     (.ret))
    (.skip)))
  (.seq (.seq (.region false [⟨(some 11), .move (.tmp 0), none, [], false, false⟩,
       ⟨(some 12), .len false (.tmp 11), none, [], false, false⟩,
       ⟨(some 13), .bin .gtr (.tmp 12) (.const (.int .i64 25)), none, [], false, false⟩])
    (.cond (.tmp 13) (.seq (.region false [⟨(some 4), .move (.const (.bool true)), none, [], false, false⟩])
      (.ret))
     (.skip)))
   (.seq (.region true [⟨(some 15), .move (.tmp 0), none, [], false, false⟩,
       ⟨(some 16), .call 39 [(.tmp 15)], none, [], false, true⟩,
       ⟨(some 17), .load true 2 (.tmp 3), none, [], false, false⟩,
       ⟨(some 18), .call 40 [(.tmp 16), (.tmp 17)], none, [], false, false⟩,
       ⟨(some 14), .move (.tmp 18), none, [], false, false⟩,
       ⟨(some 19), .extract (.tmp 14) 0, none, [], false, false⟩,
       ⟨(some 20), .extract (.tmp 14) 1, none, [], false, false⟩,
       ⟨(some 5), .move (.tmp 19), none, [], false, false⟩,
       ⟨(some 6), .move (.tmp 20), none, [], false, false⟩])
    (.seq (.region false [⟨(some 22), .move (.tmp 0), none, [], false, false⟩,
        ⟨(some 23), .load true 2 (.tmp 3), none, [], false, false⟩,
        ⟨(some 24), .call 41 [(.tmp 22), (.tmp 23)], none, [], false, false⟩,
        ⟨(some 21), .move (.tmp 24), none, [], false, false⟩,
        ⟨(some 25), .extract (.tmp 21) 0, none, [], false, false⟩,
        ⟨(some 26), .extract (.tmp 21) 1, none, [], false, false⟩,
        ⟨(some 7), .move (.tmp 25), none, [], false, false⟩,
        ⟨(some 8), .move (.tmp 26), none, [], false, false⟩])
     (.seq (.region false [⟨(some 27), .move (.tmp 6), none, [], false, false⟩,
         ⟨(some 28), .move (.tmp 8), none, [], false, false⟩,
         ⟨(some 29), .bin .eql (.tmp 27) (.tmp 28), none, [], false, false⟩,
         ⟨(some 30), .move (.tmp 29), none, [], false, false⟩,
         ⟨(some 31), .move (.tmp 5), (some (30, true)), [], false, false⟩,
         ⟨(some 32), .move (.tmp 7), (some (30, true)), [], false, false⟩,
         ⟨(some 33), .bin .eql (.tmp 31) (.tmp 32), (some (30, true)), [], false, false⟩,
         ⟨(some 34), .pick (.tmp 30) (.tmp 33) (.const (.bool false)), none, [], false, false⟩,
         ⟨(some 4), .move (.tmp 34), none, [], false, false⟩])
      (.ret)))))),
 [.tmp 4], .pure, 35⟩

/-- agraffe/agraffelaw02.awake -/
def ef9 : EFun := ⟨
 .seq (.region false [⟨(some 0), .move (.const (.bool false)), none, [], false, false⟩])
 (.seq (.region false [⟨(some 9), .build [(.int .i64 0), (.int .i64 0)] [(0, 1, (.const (.int .i64 440000))), (1, 1, (.const (.int .i64 440000)))], none, [], false, false⟩,
     ⟨(some 1), .push [(.int .i64 0), (.int .i64 0)], none, [], false, false⟩,
     ⟨none, .store 2 (.tmp 1) (.tmp 9), none, [], false, false⟩])
  (.seq (.region true [⟨(some 11), .call 42 [], none, [], false, true⟩,
      ⟨(some 12), .call 43 [], none, [], false, true⟩,
      ⟨(some 13), .load true 2 (.tmp 1), none, [], false, false⟩,
      ⟨(some 14), .call 15 [(.tmp 11), (.tmp 12), (.tmp 13)], none, [], false, true⟩,
      ⟨(some 10), .move (.tmp 14), none, [], false, false⟩,
      ⟨(some 15), .extract (.tmp 10) 0, none, [], false, false⟩,
      ⟨(some 16), .extract (.tmp 10) 1, none, [], false, false⟩,
      ⟨(some 2), .push [(.int .i64 0), (.int .i64 0)], none, [], false, false⟩,
      ⟨none, .store 2 (.tmp 2) (.tmp 15), none, [], false, false⟩,
      ⟨(some 3), .move (.tmp 16), none, [], false, false⟩])
   (.seq (.region true [⟨(some 18), .call 42 [], none, [], false, true⟩,
       ⟨(some 19), .call 43 [], none, [], false, true⟩,
       ⟨(some 20), .load true 2 (.tmp 1), none, [], false, false⟩,
       ⟨(some 21), .call 27 [(.tmp 18), (.tmp 19), (.tmp 20)], none, [], false, true⟩,
       ⟨(some 17), .move (.tmp 21), none, [], false, false⟩,
       ⟨(some 22), .extract (.tmp 17) 0, none, [], false, false⟩,
       ⟨(some 23), .extract (.tmp 17) 1, none, [], false, false⟩,
       ⟨(some 4), .push [(.int .i64 0), (.int .i64 0)], none, [], false, false⟩,
       ⟨none, .store 2 (.tmp 4) (.tmp 22), none, [], false, false⟩,
       ⟨(some 5), .move (.tmp 23), none, [], false, false⟩])
    (.seq (.region false [⟨(some 25), .build [(.int .i64 0), (.int .i64 0)] [(0, 1, (.const (.int .i64 1000))), (1, 1, (.const (.int .i64 2000)))], none, [], false, false⟩,
        ⟨(some 26), .build [(.int .i64 0), (.int .i64 0)] [(0, 1, (.const (.int .i64 1500))), (1, 1, (.const (.int .i64 1800)))], none, [], false, false⟩,
        ⟨(some 27), .buildSlice 2 2 [(.int .i64 0), (.int .i64 0), (.int .i64 0), (.int .i64 0)] [(0, 2, (.tmp 25)), (2, 2, (.tmp 26))], none, [], false, false⟩,
        ⟨(some 28), .build [(.int .i64 0), (.int .i64 0)] [(1, 1, (.const (.int .i64 100)))], none, [], false, false⟩,
        ⟨(some 29), .call 32 [(.tmp 27), (.tmp 28)], none, [], false, false⟩,
        ⟨(some 24), .move (.tmp 29), none, [], false, false⟩,
        ⟨(some 30), .extract (.tmp 24) 0, none, [], false, false⟩,
        ⟨(some 31), .extract (.tmp 24) 1, none, [], false, false⟩,
        ⟨(some 32), .extract (.tmp 24) 2, none, [], false, false⟩,
        ⟨(some 6), .move (.tmp 30), none, [], false, false⟩,
        ⟨(some 7), .move (.tmp 31), none, [], false, false⟩,
        ⟨(some 8), .move (.tmp 32), none, [], false, false⟩])
     (.seq (.region false [⟨(some 33), .move (.tmp 3), none, [], false, false⟩,
         ⟨(some 34), .bin .eql (.tmp 33) (.const (.int .i64 0)), none, [], false, false⟩,
         ⟨(some 35), .move (.tmp 34), none, [], false, false⟩,
         ⟨(some 36), .load true 2 (.tmp 2), (some (35, true)), [], false, false⟩,
         ⟨(some 37), .build [(.int .i64 0), (.int .i64 0)] [(0, 1, (.const (.int .i64 76389))), (1, 1, (.const (.int .i64 76390)))], (some (35, true)), [], false, false⟩,
         ⟨(some 38), .eqAgg false [(.int .i64), (.int .i64)] (.tmp 36) (.tmp 37), (some (35, true)), [], false, false⟩,
         ⟨(some 39), .pick (.tmp 35) (.tmp 38) (.const (.bool false)), none, [], false, false⟩,
         ⟨(some 40), .move (.tmp 39), none, [], false, false⟩,
         ⟨(some 41), .move (.tmp 5), (some (40, true)), [], false, false⟩,
         ⟨(some 42), .bin .eql (.tmp 41) (.const (.int .i64 0)), (some (40, true)), [], false, false⟩,
         ⟨(some 43), .pick (.tmp 40) (.tmp 42) (.const (.bool false)), none, [], false, false⟩,
         ⟨(some 44), .move (.tmp 43), none, [], false, false⟩,
         ⟨(some 45), .load true 2 (.tmp 4), (some (44, true)), [], false, false⟩,
         ⟨(some 46), .build [(.int .i64 0), (.int .i64 0)] [(0, 1, (.const (.int .i64 793624))), (1, 1, (.const (.int .i64 793636)))], (some (44, true)), [], false, false⟩,
         ⟨(some 47), .eqAgg false [(.int .i64), (.int .i64)] (.tmp 45) (.tmp 46), (some (44, true)), [], false, false⟩,
         ⟨(some 48), .pick (.tmp 44) (.tmp 47) (.const (.bool false)), none, [], false, false⟩,
         ⟨(some 49), .move (.tmp 48), none, [], false, false⟩,
         ⟨(some 50), .move (.tmp 8), (some (49, true)), [], false, false⟩,
         ⟨(some 51), .bin .eql (.tmp 50) (.const (.int .i64 0)), (some (49, true)), [], false, false⟩,
         ⟨(some 52), .pick (.tmp 49) (.tmp 51) (.const (.bool false)), none, [], false, false⟩,
         ⟨(some 53), .move (.tmp 52), none, [], false, false⟩,
         ⟨(some 54), .move (.tmp 6), (some (53, true)), [], false, false⟩,
         ⟨(some 55), .buildSlice 1 2 [(.int .i64 0), (.int .i64 0)] [(0, 1, (.const (.int .i64 1900))), (1, 1, (.const (.int .i64 1800)))], (some (53, true)), [], false, false⟩,
         ⟨(some 56), .call 37 [(.tmp 54), (.tmp 55)], (some (53, true)), [], false, false⟩,
         ⟨(some 57), .pick (.tmp 53) (.tmp 56) (.const (.bool false)), none, [], false, false⟩,
         ⟨(some 0), .move (.tmp 57), none, [], false, false⟩])
      (.ret)))))),
 [.tmp 0], .pure, 58⟩

/-- agraffe/agraffebase.Mod -/
def ef10 : EFun := ⟨
 .seq (.region false [⟨(some 4), .move (.const (.int .i64 0)), none, [], false, false⟩])
 (.seq (.region false [⟨(some 6), .move (.tmp 0), none, [], false, false⟩,
     ⟨(some 7), .move (.tmp 1), none, [], false, false⟩,
     ⟨(some 8), .bin .rem (.tmp 6) (.tmp 7), none, [], false, false⟩,
     ⟨(some 5), .move (.tmp 8), none, [], false, false⟩])
  (.seq (.seq (.region false [⟨(some 9), .move (.tmp 5), none, [], false, false⟩,
       ⟨(some 10), .bin .lss (.tmp 9) (.const (.int .i64 0)), none, [], false, false⟩])
    (.cond (.tmp 10) (.region false [⟨(some 11), .move (.tmp 5), none, [], false, false⟩,
        ⟨(some 12), .move (.tmp 1), none, [], false, false⟩,
        ⟨(some 13), .bin .add (.tmp 11) (.tmp 12), none, [], false, false⟩,
        ⟨(some 5), .move (.tmp 13), none, [], false, false⟩])
     (.skip)))
   (.seq (.region false [⟨(some 14), .move (.tmp 5), none, [], false, false⟩,
       ⟨(some 4), .move (.tmp 14), none, [], false, false⟩])
    (.ret)))),
 [.tmp 4], .pure, 15⟩

/-- agraffe/agraffelaw02.short -/
def ef11 : EFun := ⟨
 .seq (.region false [⟨(some 2), .move (.const (.bool false)), none, [], false, false⟩])
 (.seq (.seq (.region false [⟨(some 4), .move (.tmp 0), none, [], false, false⟩,
      ⟨(some 5), .len false (.tmp 4), none, [], false, false⟩,
      ⟨(some 6), .bin .gtr (.tmp 5) (.const (.int .i64 6)), none, [], false, false⟩,
      ⟨(some 7), .move (.tmp 6), none, [], false, false⟩,
      ⟨(some 8), .move (.tmp 0), (some (7, true)), [], false, false⟩,
      ⟨(some 9), .len false (.tmp 8), (some (7, true)), [], false, false⟩,
      ⟨(some 10), .bin .leq (.tmp 9) (.const (.int .i64 20)), (some (7, true)), [], false, false⟩,
      ⟨(some 11), .pick (.tmp 7) (.tmp 10) (.const (.bool false)), none, [], false, false⟩,
      ⟨(some 12), .move (.tmp 11), none, [], false, false⟩,
      ⟨(some 13), .move (.tmp 0), (some (12, false)), [], false, false⟩,
      ⟨(some 14), .len false (.tmp 13), (some (12, false)), [], false, false⟩,
      ⟨(some 15), .bin .gtr (.tmp 14) (.const (.int .i64 23)), (some (12, false)), [], false, false⟩,
      ⟨(some 16), .pick (.tmp 12) (.const (.bool true)) (.tmp 15), none, [], false, false⟩])
   (.cond (.tmp 16) (.seq (.region false [⟨(some 2), .move (.const (.bool false)), none, [], false, false⟩])
     (.ret))
    (.skip)))
  (.seq (.seq (.region false [⟨(some 3), .move (.const (.int .i64 0)), none, [], false, false⟩])
    (.block 0 (.loop (some [0, 3]) (
      .seq (.seq (.region false [⟨(some 17), .move (.tmp 3), none, [], false, false⟩,
           ⟨(some 18), .move (.tmp 0), none, [], false, false⟩,
           ⟨(some 19), .len false (.tmp 18), none, [], false, false⟩,
           ⟨(some 20), .bin .lss (.tmp 17) (.tmp 19), none, [], false, false⟩])
        (.cond (.tmp 20) (.skip)
         (.exit 0)))
       (.seq (.block 1 (.seq (.region false [⟨(some 23), .move (.tmp 0), none, [], false, false⟩,
             ⟨(some 24), .move (.tmp 3), none, [], false, false⟩,
             ⟨(some 25), .indexAddr none 4 (.tmp 23) (.tmp 24), none, [], false, false⟩,
             ⟨(some 26), .fieldAddr 0 (.tmp 25), none, [], false, false⟩,
             ⟨(some 27), .load false 1 (.tmp 26), none, [], false, false⟩,
             ⟨(some 28), .len true (.tmp 27), none, [], false, false⟩,
             ⟨(some 29), .bin .gtr (.tmp 28) (.const (.int .i64 20)), none, [], false, false⟩])
          (.cond (.tmp 29) (.seq (.region false [⟨(some 2), .move (.const (.bool false)), none, [], false, false⟩])
            (.ret))
           (.skip))))
        (.region false [⟨(some 21), .move (.tmp 3), none, [], false, false⟩,
           ⟨(some 22), .bin .add (.tmp 21) (.const (.int .i64 1)), none, [], false, false⟩,
           ⟨(some 3), .move (.tmp 22), none, [], false, false⟩]))))))
   (.seq (.region false [⟨(some 2), .move (.const (.bool true)), none, [], false, false⟩])
    (.ret)))),
 [.tmp 2], .pure, 30⟩

/-- agraffe/agraffelaw02.named -/
def ef12 : EFun := ⟨
 .seq (.region false [⟨(some 1), .box (.tmp 0), none, [], false, false⟩,
    ⟨(some 2), .move (.const (.bool false)), none, [], false, false⟩])
 (.seq (.region false [⟨(some 3), .fieldAddr 3 (.tmp 1), none, [], false, false⟩,
     ⟨(some 4), .load false 1 (.tmp 3), none, [], false, false⟩,
     ⟨(some 5), .len true (.tmp 4), none, [], false, false⟩,
     ⟨(some 6), .bin .leq (.tmp 5) (.const (.int .i64 20)), none, [], false, false⟩,
     ⟨(some 7), .move (.tmp 6), none, [], false, false⟩,
     ⟨(some 8), .fieldAddr 4 (.tmp 1), (some (7, true)), [], false, false⟩,
     ⟨(some 9), .load false 1 (.tmp 8), (some (7, true)), [], false, false⟩,
     ⟨(some 10), .len true (.tmp 9), (some (7, true)), [], false, false⟩,
     ⟨(some 11), .bin .leq (.tmp 10) (.const (.int .i64 20)), (some (7, true)), [], false, false⟩,
     ⟨(some 12), .pick (.tmp 7) (.tmp 11) (.const (.bool false)), none, [], false, false⟩,
     ⟨(some 2), .move (.tmp 12), none, [], false, false⟩])
  (.ret)),
 [.tmp 2], .pure, 13⟩

/-- agraffe/agraffebase.Within -/
def ef13 : EFun := ⟨
 .seq (.region false [⟨(some 6), .move (.const (.bool false)), none, [], false, false⟩])
 (.seq (.region false [⟨(some 7), .move (.tmp 0), none, [], false, false⟩,
     ⟨(some 8), .move (.tmp 1), none, [], false, false⟩,
     ⟨(some 9), .bin .geq (.tmp 7) (.tmp 8), none, [], false, false⟩,
     ⟨(some 10), .move (.tmp 9), none, [], false, false⟩,
     ⟨(some 11), .move (.tmp 0), (some (10, true)), [], false, false⟩,
     ⟨(some 12), .move (.tmp 2), (some (10, true)), [], false, false⟩,
     ⟨(some 13), .bin .leq (.tmp 11) (.tmp 12), (some (10, true)), [], false, false⟩,
     ⟨(some 14), .pick (.tmp 10) (.tmp 13) (.const (.bool false)), none, [], false, false⟩,
     ⟨(some 6), .move (.tmp 14), none, [], false, false⟩])
  (.ret)),
 [.tmp 6], .pure, 15⟩

/-- agraffe/agrafferef02.CheckStrand -/
def ef14 : EFun := ⟨
 .seq (.region false [⟨(some 3), .box (.tmp 1), none, [], false, false⟩,
    ⟨(some 4), .move (.const (.int .i64 0)), none, [], false, false⟩])
 (.seq (.seq (.region false [⟨(some 6), .move (.tmp 0), none, [], false, false⟩,
      ⟨(some 7), .call 20 [(.tmp 6)], none, [], false, false⟩,
      ⟨(some 5), .move (.tmp 7), none, [], false, false⟩])
   (.seq (.region false [⟨(some 8), .move (.tmp 5), none, [], false, false⟩,
       ⟨(some 9), .bin .neq (.tmp 8) (.const (.int .i64 0)), none, [], false, false⟩])
    (.cond (.tmp 9) (.seq (.region false [⟨(some 10), .move (.tmp 5), none, [], false, false⟩,
         ⟨(some 4), .move (.tmp 10), none, [], false, false⟩])
      (.ret))
     (.skip))))
  (.seq (.region false [⟨(some 11), .move (.tmp 0), none, [], false, false⟩,
      ⟨(some 12), .load true 5 (.tmp 3), none, [], false, false⟩,
      ⟨(some 13), .call 44 [(.tmp 11), (.tmp 12)], none, [], false, false⟩,
      ⟨(some 4), .move (.tmp 13), none, [], false, false⟩])
   (.ret))),
 [.tmp 4], .pure, 14⟩

/-- agraffe/scale.Tension -/
def ef15 : EFun := ⟨
 .seq (.region false [⟨(some 4), .box (.tmp 1), none, [], false, false⟩,
    ⟨(some 5), .box (.tmp 2), none, [], false, false⟩,
    ⟨(some 6), .push [(.int .i64 0), (.int .i64 0)], none, [], false, false⟩,
    ⟨(some 7), .move (.const (.int .i64 0)), none, [], false, false⟩])
 (.seq (.region false [⟨(some 11), .move (.tmp 0), none, [], false, false⟩,
     ⟨(some 12), .load true 5 (.tmp 4), none, [], false, false⟩,
     ⟨(some 13), .load true 2 (.tmp 5), none, [], false, false⟩,
     ⟨(some 14), .call 45 [(.tmp 11), (.tmp 12), (.tmp 13)], none, [], false, false⟩,
     ⟨(some 10), .move (.tmp 14), none, [], false, false⟩,
     ⟨(some 15), .extract (.tmp 10) 0, none, [], false, false⟩,
     ⟨(some 16), .extract (.tmp 10) 1, none, [], false, false⟩,
     ⟨(some 8), .push [(.string ⟨#[]⟩), (.int .i64 0), (.int .i64 0), (.int .i64 0), (.int .i64 0), (.int .i64 0), (.int .i64 0), (.string ⟨#[]⟩), (.string ⟨#[]⟩), (.int .i64 0), (.int .i64 0), (.int .i64 0), (.int .i64 0)], none, [], false, false⟩,
     ⟨none, .store 13 (.tmp 8) (.tmp 15), none, [], false, false⟩,
     ⟨(some 9), .move (.tmp 16), none, [], false, false⟩])
  (.seq (.region false [⟨(some 17), .fieldAddr 11 (.tmp 8), none, [], false, false⟩,
      ⟨(some 18), .load true 2 (.tmp 17), none, [], false, false⟩,
      ⟨(some 19), .move (.tmp 9), none, [], false, false⟩,
      ⟨none, .store 2 (.tmp 6) (.tmp 18), none, [], false, false⟩,
      ⟨(some 7), .move (.tmp 19), none, [], false, false⟩])
   (.ret))),
 [.cell 6 true 2, .tmp 7], .pure, 20⟩

/-- agraffe/agraffelaw02.within -/
def ef16 : EFun := ⟨
 .seq (.region false [⟨(some 2), .box (.tmp 0), none, [], false, false⟩,
    ⟨(some 3), .box (.tmp 1), none, [], false, false⟩,
    ⟨(some 4), .move (.const (.bool false)), none, [], false, false⟩])
 (.seq (.region false [⟨(some 5), .fieldAddr 0 (.tmp 3), none, [], false, false⟩,
     ⟨(some 6), .load false 1 (.tmp 5), none, [], false, false⟩,
     ⟨(some 7), .fieldAddr 0 (.tmp 2), none, [], false, false⟩,
     ⟨(some 8), .load false 1 (.tmp 7), none, [], false, false⟩,
     ⟨(some 9), .bin .leq (.tmp 6) (.tmp 8), none, [], false, false⟩,
     ⟨(some 10), .move (.tmp 9), none, [], false, false⟩,
     ⟨(some 11), .fieldAddr 1 (.tmp 2), (some (10, true)), [], false, false⟩,
     ⟨(some 12), .load false 1 (.tmp 11), (some (10, true)), [], false, false⟩,
     ⟨(some 13), .fieldAddr 1 (.tmp 3), (some (10, true)), [], false, false⟩,
     ⟨(some 14), .load false 1 (.tmp 13), (some (10, true)), [], false, false⟩,
     ⟨(some 15), .bin .leq (.tmp 12) (.tmp 14), (some (10, true)), [], false, false⟩,
     ⟨(some 16), .pick (.tmp 10) (.tmp 15) (.const (.bool false)), none, [], false, false⟩,
     ⟨(some 4), .move (.tmp 16), none, [], false, false⟩])
  (.ret)),
 [.tmp 4], .pure, 17⟩

/-- agraffe/scale.MassOf -/
def ef17 : EFun := ⟨
 .seq (.region false [⟨(some 3), .box (.tmp 1), none, [], false, false⟩,
    ⟨(some 4), .move (.const (.int .i64 0)), none, [], false, false⟩,
    ⟨(some 5), .move (.const (.int .i64 0)), none, [], false, false⟩])
 (.seq (.seq (.region false [⟨(some 7), .move (.tmp 0), none, [], false, false⟩,
      ⟨(some 8), .load true 5 (.tmp 3), none, [], false, false⟩,
      ⟨(some 9), .call 21 [(.tmp 7), (.tmp 8)], none, [], false, false⟩,
      ⟨(some 6), .move (.tmp 9), none, [], false, false⟩])
   (.seq (.region false [⟨(some 10), .move (.tmp 6), none, [], false, false⟩,
       ⟨(some 11), .bin .neq (.tmp 10) (.const (.int .i64 0)), none, [], false, false⟩])
    (.cond (.tmp 11) (.seq (.region false [⟨(some 12), .move (.tmp 6), none, [], false, false⟩,
         ⟨(some 4), .move (.const (.int .i64 0)), none, [], false, false⟩,
         ⟨(some 5), .move (.tmp 12), none, [], false, false⟩])
      (.ret))
     (.skip))))
  (.seq (.region false [⟨(some 13), .move (.tmp 0), none, [], false, false⟩,
      ⟨(some 14), .load true 5 (.tmp 3), none, [], false, false⟩,
      ⟨(some 15), .call 46 [(.tmp 13), (.tmp 14)], none, [], false, false⟩,
      ⟨(some 4), .move (.tmp 15), none, [], false, false⟩,
      ⟨(some 5), .move (.const (.int .i64 0)), none, [], false, false⟩])
   (.ret))),
 [.tmp 4, .tmp 5], .pure, 16⟩

/-- agraffe/agraffelaw02.wires -/
def ef18 : EFun := ⟨
 .seq (.region false [⟨(some 2), .move (.const (.slice none 0 0)), none, [], false, false⟩])
 (.seq (.region false [⟨(some 3), .buildSlice 4 0 [] [], none, [], false, false⟩,
     ⟨(some 4), .move (.tmp 0), none, [], false, false⟩,
     ⟨(some 5), .append 4 40 (.tmp 3) (.tmp 4), none, [], false, false⟩,
     ⟨(some 2), .move (.tmp 5), none, [], false, false⟩])
  (.ret)),
 [.tmp 2], .pure, 6⟩

/-- agraffe/scale.CheckWires -/
def ef19 : EFun := ⟨
 .seq (.region false [⟨(some 2), .move (.const (.int .i64 0)), none, [], false, false⟩])
 (.seq (.seq (.region false [⟨(some 6), .move (.tmp 0), none, [], false, false⟩,
      ⟨(some 7), .len false (.tmp 6), none, [], false, false⟩,
      ⟨(some 8), .bin .gtr (.tmp 7) (.const (.int .i64 20)), none, [], false, false⟩])
   (.cond (.tmp 8) (.seq (.region false [⟨(some 2), .move (.const (.int .i64 8)), none, [], false, false⟩])
     (.ret))
    (.skip)))
  (.seq (.region false [⟨(some 9), .makeMap, none, [], false, false⟩,
      ⟨(some 3), .move (.tmp 9), none, [], false, false⟩])
   (.seq (.seq (.region false [⟨(some 10), .move (.tmp 0), none, [], false, false⟩,
        ⟨(some 11), .len false (.tmp 10), none, [], false, false⟩,
        ⟨(some 12), .move (.const (.int .i64 0)), none, [], false, false⟩])
     (.block 0 (.loop (some [3, 10, 11, 12]) (
       .seq (.region false [⟨(some 13), .bin .lss (.tmp 12) (.tmp 11), none, [], false, false⟩])
        (.seq (.cond (.tmp 13) (.skip)
          (.exit 0))
         (.seq (.block 1 (.seq (.region false [⟨(some 14), .indexAddr none 4 (.tmp 10) (.tmp 12), none, [], false, false⟩,
               ⟨(some 15), .load true 4 (.tmp 14), none, [], false, false⟩,
               ⟨(some 5), .push [(.string ⟨#[]⟩), (.int .i64 0), (.int .i64 0), (.int .i64 0)], none, [], false, false⟩,
               ⟨none, .store 4 (.tmp 5) (.tmp 15), none, [], false, false⟩])
            (.seq (.block 2 (.seq (.region false [⟨(some 17), .fieldAddr 0 (.tmp 5), none, [], false, false⟩,
                  ⟨(some 18), .load false 1 (.tmp 17), none, [], false, false⟩,
                  ⟨(some 19), .call 47 [(.tmp 18)], none, [], false, false⟩,
                  ⟨(some 20), .un .not (.tmp 19), none, [], false, false⟩,
                  ⟨(some 16), .move (.tmp 20), none, [], false, false⟩])
               (.cond (.tmp 16) (.seq (.region false [⟨(some 2), .move (.const (.int .i64 4)), none, [], false, false⟩])
                 (.ret))
                (.seq (.region false [⟨(some 22), .move (.tmp 3), none, [], false, false⟩,
                    ⟨(some 23), .fieldAddr 0 (.tmp 5), none, [], false, false⟩,
                    ⟨(some 24), .load false 1 (.tmp 23), none, [], false, false⟩,
                    ⟨(some 25), .mapGet .str (.bool false) false (.tmp 22) (.tmp 24), none, [], false, false⟩,
                    ⟨(some 21), .move (.tmp 25), none, [], false, false⟩])
                 (.cond (.tmp 21) (.seq (.region false [⟨(some 2), .move (.const (.int .i64 5)), none, [], false, false⟩])
                   (.ret))
                  (.seq (.region false [⟨(some 27), .fieldAddr 1 (.tmp 5), none, [], false, false⟩,
                      ⟨(some 28), .load false 1 (.tmp 27), none, [], false, false⟩,
                      ⟨(some 29), .call 48 [(.tmp 28), (.const (.int .i64 1)), (.const (.int .i64 200000))], none, [], false, false⟩,
                      ⟨(some 30), .un .not (.tmp 29), none, [], false, false⟩,
                      ⟨(some 31), .move (.tmp 30), none, [], false, false⟩,
                      ⟨(some 32), .fieldAddr 2 (.tmp 5), (some (31, false)), [], false, false⟩,
                      ⟨(some 33), .load false 1 (.tmp 32), (some (31, false)), [], false, false⟩,
                      ⟨(some 34), .call 48 [(.tmp 33), (.const (.int .i64 1)), (.const (.int .i64 1000000))], (some (31, false)), [], false, false⟩,
                      ⟨(some 35), .un .not (.tmp 34), (some (31, false)), [], false, false⟩,
                      ⟨(some 36), .pick (.tmp 31) (.const (.bool true)) (.tmp 35), none, [], false, false⟩,
                      ⟨(some 37), .move (.tmp 36), none, [], false, false⟩,
                      ⟨(some 38), .fieldAddr 3 (.tmp 5), (some (37, false)), [], false, false⟩,
                      ⟨(some 39), .load false 1 (.tmp 38), (some (37, false)), [], false, false⟩,
                      ⟨(some 40), .call 48 [(.tmp 39), (.const (.int .i64 0)), (.const (.int .i64 100000000))], (some (37, false)), [], false, false⟩,
                      ⟨(some 41), .un .not (.tmp 40), (some (37, false)), [], false, false⟩,
                      ⟨(some 42), .pick (.tmp 37) (.const (.bool true)) (.tmp 41), none, [], false, false⟩,
                      ⟨(some 26), .move (.tmp 42), none, [], false, false⟩])
                   (.cond (.tmp 26) (.seq (.region false [⟨(some 2), .move (.const (.int .i64 2)), none, [], false, false⟩])
                     (.ret))
                    (.skip))))))))
             (.region false [⟨(some 43), .move (.tmp 3), none, [], false, false⟩,
                ⟨(some 44), .fieldAddr 0 (.tmp 5), none, [], false, false⟩,
                ⟨(some 45), .load false 1 (.tmp 44), none, [], false, false⟩,
                ⟨none, .mapSet .str (.tmp 43) (.tmp 45) (.const (.bool true)), none, [], false, false⟩]))))
          (.region false [⟨(some 46), .bin .add (.tmp 12) (.const (.int .i64 1)), none, [], false, false⟩,
             ⟨(some 12), .move (.tmp 46), none, [], false, false⟩])))))))
    (.seq (.region false [⟨(some 2), .move (.const (.int .i64 0)), none, [], false, false⟩])
     (.ret))))),
 [.tmp 2], .pure, 47⟩

/-- agraffe/agrafferef02.CheckWires -/
def ef20 : EFun := ⟨
 .seq (.region false [⟨(some 2), .move (.const (.int .i64 0)), none, [], false, false⟩])
 (.seq (.seq (.region false [⟨(some 4), .move (.tmp 0), none, [], false, false⟩,
      ⟨(some 5), .len false (.tmp 4), none, [], false, false⟩,
      ⟨(some 6), .bin .gtr (.tmp 5) (.const (.int .i64 20)), none, [], false, false⟩])
   (.cond (.tmp 6) (.seq (.region false [⟨(some 2), .move (.const (.int .i64 8)), none, [], false, false⟩])
     (.ret))
    (.skip)))
  (.seq (.seq (.region false [⟨(some 3), .move (.const (.int .i64 0)), none, [], false, false⟩])
    (.block 0 (.loop (some [0, 3]) (
      .seq (.seq (.region false [⟨(some 7), .move (.tmp 3), none, [], false, false⟩,
           ⟨(some 8), .move (.tmp 0), none, [], false, false⟩,
           ⟨(some 9), .len false (.tmp 8), none, [], false, false⟩,
           ⟨(some 10), .bin .lss (.tmp 7) (.tmp 9), none, [], false, false⟩])
        (.cond (.tmp 10) (.skip)
         (.exit 0)))
       (.seq (.block 1 (.seq (.seq (.region false [⟨(some 13), .move (.tmp 0), none, [], false, false⟩,
              ⟨(some 14), .move (.tmp 3), none, [], false, false⟩,
              ⟨(some 15), .indexAddr none 4 (.tmp 13) (.tmp 14), none, [], false, false⟩,
              ⟨(some 16), .fieldAddr 0 (.tmp 15), none, [], false, false⟩,
              ⟨(some 17), .load false 1 (.tmp 16), none, [], false, false⟩,
              ⟨(some 18), .call 49 [(.tmp 17)], none, [], false, false⟩,
              ⟨(some 19), .un .not (.tmp 18), none, [], false, false⟩])
           (.cond (.tmp 19) (.seq (.region false [⟨(some 2), .move (.const (.int .i64 4)), none, [], false, false⟩])
             (.ret))
            (.skip)))
          (.seq (.seq (.region true [⟨(some 20), .move (.tmp 0), none, [], false, false⟩,
               ⟨(some 21), .move (.tmp 3), none, [], false, false⟩,
               ⟨(some 22), .slice 4 (.tmp 20) none (some (.tmp 21)), none, [], false, false⟩,
               ⟨(some 23), .move (.tmp 0), none, [], false, false⟩,
               ⟨(some 24), .move (.tmp 3), none, [], false, false⟩,
               ⟨(some 25), .indexAddr none 4 (.tmp 23) (.tmp 24), none, [], false, false⟩,
               ⟨(some 26), .fieldAddr 0 (.tmp 25), none, [], false, false⟩,
               ⟨(some 27), .load false 1 (.tmp 26), none, [], false, false⟩,
               ⟨(some 28), .call 50 [(.tmp 22), (.tmp 27)], none, [], false, false⟩,
               ⟨(some 29), .bin .geq (.tmp 28) (.const (.int .i64 0)), none, [], false, false⟩])
            (.cond (.tmp 29) (.seq (.region false [⟨(some 2), .move (.const (.int .i64 5)), none, [], false, false⟩])
              (.ret))
             (.skip)))
           (.seq (.region false [⟨(some 30), .move (.tmp 0), none, [], false, false⟩,
               ⟨(some 31), .move (.tmp 3), none, [], false, false⟩,
               ⟨(some 32), .indexAddr none 4 (.tmp 30) (.tmp 31), none, [], false, false⟩,
               ⟨(some 33), .fieldAddr 1 (.tmp 32), none, [], false, false⟩,
               ⟨(some 34), .load false 1 (.tmp 33), none, [], false, false⟩,
               ⟨(some 35), .call 13 [(.tmp 34), (.const (.int .i64 1)), (.const (.int .i64 200000))], none, [], false, false⟩,
               ⟨(some 36), .un .not (.tmp 35), none, [], false, false⟩,
               ⟨(some 37), .move (.tmp 36), none, [], false, false⟩,
               ⟨(some 38), .move (.tmp 0), (some (37, false)), [], false, false⟩,
               ⟨(some 39), .move (.tmp 3), (some (37, false)), [], false, false⟩,
               ⟨(some 40), .indexAddr none 4 (.tmp 38) (.tmp 39), (some (37, false)), [], false, false⟩,
               ⟨(some 41), .fieldAddr 2 (.tmp 40), (some (37, false)), [], false, false⟩,
               ⟨(some 42), .load false 1 (.tmp 41), (some (37, false)), [], false, false⟩,
               ⟨(some 43), .call 13 [(.tmp 42), (.const (.int .i64 1)), (.const (.int .i64 1000000))], (some (37, false)), [], false, false⟩,
               ⟨(some 44), .un .not (.tmp 43), (some (37, false)), [], false, false⟩,
               ⟨(some 45), .pick (.tmp 37) (.const (.bool true)) (.tmp 44), none, [], false, false⟩,
               ⟨(some 46), .move (.tmp 45), none, [], false, false⟩,
               ⟨(some 47), .move (.tmp 0), (some (46, false)), [], false, false⟩,
               ⟨(some 48), .move (.tmp 3), (some (46, false)), [], false, false⟩,
               ⟨(some 49), .indexAddr none 4 (.tmp 47) (.tmp 48), (some (46, false)), [], false, false⟩,
               ⟨(some 50), .fieldAddr 3 (.tmp 49), (some (46, false)), [], false, false⟩,
               ⟨(some 51), .load false 1 (.tmp 50), (some (46, false)), [], false, false⟩,
               ⟨(some 52), .call 13 [(.tmp 51), (.const (.int .i64 0)), (.const (.int .i64 100000000))], (some (46, false)), [], false, false⟩,
               ⟨(some 53), .un .not (.tmp 52), (some (46, false)), [], false, false⟩,
               ⟨(some 54), .pick (.tmp 46) (.const (.bool true)) (.tmp 53), none, [], false, false⟩])
            (.cond (.tmp 54) (.seq (.region false [⟨(some 2), .move (.const (.int .i64 2)), none, [], false, false⟩])
              (.ret))
             (.skip))))))
        (.region false [⟨(some 11), .move (.tmp 3), none, [], false, false⟩,
           ⟨(some 12), .bin .add (.tmp 11) (.const (.int .i64 1)), none, [], false, false⟩,
           ⟨(some 3), .move (.tmp 12), none, [], false, false⟩]))))))
   (.seq (.region false [⟨(some 2), .move (.const (.int .i64 0)), none, [], false, false⟩])
    (.ret)))),
 [.tmp 2], .pure, 55⟩

/-- agraffe/scale.CheckStrand -/
def ef21 : EFun := ⟨
 .seq (.region false [⟨(some 3), .box (.tmp 1), none, [], false, false⟩,
    ⟨(some 4), .move (.const (.int .i64 0)), none, [], false, false⟩])
 (.seq (.seq (.region false [⟨(some 10), .move (.tmp 0), none, [], false, false⟩,
      ⟨(some 11), .call 19 [(.tmp 10)], none, [], false, false⟩,
      ⟨(some 5), .move (.tmp 11), none, [], false, false⟩])
   (.seq (.region false [⟨(some 12), .move (.tmp 5), none, [], false, false⟩,
       ⟨(some 13), .bin .neq (.tmp 12) (.const (.int .i64 0)), none, [], false, false⟩])
    (.cond (.tmp 13) (.seq (.region false [⟨(some 14), .move (.tmp 5), none, [], false, false⟩,
         ⟨(some 4), .move (.tmp 14), none, [], false, false⟩])
      (.ret))
     (.skip))))
  (.seq (.region false [⟨(some 16), .move (.tmp 0), none, [], false, false⟩,
      ⟨(some 17), .fieldAddr 3 (.tmp 3), none, [], false, false⟩,
      ⟨(some 18), .load false 1 (.tmp 17), none, [], false, false⟩,
      ⟨(some 19), .call 51 [(.tmp 16), (.tmp 18)], none, [], false, false⟩,
      ⟨(some 15), .move (.tmp 19), none, [], false, false⟩,
      ⟨(some 20), .extract (.tmp 15) 0, none, [], false, false⟩,
      ⟨(some 21), .extract (.tmp 15) 1, none, [], false, false⟩,
      ⟨(some 6), .push [(.string ⟨#[]⟩), (.int .i64 0), (.int .i64 0), (.int .i64 0)], none, [], false, false⟩,
      ⟨none, .store 4 (.tmp 6) (.tmp 20), none, [], false, false⟩,
      ⟨(some 7), .move (.tmp 21), none, [], false, false⟩])
   (.seq (.region false [⟨(some 23), .move (.tmp 0), none, [], false, false⟩,
       ⟨(some 24), .fieldAddr 4 (.tmp 3), none, [], false, false⟩,
       ⟨(some 25), .load false 1 (.tmp 24), none, [], false, false⟩,
       ⟨(some 26), .call 51 [(.tmp 23), (.tmp 25)], none, [], false, false⟩,
       ⟨(some 22), .move (.tmp 26), none, [], false, false⟩,
       ⟨(some 27), .extract (.tmp 22) 0, none, [], false, false⟩,
       ⟨(some 28), .extract (.tmp 22) 1, none, [], false, false⟩,
       ⟨(some 8), .push [(.string ⟨#[]⟩), (.int .i64 0), (.int .i64 0), (.int .i64 0)], none, [], false, false⟩,
       ⟨none, .store 4 (.tmp 8) (.tmp 27), none, [], false, false⟩,
       ⟨(some 9), .move (.tmp 28), none, [], false, false⟩])
    (.seq (.block 0 (.seq (.region false [⟨(some 30), .fieldAddr 0 (.tmp 3), none, [], false, false⟩,
          ⟨(some 31), .load false 1 (.tmp 30), none, [], false, false⟩,
          ⟨(some 32), .call 48 [(.tmp 31), (.const (.int .i64 1000)), (.const (.int .i64 300000))], none, [], false, false⟩,
          ⟨(some 33), .un .not (.tmp 32), none, [], false, false⟩,
          ⟨(some 34), .move (.tmp 33), none, [], false, false⟩,
          ⟨(some 35), .fieldAddr 1 (.tmp 3), (some (34, false)), [], false, false⟩,
          ⟨(some 36), .load false 1 (.tmp 35), (some (34, false)), [], false, false⟩,
          ⟨(some 37), .call 48 [(.tmp 36), (.const (.int .i64 100)), (.const (.int .i64 3000))], (some (34, false)), [], false, false⟩,
          ⟨(some 38), .un .not (.tmp 37), (some (34, false)), [], false, false⟩,
          ⟨(some 39), .pick (.tmp 34) (.const (.bool true)) (.tmp 38), none, [], false, false⟩,
          ⟨(some 40), .move (.tmp 39), none, [], false, false⟩,
          ⟨(some 41), .fieldAddr 2 (.tmp 3), (some (40, false)), [], false, false⟩,
          ⟨(some 42), .load false 1 (.tmp 41), (some (40, false)), [], false, false⟩,
          ⟨(some 43), .call 48 [(.tmp 42), (.const (.int .i64 0)), (.const (.int .i64 10000))], (some (40, false)), [], false, false⟩,
          ⟨(some 44), .un .not (.tmp 43), (some (40, false)), [], false, false⟩,
          ⟨(some 45), .pick (.tmp 40) (.const (.bool true)) (.tmp 44), none, [], false, false⟩,
          ⟨(some 29), .move (.tmp 45), none, [], false, false⟩])
       (.cond (.tmp 29) (.seq (.region false [⟨(some 4), .move (.const (.int .i64 2)), none, [], false, false⟩])
         (.ret))
        (.seq (.region false [⟨(some 47), .fieldAddr 2 (.tmp 3), none, [], false, false⟩,
            ⟨(some 48), .load false 1 (.tmp 47), none, [], false, false⟩,
            ⟨(some 49), .bin .neq (.tmp 48) (.const (.int .i64 0)), none, [], false, false⟩,
            ⟨(some 50), .move (.tmp 49), none, [], false, false⟩,
            ⟨(some 51), .fieldAddr 2 (.tmp 3), (some (50, true)), [], false, false⟩,
            ⟨(some 52), .load false 1 (.tmp 51), (some (50, true)), [], false, false⟩,
            ⟨(some 53), .fieldAddr 1 (.tmp 3), (some (50, true)), [], false, false⟩,
            ⟨(some 54), .load false 1 (.tmp 53), (some (50, true)), [], false, false⟩,
            ⟨(some 55), .bin .leq (.tmp 52) (.tmp 54), (some (50, true)), [], false, false⟩,
            ⟨(some 56), .pick (.tmp 50) (.tmp 55) (.const (.bool false)), none, [], false, false⟩,
            ⟨(some 57), .move (.tmp 56), none, [], false, false⟩,
            ⟨(some 58), .fieldAddr 2 (.tmp 3), (some (57, false)), [], false, false⟩,
            ⟨(some 59), .load false 1 (.tmp 58), (some (57, false)), [], false, false⟩,
            ⟨(some 60), .bin .eql (.tmp 59) (.const (.int .i64 0)), (some (57, false)), [], false, false⟩,
            ⟨(some 61), .fieldAddr 4 (.tmp 3), (some (57, false)), [], false, false⟩,
            ⟨(some 62), .load false 1 (.tmp 61), (some (57, false)), [], false, false⟩,
            ⟨(some 63), .bin .eql (.tmp 62) (.const (.string ⟨#[]⟩)), (some (57, false)), [], false, false⟩,
            ⟨(some 64), .eqBool true (.tmp 60) (.tmp 63), (some (57, false)), [], false, false⟩,
            ⟨(some 65), .pick (.tmp 57) (.const (.bool true)) (.tmp 64), none, [], false, false⟩,
            ⟨(some 46), .move (.tmp 65), none, [], false, false⟩])
         (.cond (.tmp 46) (.seq (.region false [⟨(some 4), .move (.const (.int .i64 3)), none, [], false, false⟩])
           (.ret))
          (.seq (.region false [⟨(some 67), .move (.tmp 7), none, [], false, false⟩,
              ⟨(some 68), .un .not (.tmp 67), none, [], false, false⟩,
              ⟨(some 69), .move (.tmp 68), none, [], false, false⟩,
              ⟨(some 70), .fieldAddr 2 (.tmp 3), (some (69, false)), [], false, false⟩,
              ⟨(some 71), .load false 1 (.tmp 70), (some (69, false)), [], false, false⟩,
              ⟨(some 72), .bin .neq (.tmp 71) (.const (.int .i64 0)), (some (69, false)), [], false, false⟩,
              ⟨(some 73), .move (.tmp 72), (some (69, false)), [], false, false⟩,
              ⟨(some 74), .move (.tmp 9), (some (73, true)), [], false, false⟩,
              ⟨(some 75), .un .not (.tmp 74), (some (73, true)), [], false, false⟩,
              ⟨(some 76), .pick (.tmp 73) (.tmp 75) (.const (.bool false)), (some (69, false)), [], false, false⟩,
              ⟨(some 77), .pick (.tmp 69) (.const (.bool true)) (.tmp 76), none, [], false, false⟩,
              ⟨(some 66), .move (.tmp 77), none, [], false, false⟩])
           (.cond (.tmp 66) (.seq (.region false [⟨(some 4), .move (.const (.int .i64 6)), none, [], false, false⟩])
             (.ret))
            (.seq (.region false [⟨(some 79), .fieldAddr 2 (.tmp 6), none, [], false, false⟩,
                ⟨(some 80), .load false 1 (.tmp 79), none, [], false, false⟩,
                ⟨(some 81), .fieldAddr 1 (.tmp 3), none, [], false, false⟩,
                ⟨(some 82), .load false 1 (.tmp 81), none, [], false, false⟩,
                ⟨(some 83), .bin .mul (.tmp 80) (.tmp 82), none, [], false, false⟩,
                ⟨(some 84), .fieldAddr 1 (.tmp 3), none, [], false, false⟩,
                ⟨(some 85), .load false 1 (.tmp 84), none, [], false, false⟩,
                ⟨(some 86), .bin .mul (.tmp 83) (.tmp 85), none, [], false, false⟩,
                ⟨(some 87), .bin .lss (.tmp 86) (.const (.int .i64 1000000)), none, [], false, false⟩,
                ⟨(some 78), .move (.tmp 87), none, [], false, false⟩])
             (.cond (.tmp 78) (.seq (.region false [⟨(some 4), .move (.const (.int .i64 11)), none, [], false, false⟩])
               (.ret))
              (.skip))))))))))
     (.seq (.region false [⟨(some 4), .move (.const (.int .i64 0)), none, [], false, false⟩])
      (.ret)))))),
 [.tmp 4], .pure, 88⟩

/-- agraffe/agrafferef02.MassOf -/
def ef22 : EFun := ⟨
 .seq (.region false [⟨(some 3), .box (.tmp 1), none, [], false, false⟩,
    ⟨(some 4), .move (.const (.int .i64 0)), none, [], false, false⟩])
 (.seq (.region true [⟨(some 6), .move (.tmp 0), none, [], false, false⟩,
     ⟨(some 7), .move (.tmp 0), none, [], false, false⟩,
     ⟨(some 8), .fieldAddr 3 (.tmp 3), none, [], false, false⟩,
     ⟨(some 9), .load false 1 (.tmp 8), none, [], false, false⟩,
     ⟨(some 10), .call 50 [(.tmp 7), (.tmp 9)], none, [], false, true⟩,
     ⟨(some 11), .indexAddr none 4 (.tmp 6) (.tmp 10), none, [], false, false⟩,
     ⟨(some 12), .fieldAddr 1 (.tmp 11), none, [], false, false⟩,
     ⟨(some 13), .load false 1 (.tmp 12), none, [], false, false⟩,
     ⟨(some 14), .fieldAddr 1 (.tmp 3), none, [], false, false⟩,
     ⟨(some 15), .load false 1 (.tmp 14), none, [], false, false⟩,
     ⟨(some 16), .bin .mul (.tmp 13) (.tmp 15), none, [], false, false⟩,
     ⟨(some 17), .fieldAddr 1 (.tmp 3), none, [], false, false⟩,
     ⟨(some 18), .load false 1 (.tmp 17), none, [], false, false⟩,
     ⟨(some 19), .bin .mul (.tmp 16) (.tmp 18), none, [], false, false⟩,
     ⟨(some 5), .move (.tmp 19), none, [], false, false⟩])
  (.seq (.seq (.region false [⟨(some 20), .fieldAddr 2 (.tmp 3), none, [], false, false⟩,
       ⟨(some 21), .load false 1 (.tmp 20), none, [], false, false⟩,
       ⟨(some 22), .bin .neq (.tmp 21) (.const (.int .i64 0)), none, [], false, false⟩])
    (.cond (.tmp 22) (.region true [⟨(some 23), .move (.tmp 5), none, [], false, false⟩,
        ⟨(some 24), .move (.tmp 0), none, [], false, false⟩,
        ⟨(some 25), .move (.tmp 0), none, [], false, false⟩,
        ⟨(some 26), .fieldAddr 4 (.tmp 3), none, [], false, false⟩,
        ⟨(some 27), .load false 1 (.tmp 26), none, [], false, false⟩,
        ⟨(some 28), .call 50 [(.tmp 25), (.tmp 27)], none, [], false, true⟩,
        ⟨(some 29), .indexAddr none 4 (.tmp 24) (.tmp 28), none, [], false, false⟩,
        ⟨(some 30), .fieldAddr 1 (.tmp 29), none, [], false, false⟩,
        ⟨(some 31), .load false 1 (.tmp 30), none, [], false, false⟩,
        ⟨(some 32), .fieldAddr 2 (.tmp 3), none, [], false, false⟩,
        ⟨(some 33), .load false 1 (.tmp 32), none, [], false, false⟩,
        ⟨(some 34), .fieldAddr 2 (.tmp 3), none, [], false, false⟩,
        ⟨(some 35), .load false 1 (.tmp 34), none, [], false, false⟩,
        ⟨(some 36), .bin .mul (.tmp 33) (.tmp 35), none, [], false, false⟩,
        ⟨(some 37), .fieldAddr 1 (.tmp 3), none, [], false, false⟩,
        ⟨(some 38), .load false 1 (.tmp 37), none, [], false, false⟩,
        ⟨(some 39), .fieldAddr 1 (.tmp 3), none, [], false, false⟩,
        ⟨(some 40), .load false 1 (.tmp 39), none, [], false, false⟩,
        ⟨(some 41), .bin .mul (.tmp 38) (.tmp 40), none, [], false, false⟩,
        ⟨(some 42), .bin .sub (.tmp 36) (.tmp 41), none, [], false, false⟩,
        ⟨(some 43), .bin .mul (.tmp 31) (.tmp 42), none, [], false, false⟩,
        ⟨(some 44), .bin .add (.tmp 23) (.tmp 43), none, [], false, false⟩,
        ⟨(some 5), .move (.tmp 44), none, [], false, false⟩])
     (.skip)))
   (.seq (.region false [⟨(some 45), .move (.tmp 5), none, [], false, false⟩,
       ⟨(some 4), .move (.tmp 45), none, [], false, false⟩])
    (.ret)))),
 [.tmp 4], .pure, 46⟩

/-- agraffe/scale.Share -/
def ef23 : EFun := ⟨
 .seq (.region false [⟨(some 4), .box (.tmp 1), none, [], false, false⟩,
    ⟨(some 5), .box (.tmp 2), none, [], false, false⟩,
    ⟨(some 6), .push [(.int .i64 0), (.int .i64 0)], none, [], false, false⟩,
    ⟨(some 7), .move (.const (.int .i64 0)), none, [], false, false⟩])
 (.seq (.region false [⟨(some 11), .move (.tmp 0), none, [], false, false⟩,
     ⟨(some 12), .load true 5 (.tmp 4), none, [], false, false⟩,
     ⟨(some 13), .load true 2 (.tmp 5), none, [], false, false⟩,
     ⟨(some 14), .call 45 [(.tmp 11), (.tmp 12), (.tmp 13)], none, [], false, false⟩,
     ⟨(some 10), .move (.tmp 14), none, [], false, false⟩,
     ⟨(some 15), .extract (.tmp 10) 0, none, [], false, false⟩,
     ⟨(some 16), .extract (.tmp 10) 1, none, [], false, false⟩,
     ⟨(some 8), .push [(.string ⟨#[]⟩), (.int .i64 0), (.int .i64 0), (.int .i64 0), (.int .i64 0), (.int .i64 0), (.int .i64 0), (.string ⟨#[]⟩), (.string ⟨#[]⟩), (.int .i64 0), (.int .i64 0), (.int .i64 0), (.int .i64 0)], none, [], false, false⟩,
     ⟨none, .store 13 (.tmp 8) (.tmp 15), none, [], false, false⟩,
     ⟨(some 9), .move (.tmp 16), none, [], false, false⟩])
  (.seq (.seq (.region false [⟨(some 17), .move (.tmp 9), none, [], false, false⟩,
       ⟨(some 18), .bin .neq (.tmp 17) (.const (.int .i64 0)), none, [], false, false⟩])
    (.cond (.tmp 18) (.seq (.region false [⟨(some 19), .build [(.int .i64 0), (.int .i64 0)] [], none, [], false, false⟩,
         ⟨(some 20), .move (.tmp 9), none, [], false, false⟩,
         ⟨none, .store 2 (.tmp 6) (.tmp 19), none, [], false, false⟩,
         ⟨(some 7), .move (.tmp 20), none, [], false, false⟩])
      (.ret))
     (.skip)))
   (.seq (.region false [⟨(some 21), .load true 13 (.tmp 8), none, [], false, false⟩,
       ⟨(some 22), .call 52 [(.tmp 21)], none, [], false, false⟩,
       ⟨none, .store 2 (.tmp 6) (.tmp 22), none, [], false, false⟩,
       ⟨(some 7), .move (.const (.int .i64 0)), none, [], false, false⟩])
    (.ret)))),
 [.cell 6 true 2, .tmp 7], .pure, 23⟩

/-- agraffe/agrafferef02.IsFrequency -/
def ef24 : EFun := ⟨
 .seq (.region false [⟨(some 1), .box (.tmp 0), none, [], false, false⟩,
    ⟨(some 2), .move (.const (.bool false)), none, [], false, false⟩])
 (.seq (.region false [⟨(some 3), .fieldAddr 0 (.tmp 1), none, [], false, false⟩,
     ⟨(some 4), .load false 1 (.tmp 3), none, [], false, false⟩,
     ⟨(some 5), .fieldAddr 1 (.tmp 1), none, [], false, false⟩,
     ⟨(some 6), .load false 1 (.tmp 5), none, [], false, false⟩,
     ⟨(some 7), .call 13 [(.tmp 4), (.const (.int .i64 1)), (.tmp 6)], none, [], false, false⟩,
     ⟨(some 8), .move (.tmp 7), none, [], false, false⟩,
     ⟨(some 9), .fieldAddr 1 (.tmp 1), (some (8, true)), [], false, false⟩,
     ⟨(some 10), .load false 1 (.tmp 9), (some (8, true)), [], false, false⟩,
     ⟨(some 11), .bin .leq (.tmp 10) (.const (.int .i64 10000000)), (some (8, true)), [], false, false⟩,
     ⟨(some 12), .pick (.tmp 8) (.tmp 11) (.const (.bool false)), none, [], false, false⟩,
     ⟨(some 2), .move (.tmp 12), none, [], false, false⟩])
  (.ret)),
 [.tmp 2], .pure, 13⟩

/-- agraffe/agrafferef02.Tension -/
def ef25 : EFun := ⟨
 .seq (.region false [⟨(some 4), .box (.tmp 1), none, [], false, false⟩,
    ⟨(some 5), .box (.tmp 2), none, [], false, false⟩,
    ⟨(some 6), .push [(.int .i64 0), (.int .i64 0)], none, [], false, false⟩])
 (.seq (.region false [⟨(some 10), .load true 5 (.tmp 4), none, [], false, false⟩,
     ⟨(some 11), .load true 2 (.tmp 5), none, [], false, false⟩,
     ⟨(some 12), .call 53 [(.tmp 10), (.tmp 11)], none, [], false, false⟩,
     ⟨(some 7), .push [(.int .i64 0), (.int .i64 0)], none, [], false, false⟩,
     ⟨none, .store 2 (.tmp 7) (.tmp 12), none, [], false, false⟩])
  (.seq (.region false [⟨(some 13), .load true 2 (.tmp 7), none, [], false, false⟩,
      ⟨(some 14), .load true 2 (.tmp 7), none, [], false, false⟩,
      ⟨(some 15), .call 55 [(.tmp 13), (.tmp 14)], none, [], false, false⟩,
      ⟨(some 16), .call 56 [(.const (.int .i64 10000))], none, [], false, false⟩,
      ⟨(some 17), .call 54 [(.tmp 15), (.tmp 16)], none, [], false, false⟩,
      ⟨(some 8), .push [(.int .i64 0), (.int .i64 0)], none, [], false, false⟩,
      ⟨none, .store 2 (.tmp 8) (.tmp 17), none, [], false, false⟩])
   (.seq (.region false [⟨(some 18), .move (.tmp 0), none, [], false, false⟩,
       ⟨(some 19), .load true 5 (.tmp 4), none, [], false, false⟩,
       ⟨(some 20), .call 22 [(.tmp 18), (.tmp 19)], none, [], false, false⟩,
       ⟨(some 21), .call 56 [(.tmp 20)], none, [], false, false⟩,
       ⟨(some 22), .call 56 [(.const (.int .i64 10000))], none, [], false, false⟩,
       ⟨(some 23), .call 54 [(.tmp 21), (.tmp 22)], none, [], false, false⟩,
       ⟨(some 9), .push [(.int .i64 0), (.int .i64 0)], none, [], false, false⟩,
       ⟨none, .store 2 (.tmp 9) (.tmp 23), none, [], false, false⟩])
    (.seq (.region false [⟨(some 24), .load true 2 (.tmp 9), none, [], false, false⟩,
        ⟨(some 25), .load true 2 (.tmp 8), none, [], false, false⟩,
        ⟨(some 26), .call 55 [(.tmp 24), (.tmp 25)], none, [], false, false⟩,
        ⟨(some 27), .call 56 [(.const (.int .i64 1000000))], none, [], false, false⟩,
        ⟨(some 28), .call 54 [(.tmp 26), (.tmp 27)], none, [], false, false⟩,
        ⟨none, .store 2 (.tmp 6) (.tmp 28), none, [], false, false⟩])
     (.ret))))),
 [.cell 6 true 2], .pure, 29⟩

/-- agraffe/agrafferef02.Share -/
def ef26 : EFun := ⟨
 .seq (.region false [⟨(some 4), .box (.tmp 1), none, [], false, false⟩,
    ⟨(some 5), .box (.tmp 2), none, [], false, false⟩,
    ⟨(some 6), .push [(.int .i64 0), (.int .i64 0)], none, [], false, false⟩])
 (.seq (.region true [⟨(some 8), .move (.tmp 0), none, [], false, false⟩,
     ⟨(some 9), .move (.tmp 0), none, [], false, false⟩,
     ⟨(some 10), .fieldAddr 3 (.tmp 4), none, [], false, false⟩,
     ⟨(some 11), .load false 1 (.tmp 10), none, [], false, false⟩,
     ⟨(some 12), .call 50 [(.tmp 9), (.tmp 11)], none, [], false, true⟩,
     ⟨(some 13), .indexAddr none 4 (.tmp 8) (.tmp 12), none, [], false, false⟩,
     ⟨(some 14), .fieldAddr 2 (.tmp 13), none, [], false, false⟩,
     ⟨(some 15), .load false 1 (.tmp 14), none, [], false, false⟩,
     ⟨(some 16), .fieldAddr 1 (.tmp 4), none, [], false, false⟩,
     ⟨(some 17), .load false 1 (.tmp 16), none, [], false, false⟩,
     ⟨(some 18), .bin .mul (.tmp 15) (.tmp 17), none, [], false, false⟩,
     ⟨(some 19), .fieldAddr 1 (.tmp 4), none, [], false, false⟩,
     ⟨(some 20), .load false 1 (.tmp 19), none, [], false, false⟩,
     ⟨(some 21), .bin .mul (.tmp 18) (.tmp 20), none, [], false, false⟩,
     ⟨(some 22), .call 56 [(.tmp 21)], none, [], false, true⟩,
     ⟨(some 23), .call 56 [(.const (.int .i64 1000000))], none, [], false, true⟩,
     ⟨(some 24), .call 54 [(.tmp 22), (.tmp 23)], none, [], false, true⟩,
     ⟨(some 7), .push [(.int .i64 0), (.int .i64 0)], none, [], false, false⟩,
     ⟨none, .store 2 (.tmp 7) (.tmp 24), none, [], false, false⟩])
  (.seq (.region true [⟨(some 25), .call 56 [(.const (.int .i64 1000))], none, [], false, true⟩,
      ⟨(some 26), .move (.tmp 0), none, [], false, false⟩,
      ⟨(some 27), .load true 5 (.tmp 4), none, [], false, false⟩,
      ⟨(some 28), .load true 2 (.tmp 5), none, [], false, false⟩,
      ⟨(some 29), .call 25 [(.tmp 26), (.tmp 27), (.tmp 28)], none, [], false, true⟩,
      ⟨(some 30), .call 55 [(.tmp 25), (.tmp 29)], none, [], false, true⟩,
      ⟨(some 31), .load true 2 (.tmp 7), none, [], false, false⟩,
      ⟨(some 32), .call 54 [(.tmp 30), (.tmp 31)], none, [], false, false⟩,
      ⟨none, .store 2 (.tmp 6) (.tmp 32), none, [], false, false⟩])
   (.ret))),
 [.cell 6 true 2], .pure, 33⟩

/-- agraffe/scale.Inharmonicity -/
def ef27 : EFun := ⟨
 .seq (.region false [⟨(some 4), .box (.tmp 1), none, [], false, false⟩,
    ⟨(some 5), .box (.tmp 2), none, [], false, false⟩,
    ⟨(some 6), .push [(.int .i64 0), (.int .i64 0)], none, [], false, false⟩,
    ⟨(some 7), .move (.const (.int .i64 0)), none, [], false, false⟩])
 (.seq (.region false [⟨(some 11), .move (.tmp 0), none, [], false, false⟩,
     ⟨(some 12), .load true 5 (.tmp 4), none, [], false, false⟩,
     ⟨(some 13), .load true 2 (.tmp 5), none, [], false, false⟩,
     ⟨(some 14), .call 45 [(.tmp 11), (.tmp 12), (.tmp 13)], none, [], false, false⟩,
     ⟨(some 10), .move (.tmp 14), none, [], false, false⟩,
     ⟨(some 15), .extract (.tmp 10) 0, none, [], false, false⟩,
     ⟨(some 16), .extract (.tmp 10) 1, none, [], false, false⟩,
     ⟨(some 8), .push [(.string ⟨#[]⟩), (.int .i64 0), (.int .i64 0), (.int .i64 0), (.int .i64 0), (.int .i64 0), (.int .i64 0), (.string ⟨#[]⟩), (.string ⟨#[]⟩), (.int .i64 0), (.int .i64 0), (.int .i64 0), (.int .i64 0)], none, [], false, false⟩,
     ⟨none, .store 13 (.tmp 8) (.tmp 15), none, [], false, false⟩,
     ⟨(some 9), .move (.tmp 16), none, [], false, false⟩])
  (.seq (.seq (.region false [⟨(some 17), .move (.tmp 9), none, [], false, false⟩,
       ⟨(some 18), .bin .neq (.tmp 17) (.const (.int .i64 0)), none, [], false, false⟩])
    (.cond (.tmp 18) (.seq (.region false [⟨(some 19), .build [(.int .i64 0), (.int .i64 0)] [], none, [], false, false⟩,
         ⟨(some 20), .move (.tmp 9), none, [], false, false⟩,
         ⟨none, .store 2 (.tmp 6) (.tmp 19), none, [], false, false⟩,
         ⟨(some 7), .move (.tmp 20), none, [], false, false⟩])
      (.ret))
     (.skip)))
   (.seq (.region false [⟨(some 21), .load true 13 (.tmp 8), none, [], false, false⟩,
       ⟨(some 22), .call 57 [(.tmp 21)], none, [], false, false⟩,
       ⟨(some 23), .extract (.tmp 22) 0, none, [], false, false⟩,
       ⟨(some 24), .extract (.tmp 22) 1, none, [], false, false⟩,
       ⟨none, .store 2 (.tmp 6) (.tmp 23), none, [], false, false⟩,
       ⟨(some 7), .move (.tmp 24), none, [], false, false⟩])
    (.ret)))),
 [.cell 6 true 2, .tmp 7], .pure, 25⟩

/-- agraffe/scale.Impedance -/
def ef28 : EFun := ⟨
 .seq (.region false [⟨(some 4), .box (.tmp 1), none, [], false, false⟩,
    ⟨(some 5), .box (.tmp 2), none, [], false, false⟩,
    ⟨(some 6), .push [(.int .i64 0), (.int .i64 0)], none, [], false, false⟩,
    ⟨(some 7), .move (.const (.int .i64 0)), none, [], false, false⟩])
 (.seq (.region false [⟨(some 11), .move (.tmp 0), none, [], false, false⟩,
     ⟨(some 12), .load true 5 (.tmp 4), none, [], false, false⟩,
     ⟨(some 13), .load true 2 (.tmp 5), none, [], false, false⟩,
     ⟨(some 14), .call 45 [(.tmp 11), (.tmp 12), (.tmp 13)], none, [], false, false⟩,
     ⟨(some 10), .move (.tmp 14), none, [], false, false⟩,
     ⟨(some 15), .extract (.tmp 10) 0, none, [], false, false⟩,
     ⟨(some 16), .extract (.tmp 10) 1, none, [], false, false⟩,
     ⟨(some 8), .push [(.string ⟨#[]⟩), (.int .i64 0), (.int .i64 0), (.int .i64 0), (.int .i64 0), (.int .i64 0), (.int .i64 0), (.string ⟨#[]⟩), (.string ⟨#[]⟩), (.int .i64 0), (.int .i64 0), (.int .i64 0), (.int .i64 0)], none, [], false, false⟩,
     ⟨none, .store 13 (.tmp 8) (.tmp 15), none, [], false, false⟩,
     ⟨(some 9), .move (.tmp 16), none, [], false, false⟩])
  (.seq (.seq (.region false [⟨(some 17), .move (.tmp 9), none, [], false, false⟩,
       ⟨(some 18), .bin .neq (.tmp 17) (.const (.int .i64 0)), none, [], false, false⟩])
    (.cond (.tmp 18) (.seq (.region false [⟨(some 19), .build [(.int .i64 0), (.int .i64 0)] [], none, [], false, false⟩,
         ⟨(some 20), .move (.tmp 9), none, [], false, false⟩,
         ⟨none, .store 2 (.tmp 6) (.tmp 19), none, [], false, false⟩,
         ⟨(some 7), .move (.tmp 20), none, [], false, false⟩])
      (.ret))
     (.skip)))
   (.seq (.region false [⟨(some 21), .load true 13 (.tmp 8), none, [], false, false⟩,
       ⟨(some 22), .call 58 [(.tmp 21)], none, [], false, false⟩,
       ⟨(some 23), .extract (.tmp 22) 0, none, [], false, false⟩,
       ⟨(some 24), .extract (.tmp 22) 1, none, [], false, false⟩,
       ⟨none, .store 2 (.tmp 6) (.tmp 23), none, [], false, false⟩,
       ⟨(some 7), .move (.tmp 24), none, [], false, false⟩])
    (.ret)))),
 [.cell 6 true 2, .tmp 7], .pure, 25⟩

/-- agraffe/agrafferef02.Inharmonicity -/
def ef29 : EFun := ⟨
 .seq (.region false [⟨(some 4), .box (.tmp 1), none, [], false, false⟩,
    ⟨(some 5), .box (.tmp 2), none, [], false, false⟩,
    ⟨(some 6), .push [(.int .i64 0), (.int .i64 0)], none, [], false, false⟩,
    ⟨(some 7), .move (.const (.int .i64 0)), none, [], false, false⟩])
 (.seq (.region false [⟨(some 11), .move (.tmp 0), none, [], false, false⟩,
     ⟨(some 12), .load true 5 (.tmp 4), none, [], false, false⟩,
     ⟨(some 13), .load true 2 (.tmp 5), none, [], false, false⟩,
     ⟨(some 14), .call 25 [(.tmp 11), (.tmp 12), (.tmp 13)], none, [], false, false⟩,
     ⟨(some 8), .push [(.int .i64 0), (.int .i64 0)], none, [], false, false⟩,
     ⟨none, .store 2 (.tmp 8) (.tmp 14), none, [], false, false⟩])
  (.seq (.seq (.region false [⟨(some 15), .fieldAddr 0 (.tmp 8), none, [], false, false⟩,
       ⟨(some 16), .load false 1 (.tmp 15), none, [], false, false⟩,
       ⟨(some 17), .bin .eql (.tmp 16) (.const (.int .i64 0)), none, [], false, false⟩])
    (.cond (.tmp 17) (.seq (.region false [⟨(some 18), .build [(.int .i64 0), (.int .i64 0)] [], none, [], false, false⟩,
         ⟨none, .store 2 (.tmp 6) (.tmp 18), none, [], false, false⟩,
         ⟨(some 7), .move (.const (.int .i64 11)), none, [], false, false⟩])
      (.ret))
     (.skip)))
   (.seq (.region true [⟨(some 19), .fieldAddr 1 (.tmp 4), none, [], false, false⟩,
       ⟨(some 20), .load false 1 (.tmp 19), none, [], false, false⟩,
       ⟨(some 21), .bin .mul (.const (.int .i64 1000)) (.tmp 20), none, [], false, false⟩,
       ⟨(some 22), .fieldAddr 1 (.tmp 4), none, [], false, false⟩,
       ⟨(some 23), .load false 1 (.tmp 22), none, [], false, false⟩,
       ⟨(some 24), .bin .mul (.tmp 21) (.tmp 23), none, [], false, false⟩,
       ⟨(some 25), .call 56 [(.tmp 24)], none, [], false, true⟩,
       ⟨(some 26), .fieldAddr 0 (.tmp 4), none, [], false, false⟩,
       ⟨(some 27), .load false 1 (.tmp 26), none, [], false, false⟩,
       ⟨(some 28), .call 56 [(.tmp 27)], none, [], false, true⟩,
       ⟨(some 29), .call 54 [(.tmp 25), (.tmp 28)], none, [], false, true⟩,
       ⟨(some 9), .push [(.int .i64 0), (.int .i64 0)], none, [], false, false⟩,
       ⟨none, .store 2 (.tmp 9) (.tmp 29), none, [], false, false⟩])
    (.seq (.region false [⟨(some 30), .load true 2 (.tmp 9), none, [], false, false⟩,
        ⟨(some 31), .load true 2 (.tmp 9), none, [], false, false⟩,
        ⟨(some 32), .call 55 [(.tmp 30), (.tmp 31)], none, [], false, false⟩,
        ⟨(some 33), .call 56 [(.const (.int .i64 1000))], none, [], false, false⟩,
        ⟨(some 34), .call 54 [(.tmp 32), (.tmp 33)], none, [], false, false⟩,
        ⟨(some 10), .push [(.int .i64 0), (.int .i64 0)], none, [], false, false⟩,
        ⟨none, .store 2 (.tmp 10) (.tmp 34), none, [], false, false⟩])
     (.seq (.region true [⟨(some 35), .move (.tmp 0), none, [], false, false⟩,
         ⟨(some 36), .move (.tmp 0), none, [], false, false⟩,
         ⟨(some 37), .fieldAddr 3 (.tmp 4), none, [], false, false⟩,
         ⟨(some 38), .load false 1 (.tmp 37), none, [], false, false⟩,
         ⟨(some 39), .call 50 [(.tmp 36), (.tmp 38)], none, [], false, true⟩,
         ⟨(some 40), .indexAddr none 4 (.tmp 35) (.tmp 39), none, [], false, false⟩,
         ⟨(some 41), .fieldAddr 3 (.tmp 40), none, [], false, false⟩,
         ⟨(some 42), .load false 1 (.tmp 41), none, [], false, false⟩,
         ⟨(some 43), .call 56 [(.tmp 42)], none, [], false, true⟩,
         ⟨(some 44), .load true 2 (.tmp 10), none, [], false, false⟩,
         ⟨(some 45), .call 55 [(.tmp 43), (.tmp 44)], none, [], false, true⟩,
         ⟨(some 46), .call 56 [(.const (.int .i64 1000))], none, [], false, true⟩,
         ⟨(some 47), .load true 2 (.tmp 8), none, [], false, false⟩,
         ⟨(some 48), .call 55 [(.tmp 46), (.tmp 47)], none, [], false, false⟩,
         ⟨(some 49), .call 54 [(.tmp 45), (.tmp 48)], none, [], false, false⟩,
         ⟨none, .store 2 (.tmp 6) (.tmp 49), none, [], false, false⟩,
         ⟨(some 7), .move (.const (.int .i64 0)), none, [], false, false⟩])
      (.ret)))))),
 [.cell 6 true 2, .tmp 7], .pure, 50⟩

/-- agraffe/agrafferef02.Impedance -/
def ef30 : EFun := ⟨
 .seq (.region false [⟨(some 4), .box (.tmp 1), none, [], false, false⟩,
    ⟨(some 5), .box (.tmp 2), none, [], false, false⟩,
    ⟨(some 6), .push [(.int .i64 0), (.int .i64 0)], none, [], false, false⟩,
    ⟨(some 7), .move (.const (.int .i64 0)), none, [], false, false⟩])
 (.seq (.region false [⟨(some 9), .load true 5 (.tmp 4), none, [], false, false⟩,
     ⟨(some 10), .load true 2 (.tmp 5), none, [], false, false⟩,
     ⟨(some 11), .call 53 [(.tmp 9), (.tmp 10)], none, [], false, false⟩,
     ⟨(some 8), .push [(.int .i64 0), (.int .i64 0)], none, [], false, false⟩,
     ⟨none, .store 2 (.tmp 8) (.tmp 11), none, [], false, false⟩])
  (.seq (.seq (.region false [⟨(some 12), .fieldAddr 0 (.tmp 8), none, [], false, false⟩,
       ⟨(some 13), .load false 1 (.tmp 12), none, [], false, false⟩,
       ⟨(some 14), .bin .eql (.tmp 13) (.const (.int .i64 0)), none, [], false, false⟩])
    (.cond (.tmp 14) (.seq (.region false [⟨(some 15), .build [(.int .i64 0), (.int .i64 0)] [], none, [], false, false⟩,
         ⟨none, .store 2 (.tmp 6) (.tmp 15), none, [], false, false⟩,
         ⟨(some 7), .move (.const (.int .i64 11)), none, [], false, false⟩])
      (.ret))
     (.skip)))
   (.seq (.region true [⟨(some 16), .call 56 [(.const (.int .i64 1000))], none, [], false, true⟩,
       ⟨(some 17), .move (.tmp 0), none, [], false, false⟩,
       ⟨(some 18), .load true 5 (.tmp 4), none, [], false, false⟩,
       ⟨(some 19), .load true 2 (.tmp 5), none, [], false, false⟩,
       ⟨(some 20), .call 25 [(.tmp 17), (.tmp 18), (.tmp 19)], none, [], false, true⟩,
       ⟨(some 21), .call 55 [(.tmp 16), (.tmp 20)], none, [], false, true⟩,
       ⟨(some 22), .load true 2 (.tmp 8), none, [], false, false⟩,
       ⟨(some 23), .call 54 [(.tmp 21), (.tmp 22)], none, [], false, false⟩,
       ⟨none, .store 2 (.tmp 6) (.tmp 23), none, [], false, false⟩,
       ⟨(some 7), .move (.const (.int .i64 0)), none, [], false, false⟩])
    (.ret)))),
 [.cell 6 true 2, .tmp 7], .pure, 24⟩

/-- agraffe/scale.LengthSystem -/
def ef31 : EFun := ⟨
 .seq (.region false [⟨(some 3), .box (.tmp 1), none, [], false, false⟩,
    ⟨(some 4), .move (.const (.slice none 0 0)), none, [], false, false⟩,
    ⟨(some 5), .move (.const (.int .i64 0)), none, [], false, false⟩])
 (.seq (.seq (.region false [⟨(some 13), .move (.tmp 0), none, [], false, false⟩,
      ⟨(some 14), .len false (.tmp 13), none, [], false, false⟩,
      ⟨(some 15), .bin .gtr (.tmp 14) (.const (.int .i64 50)), none, [], false, false⟩])
   (.cond (.tmp 15) (.seq (.region false [⟨(some 4), .move (.const (.slice none 0 0)), none, [], false, false⟩,
        ⟨(some 5), .move (.const (.int .i64 8)), none, [], false, false⟩])
     (.ret))
    (.skip)))
  (.seq (.seq (.region false [⟨(some 16), .move (.tmp 0), none, [], false, false⟩,
       ⟨(some 17), .len false (.tmp 16), none, [], false, false⟩,
       ⟨(some 18), .move (.const (.int .i64 0)), none, [], false, false⟩])
    (.block 0 (.loop (some [0, 3, 16, 17, 18]) (
      .seq (.region false [⟨(some 19), .bin .lss (.tmp 18) (.tmp 17), none, [], false, false⟩])
       (.seq (.cond (.tmp 19) (.skip)
         (.exit 0))
        (.seq (.block 1 (.seq (.region false [⟨(some 20), .indexAddr none 2 (.tmp 16) (.tmp 18), none, [], false, false⟩,
              ⟨(some 21), .load true 2 (.tmp 20), none, [], false, false⟩,
              ⟨(some 7), .push [(.int .i64 0), (.int .i64 0)], none, [], false, false⟩,
              ⟨none, .store 2 (.tmp 7) (.tmp 21), none, [], false, false⟩])
           (.seq (.region false [⟨(some 22), .fieldAddr 0 (.tmp 7), none, [], false, false⟩,
               ⟨(some 23), .load false 1 (.tmp 22), none, [], false, false⟩,
               ⟨(some 24), .bin .lss (.tmp 23) (.const (.int .i64 1000)), none, [], false, false⟩,
               ⟨(some 25), .move (.tmp 24), none, [], false, false⟩,
               ⟨(some 26), .fieldAddr 0 (.tmp 7), (some (25, false)), [], false, false⟩,
               ⟨(some 27), .load false 1 (.tmp 26), (some (25, false)), [], false, false⟩,
               ⟨(some 28), .fieldAddr 1 (.tmp 7), (some (25, false)), [], false, false⟩,
               ⟨(some 29), .load false 1 (.tmp 28), (some (25, false)), [], false, false⟩,
               ⟨(some 30), .bin .gtr (.tmp 27) (.tmp 29), (some (25, false)), [], false, false⟩,
               ⟨(some 31), .pick (.tmp 25) (.const (.bool true)) (.tmp 30), none, [], false, false⟩,
               ⟨(some 32), .move (.tmp 31), none, [], false, false⟩,
               ⟨(some 33), .fieldAddr 1 (.tmp 7), (some (32, false)), [], false, false⟩,
               ⟨(some 34), .load false 1 (.tmp 33), (some (32, false)), [], false, false⟩,
               ⟨(some 35), .bin .gtr (.tmp 34) (.const (.int .i64 300000)), (some (32, false)), [], false, false⟩,
               ⟨(some 36), .pick (.tmp 32) (.const (.bool true)) (.tmp 35), none, [], false, false⟩])
            (.cond (.tmp 36) (.seq (.region false [⟨(some 4), .move (.const (.slice none 0 0)), none, [], false, false⟩,
                 ⟨(some 5), .move (.const (.int .i64 2)), none, [], false, false⟩])
              (.ret))
             (.skip)))))
         (.region false [⟨(some 37), .bin .add (.tmp 18) (.const (.int .i64 1)), none, [], false, false⟩,
            ⟨(some 18), .move (.tmp 37), none, [], false, false⟩])))))))
   (.seq (.seq (.region false [⟨(some 38), .fieldAddr 0 (.tmp 3), none, [], false, false⟩,
        ⟨(some 39), .load false 1 (.tmp 38), none, [], false, false⟩,
        ⟨(some 40), .bin .lss (.tmp 39) (.const (.int .i64 (-300000))), none, [], false, false⟩,
        ⟨(some 41), .move (.tmp 40), none, [], false, false⟩,
        ⟨(some 42), .fieldAddr 0 (.tmp 3), (some (41, false)), [], false, false⟩,
        ⟨(some 43), .load false 1 (.tmp 42), (some (41, false)), [], false, false⟩,
        ⟨(some 44), .fieldAddr 1 (.tmp 3), (some (41, false)), [], false, false⟩,
        ⟨(some 45), .load false 1 (.tmp 44), (some (41, false)), [], false, false⟩,
        ⟨(some 46), .bin .gtr (.tmp 43) (.tmp 45), (some (41, false)), [], false, false⟩,
        ⟨(some 47), .pick (.tmp 41) (.const (.bool true)) (.tmp 46), none, [], false, false⟩,
        ⟨(some 48), .move (.tmp 47), none, [], false, false⟩,
        ⟨(some 49), .fieldAddr 1 (.tmp 3), (some (48, false)), [], false, false⟩,
        ⟨(some 50), .load false 1 (.tmp 49), (some (48, false)), [], false, false⟩,
        ⟨(some 51), .bin .gtr (.tmp 50) (.const (.int .i64 300000)), (some (48, false)), [], false, false⟩,
        ⟨(some 52), .pick (.tmp 48) (.const (.bool true)) (.tmp 51), none, [], false, false⟩])
     (.cond (.tmp 52) (.seq (.region false [⟨(some 4), .move (.const (.slice none 0 0)), none, [], false, false⟩,
          ⟨(some 5), .move (.const (.int .i64 2)), none, [], false, false⟩])
       (.ret))
      (.skip)))
    (.seq (.region false [⟨(some 53), .move (.tmp 0), none, [], false, false⟩,
        ⟨(some 54), .len false (.tmp 53), none, [], false, false⟩,
        ⟨(some 8), .move (.tmp 54), none, [], false, false⟩])
     (.seq (.region false [⟨(some 9), .move (.const (.slice none 0 0)), none, [], false, false⟩])
      (.seq (.seq (.region false [⟨(some 55), .move (.tmp 0), none, [], false, false⟩,
           ⟨(some 56), .len false (.tmp 55), none, [], false, false⟩,
           ⟨(some 57), .move (.const (.int .i64 0)), none, [], false, false⟩])
        (.block 2 (.loop (some [3, 8, 9, 55, 56, 57]) (
          .seq (.region false [⟨(some 58), .bin .lss (.tmp 57) (.tmp 56), none, [], false, false⟩])
           (.seq (.cond (.tmp 58) (.skip)
             (.exit 2))
            (.seq (.block 3 (.seq (.region false [⟨(some 59), .move (.tmp 57), none, [], false, false⟩,
                  ⟨(some 60), .indexAddr none 2 (.tmp 55) (.tmp 57), none, [], false, false⟩,
                  ⟨(some 61), .load true 2 (.tmp 60), none, [], false, false⟩,
                  ⟨(some 11), .push [(.int .i64 0), (.int .i64 0)], none, [], false, false⟩,
                  ⟨(some 10), .move (.tmp 59), none, [], false, false⟩,
                  ⟨none, .store 2 (.tmp 11) (.tmp 61), none, [], false, false⟩])
               (.region false [⟨(some 62), .move (.tmp 9), none, [], false, false⟩,
                  ⟨(some 63), .move (.tmp 8), none, [], false, false⟩,
                  ⟨(some 64), .move (.tmp 10), none, [], false, false⟩,
                  ⟨(some 65), .fieldAddr 1 (.tmp 11), none, [], false, false⟩,
                  ⟨(some 66), .load false 1 (.tmp 65), none, [], false, false⟩,
                  ⟨(some 67), .build [(.int .i64 0), (.int .i64 0), (.int .i64 0)] [(0, 1, (.tmp 63)), (1, 1, (.tmp 64)), (2, 1, (.tmp 66))], none, [], false, false⟩,
                  ⟨(some 68), .move (.tmp 10), none, [], false, false⟩,
                  ⟨(some 69), .move (.tmp 8), none, [], false, false⟩,
                  ⟨(some 70), .fieldAddr 0 (.tmp 11), none, [], false, false⟩,
                  ⟨(some 71), .load false 1 (.tmp 70), none, [], false, false⟩,
                  ⟨(some 72), .un .neg (.tmp 71), none, [], false, false⟩,
                  ⟨(some 73), .build [(.int .i64 0), (.int .i64 0), (.int .i64 0)] [(0, 1, (.tmp 68)), (1, 1, (.tmp 69)), (2, 1, (.tmp 72))], none, [], false, false⟩,
                  ⟨(some 74), .buildSlice 3 2 [(.int .i64 0), (.int .i64 0), (.int .i64 0), (.int .i64 0), (.int .i64 0), (.int .i64 0)] [(0, 3, (.tmp 67)), (3, 3, (.tmp 73))], none, [], false, false⟩,
                  ⟨(some 75), .append 3 24 (.tmp 62) (.tmp 74), none, [], false, false⟩,
                  ⟨(some 9), .move (.tmp 75), none, [], false, false⟩])))
             (.region false [⟨(some 76), .bin .add (.tmp 57) (.const (.int .i64 1)), none, [], false, false⟩,
                ⟨(some 57), .move (.tmp 76), none, [], false, false⟩])))))))
       (.seq (.seq (.region false [⟨(some 12), .move (.const (.int .i64 1)), none, [], false, false⟩])
         (.block 4 (.loop (some [3, 8, 9, 12]) (
           .seq (.seq (.region false [⟨(some 77), .move (.tmp 12), none, [], false, false⟩,
                ⟨(some 78), .move (.tmp 8), none, [], false, false⟩,
                ⟨(some 79), .bin .lss (.tmp 77) (.tmp 78), none, [], false, false⟩])
             (.cond (.tmp 79) (.skip)
              (.exit 4)))
            (.seq (.block 5 (.region false [⟨(some 82), .move (.tmp 9), none, [], false, false⟩,
                 ⟨(some 83), .move (.tmp 12), none, [], false, false⟩,
                 ⟨(some 84), .bin .sub (.tmp 83) (.const (.int .i64 1)), none, [], false, false⟩,
                 ⟨(some 85), .move (.tmp 12), none, [], false, false⟩,
                 ⟨(some 86), .fieldAddr 0 (.tmp 3), none, [], false, false⟩,
                 ⟨(some 87), .load false 1 (.tmp 86), none, [], false, false⟩,
                 ⟨(some 88), .un .neg (.tmp 87), none, [], false, false⟩,
                 ⟨(some 89), .build [(.int .i64 0), (.int .i64 0), (.int .i64 0)] [(0, 1, (.tmp 84)), (1, 1, (.tmp 85)), (2, 1, (.tmp 88))], none, [], false, false⟩,
                 ⟨(some 90), .move (.tmp 12), none, [], false, false⟩,
                 ⟨(some 91), .move (.tmp 12), none, [], false, false⟩,
                 ⟨(some 92), .bin .sub (.tmp 91) (.const (.int .i64 1)), none, [], false, false⟩,
                 ⟨(some 93), .fieldAddr 1 (.tmp 3), none, [], false, false⟩,
                 ⟨(some 94), .load false 1 (.tmp 93), none, [], false, false⟩,
                 ⟨(some 95), .build [(.int .i64 0), (.int .i64 0), (.int .i64 0)] [(0, 1, (.tmp 90)), (1, 1, (.tmp 92)), (2, 1, (.tmp 94))], none, [], false, false⟩,
                 ⟨(some 96), .buildSlice 3 2 [(.int .i64 0), (.int .i64 0), (.int .i64 0), (.int .i64 0), (.int .i64 0), (.int .i64 0)] [(0, 3, (.tmp 89)), (3, 3, (.tmp 95))], none, [], false, false⟩,
                 ⟨(some 97), .append 3 24 (.tmp 82) (.tmp 96), none, [], false, false⟩,
                 ⟨(some 9), .move (.tmp 97), none, [], false, false⟩]))
             (.region false [⟨(some 80), .move (.tmp 12), none, [], false, false⟩,
                ⟨(some 81), .bin .add (.tmp 80) (.const (.int .i64 1)), none, [], false, false⟩,
                ⟨(some 12), .move (.tmp 81), none, [], false, false⟩]))))))
        (.seq (.region false [⟨(some 98), .move (.tmp 9), none, [], false, false⟩,
            ⟨(some 4), .move (.tmp 98), none, [], false, false⟩,
            ⟨(some 5), .move (.const (.int .i64 0)), none, [], false, false⟩])
         (.ret))))))))),
 [.tmp 4, .tmp 5], .pure, 99⟩

/-- agraffe/scale.SmoothLengths -/
def ef32 : EFun := ⟨
 .seq (.region false [⟨(some 3), .box (.tmp 1), none, [], false, false⟩,
    ⟨(some 4), .move (.const (.slice none 0 0)), none, [], false, false⟩,
    ⟨(some 5), .move (.const (.slice none 0 0)), none, [], false, false⟩,
    ⟨(some 6), .move (.const (.int .i64 0)), none, [], false, false⟩])
 (.seq (.region false [⟨(some 17), .move (.tmp 0), none, [], false, false⟩,
     ⟨(some 18), .load true 2 (.tmp 3), none, [], false, false⟩,
     ⟨(some 19), .call 31 [(.tmp 17), (.tmp 18)], none, [], false, false⟩,
     ⟨(some 16), .move (.tmp 19), none, [], false, false⟩,
     ⟨(some 20), .extract (.tmp 16) 0, none, [], false, false⟩,
     ⟨(some 21), .extract (.tmp 16) 1, none, [], false, false⟩,
     ⟨(some 7), .move (.tmp 20), none, [], false, false⟩,
     ⟨(some 8), .move (.tmp 21), none, [], false, false⟩])
  (.seq (.seq (.region false [⟨(some 22), .move (.tmp 8), none, [], false, false⟩,
       ⟨(some 23), .bin .neq (.tmp 22) (.const (.int .i64 0)), none, [], false, false⟩])
    (.cond (.tmp 23) (.seq (.region false [⟨(some 24), .move (.tmp 8), none, [], false, false⟩,
         ⟨(some 4), .move (.const (.slice none 0 0)), none, [], false, false⟩,
         ⟨(some 5), .move (.const (.slice none 0 0)), none, [], false, false⟩,
         ⟨(some 6), .move (.tmp 24), none, [], false, false⟩])
      (.ret))
     (.skip)))
   (.seq (.seq (.region false [⟨(some 26), .move (.tmp 0), none, [], false, false⟩,
        ⟨(some 27), .len false (.tmp 26), none, [], false, false⟩,
        ⟨(some 28), .bin .add (.tmp 27) (.const (.int .i64 1)), none, [], false, false⟩,
        ⟨(some 29), .move (.tmp 7), none, [], false, false⟩,
        ⟨(some 30), .call 59 [(.tmp 28), (.tmp 29)], none, [], false, false⟩,
        ⟨(some 25), .move (.tmp 30), none, [], false, false⟩,
        ⟨(some 31), .extract (.tmp 25) 0, none, [], false, false⟩,
        ⟨(some 32), .extract (.tmp 25) 1, none, [], false, false⟩,
        ⟨(some 33), .extract (.tmp 25) 2, none, [], false, false⟩,
        ⟨(some 9), .move (.tmp 31), none, [], false, false⟩,
        ⟨(some 10), .move (.tmp 32), none, [], false, false⟩,
        ⟨(some 11), .move (.tmp 33), none, [], false, false⟩])
     (.seq (.region false [⟨(some 34), .move (.tmp 11), none, [], false, false⟩,
         ⟨(some 35), .bin .neq (.tmp 34) (.const (.int .i64 0)), none, [], false, false⟩])
      (.cond (.tmp 35) (.seq (.region false [⟨(some 36), .move (.tmp 10), none, [], false, false⟩,
           ⟨(some 37), .move (.tmp 11), none, [], false, false⟩,
           ⟨(some 4), .move (.const (.slice none 0 0)), none, [], false, false⟩,
           ⟨(some 5), .move (.tmp 36), none, [], false, false⟩,
           ⟨(some 6), .move (.tmp 37), none, [], false, false⟩])
        (.ret))
       (.skip))))
    (.seq (.region false [⟨(some 12), .move (.const (.slice none 0 0)), none, [], false, false⟩])
     (.seq (.seq (.region false [⟨(some 38), .move (.tmp 0), none, [], false, false⟩,
          ⟨(some 39), .len false (.tmp 38), none, [], false, false⟩,
          ⟨(some 40), .move (.const (.int .i64 0)), none, [], false, false⟩])
       (.block 0 (.loop (some [3, 12, 38, 39, 40]) (
         .seq (.region false [⟨(some 41), .bin .lss (.tmp 40) (.tmp 39), none, [], false, false⟩])
          (.seq (.cond (.tmp 41) (.skip)
            (.exit 0))
           (.seq (.block 1 (.seq (.region false [⟨(some 42), .indexAddr none 2 (.tmp 38) (.tmp 40), none, [], false, false⟩,
                 ⟨(some 43), .load true 2 (.tmp 42), none, [], false, false⟩,
                 ⟨(some 14), .push [(.int .i64 0), (.int .i64 0)], none, [], false, false⟩,
                 ⟨none, .store 2 (.tmp 14) (.tmp 43), none, [], false, false⟩])
              (.region false [⟨(some 44), .move (.tmp 12), none, [], false, false⟩,
                 ⟨(some 45), .fieldAddr 1 (.tmp 14), none, [], false, false⟩,
                 ⟨(some 46), .load false 1 (.tmp 45), none, [], false, false⟩,
                 ⟨(some 47), .buildSlice 1 1 [(.int .i64 0)] [(0, 1, (.tmp 46))], none, [], false, false⟩,
                 ⟨(some 48), .append 1 8 (.tmp 44) (.tmp 47), none, [], false, false⟩,
                 ⟨(some 12), .move (.tmp 48), none, [], false, false⟩])))
            (.region false [⟨(some 49), .bin .add (.tmp 40) (.const (.int .i64 1)), none, [], false, false⟩,
               ⟨(some 40), .move (.tmp 49), none, [], false, false⟩])))))))
      (.seq (.seq (.region false [⟨(some 50), .move (.tmp 12), none, [], false, false⟩,
           ⟨(some 51), .len false (.tmp 50), none, [], false, false⟩,
           ⟨(some 52), .move (.const (.int .i64 0)), none, [], false, false⟩])
        (.block 2 (.loop (some [3, 12, 51, 52]) (
          .seq (.region false [⟨(some 53), .bin .lss (.tmp 52) (.tmp 51), none, [], false, false⟩])
           (.seq (.cond (.tmp 53) (.skip)
             (.exit 2))
            (.seq (.block 3 (.seq (.region false [⟨(some 15), .move (.const (.int .i64 1)), none, [], false, false⟩])
               (.block 4 (.loop (some [3, 12, 15, 51, 52]) (
                 .seq (.seq (.region false [⟨(some 54), .move (.tmp 15), none, [], false, false⟩,
                      ⟨(some 55), .move (.tmp 12), none, [], false, false⟩,
                      ⟨(some 56), .len false (.tmp 55), none, [], false, false⟩,
                      ⟨(some 57), .bin .lss (.tmp 54) (.tmp 56), none, [], false, false⟩])
                   (.cond (.tmp 57) (.skip)
                    (.exit 4)))
                  (.seq (.block 5 (.seq (.region true [⟨(some 60), .move (.tmp 12), none, [], false, false⟩,
                        ⟨(some 61), .move (.tmp 15), none, [], false, false⟩,
                        ⟨(some 62), .move (.tmp 12), none, [], false, false⟩,
                        ⟨(some 63), .move (.tmp 15), none, [], false, false⟩,
                        ⟨(some 64), .indexAddr none 1 (.tmp 62) (.tmp 63), none, [], false, false⟩,
                        ⟨(some 65), .load false 1 (.tmp 64), none, [], false, false⟩,
                        ⟨(some 66), .move (.tmp 12), none, [], false, false⟩,
                        ⟨(some 67), .move (.tmp 15), none, [], false, false⟩,
                        ⟨(some 68), .bin .sub (.tmp 67) (.const (.int .i64 1)), none, [], false, false⟩,
                        ⟨(some 69), .indexAddr none 1 (.tmp 66) (.tmp 68), none, [], false, false⟩,
                        ⟨(some 70), .load false 1 (.tmp 69), none, [], false, false⟩,
                        ⟨(some 71), .fieldAddr 0 (.tmp 3), none, [], false, false⟩,
                        ⟨(some 72), .load false 1 (.tmp 71), none, [], false, false⟩,
                        ⟨(some 73), .bin .sub (.tmp 70) (.tmp 72), none, [], false, false⟩,
                        ⟨(some 74), .min [(.tmp 65), (.tmp 73)], none, [], false, false⟩,
                        ⟨(some 75), .indexAddr none 1 (.tmp 60) (.tmp 61), none, [], false, false⟩,
                        ⟨none, .store 1 (.tmp 75) (.tmp 74), none, [], false, false⟩])
                     (.region true [⟨(some 76), .move (.tmp 12), none, [], false, false⟩,
                        ⟨(some 77), .move (.tmp 15), none, [], false, false⟩,
                        ⟨(some 78), .bin .sub (.tmp 77) (.const (.int .i64 1)), none, [], false, false⟩,
                        ⟨(some 79), .move (.tmp 12), none, [], false, false⟩,
                        ⟨(some 80), .move (.tmp 15), none, [], false, false⟩,
                        ⟨(some 81), .bin .sub (.tmp 80) (.const (.int .i64 1)), none, [], false, false⟩,
                        ⟨(some 82), .indexAddr none 1 (.tmp 79) (.tmp 81), none, [], false, false⟩,
                        ⟨(some 83), .load false 1 (.tmp 82), none, [], false, false⟩,
                        ⟨(some 84), .move (.tmp 12), none, [], false, false⟩,
                        ⟨(some 85), .move (.tmp 15), none, [], false, false⟩,
                        ⟨(some 86), .indexAddr none 1 (.tmp 84) (.tmp 85), none, [], false, false⟩,
                        ⟨(some 87), .load false 1 (.tmp 86), none, [], false, false⟩,
                        ⟨(some 88), .fieldAddr 1 (.tmp 3), none, [], false, false⟩,
                        ⟨(some 89), .load false 1 (.tmp 88), none, [], false, false⟩,
                        ⟨(some 90), .bin .add (.tmp 87) (.tmp 89), none, [], false, false⟩,
                        ⟨(some 91), .min [(.tmp 83), (.tmp 90)], none, [], false, false⟩,
                        ⟨(some 92), .indexAddr none 1 (.tmp 76) (.tmp 78), none, [], false, false⟩,
                        ⟨none, .store 1 (.tmp 92) (.tmp 91), none, [], false, false⟩])))
                   (.region false [⟨(some 58), .move (.tmp 15), none, [], false, false⟩,
                      ⟨(some 59), .bin .add (.tmp 58) (.const (.int .i64 1)), none, [], false, false⟩,
                      ⟨(some 15), .move (.tmp 59), none, [], false, false⟩])))))))
             (.region false [⟨(some 93), .bin .add (.tmp 52) (.const (.int .i64 1)), none, [], false, false⟩,
                ⟨(some 52), .move (.tmp 93), none, [], false, false⟩])))))))
       (.seq (.region false [⟨(some 94), .move (.tmp 12), none, [], false, false⟩,
           ⟨(some 4), .move (.tmp 94), none, [], false, false⟩,
           ⟨(some 5), .move (.const (.slice none 0 0)), none, [], false, false⟩,
           ⟨(some 6), .move (.const (.int .i64 0)), none, [], false, false⟩])
        (.ret)))))))),
 [.tmp 4, .tmp 5, .tmp 6], .pure, 95⟩

/-- agraffe/agrafferef02.CheckLengths -/
def ef33 : EFun := ⟨
 .seq (.region false [⟨(some 3), .box (.tmp 1), none, [], false, false⟩,
    ⟨(some 4), .move (.const (.int .i64 0)), none, [], false, false⟩])
 (.seq (.seq (.region false [⟨(some 6), .move (.tmp 0), none, [], false, false⟩,
      ⟨(some 7), .len false (.tmp 6), none, [], false, false⟩,
      ⟨(some 8), .bin .gtr (.tmp 7) (.const (.int .i64 50)), none, [], false, false⟩])
   (.cond (.tmp 8) (.seq (.region false [⟨(some 4), .move (.const (.int .i64 8)), none, [], false, false⟩])
     (.ret))
    (.skip)))
  (.seq (.seq (.region false [⟨(some 5), .move (.const (.int .i64 0)), none, [], false, false⟩])
    (.block 0 (.loop (some [0, 3, 5]) (
      .seq (.seq (.region false [⟨(some 9), .move (.tmp 5), none, [], false, false⟩,
           ⟨(some 10), .move (.tmp 0), none, [], false, false⟩,
           ⟨(some 11), .len false (.tmp 10), none, [], false, false⟩,
           ⟨(some 12), .bin .lss (.tmp 9) (.tmp 11), none, [], false, false⟩])
        (.cond (.tmp 12) (.skip)
         (.exit 0)))
       (.seq (.block 1 (.seq (.region true [⟨(some 15), .move (.tmp 0), none, [], false, false⟩,
             ⟨(some 16), .move (.tmp 5), none, [], false, false⟩,
             ⟨(some 17), .indexAddr none 2 (.tmp 15) (.tmp 16), none, [], false, false⟩,
             ⟨(some 18), .fieldAddr 0 (.tmp 17), none, [], false, false⟩,
             ⟨(some 19), .load false 1 (.tmp 18), none, [], false, false⟩,
             ⟨(some 20), .move (.tmp 0), none, [], false, false⟩,
             ⟨(some 21), .move (.tmp 5), none, [], false, false⟩,
             ⟨(some 22), .indexAddr none 2 (.tmp 20) (.tmp 21), none, [], false, false⟩,
             ⟨(some 23), .fieldAddr 1 (.tmp 22), none, [], false, false⟩,
             ⟨(some 24), .load false 1 (.tmp 23), none, [], false, false⟩,
             ⟨(some 25), .call 13 [(.tmp 19), (.const (.int .i64 1000)), (.tmp 24)], none, [], false, false⟩,
             ⟨(some 26), .un .not (.tmp 25), none, [], false, false⟩,
             ⟨(some 27), .move (.tmp 26), none, [], false, false⟩,
             ⟨(some 28), .move (.tmp 0), (some (27, false)), [], false, false⟩,
             ⟨(some 29), .move (.tmp 5), (some (27, false)), [], false, false⟩,
             ⟨(some 30), .indexAddr none 2 (.tmp 28) (.tmp 29), (some (27, false)), [], false, false⟩,
             ⟨(some 31), .fieldAddr 1 (.tmp 30), (some (27, false)), [], false, false⟩,
             ⟨(some 32), .load false 1 (.tmp 31), (some (27, false)), [], false, false⟩,
             ⟨(some 33), .bin .gtr (.tmp 32) (.const (.int .i64 300000)), (some (27, false)), [], false, false⟩,
             ⟨(some 34), .pick (.tmp 27) (.const (.bool true)) (.tmp 33), none, [], false, false⟩])
          (.cond (.tmp 34) (.seq (.region false [⟨(some 4), .move (.const (.int .i64 2)), none, [], false, false⟩])
            (.ret))
           (.skip))))
        (.region false [⟨(some 13), .move (.tmp 5), none, [], false, false⟩,
           ⟨(some 14), .bin .add (.tmp 13) (.const (.int .i64 1)), none, [], false, false⟩,
           ⟨(some 5), .move (.tmp 14), none, [], false, false⟩]))))))
   (.seq (.seq (.region false [⟨(some 35), .fieldAddr 0 (.tmp 3), none, [], false, false⟩,
        ⟨(some 36), .load false 1 (.tmp 35), none, [], false, false⟩,
        ⟨(some 37), .fieldAddr 1 (.tmp 3), none, [], false, false⟩,
        ⟨(some 38), .load false 1 (.tmp 37), none, [], false, false⟩,
        ⟨(some 39), .call 13 [(.tmp 36), (.const (.int .i64 (-300000))), (.tmp 38)], none, [], false, false⟩,
        ⟨(some 40), .un .not (.tmp 39), none, [], false, false⟩,
        ⟨(some 41), .move (.tmp 40), none, [], false, false⟩,
        ⟨(some 42), .fieldAddr 1 (.tmp 3), (some (41, false)), [], false, false⟩,
        ⟨(some 43), .load false 1 (.tmp 42), (some (41, false)), [], false, false⟩,
        ⟨(some 44), .bin .gtr (.tmp 43) (.const (.int .i64 300000)), (some (41, false)), [], false, false⟩,
        ⟨(some 45), .pick (.tmp 41) (.const (.bool true)) (.tmp 44), none, [], false, false⟩])
     (.cond (.tmp 45) (.seq (.region false [⟨(some 4), .move (.const (.int .i64 2)), none, [], false, false⟩])
       (.ret))
      (.skip)))
    (.seq (.region false [⟨(some 4), .move (.const (.int .i64 0)), none, [], false, false⟩])
     (.ret))))),
 [.tmp 4], .pure, 46⟩

/-- agraffe/agraffelaw02.sameBounds -/
def ef34 : EFun := ⟨
 .seq (.region false [⟨(some 4), .move (.const (.bool false)), none, [], false, false⟩])
 (.seq (.seq (.region false [⟨(some 6), .move (.tmp 0), none, [], false, false⟩,
      ⟨(some 7), .len false (.tmp 6), none, [], false, false⟩,
      ⟨(some 8), .move (.tmp 1), none, [], false, false⟩,
      ⟨(some 9), .len false (.tmp 8), none, [], false, false⟩,
      ⟨(some 10), .bin .neq (.tmp 7) (.tmp 9), none, [], false, false⟩])
   (.cond (.tmp 10) (.seq (.region false [⟨(some 4), .move (.const (.bool false)), none, [], false, false⟩])
     (.ret))
    (.skip)))
  (.seq (.seq (.region false [⟨(some 5), .move (.const (.int .i64 0)), none, [], false, false⟩])
    (.block 0 (.loop (some [0, 1, 5]) (
      .seq (.seq (.region false [⟨(some 11), .move (.tmp 5), none, [], false, false⟩,
           ⟨(some 12), .move (.tmp 0), none, [], false, false⟩,
           ⟨(some 13), .len false (.tmp 12), none, [], false, false⟩,
           ⟨(some 14), .bin .lss (.tmp 11) (.tmp 13), none, [], false, false⟩])
        (.cond (.tmp 14) (.skip)
         (.exit 0)))
       (.seq (.block 1 (.seq (.region true [⟨(some 17), .move (.tmp 0), none, [], false, false⟩,
             ⟨(some 18), .move (.tmp 5), none, [], false, false⟩,
             ⟨(some 19), .indexAddr none 3 (.tmp 17) (.tmp 18), none, [], false, false⟩,
             ⟨(some 20), .load true 3 (.tmp 19), none, [], false, false⟩,
             ⟨(some 21), .move (.tmp 1), none, [], false, false⟩,
             ⟨(some 22), .move (.tmp 5), none, [], false, false⟩,
             ⟨(some 23), .indexAddr none 3 (.tmp 21) (.tmp 22), none, [], false, false⟩,
             ⟨(some 24), .load true 3 (.tmp 23), none, [], false, false⟩,
             ⟨(some 25), .eqAgg true [(.int .i64), (.int .i64), (.int .i64)] (.tmp 20) (.tmp 24), none, [], false, false⟩])
          (.cond (.tmp 25) (.seq (.region false [⟨(some 4), .move (.const (.bool false)), none, [], false, false⟩])
            (.ret))
           (.skip))))
        (.region false [⟨(some 15), .move (.tmp 5), none, [], false, false⟩,
           ⟨(some 16), .bin .add (.tmp 15) (.const (.int .i64 1)), none, [], false, false⟩,
           ⟨(some 5), .move (.tmp 16), none, [], false, false⟩]))))))
   (.seq (.region false [⟨(some 4), .move (.const (.bool true)), none, [], false, false⟩])
    (.ret)))),
 [.tmp 4], .pure, 26⟩

/-- agraffe/agrafferef02.LengthSystem -/
def ef35 : EFun := ⟨
 .seq (.region false [⟨(some 3), .box (.tmp 1), none, [], false, false⟩,
    ⟨(some 4), .move (.const (.slice none 0 0)), none, [], false, false⟩])
 (.seq (.region false [⟨(some 9), .move (.tmp 0), none, [], false, false⟩,
     ⟨(some 10), .len false (.tmp 9), none, [], false, false⟩,
     ⟨(some 5), .move (.tmp 10), none, [], false, false⟩])
  (.seq (.region false [⟨(some 6), .move (.const (.slice none 0 0)), none, [], false, false⟩])
   (.seq (.seq (.region false [⟨(some 7), .move (.const (.int .i64 0)), none, [], false, false⟩])
     (.block 0 (.loop (some [0, 3, 5, 6, 7]) (
       .seq (.seq (.region false [⟨(some 11), .move (.tmp 7), none, [], false, false⟩,
            ⟨(some 12), .move (.tmp 5), none, [], false, false⟩,
            ⟨(some 13), .bin .lss (.tmp 11) (.tmp 12), none, [], false, false⟩])
         (.cond (.tmp 13) (.skip)
          (.exit 0)))
        (.seq (.block 1 (.region true [⟨(some 16), .move (.tmp 6), none, [], false, false⟩,
             ⟨(some 17), .move (.tmp 5), none, [], false, false⟩,
             ⟨(some 18), .move (.tmp 7), none, [], false, false⟩,
             ⟨(some 19), .move (.tmp 0), none, [], false, false⟩,
             ⟨(some 20), .move (.tmp 7), none, [], false, false⟩,
             ⟨(some 21), .indexAddr none 2 (.tmp 19) (.tmp 20), none, [], false, false⟩,
             ⟨(some 22), .fieldAddr 1 (.tmp 21), none, [], false, false⟩,
             ⟨(some 23), .load false 1 (.tmp 22), none, [], false, false⟩,
             ⟨(some 24), .build [(.int .i64 0), (.int .i64 0), (.int .i64 0)] [(0, 1, (.tmp 17)), (1, 1, (.tmp 18)), (2, 1, (.tmp 23))], none, [], false, false⟩,
             ⟨(some 25), .move (.tmp 7), none, [], false, false⟩,
             ⟨(some 26), .move (.tmp 5), none, [], false, false⟩,
             ⟨(some 27), .move (.tmp 0), none, [], false, false⟩,
             ⟨(some 28), .move (.tmp 7), none, [], false, false⟩,
             ⟨(some 29), .indexAddr none 2 (.tmp 27) (.tmp 28), none, [], false, false⟩,
             ⟨(some 30), .fieldAddr 0 (.tmp 29), none, [], false, false⟩,
             ⟨(some 31), .load false 1 (.tmp 30), none, [], false, false⟩,
             ⟨(some 32), .un .neg (.tmp 31), none, [], false, false⟩,
             ⟨(some 33), .build [(.int .i64 0), (.int .i64 0), (.int .i64 0)] [(0, 1, (.tmp 25)), (1, 1, (.tmp 26)), (2, 1, (.tmp 32))], none, [], false, false⟩,
             ⟨(some 34), .buildSlice 3 2 [(.int .i64 0), (.int .i64 0), (.int .i64 0), (.int .i64 0), (.int .i64 0), (.int .i64 0)] [(0, 3, (.tmp 24)), (3, 3, (.tmp 33))], none, [], false, false⟩,
             ⟨(some 35), .append 3 24 (.tmp 16) (.tmp 34), none, [], false, false⟩,
             ⟨(some 6), .move (.tmp 35), none, [], false, false⟩]))
         (.region false [⟨(some 14), .move (.tmp 7), none, [], false, false⟩,
            ⟨(some 15), .bin .add (.tmp 14) (.const (.int .i64 1)), none, [], false, false⟩,
            ⟨(some 7), .move (.tmp 15), none, [], false, false⟩]))))))
    (.seq (.seq (.region false [⟨(some 8), .move (.const (.int .i64 0)), none, [], false, false⟩])
      (.block 2 (.loop (some [3, 5, 6, 8]) (
        .seq (.seq (.region false [⟨(some 36), .move (.tmp 8), none, [], false, false⟩,
             ⟨(some 37), .bin .add (.tmp 36) (.const (.int .i64 1)), none, [], false, false⟩,
             ⟨(some 38), .move (.tmp 5), none, [], false, false⟩,
             ⟨(some 39), .bin .lss (.tmp 37) (.tmp 38), none, [], false, false⟩])
          (.cond (.tmp 39) (.skip)
           (.exit 2)))
         (.seq (.block 3 (.region false [⟨(some 42), .move (.tmp 6), none, [], false, false⟩,
              ⟨(some 43), .move (.tmp 8), none, [], false, false⟩,
              ⟨(some 44), .move (.tmp 8), none, [], false, false⟩,
              ⟨(some 45), .bin .add (.tmp 44) (.const (.int .i64 1)), none, [], false, false⟩,
              ⟨(some 46), .fieldAddr 0 (.tmp 3), none, [], false, false⟩,
              ⟨(some 47), .load false 1 (.tmp 46), none, [], false, false⟩,
              ⟨(some 48), .un .neg (.tmp 47), none, [], false, false⟩,
              ⟨(some 49), .build [(.int .i64 0), (.int .i64 0), (.int .i64 0)] [(0, 1, (.tmp 43)), (1, 1, (.tmp 45)), (2, 1, (.tmp 48))], none, [], false, false⟩,
              ⟨(some 50), .move (.tmp 8), none, [], false, false⟩,
              ⟨(some 51), .bin .add (.tmp 50) (.const (.int .i64 1)), none, [], false, false⟩,
              ⟨(some 52), .move (.tmp 8), none, [], false, false⟩,
              ⟨(some 53), .fieldAddr 1 (.tmp 3), none, [], false, false⟩,
              ⟨(some 54), .load false 1 (.tmp 53), none, [], false, false⟩,
              ⟨(some 55), .build [(.int .i64 0), (.int .i64 0), (.int .i64 0)] [(0, 1, (.tmp 51)), (1, 1, (.tmp 52)), (2, 1, (.tmp 54))], none, [], false, false⟩,
              ⟨(some 56), .buildSlice 3 2 [(.int .i64 0), (.int .i64 0), (.int .i64 0), (.int .i64 0), (.int .i64 0), (.int .i64 0)] [(0, 3, (.tmp 49)), (3, 3, (.tmp 55))], none, [], false, false⟩,
              ⟨(some 57), .append 3 24 (.tmp 42) (.tmp 56), none, [], false, false⟩,
              ⟨(some 6), .move (.tmp 57), none, [], false, false⟩]))
          (.region false [⟨(some 40), .move (.tmp 8), none, [], false, false⟩,
             ⟨(some 41), .bin .add (.tmp 40) (.const (.int .i64 1)), none, [], false, false⟩,
             ⟨(some 8), .move (.tmp 41), none, [], false, false⟩]))))))
     (.seq (.region false [⟨(some 58), .move (.tmp 6), none, [], false, false⟩,
         ⟨(some 4), .move (.tmp 58), none, [], false, false⟩])
      (.ret)))))),
 [.tmp 4], .pure, 59⟩

/-- agraffe/agrafferef02.SmoothLengths -/
def ef36 : EFun := ⟨
 .seq (.region false [⟨(some 3), .box (.tmp 1), none, [], false, false⟩,
    ⟨(some 4), .move (.const (.slice none 0 0)), none, [], false, false⟩,
    ⟨(some 5), .move (.const (.bool false)), none, [], false, false⟩])
 (.seq (.region false [⟨(some 6), .move (.const (.slice none 0 0)), none, [], false, false⟩])
  (.seq (.seq (.region false [⟨(some 7), .move (.const (.int .i64 0)), none, [], false, false⟩])
    (.block 0 (.loop (some [0, 3, 6, 7]) (
      .seq (.seq (.region false [⟨(some 11), .move (.tmp 7), none, [], false, false⟩,
           ⟨(some 12), .move (.tmp 0), none, [], false, false⟩,
           ⟨(some 13), .len false (.tmp 12), none, [], false, false⟩,
           ⟨(some 14), .bin .lss (.tmp 11) (.tmp 13), none, [], false, false⟩])
        (.cond (.tmp 14) (.skip)
         (.exit 0)))
       (.seq (.block 1 (.region false [⟨(some 17), .move (.tmp 6), none, [], false, false⟩,
            ⟨(some 18), .move (.tmp 0), none, [], false, false⟩,
            ⟨(some 19), .move (.tmp 7), none, [], false, false⟩,
            ⟨(some 20), .indexAddr none 2 (.tmp 18) (.tmp 19), none, [], false, false⟩,
            ⟨(some 21), .fieldAddr 1 (.tmp 20), none, [], false, false⟩,
            ⟨(some 22), .load false 1 (.tmp 21), none, [], false, false⟩,
            ⟨(some 23), .buildSlice 1 1 [(.int .i64 0)] [(0, 1, (.tmp 22))], none, [], false, false⟩,
            ⟨(some 24), .append 1 8 (.tmp 17) (.tmp 23), none, [], false, false⟩,
            ⟨(some 6), .move (.tmp 24), none, [], false, false⟩]))
        (.region false [⟨(some 15), .move (.tmp 7), none, [], false, false⟩,
           ⟨(some 16), .bin .add (.tmp 15) (.const (.int .i64 1)), none, [], false, false⟩,
           ⟨(some 7), .move (.tmp 16), none, [], false, false⟩]))))))
   (.seq (.seq (.region false [⟨(some 8), .move (.const (.int .i64 0)), none, [], false, false⟩])
     (.block 2 (.loop (some [0, 3, 6, 8]) (
       .seq (.seq (.region false [⟨(some 25), .move (.tmp 8), none, [], false, false⟩,
            ⟨(some 26), .move (.tmp 6), none, [], false, false⟩,
            ⟨(some 27), .len false (.tmp 26), none, [], false, false⟩,
            ⟨(some 28), .bin .leq (.tmp 25) (.tmp 27), none, [], false, false⟩])
         (.cond (.tmp 28) (.skip)
          (.exit 2)))
        (.seq (.block 3 (.seq (.region false [⟨(some 9), .move (.const (.int .i64 0)), none, [], false, false⟩])
           (.block 4 (.loop (some [0, 3, 6, 8, 9]) (
             .seq (.seq (.region false [⟨(some 31), .move (.tmp 9), none, [], false, false⟩,
                  ⟨(some 32), .bin .add (.tmp 31) (.const (.int .i64 1)), none, [], false, false⟩,
                  ⟨(some 33), .move (.tmp 6), none, [], false, false⟩,
                  ⟨(some 34), .len false (.tmp 33), none, [], false, false⟩,
                  ⟨(some 35), .bin .lss (.tmp 32) (.tmp 34), none, [], false, false⟩])
               (.cond (.tmp 35) (.skip)
                (.exit 4)))
              (.seq (.block 5 (.seq (.region true [⟨(some 38), .move (.tmp 6), none, [], false, false⟩,
                    ⟨(some 39), .move (.tmp 9), none, [], false, false⟩,
                    ⟨(some 40), .bin .add (.tmp 39) (.const (.int .i64 1)), none, [], false, false⟩,
                    ⟨(some 41), .move (.tmp 6), none, [], false, false⟩,
                    ⟨(some 42), .move (.tmp 9), none, [], false, false⟩,
                    ⟨(some 43), .bin .add (.tmp 42) (.const (.int .i64 1)), none, [], false, false⟩,
                    ⟨(some 44), .indexAddr none 1 (.tmp 41) (.tmp 43), none, [], false, false⟩,
                    ⟨(some 45), .load false 1 (.tmp 44), none, [], false, false⟩,
                    ⟨(some 46), .move (.tmp 6), none, [], false, false⟩,
                    ⟨(some 47), .move (.tmp 9), none, [], false, false⟩,
                    ⟨(some 48), .indexAddr none 1 (.tmp 46) (.tmp 47), none, [], false, false⟩,
                    ⟨(some 49), .load false 1 (.tmp 48), none, [], false, false⟩,
                    ⟨(some 50), .fieldAddr 0 (.tmp 3), none, [], false, false⟩,
                    ⟨(some 51), .load false 1 (.tmp 50), none, [], false, false⟩,
                    ⟨(some 52), .bin .sub (.tmp 49) (.tmp 51), none, [], false, false⟩,
                    ⟨(some 53), .min [(.tmp 45), (.tmp 52)], none, [], false, false⟩,
                    ⟨(some 54), .indexAddr none 1 (.tmp 38) (.tmp 40), none, [], false, false⟩,
                    ⟨none, .store 1 (.tmp 54) (.tmp 53), none, [], false, false⟩])
                 (.region true [⟨(some 55), .move (.tmp 6), none, [], false, false⟩,
                    ⟨(some 56), .move (.tmp 9), none, [], false, false⟩,
                    ⟨(some 57), .move (.tmp 6), none, [], false, false⟩,
                    ⟨(some 58), .move (.tmp 9), none, [], false, false⟩,
                    ⟨(some 59), .indexAddr none 1 (.tmp 57) (.tmp 58), none, [], false, false⟩,
                    ⟨(some 60), .load false 1 (.tmp 59), none, [], false, false⟩,
                    ⟨(some 61), .move (.tmp 6), none, [], false, false⟩,
                    ⟨(some 62), .move (.tmp 9), none, [], false, false⟩,
                    ⟨(some 63), .bin .add (.tmp 62) (.const (.int .i64 1)), none, [], false, false⟩,
                    ⟨(some 64), .indexAddr none 1 (.tmp 61) (.tmp 63), none, [], false, false⟩,
                    ⟨(some 65), .load false 1 (.tmp 64), none, [], false, false⟩,
                    ⟨(some 66), .fieldAddr 1 (.tmp 3), none, [], false, false⟩,
                    ⟨(some 67), .load false 1 (.tmp 66), none, [], false, false⟩,
                    ⟨(some 68), .bin .add (.tmp 65) (.tmp 67), none, [], false, false⟩,
                    ⟨(some 69), .min [(.tmp 60), (.tmp 68)], none, [], false, false⟩,
                    ⟨(some 70), .indexAddr none 1 (.tmp 55) (.tmp 56), none, [], false, false⟩,
                    ⟨none, .store 1 (.tmp 70) (.tmp 69), none, [], false, false⟩])))
               (.region false [⟨(some 36), .move (.tmp 9), none, [], false, false⟩,
                  ⟨(some 37), .bin .add (.tmp 36) (.const (.int .i64 1)), none, [], false, false⟩,
                  ⟨(some 9), .move (.tmp 37), none, [], false, false⟩])))))))
         (.region false [⟨(some 29), .move (.tmp 8), none, [], false, false⟩,
            ⟨(some 30), .bin .add (.tmp 29) (.const (.int .i64 1)), none, [], false, false⟩,
            ⟨(some 8), .move (.tmp 30), none, [], false, false⟩]))))))
    (.seq (.seq (.region false [⟨(some 10), .move (.const (.int .i64 0)), none, [], false, false⟩])
      (.block 6 (.loop (some [0, 3, 6, 10]) (
        .seq (.seq (.region false [⟨(some 71), .move (.tmp 10), none, [], false, false⟩,
             ⟨(some 72), .move (.tmp 6), none, [], false, false⟩,
             ⟨(some 73), .len false (.tmp 72), none, [], false, false⟩,
             ⟨(some 74), .bin .lss (.tmp 71) (.tmp 73), none, [], false, false⟩])
          (.cond (.tmp 74) (.skip)
           (.exit 6)))
         (.seq (.block 7 (.seq (.region true [⟨(some 77), .move (.tmp 6), none, [], false, false⟩,
               ⟨(some 78), .move (.tmp 10), none, [], false, false⟩,
               ⟨(some 79), .indexAddr none 1 (.tmp 77) (.tmp 78), none, [], false, false⟩,
               ⟨(some 80), .load false 1 (.tmp 79), none, [], false, false⟩,
               ⟨(some 81), .move (.tmp 0), none, [], false, false⟩,
               ⟨(some 82), .move (.tmp 10), none, [], false, false⟩,
               ⟨(some 83), .indexAddr none 2 (.tmp 81) (.tmp 82), none, [], false, false⟩,
               ⟨(some 84), .fieldAddr 0 (.tmp 83), none, [], false, false⟩,
               ⟨(some 85), .load false 1 (.tmp 84), none, [], false, false⟩,
               ⟨(some 86), .bin .lss (.tmp 80) (.tmp 85), none, [], false, false⟩,
               ⟨(some 87), .move (.tmp 86), none, [], false, false⟩,
               ⟨(some 88), .move (.tmp 10), (some (87, false)), [], false, false⟩,
               ⟨(some 89), .bin .gtr (.tmp 88) (.const (.int .i64 0)), (some (87, false)), [], false, false⟩,
               ⟨(some 90), .move (.tmp 89), (some (87, false)), [], false, false⟩,
               ⟨(some 91), .move (.tmp 6), (some (90, true)), [], false, false⟩,
               ⟨(some 92), .move (.tmp 10), (some (90, true)), [], false, false⟩,
               ⟨(some 93), .bin .sub (.tmp 92) (.const (.int .i64 1)), (some (90, true)), [], false, false⟩,
               ⟨(some 94), .indexAddr none 1 (.tmp 91) (.tmp 93), (some (90, true)), [], false, false⟩,
               ⟨(some 95), .load false 1 (.tmp 94), (some (90, true)), [], false, false⟩,
               ⟨(some 96), .move (.tmp 6), (some (90, true)), [], false, false⟩,
               ⟨(some 97), .move (.tmp 10), (some (90, true)), [], false, false⟩,
               ⟨(some 98), .indexAddr none 1 (.tmp 96) (.tmp 97), (some (90, true)), [], false, false⟩,
               ⟨(some 99), .load false 1 (.tmp 98), (some (90, true)), [], false, false⟩,
               ⟨(some 100), .bin .sub (.tmp 95) (.tmp 99), (some (90, true)), [], false, false⟩,
               ⟨(some 101), .fieldAddr 0 (.tmp 3), (some (90, true)), [], false, false⟩,
               ⟨(some 102), .load false 1 (.tmp 101), (some (90, true)), [], false, false⟩,
               ⟨(some 103), .fieldAddr 1 (.tmp 3), (some (90, true)), [], false, false⟩,
               ⟨(some 104), .load false 1 (.tmp 103), (some (90, true)), [], false, false⟩,
               ⟨(some 105), .call 13 [(.tmp 100), (.tmp 102), (.tmp 104)], (some (90, true)), [], false, false⟩,
               ⟨(some 106), .un .not (.tmp 105), (some (90, true)), [], false, false⟩,
               ⟨(some 107), .pick (.tmp 90) (.tmp 106) (.const (.bool false)), (some (87, false)), [], false, false⟩,
               ⟨(some 108), .pick (.tmp 87) (.const (.bool true)) (.tmp 107), none, [], false, false⟩])
            (.cond (.tmp 108) (.seq (.region false [⟨(some 4), .move (.const (.slice none 0 0)), none, [], false, false⟩,
                 ⟨(some 5), .move (.const (.bool false)), none, [], false, false⟩])
              (.ret))
             (.skip))))
          (.region false [⟨(some 75), .move (.tmp 10), none, [], false, false⟩,
             ⟨(some 76), .bin .add (.tmp 75) (.const (.int .i64 1)), none, [], false, false⟩,
             ⟨(some 10), .move (.tmp 76), none, [], false, false⟩]))))))
     (.seq (.region false [⟨(some 109), .move (.tmp 6), none, [], false, false⟩,
         ⟨(some 4), .move (.tmp 109), none, [], false, false⟩,
         ⟨(some 5), .move (.const (.bool true)), none, [], false, false⟩])
      (.ret)))))),
 [.tmp 4, .tmp 5], .pure, 110⟩

/-- agraffe/agraffebase.Ints -/
def ef37 : EFun := ⟨
 .seq (.region false [⟨(some 4), .move (.const (.bool false)), none, [], false, false⟩])
 (.seq (.seq (.region false [⟨(some 6), .move (.tmp 0), none, [], false, false⟩,
      ⟨(some 7), .len false (.tmp 6), none, [], false, false⟩,
      ⟨(some 8), .move (.tmp 1), none, [], false, false⟩,
      ⟨(some 9), .len false (.tmp 8), none, [], false, false⟩,
      ⟨(some 10), .bin .neq (.tmp 7) (.tmp 9), none, [], false, false⟩])
   (.cond (.tmp 10) (.seq (.region false [⟨(some 4), .move (.const (.bool false)), none, [], false, false⟩])
     (.ret))
    (.skip)))
  (.seq (.seq (.region false [⟨(some 5), .move (.const (.int .i64 0)), none, [], false, false⟩])
    (.block 0 (.loop (some [0, 1, 5]) (
      .seq (.seq (.region false [⟨(some 11), .move (.tmp 5), none, [], false, false⟩,
           ⟨(some 12), .move (.tmp 0), none, [], false, false⟩,
           ⟨(some 13), .len false (.tmp 12), none, [], false, false⟩,
           ⟨(some 14), .bin .lss (.tmp 11) (.tmp 13), none, [], false, false⟩])
        (.cond (.tmp 14) (.skip)
         (.exit 0)))
       (.seq (.block 1 (.seq (.region true [⟨(some 17), .move (.tmp 0), none, [], false, false⟩,
             ⟨(some 18), .move (.tmp 5), none, [], false, false⟩,
             ⟨(some 19), .indexAddr none 1 (.tmp 17) (.tmp 18), none, [], false, false⟩,
             ⟨(some 20), .load false 1 (.tmp 19), none, [], false, false⟩,
             ⟨(some 21), .move (.tmp 1), none, [], false, false⟩,
             ⟨(some 22), .move (.tmp 5), none, [], false, false⟩,
             ⟨(some 23), .indexAddr none 1 (.tmp 21) (.tmp 22), none, [], false, false⟩,
             ⟨(some 24), .load false 1 (.tmp 23), none, [], false, false⟩,
             ⟨(some 25), .bin .neq (.tmp 20) (.tmp 24), none, [], false, false⟩])
          (.cond (.tmp 25) (.seq (.region false [⟨(some 4), .move (.const (.bool false)), none, [], false, false⟩])
            (.ret))
           (.skip))))
        (.region false [⟨(some 15), .move (.tmp 5), none, [], false, false⟩,
           ⟨(some 16), .bin .add (.tmp 15) (.const (.int .i64 1)), none, [], false, false⟩,
           ⟨(some 5), .move (.tmp 16), none, [], false, false⟩]))))))
   (.seq (.region false [⟨(some 4), .move (.const (.bool true)), none, [], false, false⟩])
    (.ret)))),
 [.tmp 4], .pure, 26⟩

/-- agraffe/number.CheckCircle -/
def ef38 : EFun := ⟨
 .seq (.region false [⟨(some 6), .move (.const (.int .i64 0)), none, [], false, false⟩,
    ⟨(some 7), .move (.const (.int .i64 0)), none, [], false, false⟩])
 (.seq (.seq (.region false [⟨(some 15), .move (.tmp 0), none, [], false, false⟩,
      ⟨(some 16), .move (.tmp 1), none, [], false, false⟩,
      ⟨(some 17), .call 60 [(.tmp 15), (.tmp 16)], none, [], false, false⟩,
      ⟨(some 8), .move (.tmp 17), none, [], false, false⟩])
   (.seq (.region false [⟨(some 18), .move (.tmp 8), none, [], false, false⟩,
       ⟨(some 19), .bin .neq (.tmp 18) (.const (.int .i64 0)), none, [], false, false⟩])
    (.cond (.tmp 19) (.seq (.region false [⟨(some 20), .move (.tmp 8), none, [], false, false⟩,
         ⟨(some 6), .move (.const (.int .i64 0)), none, [], false, false⟩,
         ⟨(some 7), .move (.tmp 20), none, [], false, false⟩])
      (.ret))
     (.skip))))
  (.seq (.seq (.region false [⟨(some 21), .move (.tmp 2), none, [], false, false⟩,
       ⟨(some 22), .len false (.tmp 21), none, [], false, false⟩,
       ⟨(some 23), .call 61 [(.tmp 22), (.const (.int .i64 1)), (.const (.int .i64 60))], none, [], false, false⟩,
       ⟨(some 24), .un .not (.tmp 23), none, [], false, false⟩])
    (.cond (.tmp 24) (.seq (.region false [⟨(some 6), .move (.const (.int .i64 0)), none, [], false, false⟩,
         ⟨(some 7), .move (.const (.int .i64 10)), none, [], false, false⟩])
      (.ret))
     (.skip)))
   (.seq (.seq (.region false [⟨(some 25), .move (.tmp 2), none, [], false, false⟩,
        ⟨(some 26), .len false (.tmp 25), none, [], false, false⟩,
        ⟨(some 27), .move (.const (.int .i64 0)), none, [], false, false⟩])
     (.block 0 (.loop (some [1, 2, 25, 26, 27]) (
       .seq (.region false [⟨(some 28), .bin .lss (.tmp 27) (.tmp 26), none, [], false, false⟩])
        (.seq (.cond (.tmp 28) (.skip)
          (.exit 0))
         (.seq (.block 1 (.seq (.region false [⟨(some 29), .indexAddr none 1 (.tmp 25) (.tmp 27), none, [], false, false⟩,
               ⟨(some 30), .load false 1 (.tmp 29), none, [], false, false⟩,
               ⟨(some 10), .move (.tmp 30), none, [], false, false⟩])
            (.seq (.region false [⟨(some 31), .move (.tmp 10), none, [], false, false⟩,
                ⟨(some 32), .move (.tmp 1), none, [], false, false⟩,
                ⟨(some 33), .len false (.tmp 32), none, [], false, false⟩,
                ⟨(some 34), .bin .sub (.tmp 33) (.const (.int .i64 1)), none, [], false, false⟩,
                ⟨(some 35), .call 61 [(.tmp 31), (.const (.int .i64 0)), (.tmp 34)], none, [], false, false⟩,
                ⟨(some 36), .un .not (.tmp 35), none, [], false, false⟩])
             (.cond (.tmp 36) (.seq (.region false [⟨(some 6), .move (.const (.int .i64 0)), none, [], false, false⟩,
                  ⟨(some 7), .move (.const (.int .i64 6)), none, [], false, false⟩])
               (.ret))
              (.skip)))))
          (.region false [⟨(some 37), .bin .add (.tmp 27) (.const (.int .i64 1)), none, [], false, false⟩,
             ⟨(some 27), .move (.tmp 37), none, [], false, false⟩])))))))
    (.seq (.region true [⟨(some 38), .move (.tmp 2), none, [], false, false⟩,
        ⟨(some 39), .move (.tmp 2), none, [], false, false⟩,
        ⟨(some 40), .len false (.tmp 39), none, [], false, false⟩,
        ⟨(some 41), .bin .sub (.tmp 40) (.const (.int .i64 1)), none, [], false, false⟩,
        ⟨(some 42), .indexAddr none 1 (.tmp 38) (.tmp 41), none, [], false, false⟩,
        ⟨(some 43), .load false 1 (.tmp 42), none, [], false, false⟩,
        ⟨(some 11), .move (.const (.int .i64 0)), none, [], false, false⟩,
        ⟨(some 12), .move (.tmp 43), none, [], false, false⟩])
     (.seq (.seq (.region false [⟨(some 44), .move (.tmp 2), none, [], false, false⟩,
          ⟨(some 45), .len false (.tmp 44), none, [], false, false⟩,
          ⟨(some 46), .move (.const (.int .i64 0)), none, [], false, false⟩])
       (.block 2 (.loop (some [1, 11, 12, 44, 45, 46]) (
         .seq (.region false [⟨(some 47), .bin .lss (.tmp 46) (.tmp 45), none, [], false, false⟩])
          (.seq (.cond (.tmp 47) (.skip)
            (.exit 2))
           (.seq (.block 3 (.seq (.region false [⟨(some 48), .indexAddr none 1 (.tmp 44) (.tmp 46), none, [], false, false⟩,
                 ⟨(some 49), .load false 1 (.tmp 48), none, [], false, false⟩,
                 ⟨(some 14), .move (.tmp 49), none, [], false, false⟩])
              (.seq (.seq (.region true [⟨(some 50), .move (.tmp 1), none, [], false, false⟩,
                   ⟨(some 51), .move (.tmp 14), none, [], false, false⟩,
                   ⟨(some 52), .indexAddr none 3 (.tmp 50) (.tmp 51), none, [], false, false⟩,
                   ⟨(some 53), .fieldAddr 0 (.tmp 52), none, [], false, false⟩,
                   ⟨(some 54), .load false 1 (.tmp 53), none, [], false, false⟩,
                   ⟨(some 55), .move (.tmp 1), none, [], false, false⟩,
                   ⟨(some 56), .move (.tmp 12), none, [], false, false⟩,
                   ⟨(some 57), .indexAddr none 3 (.tmp 55) (.tmp 56), none, [], false, false⟩,
                   ⟨(some 58), .fieldAddr 1 (.tmp 57), none, [], false, false⟩,
                   ⟨(some 59), .load false 1 (.tmp 58), none, [], false, false⟩,
                   ⟨(some 60), .bin .neq (.tmp 54) (.tmp 59), none, [], false, false⟩])
                (.cond (.tmp 60) (.seq (.region false [⟨(some 6), .move (.const (.int .i64 0)), none, [], false, false⟩,
                     ⟨(some 7), .move (.const (.int .i64 25)), none, [], false, false⟩])
                  (.ret))
                 (.skip)))
               (.region false [⟨(some 61), .move (.tmp 11), none, [], false, false⟩,
                  ⟨(some 62), .move (.tmp 1), none, [], false, false⟩,
                  ⟨(some 63), .move (.tmp 14), none, [], false, false⟩,
                  ⟨(some 64), .indexAddr none 3 (.tmp 62) (.tmp 63), none, [], false, false⟩,
                  ⟨(some 65), .fieldAddr 2 (.tmp 64), none, [], false, false⟩,
                  ⟨(some 66), .load false 1 (.tmp 65), none, [], false, false⟩,
                  ⟨(some 67), .bin .add (.tmp 61) (.tmp 66), none, [], false, false⟩,
                  ⟨(some 68), .move (.tmp 14), none, [], false, false⟩,
                  ⟨(some 11), .move (.tmp 67), none, [], false, false⟩,
                  ⟨(some 12), .move (.tmp 68), none, [], false, false⟩]))))
            (.region false [⟨(some 69), .bin .add (.tmp 46) (.const (.int .i64 1)), none, [], false, false⟩,
               ⟨(some 46), .move (.tmp 69), none, [], false, false⟩])))))))
      (.seq (.seq (.region false [⟨(some 70), .move (.tmp 11), none, [], false, false⟩,
           ⟨(some 71), .bin .geq (.tmp 70) (.const (.int .i64 0)), none, [], false, false⟩])
        (.cond (.tmp 71) (.seq (.region false [⟨(some 6), .move (.const (.int .i64 0)), none, [], false, false⟩,
             ⟨(some 7), .move (.const (.int .i64 22)), none, [], false, false⟩])
          (.ret))
         (.skip)))
       (.seq (.region false [⟨(some 72), .move (.tmp 11), none, [], false, false⟩,
           ⟨(some 6), .move (.tmp 72), none, [], false, false⟩,
           ⟨(some 7), .move (.const (.int .i64 0)), none, [], false, false⟩])
        (.ret)))))))),
 [.tmp 6, .tmp 7], .pure, 73⟩

/-- agraffe/agraffebase.CopyInts -/
def ef39 : EFun := ⟨
 .seq (.region false [⟨(some 2), .move (.const (.slice none 0 0)), none, [], false, false⟩])
 (.seq (.region false [⟨(some 3), .buildSlice 1 0 [] [], none, [], false, false⟩,
     ⟨(some 4), .move (.tmp 0), none, [], false, false⟩,
     ⟨(some 5), .append 1 8 (.tmp 3) (.tmp 4), none, [], false, false⟩,
     ⟨(some 2), .move (.tmp 5), none, [], false, false⟩])
  (.ret)),
 [.tmp 2], .pure, 6⟩

/-- agraffe/scale.ClassOf -/
def ef40 : EFun := ⟨
 .seq (.region false [⟨(some 3), .box (.tmp 1), none, [], false, false⟩,
    ⟨(some 4), .move (.const (.int .i64 0)), none, [], false, false⟩,
    ⟨(some 5), .move (.const (.int .i64 0)), none, [], false, false⟩])
 (.seq (.seq (.region false [⟨(some 10), .move (.tmp 0), none, [], false, false⟩,
      ⟨(some 11), .len false (.tmp 10), none, [], false, false⟩,
      ⟨(some 12), .bin .gtr (.tmp 11) (.const (.int .i64 20)), none, [], false, false⟩])
   (.cond (.tmp 12) (.seq (.region false [⟨(some 4), .move (.const (.int .i64 0)), none, [], false, false⟩,
        ⟨(some 5), .move (.const (.int .i64 8)), none, [], false, false⟩])
     (.ret))
    (.skip)))
  (.seq (.seq (.region false [⟨(some 13), .move (.tmp 0), none, [], false, false⟩,
       ⟨(some 14), .len false (.tmp 13), none, [], false, false⟩,
       ⟨(some 15), .move (.const (.int .i64 0)), none, [], false, false⟩])
    (.block 0 (.loop (some [0, 3, 13, 14, 15]) (
      .seq (.region false [⟨(some 16), .bin .lss (.tmp 15) (.tmp 14), none, [], false, false⟩])
       (.seq (.cond (.tmp 16) (.skip)
         (.exit 0))
        (.seq (.block 1 (.seq (.region false [⟨(some 17), .move (.tmp 15), none, [], false, false⟩,
              ⟨(some 18), .indexAddr none 1 (.tmp 13) (.tmp 15), none, [], false, false⟩,
              ⟨(some 19), .load false 1 (.tmp 18), none, [], false, false⟩,
              ⟨(some 6), .move (.tmp 17), none, [], false, false⟩,
              ⟨(some 7), .move (.tmp 19), none, [], false, false⟩])
           (.block 2 (.seq (.region false [⟨(some 21), .move (.tmp 7), none, [], false, false⟩,
                ⟨(some 22), .call 48 [(.tmp 21), (.const (.int .i64 1)), (.const (.int .i64 1000000000000000))], none, [], false, false⟩,
                ⟨(some 23), .un .not (.tmp 22), none, [], false, false⟩,
                ⟨(some 20), .move (.tmp 23), none, [], false, false⟩])
             (.cond (.tmp 20) (.seq (.region false [⟨(some 4), .move (.const (.int .i64 0)), none, [], false, false⟩,
                  ⟨(some 5), .move (.const (.int .i64 2)), none, [], false, false⟩])
               (.ret))
              (.seq (.region false [⟨(some 25), .move (.tmp 6), none, [], false, false⟩,
                  ⟨(some 26), .bin .gtr (.tmp 25) (.const (.int .i64 0)), none, [], false, false⟩,
                  ⟨(some 27), .move (.tmp 26), none, [], false, false⟩,
                  ⟨(some 28), .move (.tmp 7), (some (27, true)), [], false, false⟩,
                  ⟨(some 29), .move (.tmp 0), (some (27, true)), [], false, false⟩,
                  ⟨(some 30), .move (.tmp 6), (some (27, true)), [], false, false⟩,
                  ⟨(some 31), .bin .sub (.tmp 30) (.const (.int .i64 1)), (some (27, true)), [], false, false⟩,
                  ⟨(some 32), .indexAddr none 1 (.tmp 29) (.tmp 31), (some (27, true)), [], false, false⟩,
                  ⟨(some 33), .load false 1 (.tmp 32), (some (27, true)), [], false, false⟩,
                  ⟨(some 34), .bin .leq (.tmp 28) (.tmp 33), (some (27, true)), [], false, false⟩,
                  ⟨(some 35), .pick (.tmp 27) (.tmp 34) (.const (.bool false)), none, [], false, false⟩,
                  ⟨(some 24), .move (.tmp 35), none, [], false, false⟩])
               (.cond (.tmp 24) (.seq (.region false [⟨(some 4), .move (.const (.int .i64 0)), none, [], false, false⟩,
                    ⟨(some 5), .move (.const (.int .i64 9)), none, [], false, false⟩])
                 (.ret))
                (.skip))))))))
         (.region false [⟨(some 36), .bin .add (.tmp 15) (.const (.int .i64 1)), none, [], false, false⟩,
            ⟨(some 15), .move (.tmp 36), none, [], false, false⟩])))))))
   (.seq (.seq (.region false [⟨(some 37), .fieldAddr 0 (.tmp 3), none, [], false, false⟩,
        ⟨(some 38), .load false 1 (.tmp 37), none, [], false, false⟩,
        ⟨(some 39), .fieldAddr 1 (.tmp 3), none, [], false, false⟩,
        ⟨(some 40), .load false 1 (.tmp 39), none, [], false, false⟩,
        ⟨(some 41), .bin .gtr (.tmp 38) (.tmp 40), none, [], false, false⟩,
        ⟨(some 42), .move (.tmp 41), none, [], false, false⟩,
        ⟨(some 43), .fieldAddr 0 (.tmp 3), (some (42, false)), [], false, false⟩,
        ⟨(some 44), .load false 1 (.tmp 43), (some (42, false)), [], false, false⟩,
        ⟨(some 45), .call 48 [(.tmp 44), (.const (.int .i64 0)), (.const (.int .i64 1000000000000000))], (some (42, false)), [], false, false⟩,
        ⟨(some 46), .un .not (.tmp 45), (some (42, false)), [], false, false⟩,
        ⟨(some 47), .pick (.tmp 42) (.const (.bool true)) (.tmp 46), none, [], false, false⟩,
        ⟨(some 48), .move (.tmp 47), none, [], false, false⟩,
        ⟨(some 49), .fieldAddr 1 (.tmp 3), (some (48, false)), [], false, false⟩,
        ⟨(some 50), .load false 1 (.tmp 49), (some (48, false)), [], false, false⟩,
        ⟨(some 51), .call 48 [(.tmp 50), (.const (.int .i64 0)), (.const (.int .i64 1000000000000000))], (some (48, false)), [], false, false⟩,
        ⟨(some 52), .un .not (.tmp 51), (some (48, false)), [], false, false⟩,
        ⟨(some 53), .pick (.tmp 48) (.const (.bool true)) (.tmp 52), none, [], false, false⟩])
     (.cond (.tmp 53) (.seq (.region false [⟨(some 4), .move (.const (.int .i64 0)), none, [], false, false⟩,
          ⟨(some 5), .move (.const (.int .i64 2)), none, [], false, false⟩])
       (.ret))
      (.skip)))
    (.seq (.region true [⟨(some 54), .move (.tmp 0), none, [], false, false⟩,
        ⟨(some 55), .fieldAddr 0 (.tmp 3), none, [], false, false⟩,
        ⟨(some 56), .load false 1 (.tmp 55), none, [], false, false⟩,
        ⟨(some 57), .bin .add (.tmp 56) (.const (.int .i64 1)), none, [], false, false⟩,
        ⟨(some 58), .call 62 [(.tmp 54), (.tmp 57)], none, [], false, true⟩,
        ⟨(some 59), .move (.tmp 0), none, [], false, false⟩,
        ⟨(some 60), .fieldAddr 1 (.tmp 3), none, [], false, false⟩,
        ⟨(some 61), .load false 1 (.tmp 60), none, [], false, false⟩,
        ⟨(some 62), .bin .add (.tmp 61) (.const (.int .i64 1)), none, [], false, false⟩,
        ⟨(some 63), .call 62 [(.tmp 59), (.tmp 62)], none, [], false, false⟩,
        ⟨(some 8), .move (.tmp 58), none, [], false, false⟩,
        ⟨(some 9), .move (.tmp 63), none, [], false, false⟩])
     (.seq (.seq (.region false [⟨(some 64), .move (.tmp 8), none, [], false, false⟩,
          ⟨(some 65), .move (.tmp 9), none, [], false, false⟩,
          ⟨(some 66), .bin .neq (.tmp 64) (.tmp 65), none, [], false, false⟩])
       (.cond (.tmp 66) (.seq (.region false [⟨(some 4), .move (.const (.int .i64 0)), none, [], false, false⟩,
            ⟨(some 5), .move (.const (.int .i64 12)), none, [], false, false⟩])
         (.ret))
        (.skip)))
      (.seq (.region false [⟨(some 67), .move (.tmp 8), none, [], false, false⟩,
          ⟨(some 4), .move (.tmp 67), none, [], false, false⟩,
          ⟨(some 5), .move (.const (.int .i64 0)), none, [], false, false⟩])
       (.ret))))))),
 [.tmp 4, .tmp 5], .pure, 68⟩

/-- agraffe/agrafferef02.ClassOf -/
def ef41 : EFun := ⟨
 .seq (.region false [⟨(some 3), .box (.tmp 1), none, [], false, false⟩,
    ⟨(some 4), .move (.const (.int .i64 0)), none, [], false, false⟩,
    ⟨(some 5), .move (.const (.int .i64 0)), none, [], false, false⟩])
 (.seq (.seq (.region false [⟨(some 7), .move (.tmp 0), none, [], false, false⟩,
      ⟨(some 8), .len false (.tmp 7), none, [], false, false⟩,
      ⟨(some 9), .bin .gtr (.tmp 8) (.const (.int .i64 20)), none, [], false, false⟩])
   (.cond (.tmp 9) (.seq (.region false [⟨(some 4), .move (.const (.int .i64 0)), none, [], false, false⟩,
        ⟨(some 5), .move (.const (.int .i64 8)), none, [], false, false⟩])
     (.ret))
    (.skip)))
  (.seq (.seq (.region false [⟨(some 6), .move (.const (.int .i64 0)), none, [], false, false⟩])
    (.block 0 (.loop (some [0, 3, 6]) (
      .seq (.seq (.region false [⟨(some 10), .move (.tmp 6), none, [], false, false⟩,
           ⟨(some 11), .move (.tmp 0), none, [], false, false⟩,
           ⟨(some 12), .len false (.tmp 11), none, [], false, false⟩,
           ⟨(some 13), .bin .lss (.tmp 10) (.tmp 12), none, [], false, false⟩])
        (.cond (.tmp 13) (.skip)
         (.exit 0)))
       (.seq (.block 1 (.seq (.seq (.region false [⟨(some 16), .move (.tmp 0), none, [], false, false⟩,
              ⟨(some 17), .move (.tmp 6), none, [], false, false⟩,
              ⟨(some 18), .indexAddr none 1 (.tmp 16) (.tmp 17), none, [], false, false⟩,
              ⟨(some 19), .load false 1 (.tmp 18), none, [], false, false⟩,
              ⟨(some 20), .call 13 [(.tmp 19), (.const (.int .i64 1)), (.const (.int .i64 1000000000000000))], none, [], false, false⟩,
              ⟨(some 21), .un .not (.tmp 20), none, [], false, false⟩])
           (.cond (.tmp 21) (.seq (.region false [⟨(some 4), .move (.const (.int .i64 0)), none, [], false, false⟩,
                ⟨(some 5), .move (.const (.int .i64 2)), none, [], false, false⟩])
             (.ret))
            (.skip)))
          (.seq (.region true [⟨(some 22), .move (.tmp 6), none, [], false, false⟩,
              ⟨(some 23), .bin .gtr (.tmp 22) (.const (.int .i64 0)), none, [], false, false⟩,
              ⟨(some 24), .move (.tmp 23), none, [], false, false⟩,
              ⟨(some 25), .move (.tmp 0), (some (24, true)), [], false, false⟩,
              ⟨(some 26), .move (.tmp 6), (some (24, true)), [], false, false⟩,
              ⟨(some 27), .bin .sub (.tmp 26) (.const (.int .i64 1)), (some (24, true)), [], false, false⟩,
              ⟨(some 28), .indexAddr none 1 (.tmp 25) (.tmp 27), (some (24, true)), [], false, false⟩,
              ⟨(some 29), .load false 1 (.tmp 28), (some (24, true)), [], false, false⟩,
              ⟨(some 30), .move (.tmp 0), (some (24, true)), [], false, false⟩,
              ⟨(some 31), .move (.tmp 6), (some (24, true)), [], false, false⟩,
              ⟨(some 32), .indexAddr none 1 (.tmp 30) (.tmp 31), (some (24, true)), [], false, false⟩,
              ⟨(some 33), .load false 1 (.tmp 32), (some (24, true)), [], false, false⟩,
              ⟨(some 34), .bin .geq (.tmp 29) (.tmp 33), (some (24, true)), [], false, false⟩,
              ⟨(some 35), .pick (.tmp 24) (.tmp 34) (.const (.bool false)), none, [], false, false⟩])
           (.cond (.tmp 35) (.seq (.region false [⟨(some 4), .move (.const (.int .i64 0)), none, [], false, false⟩,
                ⟨(some 5), .move (.const (.int .i64 9)), none, [], false, false⟩])
             (.ret))
            (.skip)))))
        (.region false [⟨(some 14), .move (.tmp 6), none, [], false, false⟩,
           ⟨(some 15), .bin .add (.tmp 14) (.const (.int .i64 1)), none, [], false, false⟩,
           ⟨(some 6), .move (.tmp 15), none, [], false, false⟩]))))))
   (.seq (.seq (.region false [⟨(some 36), .fieldAddr 0 (.tmp 3), none, [], false, false⟩,
        ⟨(some 37), .load false 1 (.tmp 36), none, [], false, false⟩,
        ⟨(some 38), .fieldAddr 1 (.tmp 3), none, [], false, false⟩,
        ⟨(some 39), .load false 1 (.tmp 38), none, [], false, false⟩,
        ⟨(some 40), .bin .gtr (.tmp 37) (.tmp 39), none, [], false, false⟩,
        ⟨(some 41), .move (.tmp 40), none, [], false, false⟩,
        ⟨(some 42), .fieldAddr 0 (.tmp 3), (some (41, false)), [], false, false⟩,
        ⟨(some 43), .load false 1 (.tmp 42), (some (41, false)), [], false, false⟩,
        ⟨(some 44), .call 13 [(.tmp 43), (.const (.int .i64 0)), (.const (.int .i64 1000000000000000))], (some (41, false)), [], false, false⟩,
        ⟨(some 45), .un .not (.tmp 44), (some (41, false)), [], false, false⟩,
        ⟨(some 46), .pick (.tmp 41) (.const (.bool true)) (.tmp 45), none, [], false, false⟩,
        ⟨(some 47), .move (.tmp 46), none, [], false, false⟩,
        ⟨(some 48), .fieldAddr 1 (.tmp 3), (some (47, false)), [], false, false⟩,
        ⟨(some 49), .load false 1 (.tmp 48), (some (47, false)), [], false, false⟩,
        ⟨(some 50), .call 13 [(.tmp 49), (.const (.int .i64 0)), (.const (.int .i64 1000000000000000))], (some (47, false)), [], false, false⟩,
        ⟨(some 51), .un .not (.tmp 50), (some (47, false)), [], false, false⟩,
        ⟨(some 52), .pick (.tmp 47) (.const (.bool true)) (.tmp 51), none, [], false, false⟩])
     (.cond (.tmp 52) (.seq (.region false [⟨(some 4), .move (.const (.int .i64 0)), none, [], false, false⟩,
          ⟨(some 5), .move (.const (.int .i64 2)), none, [], false, false⟩])
       (.ret))
      (.skip)))
    (.seq (.seq (.region true [⟨(some 53), .move (.tmp 0), none, [], false, false⟩,
         ⟨(some 54), .fieldAddr 0 (.tmp 3), none, [], false, false⟩,
         ⟨(some 55), .load false 1 (.tmp 54), none, [], false, false⟩,
         ⟨(some 56), .call 63 [(.tmp 53), (.tmp 55)], none, [], false, true⟩,
         ⟨(some 57), .move (.tmp 0), none, [], false, false⟩,
         ⟨(some 58), .fieldAddr 1 (.tmp 3), none, [], false, false⟩,
         ⟨(some 59), .load false 1 (.tmp 58), none, [], false, false⟩,
         ⟨(some 60), .call 63 [(.tmp 57), (.tmp 59)], none, [], false, false⟩,
         ⟨(some 61), .bin .neq (.tmp 56) (.tmp 60), none, [], false, false⟩])
      (.cond (.tmp 61) (.seq (.region false [⟨(some 4), .move (.const (.int .i64 0)), none, [], false, false⟩,
           ⟨(some 5), .move (.const (.int .i64 12)), none, [], false, false⟩])
        (.ret))
       (.skip)))
     (.seq (.region false [⟨(some 62), .move (.tmp 0), none, [], false, false⟩,
         ⟨(some 63), .fieldAddr 0 (.tmp 3), none, [], false, false⟩,
         ⟨(some 64), .load false 1 (.tmp 63), none, [], false, false⟩,
         ⟨(some 65), .call 63 [(.tmp 62), (.tmp 64)], none, [], false, false⟩,
         ⟨(some 4), .move (.tmp 65), none, [], false, false⟩,
         ⟨(some 5), .move (.const (.int .i64 0)), none, [], false, false⟩])
      (.ret)))))),
 [.tmp 4, .tmp 5], .pure, 66⟩

/-- agraffe/agraffelaw02.Steel -/
def ef42 : EFun := ⟨
 .seq (.region false [⟨(some 0), .move (.const (.slice none 0 0)), none, [], false, false⟩])
 (.seq (.region false [⟨(some 1), .build [(.string ⟨#[]⟩), (.int .i64 0), (.int .i64 0), (.int .i64 0)] [(0, 1, (.const (.string ⟨#[115, 116, 101, 101, 108]⟩))), (1, 1, (.const (.int .i64 24661))), (2, 1, (.const (.int .i64 180000))), (3, 1, (.const (.int .i64 97000000)))], none, [], false, false⟩,
     ⟨(some 2), .buildSlice 4 1 [(.string ⟨#[]⟩), (.int .i64 0), (.int .i64 0), (.int .i64 0)] [(0, 4, (.tmp 1))], none, [], false, false⟩,
     ⟨(some 0), .move (.tmp 2), none, [], false, false⟩])
  (.ret)),
 [.tmp 0], .pure, 3⟩

/-- agraffe/agraffelaw02.Plain -/
def ef43 : EFun := ⟨
 .seq (.region false [⟨(some 0), .push [(.int .i64 0), (.int .i64 0), (.int .i64 0), (.string ⟨#[]⟩), (.string ⟨#[]⟩)], none, [], false, false⟩])
 (.seq (.region false [⟨(some 1), .build [(.int .i64 0), (.int .i64 0), (.int .i64 0), (.string ⟨#[]⟩), (.string ⟨#[]⟩)] [(0, 1, (.const (.int .i64 40000))), (1, 1, (.const (.int .i64 1000))), (3, 1, (.const (.string ⟨#[115, 116, 101, 101, 108]⟩)))], none, [], false, false⟩,
     ⟨none, .store 5 (.tmp 0) (.tmp 1), none, [], false, false⟩])
  (.ret)),
 [.cell 0 true 5], .pure, 2⟩

/-- agraffe/agrafferef02.strand -/
def ef44 : EFun := ⟨
 .seq (.region false [⟨(some 3), .box (.tmp 1), none, [], false, false⟩,
    ⟨(some 4), .move (.const (.int .i64 0)), none, [], false, false⟩])
 (.seq (.seq (.region false [⟨(some 6), .fieldAddr 0 (.tmp 3), none, [], false, false⟩,
      ⟨(some 7), .load false 1 (.tmp 6), none, [], false, false⟩,
      ⟨(some 8), .call 13 [(.tmp 7), (.const (.int .i64 1000)), (.const (.int .i64 300000))], none, [], false, false⟩,
      ⟨(some 9), .un .not (.tmp 8), none, [], false, false⟩,
      ⟨(some 10), .move (.tmp 9), none, [], false, false⟩,
      ⟨(some 11), .fieldAddr 1 (.tmp 3), (some (10, false)), [], false, false⟩,
      ⟨(some 12), .load false 1 (.tmp 11), (some (10, false)), [], false, false⟩,
      ⟨(some 13), .call 13 [(.tmp 12), (.const (.int .i64 100)), (.const (.int .i64 3000))], (some (10, false)), [], false, false⟩,
      ⟨(some 14), .un .not (.tmp 13), (some (10, false)), [], false, false⟩,
      ⟨(some 15), .pick (.tmp 10) (.const (.bool true)) (.tmp 14), none, [], false, false⟩,
      ⟨(some 16), .move (.tmp 15), none, [], false, false⟩,
      ⟨(some 17), .fieldAddr 2 (.tmp 3), (some (16, false)), [], false, false⟩,
      ⟨(some 18), .load false 1 (.tmp 17), (some (16, false)), [], false, false⟩,
      ⟨(some 19), .call 13 [(.tmp 18), (.const (.int .i64 0)), (.const (.int .i64 10000))], (some (16, false)), [], false, false⟩,
      ⟨(some 20), .un .not (.tmp 19), (some (16, false)), [], false, false⟩,
      ⟨(some 21), .pick (.tmp 16) (.const (.bool true)) (.tmp 20), none, [], false, false⟩])
   (.cond (.tmp 21) (.seq (.region false [⟨(some 4), .move (.const (.int .i64 2)), none, [], false, false⟩])
     (.ret))
    (.skip)))
  (.seq (.seq (.region false [⟨(some 22), .fieldAddr 2 (.tmp 3), none, [], false, false⟩,
       ⟨(some 23), .load false 1 (.tmp 22), none, [], false, false⟩,
       ⟨(some 24), .bin .neq (.tmp 23) (.const (.int .i64 0)), none, [], false, false⟩,
       ⟨(some 25), .move (.tmp 24), none, [], false, false⟩,
       ⟨(some 26), .fieldAddr 2 (.tmp 3), (some (25, true)), [], false, false⟩,
       ⟨(some 27), .load false 1 (.tmp 26), (some (25, true)), [], false, false⟩,
       ⟨(some 28), .fieldAddr 1 (.tmp 3), (some (25, true)), [], false, false⟩,
       ⟨(some 29), .load false 1 (.tmp 28), (some (25, true)), [], false, false⟩,
       ⟨(some 30), .bin .leq (.tmp 27) (.tmp 29), (some (25, true)), [], false, false⟩,
       ⟨(some 31), .pick (.tmp 25) (.tmp 30) (.const (.bool false)), none, [], false, false⟩,
       ⟨(some 32), .move (.tmp 31), none, [], false, false⟩,
       ⟨(some 33), .fieldAddr 2 (.tmp 3), (some (32, false)), [], false, false⟩,
       ⟨(some 34), .load false 1 (.tmp 33), (some (32, false)), [], false, false⟩,
       ⟨(some 35), .bin .neq (.tmp 34) (.const (.int .i64 0)), (some (32, false)), [], false, false⟩,
       ⟨(some 36), .fieldAddr 4 (.tmp 3), (some (32, false)), [], false, false⟩,
       ⟨(some 37), .load false 1 (.tmp 36), (some (32, false)), [], false, false⟩,
       ⟨(some 38), .bin .neq (.tmp 37) (.const (.string ⟨#[]⟩)), (some (32, false)), [], false, false⟩,
       ⟨(some 39), .eqBool true (.tmp 35) (.tmp 38), (some (32, false)), [], false, false⟩,
       ⟨(some 40), .pick (.tmp 32) (.const (.bool true)) (.tmp 39), none, [], false, false⟩])
    (.cond (.tmp 40) (.seq (.region false [⟨(some 4), .move (.const (.int .i64 3)), none, [], false, false⟩])
      (.ret))
     (.skip)))
   (.seq (.region false [⟨(some 41), .move (.tmp 0), none, [], false, false⟩,
       ⟨(some 42), .fieldAddr 3 (.tmp 3), none, [], false, false⟩,
       ⟨(some 43), .load false 1 (.tmp 42), none, [], false, false⟩,
       ⟨(some 44), .call 50 [(.tmp 41), (.tmp 43)], none, [], false, false⟩,
       ⟨(some 5), .move (.tmp 44), none, [], false, false⟩])
    (.seq (.seq (.region false [⟨(some 45), .move (.tmp 5), none, [], false, false⟩,
         ⟨(some 46), .bin .lss (.tmp 45) (.const (.int .i64 0)), none, [], false, false⟩,
         ⟨(some 47), .move (.tmp 46), none, [], false, false⟩,
         ⟨(some 48), .fieldAddr 2 (.tmp 3), (some (47, false)), [], false, false⟩,
         ⟨(some 49), .load false 1 (.tmp 48), (some (47, false)), [], false, false⟩,
         ⟨(some 50), .bin .neq (.tmp 49) (.const (.int .i64 0)), (some (47, false)), [], false, false⟩,
         ⟨(some 51), .move (.tmp 50), (some (47, false)), [], false, false⟩,
         ⟨(some 52), .move (.tmp 0), (some (51, true)), [], false, false⟩,
         ⟨(some 53), .fieldAddr 4 (.tmp 3), (some (51, true)), [], false, false⟩,
         ⟨(some 54), .load false 1 (.tmp 53), (some (51, true)), [], false, false⟩,
         ⟨(some 55), .call 50 [(.tmp 52), (.tmp 54)], (some (51, true)), [], false, false⟩,
         ⟨(some 56), .bin .lss (.tmp 55) (.const (.int .i64 0)), (some (51, true)), [], false, false⟩,
         ⟨(some 57), .pick (.tmp 51) (.tmp 56) (.const (.bool false)), (some (47, false)), [], false, false⟩,
         ⟨(some 58), .pick (.tmp 47) (.const (.bool true)) (.tmp 57), none, [], false, false⟩])
      (.cond (.tmp 58) (.seq (.region false [⟨(some 4), .move (.const (.int .i64 6)), none, [], false, false⟩])
        (.ret))
       (.skip)))
     (.seq (.seq (.region true [⟨(some 59), .move (.tmp 0), none, [], false, false⟩,
          ⟨(some 60), .move (.tmp 5), none, [], false, false⟩,
          ⟨(some 61), .indexAddr none 4 (.tmp 59) (.tmp 60), none, [], false, false⟩,
          ⟨(some 62), .fieldAddr 2 (.tmp 61), none, [], false, false⟩,
          ⟨(some 63), .load false 1 (.tmp 62), none, [], false, false⟩,
          ⟨(some 64), .fieldAddr 1 (.tmp 3), none, [], false, false⟩,
          ⟨(some 65), .load false 1 (.tmp 64), none, [], false, false⟩,
          ⟨(some 66), .bin .mul (.tmp 63) (.tmp 65), none, [], false, false⟩,
          ⟨(some 67), .fieldAddr 1 (.tmp 3), none, [], false, false⟩,
          ⟨(some 68), .load false 1 (.tmp 67), none, [], false, false⟩,
          ⟨(some 69), .bin .mul (.tmp 66) (.tmp 68), none, [], false, false⟩,
          ⟨(some 70), .bin .lss (.tmp 69) (.const (.int .i64 1000000)), none, [], false, false⟩])
       (.cond (.tmp 70) (.seq (.region false [⟨(some 4), .move (.const (.int .i64 11)), none, [], false, false⟩])
         (.ret))
        (.skip)))
      (.seq (.region false [⟨(some 4), .move (.const (.int .i64 0)), none, [], false, false⟩])
       (.ret))))))),
 [.tmp 4], .pure, 71⟩

/-- agraffe/scale.heard -/
def ef45 : EFun := ⟨
 .seq (.region false [⟨(some 4), .box (.tmp 1), none, [], false, false⟩,
    ⟨(some 5), .box (.tmp 2), none, [], false, false⟩,
    ⟨(some 6), .push [(.string ⟨#[]⟩), (.int .i64 0), (.int .i64 0), (.int .i64 0), (.int .i64 0), (.int .i64 0), (.int .i64 0), (.string ⟨#[]⟩), (.string ⟨#[]⟩), (.int .i64 0), (.int .i64 0), (.int .i64 0), (.int .i64 0)], none, [], false, false⟩,
    ⟨(some 7), .move (.const (.int .i64 0)), none, [], false, false⟩])
 (.seq (.seq (.region false [⟨(some 10), .move (.tmp 0), none, [], false, false⟩,
      ⟨(some 11), .load true 5 (.tmp 4), none, [], false, false⟩,
      ⟨(some 12), .call 21 [(.tmp 10), (.tmp 11)], none, [], false, false⟩,
      ⟨(some 8), .move (.tmp 12), none, [], false, false⟩])
   (.seq (.region false [⟨(some 13), .move (.tmp 8), none, [], false, false⟩,
       ⟨(some 14), .bin .neq (.tmp 13) (.const (.int .i64 0)), none, [], false, false⟩])
    (.cond (.tmp 14) (.seq (.region false [⟨(some 15), .build [(.string ⟨#[]⟩), (.int .i64 0), (.int .i64 0), (.int .i64 0), (.int .i64 0), (.int .i64 0), (.int .i64 0), (.string ⟨#[]⟩), (.string ⟨#[]⟩), (.int .i64 0), (.int .i64 0), (.int .i64 0), (.int .i64 0)] [], none, [], false, false⟩,
         ⟨(some 16), .move (.tmp 8), none, [], false, false⟩,
         ⟨none, .store 13 (.tmp 6) (.tmp 15), none, [], false, false⟩,
         ⟨(some 7), .move (.tmp 16), none, [], false, false⟩])
      (.ret))
     (.skip))))
  (.seq (.seq (.region false [⟨(some 17), .load true 2 (.tmp 5), none, [], false, false⟩,
       ⟨(some 18), .call 64 [(.tmp 17)], none, [], false, false⟩,
       ⟨(some 9), .move (.tmp 18), none, [], false, false⟩])
    (.seq (.region false [⟨(some 19), .move (.tmp 9), none, [], false, false⟩,
        ⟨(some 20), .bin .neq (.tmp 19) (.const (.int .i64 0)), none, [], false, false⟩])
     (.cond (.tmp 20) (.seq (.region false [⟨(some 21), .build [(.string ⟨#[]⟩), (.int .i64 0), (.int .i64 0), (.int .i64 0), (.int .i64 0), (.int .i64 0), (.int .i64 0), (.string ⟨#[]⟩), (.string ⟨#[]⟩), (.int .i64 0), (.int .i64 0), (.int .i64 0), (.int .i64 0)] [], none, [], false, false⟩,
          ⟨(some 22), .move (.tmp 9), none, [], false, false⟩,
          ⟨none, .store 13 (.tmp 6) (.tmp 21), none, [], false, false⟩,
          ⟨(some 7), .move (.tmp 22), none, [], false, false⟩])
       (.ret))
      (.skip))))
   (.seq (.region false [⟨(some 23), .move (.tmp 0), none, [], false, false⟩,
       ⟨(some 24), .load true 5 (.tmp 4), none, [], false, false⟩,
       ⟨(some 25), .load true 2 (.tmp 5), none, [], false, false⟩,
       ⟨(some 26), .call 65 [(.tmp 23), (.tmp 24), (.tmp 25)], none, [], false, false⟩,
       ⟨none, .store 13 (.tmp 6) (.tmp 26), none, [], false, false⟩,
       ⟨(some 7), .move (.const (.int .i64 0)), none, [], false, false⟩])
    (.ret)))),
 [.cell 6 true 13, .tmp 7], .pure, 27⟩

/-- agraffe/scale.mass -/
def ef46 : EFun := ⟨
 .seq (.region false [⟨(some 3), .box (.tmp 1), none, [], false, false⟩,
    ⟨(some 4), .move (.const (.int .i64 0)), none, [], false, false⟩])
 (.seq (.region false [⟨(some 11), .move (.tmp 0), none, [], false, false⟩,
     ⟨(some 12), .fieldAddr 3 (.tmp 3), none, [], false, false⟩,
     ⟨(some 13), .load false 1 (.tmp 12), none, [], false, false⟩,
     ⟨(some 14), .call 51 [(.tmp 11), (.tmp 13)], none, [], false, false⟩,
     ⟨(some 10), .move (.tmp 14), none, [], false, false⟩,
     ⟨(some 15), .extract (.tmp 10) 0, none, [], false, false⟩,
     ⟨(some 16), .extract (.tmp 10) 1, none, [], false, false⟩,
     ⟨(some 5), .push [(.string ⟨#[]⟩), (.int .i64 0), (.int .i64 0), (.int .i64 0)], none, [], false, false⟩,
     ⟨none, .store 4 (.tmp 5) (.tmp 15), none, [], false, false⟩,
     ⟨(some 6), .move (.tmp 16), none, [], false, false⟩])
  (.seq (.region false [⟨(some 17), .fieldAddr 1 (.tmp 5), none, [], false, false⟩,
      ⟨(some 18), .load false 1 (.tmp 17), none, [], false, false⟩,
      ⟨(some 19), .fieldAddr 1 (.tmp 3), none, [], false, false⟩,
      ⟨(some 20), .load false 1 (.tmp 19), none, [], false, false⟩,
      ⟨(some 21), .bin .mul (.tmp 18) (.tmp 20), none, [], false, false⟩,
      ⟨(some 22), .fieldAddr 1 (.tmp 3), none, [], false, false⟩,
      ⟨(some 23), .load false 1 (.tmp 22), none, [], false, false⟩,
      ⟨(some 24), .bin .mul (.tmp 21) (.tmp 23), none, [], false, false⟩,
      ⟨(some 7), .move (.tmp 24), none, [], false, false⟩])
   (.seq (.seq (.region false [⟨(some 25), .fieldAddr 2 (.tmp 3), none, [], false, false⟩,
        ⟨(some 26), .load false 1 (.tmp 25), none, [], false, false⟩,
        ⟨(some 27), .bin .neq (.tmp 26) (.const (.int .i64 0)), none, [], false, false⟩])
     (.cond (.tmp 27) (.seq (.region false [⟨(some 29), .move (.tmp 0), none, [], false, false⟩,
          ⟨(some 30), .fieldAddr 4 (.tmp 3), none, [], false, false⟩,
          ⟨(some 31), .load false 1 (.tmp 30), none, [], false, false⟩,
          ⟨(some 32), .call 51 [(.tmp 29), (.tmp 31)], none, [], false, false⟩,
          ⟨(some 28), .move (.tmp 32), none, [], false, false⟩,
          ⟨(some 33), .extract (.tmp 28) 0, none, [], false, false⟩,
          ⟨(some 34), .extract (.tmp 28) 1, none, [], false, false⟩,
          ⟨(some 8), .push [(.string ⟨#[]⟩), (.int .i64 0), (.int .i64 0), (.int .i64 0)], none, [], false, false⟩,
          ⟨none, .store 4 (.tmp 8) (.tmp 33), none, [], false, false⟩,
          ⟨(some 9), .move (.tmp 34), none, [], false, false⟩])
       (.region false [⟨(some 35), .move (.tmp 7), none, [], false, false⟩,
          ⟨(some 36), .fieldAddr 1 (.tmp 8), none, [], false, false⟩,
          ⟨(some 37), .load false 1 (.tmp 36), none, [], false, false⟩,
          ⟨(some 38), .fieldAddr 2 (.tmp 3), none, [], false, false⟩,
          ⟨(some 39), .load false 1 (.tmp 38), none, [], false, false⟩,
          ⟨(some 40), .fieldAddr 2 (.tmp 3), none, [], false, false⟩,
          ⟨(some 41), .load false 1 (.tmp 40), none, [], false, false⟩,
          ⟨(some 42), .bin .mul (.tmp 39) (.tmp 41), none, [], false, false⟩,
          ⟨(some 43), .fieldAddr 1 (.tmp 3), none, [], false, false⟩,
          ⟨(some 44), .load false 1 (.tmp 43), none, [], false, false⟩,
          ⟨(some 45), .fieldAddr 1 (.tmp 3), none, [], false, false⟩,
          ⟨(some 46), .load false 1 (.tmp 45), none, [], false, false⟩,
          ⟨(some 47), .bin .mul (.tmp 44) (.tmp 46), none, [], false, false⟩,
          ⟨(some 48), .bin .sub (.tmp 42) (.tmp 47), none, [], false, false⟩,
          ⟨(some 49), .bin .mul (.tmp 37) (.tmp 48), none, [], false, false⟩,
          ⟨(some 50), .bin .add (.tmp 35) (.tmp 49), none, [], false, false⟩,
          ⟨(some 7), .move (.tmp 50), none, [], false, false⟩]))
      (.skip)))
    (.seq (.region false [⟨(some 51), .move (.tmp 7), none, [], false, false⟩,
        ⟨(some 4), .move (.tmp 51), none, [], false, false⟩])
     (.ret))))),
 [.tmp 4], .pure, 52⟩

/-- agraffe/scale.isName -/
def ef47 : EFun := ⟨
 .seq (.region false [⟨(some 2), .move (.const (.bool false)), none, [], false, false⟩])
 (.seq (.seq (.region false [⟨(some 6), .move (.tmp 0), none, [], false, false⟩,
      ⟨(some 7), .bytesOf (.tmp 6), none, [], false, false⟩,
      ⟨(some 8), .len false (.tmp 7), none, [], false, false⟩,
      ⟨(some 9), .move (.const (.int .i64 0)), none, [], false, false⟩])
   (.block 0 (.loop (some [0, 7, 8, 9]) (
     .seq (.region false [⟨(some 10), .bin .lss (.tmp 9) (.tmp 8), none, [], false, false⟩])
      (.seq (.cond (.tmp 10) (.skip)
        (.exit 0))
       (.seq (.block 1 (.seq (.region false [⟨(some 11), .move (.tmp 9), none, [], false, false⟩,
             ⟨(some 12), .indexAddr none 1 (.tmp 7) (.tmp 9), none, [], false, false⟩,
             ⟨(some 13), .load false 1 (.tmp 12), none, [], false, false⟩,
             ⟨(some 3), .move (.tmp 11), none, [], false, false⟩,
             ⟨(some 4), .move (.tmp 13), none, [], false, false⟩])
          (.seq (.region false [⟨(some 14), .move (.tmp 4), none, [], false, false⟩,
              ⟨(some 15), .bin .geq (.tmp 14) (.const (.int .u8 97)), none, [], false, false⟩,
              ⟨(some 16), .move (.tmp 15), none, [], false, false⟩,
              ⟨(some 17), .move (.tmp 4), (some (16, true)), [], false, false⟩,
              ⟨(some 18), .bin .leq (.tmp 17) (.const (.int .u8 122)), (some (16, true)), [], false, false⟩,
              ⟨(some 19), .pick (.tmp 16) (.tmp 18) (.const (.bool false)), none, [], false, false⟩,
              ⟨(some 20), .move (.tmp 19), none, [], false, false⟩,
              ⟨(some 21), .move (.tmp 4), (some (20, false)), [], false, false⟩,
              ⟨(some 22), .bin .geq (.tmp 21) (.const (.int .u8 65)), (some (20, false)), [], false, false⟩,
              ⟨(some 23), .move (.tmp 22), (some (20, false)), [], false, false⟩,
              ⟨(some 24), .move (.tmp 4), (some (23, true)), [], false, false⟩,
              ⟨(some 25), .bin .leq (.tmp 24) (.const (.int .u8 90)), (some (23, true)), [], false, false⟩,
              ⟨(some 26), .pick (.tmp 23) (.tmp 25) (.const (.bool false)), (some (20, false)), [], false, false⟩,
              ⟨(some 27), .pick (.tmp 20) (.const (.bool true)) (.tmp 26), none, [], false, false⟩,
              ⟨(some 5), .move (.tmp 27), none, [], false, false⟩])
           (.seq (.region false [⟨(some 28), .move (.tmp 5), none, [], false, false⟩,
               ⟨(some 29), .un .not (.tmp 28), none, [], false, false⟩,
               ⟨(some 30), .move (.tmp 29), none, [], false, false⟩,
               ⟨(some 31), .move (.tmp 3), (some (30, true)), [], false, false⟩,
               ⟨(some 32), .bin .eql (.tmp 31) (.const (.int .i64 0)), (some (30, true)), [], false, false⟩,
               ⟨(some 33), .move (.tmp 32), (some (30, true)), [], false, false⟩,
               ⟨(some 34), .move (.tmp 4), (some (33, false)), [], false, false⟩,
               ⟨(some 35), .bin .neq (.tmp 34) (.const (.int .u8 45)), (some (33, false)), [], false, false⟩,
               ⟨(some 36), .move (.tmp 35), (some (33, false)), [], false, false⟩,
               ⟨(some 37), .move (.tmp 4), (some (36, true)), [], false, false⟩,
               ⟨(some 38), .bin .lss (.tmp 37) (.const (.int .u8 48)), (some (36, true)), [], false, false⟩,
               ⟨(some 39), .move (.tmp 38), (some (36, true)), [], false, false⟩,
               ⟨(some 40), .move (.tmp 4), (some (39, false)), [], false, false⟩,
               ⟨(some 41), .bin .gtr (.tmp 40) (.const (.int .u8 57)), (some (39, false)), [], false, false⟩,
               ⟨(some 42), .pick (.tmp 39) (.const (.bool true)) (.tmp 41), (some (36, true)), [], false, false⟩,
               ⟨(some 43), .pick (.tmp 36) (.tmp 42) (.const (.bool false)), (some (33, false)), [], false, false⟩,
               ⟨(some 44), .pick (.tmp 33) (.const (.bool true)) (.tmp 43), (some (30, true)), [], false, false⟩,
               ⟨(some 45), .pick (.tmp 30) (.tmp 44) (.const (.bool false)), none, [], false, false⟩])
            (.cond (.tmp 45) (.seq (.region false [⟨(some 2), .move (.const (.bool false)), none, [], false, false⟩])
              (.ret))
             (.skip))))))
        (.region false [⟨(some 46), .bin .add (.tmp 9) (.const (.int .i64 1)), none, [], false, false⟩,
           ⟨(some 9), .move (.tmp 46), none, [], false, false⟩])))))))
  (.seq (.region false [⟨(some 47), .move (.tmp 0), none, [], false, false⟩,
      ⟨(some 48), .bin .neq (.tmp 47) (.const (.string ⟨#[]⟩)), none, [], false, false⟩,
      ⟨(some 49), .move (.tmp 48), none, [], false, false⟩,
      ⟨(some 50), .move (.tmp 0), (some (49, true)), [], false, false⟩,
      ⟨(some 51), .len true (.tmp 50), (some (49, true)), [], false, false⟩,
      ⟨(some 52), .bin .leq (.tmp 51) (.const (.int .i64 12)), (some (49, true)), [], false, false⟩,
      ⟨(some 53), .pick (.tmp 49) (.tmp 52) (.const (.bool false)), none, [], false, false⟩,
      ⟨(some 2), .move (.tmp 53), none, [], false, false⟩])
   (.ret))),
 [.tmp 2], .pure, 54⟩

/-- agraffe/scale.within -/
def ef48 : EFun := ⟨
 .seq (.region false [⟨(some 6), .move (.const (.bool false)), none, [], false, false⟩])
 (.seq (.region false [⟨(some 7), .move (.tmp 1), none, [], false, false⟩,
     ⟨(some 8), .move (.tmp 0), none, [], false, false⟩,
     ⟨(some 9), .bin .leq (.tmp 7) (.tmp 8), none, [], false, false⟩,
     ⟨(some 10), .move (.tmp 9), none, [], false, false⟩,
     ⟨(some 11), .move (.tmp 0), (some (10, true)), [], false, false⟩,
     ⟨(some 12), .move (.tmp 2), (some (10, true)), [], false, false⟩,
     ⟨(some 13), .bin .leq (.tmp 11) (.tmp 12), (some (10, true)), [], false, false⟩,
     ⟨(some 14), .pick (.tmp 10) (.tmp 13) (.const (.bool false)), none, [], false, false⟩,
     ⟨(some 6), .move (.tmp 14), none, [], false, false⟩])
  (.ret)),
 [.tmp 6], .pure, 15⟩

/-- agraffe/agraffebase.IsName -/
def ef49 : EFun := ⟨
 .seq (.region false [⟨(some 2), .move (.const (.bool false)), none, [], false, false⟩])
 (.seq (.seq (.region false [⟨(some 4), .move (.tmp 0), none, [], false, false⟩,
      ⟨(some 5), .len true (.tmp 4), none, [], false, false⟩,
      ⟨(some 6), .bin .eql (.tmp 5) (.const (.int .i64 0)), none, [], false, false⟩,
      ⟨(some 7), .move (.tmp 6), none, [], false, false⟩,
      ⟨(some 8), .move (.tmp 0), (some (7, false)), [], false, false⟩,
      ⟨(some 9), .len true (.tmp 8), (some (7, false)), [], false, false⟩,
      ⟨(some 10), .bin .gtr (.tmp 9) (.const (.int .i64 12)), (some (7, false)), [], false, false⟩,
      ⟨(some 11), .pick (.tmp 7) (.const (.bool true)) (.tmp 10), none, [], false, false⟩,
      ⟨(some 12), .move (.tmp 11), none, [], false, false⟩,
      ⟨(some 13), .move (.tmp 0), (some (12, false)), [], false, false⟩,
      ⟨(some 14), .strIndex (.tmp 13) (.const (.int .i64 0)), (some (12, false)), [], false, false⟩,
      ⟨(some 15), .call 66 [(.tmp 14)], (some (12, false)), [], false, false⟩,
      ⟨(some 16), .un .not (.tmp 15), (some (12, false)), [], false, false⟩,
      ⟨(some 17), .pick (.tmp 12) (.const (.bool true)) (.tmp 16), none, [], false, false⟩])
   (.cond (.tmp 17) (.seq (.region false [⟨(some 2), .move (.const (.bool false)), none, [], false, false⟩])
     (.ret))
    (.skip)))
  (.seq (.seq (.region false [⟨(some 3), .move (.const (.int .i64 0)), none, [], false, false⟩])
    (.block 0 (.loop (some [0, 3]) (
      .seq (.seq (.region false [⟨(some 18), .move (.tmp 3), none, [], false, false⟩,
           ⟨(some 19), .move (.tmp 0), none, [], false, false⟩,
           ⟨(some 20), .len true (.tmp 19), none, [], false, false⟩,
           ⟨(some 21), .bin .lss (.tmp 18) (.tmp 20), none, [], false, false⟩])
        (.cond (.tmp 21) (.skip)
         (.exit 0)))
       (.seq (.block 1 (.seq (.region false [⟨(some 24), .move (.tmp 0), none, [], false, false⟩,
             ⟨(some 25), .move (.tmp 3), none, [], false, false⟩,
             ⟨(some 26), .strIndex (.tmp 24) (.tmp 25), none, [], false, false⟩,
             ⟨(some 27), .call 66 [(.tmp 26)], none, [], false, false⟩,
             ⟨(some 28), .un .not (.tmp 27), none, [], false, false⟩,
             ⟨(some 29), .move (.tmp 28), none, [], false, false⟩,
             ⟨(some 30), .move (.tmp 0), (some (29, true)), [], false, false⟩,
             ⟨(some 31), .move (.tmp 3), (some (29, true)), [], false, false⟩,
             ⟨(some 32), .strIndex (.tmp 30) (.tmp 31), (some (29, true)), [], false, false⟩,
             ⟨(some 33), .call 67 [(.tmp 32)], (some (29, true)), [], false, false⟩,
             ⟨(some 34), .un .not (.tmp 33), (some (29, true)), [], false, false⟩,
             ⟨(some 35), .pick (.tmp 29) (.tmp 34) (.const (.bool false)), none, [], false, false⟩,
             ⟨(some 36), .move (.tmp 35), none, [], false, false⟩,
             ⟨(some 37), .move (.tmp 0), (some (36, true)), [], false, false⟩,
             ⟨(some 38), .move (.tmp 3), (some (36, true)), [], false, false⟩,
             ⟨(some 39), .strIndex (.tmp 37) (.tmp 38), (some (36, true)), [], false, false⟩,
             ⟨(some 40), .bin .neq (.tmp 39) (.const (.int .u8 45)), (some (36, true)), [], false, false⟩,
             ⟨(some 41), .pick (.tmp 36) (.tmp 40) (.const (.bool false)), none, [], false, false⟩])
          (.cond (.tmp 41) (.seq (.region false [⟨(some 2), .move (.const (.bool false)), none, [], false, false⟩])
            (.ret))
           (.skip))))
        (.region false [⟨(some 22), .move (.tmp 3), none, [], false, false⟩,
           ⟨(some 23), .bin .add (.tmp 22) (.const (.int .i64 1)), none, [], false, false⟩,
           ⟨(some 3), .move (.tmp 23), none, [], false, false⟩]))))))
   (.seq (.region false [⟨(some 2), .move (.const (.bool true)), none, [], false, false⟩])
    (.ret)))),
 [.tmp 2], .pure, 42⟩

/-- agraffe/agrafferef02.Find -/
def ef50 : EFun := ⟨
 .seq (.region false [⟨(some 4), .move (.const (.int .i64 0)), none, [], false, false⟩])
 (.seq (.seq (.region false [⟨(some 5), .move (.const (.int .i64 0)), none, [], false, false⟩])
   (.block 0 (.loop (some [0, 1, 5]) (
     .seq (.seq (.region false [⟨(some 6), .move (.tmp 5), none, [], false, false⟩,
          ⟨(some 7), .move (.tmp 0), none, [], false, false⟩,
          ⟨(some 8), .len false (.tmp 7), none, [], false, false⟩,
          ⟨(some 9), .bin .lss (.tmp 6) (.tmp 8), none, [], false, false⟩])
       (.cond (.tmp 9) (.skip)
        (.exit 0)))
      (.seq (.block 1 (.seq (.region false [⟨(some 12), .move (.tmp 0), none, [], false, false⟩,
            ⟨(some 13), .move (.tmp 5), none, [], false, false⟩,
            ⟨(some 14), .indexAddr none 4 (.tmp 12) (.tmp 13), none, [], false, false⟩,
            ⟨(some 15), .fieldAddr 0 (.tmp 14), none, [], false, false⟩,
            ⟨(some 16), .load false 1 (.tmp 15), none, [], false, false⟩,
            ⟨(some 17), .move (.tmp 1), none, [], false, false⟩,
            ⟨(some 18), .bin .eql (.tmp 16) (.tmp 17), none, [], false, false⟩])
         (.cond (.tmp 18) (.seq (.region false [⟨(some 19), .move (.tmp 5), none, [], false, false⟩,
              ⟨(some 4), .move (.tmp 19), none, [], false, false⟩])
           (.ret))
          (.skip))))
       (.region false [⟨(some 10), .move (.tmp 5), none, [], false, false⟩,
          ⟨(some 11), .bin .add (.tmp 10) (.const (.int .i64 1)), none, [], false, false⟩,
          ⟨(some 5), .move (.tmp 11), none, [], false, false⟩]))))))
  (.seq (.region false [⟨(some 4), .move (.const (.int .i64 (-1))), none, [], false, false⟩])
   (.ret))),
 [.tmp 4], .pure, 20⟩

/-- agraffe/scale.wire -/
def ef51 : EFun := ⟨
 .seq (.region false [⟨(some 3), .box (.tmp 1), none, [], false, false⟩,
    ⟨(some 4), .push [(.string ⟨#[]⟩), (.int .i64 0), (.int .i64 0), (.int .i64 0)], none, [], false, false⟩,
    ⟨(some 5), .move (.const (.bool false)), none, [], false, false⟩])
 (.seq (.region false [⟨(some 7), .move (.tmp 0), none, [], false, false⟩,
     ⟨(some 8), .makeFunc (.func 69) [(.tmp 3)], none, [], false, false⟩,
     ⟨(some 9), .call 68 [(.tmp 7), (.tmp 8)], none, [], false, false⟩,
     ⟨(some 6), .move (.tmp 9), none, [], false, false⟩])
  (.seq (.seq (.region false [⟨(some 10), .move (.tmp 6), none, [], false, false⟩,
       ⟨(some 11), .bin .lss (.tmp 10) (.const (.int .i64 0)), none, [], false, false⟩])
    (.cond (.tmp 11) (.seq (.region false [⟨(some 12), .build [(.string ⟨#[]⟩), (.int .i64 0), (.int .i64 0), (.int .i64 0)] [], none, [], false, false⟩,
         ⟨none, .store 4 (.tmp 4) (.tmp 12), none, [], false, false⟩,
         ⟨(some 5), .move (.const (.bool false)), none, [], false, false⟩])
      (.ret))
     (.skip)))
   (.seq (.region false [⟨(some 13), .move (.tmp 0), none, [], false, false⟩,
       ⟨(some 14), .move (.tmp 6), none, [], false, false⟩,
       ⟨(some 15), .indexAddr none 4 (.tmp 13) (.tmp 14), none, [], false, false⟩,
       ⟨(some 16), .load true 4 (.tmp 15), none, [], false, false⟩,
       ⟨none, .store 4 (.tmp 4) (.tmp 16), none, [], false, false⟩,
       ⟨(some 5), .move (.const (.bool true)), none, [], false, false⟩])
    (.ret)))),
 [.cell 4 true 4, .tmp 5], .pure, 17⟩

/-- (agraffe/scale.sound).share -/
def ef52 : EFun := ⟨
 .seq (.region false [⟨(some 1), .box (.tmp 0), none, [], false, false⟩,
    ⟨(some 2), .push [(.int .i64 0), (.int .i64 0)], none, [], false, false⟩])
 (.seq (.region false [⟨(some 5), .fieldAddr 0 (.tmp 1), none, [], false, false⟩,
     ⟨(some 6), .fieldAddr 2 (.tmp 5), none, [], false, false⟩,
     ⟨(some 7), .load false 1 (.tmp 6), none, [], false, false⟩,
     ⟨(some 8), .fieldAddr 4 (.tmp 1), none, [], false, false⟩,
     ⟨(some 9), .fieldAddr 1 (.tmp 8), none, [], false, false⟩,
     ⟨(some 10), .load false 1 (.tmp 9), none, [], false, false⟩,
     ⟨(some 11), .bin .mul (.tmp 7) (.tmp 10), none, [], false, false⟩,
     ⟨(some 12), .fieldAddr 4 (.tmp 1), none, [], false, false⟩,
     ⟨(some 13), .fieldAddr 1 (.tmp 12), none, [], false, false⟩,
     ⟨(some 14), .load false 1 (.tmp 13), none, [], false, false⟩,
     ⟨(some 15), .bin .mul (.tmp 11) (.tmp 14), none, [], false, false⟩,
     ⟨(some 3), .move (.tmp 15), none, [], false, false⟩])
  (.seq (.region false [⟨(some 16), .move (.tmp 3), none, [], false, false⟩,
      ⟨(some 17), .move (.tmp 3), none, [], false, false⟩,
      ⟨(some 18), .call 70 [(.tmp 16), (.tmp 17), (.const (.int .i64 1000000))], none, [], false, false⟩,
      ⟨(some 4), .push [(.int .i64 0), (.int .i64 0)], none, [], false, false⟩,
      ⟨none, .store 2 (.tmp 4) (.tmp 18), none, [], false, false⟩])
   (.seq (.region false [⟨(some 19), .fieldAddr 11 (.tmp 1), none, [], false, false⟩,
       ⟨(some 20), .fieldAddr 0 (.tmp 19), none, [], false, false⟩,
       ⟨(some 21), .load false 1 (.tmp 20), none, [], false, false⟩,
       ⟨(some 22), .bin .mul (.const (.int .i64 1000)) (.tmp 21), none, [], false, false⟩,
       ⟨(some 23), .fieldAddr 1 (.tmp 4), none, [], false, false⟩,
       ⟨(some 24), .load false 1 (.tmp 23), none, [], false, false⟩,
       ⟨(some 25), .fieldAddr 11 (.tmp 1), none, [], false, false⟩,
       ⟨(some 26), .fieldAddr 1 (.tmp 25), none, [], false, false⟩,
       ⟨(some 27), .load false 1 (.tmp 26), none, [], false, false⟩,
       ⟨(some 28), .bin .mul (.const (.int .i64 1000)) (.tmp 27), none, [], false, false⟩,
       ⟨(some 29), .fieldAddr 0 (.tmp 4), none, [], false, false⟩,
       ⟨(some 30), .load false 1 (.tmp 29), none, [], false, false⟩,
       ⟨(some 31), .call 71 [(.tmp 22), (.tmp 24), (.tmp 28), (.tmp 30)], none, [], false, false⟩,
       ⟨none, .store 2 (.tmp 2) (.tmp 31), none, [], false, false⟩])
    (.ret)))),
 [.cell 2 true 2], .pure, 32⟩

/-- agraffe/agrafferef02.way -/
def ef53 : EFun := ⟨
 .seq (.region false [⟨(some 2), .box (.tmp 0), none, [], false, false⟩,
    ⟨(some 3), .box (.tmp 1), none, [], false, false⟩,
    ⟨(some 4), .push [(.int .i64 0), (.int .i64 0)], none, [], false, false⟩])
 (.seq (.region true [⟨(some 5), .load true 2 (.tmp 3), none, [], false, false⟩,
     ⟨(some 6), .fieldAddr 0 (.tmp 2), none, [], false, false⟩,
     ⟨(some 7), .load false 1 (.tmp 6), none, [], false, false⟩,
     ⟨(some 8), .call 56 [(.tmp 7)], none, [], false, true⟩,
     ⟨(some 9), .call 55 [(.tmp 5), (.tmp 8)], none, [], false, false⟩,
     ⟨(some 10), .call 56 [(.const (.int .i64 1000000))], none, [], false, false⟩,
     ⟨(some 11), .call 54 [(.tmp 9), (.tmp 10)], none, [], false, false⟩,
     ⟨none, .store 2 (.tmp 4) (.tmp 11), none, [], false, false⟩])
  (.ret)),
 [.cell 4 true 2], .pure, 12⟩

/-- agraffe/agrafferef02.over -/
def ef54 : EFun := ⟨
 .seq (.region false [⟨(some 2), .box (.tmp 0), none, [], false, false⟩,
    ⟨(some 3), .box (.tmp 1), none, [], false, false⟩,
    ⟨(some 4), .push [(.int .i64 0), (.int .i64 0)], none, [], false, false⟩])
 (.seq (.region true [⟨(some 5), .fieldAddr 0 (.tmp 2), none, [], false, false⟩,
     ⟨(some 6), .load false 1 (.tmp 5), none, [], false, false⟩,
     ⟨(some 7), .fieldAddr 1 (.tmp 3), none, [], false, false⟩,
     ⟨(some 8), .load false 1 (.tmp 7), none, [], false, false⟩,
     ⟨(some 9), .call 72 [(.tmp 6), (.tmp 8)], none, [], false, true⟩,
     ⟨(some 10), .fieldAddr 1 (.tmp 2), none, [], false, false⟩,
     ⟨(some 11), .load false 1 (.tmp 10), none, [], false, false⟩,
     ⟨(some 12), .fieldAddr 0 (.tmp 3), none, [], false, false⟩,
     ⟨(some 13), .load false 1 (.tmp 12), none, [], false, false⟩,
     ⟨(some 14), .call 73 [(.tmp 11), (.tmp 13)], none, [], false, false⟩,
     ⟨(some 15), .build [(.int .i64 0), (.int .i64 0)] [(0, 1, (.tmp 9)), (1, 1, (.tmp 14))], none, [], false, false⟩,
     ⟨none, .store 2 (.tmp 4) (.tmp 15), none, [], false, false⟩])
  (.ret)),
 [.cell 4 true 2], .pure, 16⟩

/-- agraffe/agrafferef02.times -/
def ef55 : EFun := ⟨
 .seq (.region false [⟨(some 2), .box (.tmp 0), none, [], false, false⟩,
    ⟨(some 3), .box (.tmp 1), none, [], false, false⟩,
    ⟨(some 4), .push [(.int .i64 0), (.int .i64 0)], none, [], false, false⟩])
 (.seq (.region false [⟨(some 5), .fieldAddr 0 (.tmp 2), none, [], false, false⟩,
     ⟨(some 6), .load false 1 (.tmp 5), none, [], false, false⟩,
     ⟨(some 7), .fieldAddr 0 (.tmp 3), none, [], false, false⟩,
     ⟨(some 8), .load false 1 (.tmp 7), none, [], false, false⟩,
     ⟨(some 9), .bin .mul (.tmp 6) (.tmp 8), none, [], false, false⟩,
     ⟨(some 10), .fieldAddr 1 (.tmp 2), none, [], false, false⟩,
     ⟨(some 11), .load false 1 (.tmp 10), none, [], false, false⟩,
     ⟨(some 12), .fieldAddr 1 (.tmp 3), none, [], false, false⟩,
     ⟨(some 13), .load false 1 (.tmp 12), none, [], false, false⟩,
     ⟨(some 14), .bin .mul (.tmp 11) (.tmp 13), none, [], false, false⟩,
     ⟨(some 15), .build [(.int .i64 0), (.int .i64 0)] [(0, 1, (.tmp 9)), (1, 1, (.tmp 14))], none, [], false, false⟩,
     ⟨none, .store 2 (.tmp 4) (.tmp 15), none, [], false, false⟩])
  (.ret)),
 [.cell 4 true 2], .pure, 16⟩

/-- agraffe/agrafferef02.one -/
def ef56 : EFun := ⟨
 .seq (.region false [⟨(some 2), .push [(.int .i64 0), (.int .i64 0)], none, [], false, false⟩])
 (.seq (.region false [⟨(some 3), .move (.tmp 0), none, [], false, false⟩,
     ⟨(some 4), .move (.tmp 0), none, [], false, false⟩,
     ⟨(some 5), .build [(.int .i64 0), (.int .i64 0)] [(0, 1, (.tmp 3)), (1, 1, (.tmp 4))], none, [], false, false⟩,
     ⟨none, .store 2 (.tmp 2) (.tmp 5), none, [], false, false⟩])
  (.ret)),
 [.cell 2 true 2], .pure, 6⟩

/-- (agraffe/scale.sound).inharmonicity -/
def ef57 : EFun := ⟨
 .seq (.region false [⟨(some 1), .box (.tmp 0), none, [], false, false⟩,
    ⟨(some 2), .push [(.int .i64 0), (.int .i64 0)], none, [], false, false⟩,
    ⟨(some 3), .move (.const (.int .i64 0)), none, [], false, false⟩])
 (.seq (.seq (.region false [⟨(some 7), .fieldAddr 11 (.tmp 1), none, [], false, false⟩,
      ⟨(some 8), .fieldAddr 0 (.tmp 7), none, [], false, false⟩,
      ⟨(some 9), .load false 1 (.tmp 8), none, [], false, false⟩,
      ⟨(some 10), .bin .eql (.tmp 9) (.const (.int .i64 0)), none, [], false, false⟩])
   (.cond (.tmp 10) (.seq (.region false [⟨(some 11), .build [(.int .i64 0), (.int .i64 0)] [], none, [], false, false⟩,
        ⟨none, .store 2 (.tmp 2) (.tmp 11), none, [], false, false⟩,
        ⟨(some 3), .move (.const (.int .i64 11)), none, [], false, false⟩])
     (.ret))
    (.skip)))
  (.seq (.region false [⟨(some 12), .fieldAddr 4 (.tmp 1), none, [], false, false⟩,
      ⟨(some 13), .fieldAddr 1 (.tmp 12), none, [], false, false⟩,
      ⟨(some 14), .load false 1 (.tmp 13), none, [], false, false⟩,
      ⟨(some 15), .bin .mul (.const (.int .i64 1000)) (.tmp 14), none, [], false, false⟩,
      ⟨(some 16), .fieldAddr 4 (.tmp 1), none, [], false, false⟩,
      ⟨(some 17), .fieldAddr 1 (.tmp 16), none, [], false, false⟩,
      ⟨(some 18), .load false 1 (.tmp 17), none, [], false, false⟩,
      ⟨(some 19), .bin .mul (.tmp 15) (.tmp 18), none, [], false, false⟩,
      ⟨(some 4), .move (.tmp 19), none, [], false, false⟩])
   (.seq (.region false [⟨(some 20), .move (.tmp 4), none, [], false, false⟩,
       ⟨(some 21), .move (.tmp 4), none, [], false, false⟩,
       ⟨(some 22), .fieldAddr 4 (.tmp 1), none, [], false, false⟩,
       ⟨(some 23), .fieldAddr 0 (.tmp 22), none, [], false, false⟩,
       ⟨(some 24), .load false 1 (.tmp 23), none, [], false, false⟩,
       ⟨(some 25), .call 70 [(.tmp 20), (.tmp 21), (.tmp 24)], none, [], false, false⟩,
       ⟨(some 5), .push [(.int .i64 0), (.int .i64 0)], none, [], false, false⟩,
       ⟨none, .store 2 (.tmp 5) (.tmp 25), none, [], false, false⟩])
    (.seq (.region false [⟨(some 26), .fieldAddr 0 (.tmp 5), none, [], false, false⟩,
        ⟨(some 27), .load false 1 (.tmp 26), none, [], false, false⟩,
        ⟨(some 28), .fieldAddr 0 (.tmp 5), none, [], false, false⟩,
        ⟨(some 29), .load false 1 (.tmp 28), none, [], false, false⟩,
        ⟨(some 30), .bin .mul (.tmp 27) (.tmp 29), none, [], false, false⟩,
        ⟨(some 31), .fieldAddr 1 (.tmp 5), none, [], false, false⟩,
        ⟨(some 32), .load false 1 (.tmp 31), none, [], false, false⟩,
        ⟨(some 33), .fieldAddr 1 (.tmp 5), none, [], false, false⟩,
        ⟨(some 34), .load false 1 (.tmp 33), none, [], false, false⟩,
        ⟨(some 35), .bin .mul (.tmp 32) (.tmp 34), none, [], false, false⟩,
        ⟨(some 36), .call 70 [(.tmp 30), (.tmp 35), (.const (.int .i64 1000))], none, [], false, false⟩,
        ⟨(some 6), .push [(.int .i64 0), (.int .i64 0)], none, [], false, false⟩,
        ⟨none, .store 2 (.tmp 6) (.tmp 36), none, [], false, false⟩])
     (.seq (.region false [⟨(some 37), .fieldAddr 0 (.tmp 1), none, [], false, false⟩,
         ⟨(some 38), .fieldAddr 3 (.tmp 37), none, [], false, false⟩,
         ⟨(some 39), .load false 1 (.tmp 38), none, [], false, false⟩,
         ⟨(some 40), .fieldAddr 0 (.tmp 6), none, [], false, false⟩,
         ⟨(some 41), .load false 1 (.tmp 40), none, [], false, false⟩,
         ⟨(some 42), .bin .mul (.tmp 39) (.tmp 41), none, [], false, false⟩,
         ⟨(some 43), .fieldAddr 11 (.tmp 1), none, [], false, false⟩,
         ⟨(some 44), .fieldAddr 1 (.tmp 43), none, [], false, false⟩,
         ⟨(some 45), .load false 1 (.tmp 44), none, [], false, false⟩,
         ⟨(some 46), .bin .mul (.const (.int .i64 1000)) (.tmp 45), none, [], false, false⟩,
         ⟨(some 47), .fieldAddr 0 (.tmp 1), none, [], false, false⟩,
         ⟨(some 48), .fieldAddr 3 (.tmp 47), none, [], false, false⟩,
         ⟨(some 49), .load false 1 (.tmp 48), none, [], false, false⟩,
         ⟨(some 50), .fieldAddr 1 (.tmp 6), none, [], false, false⟩,
         ⟨(some 51), .load false 1 (.tmp 50), none, [], false, false⟩,
         ⟨(some 52), .bin .mul (.tmp 49) (.tmp 51), none, [], false, false⟩,
         ⟨(some 53), .fieldAddr 11 (.tmp 1), none, [], false, false⟩,
         ⟨(some 54), .fieldAddr 0 (.tmp 53), none, [], false, false⟩,
         ⟨(some 55), .load false 1 (.tmp 54), none, [], false, false⟩,
         ⟨(some 56), .bin .mul (.const (.int .i64 1000)) (.tmp 55), none, [], false, false⟩,
         ⟨(some 57), .call 71 [(.tmp 42), (.tmp 46), (.tmp 52), (.tmp 56)], none, [], false, false⟩,
         ⟨none, .store 2 (.tmp 2) (.tmp 57), none, [], false, false⟩,
         ⟨(some 3), .move (.const (.int .i64 0)), none, [], false, false⟩])
      (.ret)))))),
 [.cell 2 true 2, .tmp 3], .pure, 58⟩

/-- (agraffe/scale.sound).impedance -/
def ef58 : EFun := ⟨
 .seq (.region false [⟨(some 1), .box (.tmp 0), none, [], false, false⟩,
    ⟨(some 2), .push [(.int .i64 0), (.int .i64 0)], none, [], false, false⟩,
    ⟨(some 3), .move (.const (.int .i64 0)), none, [], false, false⟩])
 (.seq (.seq (.region false [⟨(some 4), .fieldAddr 9 (.tmp 1), none, [], false, false⟩,
      ⟨(some 5), .fieldAddr 0 (.tmp 4), none, [], false, false⟩,
      ⟨(some 6), .load false 1 (.tmp 5), none, [], false, false⟩,
      ⟨(some 7), .bin .eql (.tmp 6) (.const (.int .i64 0)), none, [], false, false⟩])
   (.cond (.tmp 7) (.seq (.region false [⟨(some 8), .build [(.int .i64 0), (.int .i64 0)] [], none, [], false, false⟩,
        ⟨none, .store 2 (.tmp 2) (.tmp 8), none, [], false, false⟩,
        ⟨(some 3), .move (.const (.int .i64 11)), none, [], false, false⟩])
     (.ret))
    (.skip)))
  (.seq (.region false [⟨(some 9), .fieldAddr 11 (.tmp 1), none, [], false, false⟩,
      ⟨(some 10), .fieldAddr 0 (.tmp 9), none, [], false, false⟩,
      ⟨(some 11), .load false 1 (.tmp 10), none, [], false, false⟩,
      ⟨(some 12), .bin .mul (.const (.int .i64 1000)) (.tmp 11), none, [], false, false⟩,
      ⟨(some 13), .fieldAddr 9 (.tmp 1), none, [], false, false⟩,
      ⟨(some 14), .fieldAddr 1 (.tmp 13), none, [], false, false⟩,
      ⟨(some 15), .load false 1 (.tmp 14), none, [], false, false⟩,
      ⟨(some 16), .fieldAddr 11 (.tmp 1), none, [], false, false⟩,
      ⟨(some 17), .fieldAddr 1 (.tmp 16), none, [], false, false⟩,
      ⟨(some 18), .load false 1 (.tmp 17), none, [], false, false⟩,
      ⟨(some 19), .bin .mul (.const (.int .i64 1000)) (.tmp 18), none, [], false, false⟩,
      ⟨(some 20), .fieldAddr 9 (.tmp 1), none, [], false, false⟩,
      ⟨(some 21), .fieldAddr 0 (.tmp 20), none, [], false, false⟩,
      ⟨(some 22), .load false 1 (.tmp 21), none, [], false, false⟩,
      ⟨(some 23), .call 71 [(.tmp 12), (.tmp 15), (.tmp 19), (.tmp 22)], none, [], false, false⟩,
      ⟨none, .store 2 (.tmp 2) (.tmp 23), none, [], false, false⟩,
      ⟨(some 3), .move (.const (.int .i64 0)), none, [], false, false⟩])
   (.ret))),
 [.cell 2 true 2, .tmp 3], .pure, 24⟩

/-- agraffe/number.Solve -/
def ef59 : EFun := ⟨
 .seq (.region false [⟨(some 4), .move (.const (.slice none 0 0)), none, [], false, false⟩,
    ⟨(some 5), .move (.const (.slice none 0 0)), none, [], false, false⟩,
    ⟨(some 6), .move (.const (.int .i64 0)), none, [], false, false⟩])
 (.seq (.seq (.region false [⟨(some 13), .move (.tmp 0), none, [], false, false⟩,
      ⟨(some 14), .move (.tmp 1), none, [], false, false⟩,
      ⟨(some 15), .call 60 [(.tmp 13), (.tmp 14)], none, [], false, false⟩,
      ⟨(some 7), .move (.tmp 15), none, [], false, false⟩])
   (.seq (.region false [⟨(some 16), .move (.tmp 7), none, [], false, false⟩,
       ⟨(some 17), .bin .neq (.tmp 16) (.const (.int .i64 0)), none, [], false, false⟩])
    (.cond (.tmp 17) (.seq (.region false [⟨(some 18), .move (.tmp 7), none, [], false, false⟩,
         ⟨(some 4), .move (.const (.slice none 0 0)), none, [], false, false⟩,
         ⟨(some 5), .move (.const (.slice none 0 0)), none, [], false, false⟩,
         ⟨(some 6), .move (.tmp 18), none, [], false, false⟩])
      (.ret))
     (.skip))))
  (.seq (.region true [⟨(some 19), .move (.tmp 0), none, [], false, false⟩,
      ⟨(some 20), .makeSlice 1 8 [(.int .i64 0)] (.tmp 19) (.tmp 19), none, [], false, false⟩,
      ⟨(some 21), .move (.tmp 0), none, [], false, false⟩,
      ⟨(some 22), .makeSlice 1 8 [(.int .i64 0)] (.tmp 21) (.tmp 21), none, [], false, false⟩,
      ⟨(some 8), .move (.tmp 20), none, [], false, false⟩,
      ⟨(some 9), .move (.tmp 22), none, [], false, false⟩])
   (.seq (.region false [⟨(some 10), .move (.const (.int .i64 0)), none, [], false, false⟩])
    (.seq (.seq (.region false [⟨(some 23), .move (.tmp 0), none, [], false, false⟩,
         ⟨(some 24), .move (.const (.int .i64 0)), none, [], false, false⟩])
      (.block 0 (.loop (some [0, 1, 8, 9, 10, 23, 24]) (
        .seq (.region false [⟨(some 25), .bin .lss (.tmp 24) (.tmp 23), none, [], false, false⟩])
         (.seq (.cond (.tmp 25) (.skip)
           (.exit 0))
          (.seq (.block 1 (.seq (.region false [⟨(some 26), .move (.tmp 1), none, [], false, false⟩,
                ⟨(some 27), .move (.tmp 8), none, [], false, false⟩,
                ⟨(some 28), .move (.tmp 9), none, [], false, false⟩,
                ⟨(some 29), .call 74 [(.tmp 26), (.tmp 27), (.tmp 28)], none, [], false, false⟩,
                ⟨(some 10), .move (.tmp 29), none, [], false, false⟩])
             (.seq (.region false [⟨(some 30), .move (.tmp 10), none, [], false, false⟩,
                 ⟨(some 31), .bin .lss (.tmp 30) (.const (.int .i64 0)), none, [], false, false⟩])
              (.cond (.tmp 31) (.seq (.region false [⟨(some 32), .move (.tmp 8), none, [], false, false⟩,
                   ⟨(some 4), .move (.tmp 32), none, [], false, false⟩,
                   ⟨(some 5), .move (.const (.slice none 0 0)), none, [], false, false⟩,
                   ⟨(some 6), .move (.const (.int .i64 0)), none, [], false, false⟩])
                (.ret))
               (.skip)))))
           (.region false [⟨(some 33), .bin .add (.tmp 24) (.const (.int .i64 1)), none, [], false, false⟩,
              ⟨(some 24), .move (.tmp 33), none, [], false, false⟩])))))))
     (.seq (.seq (.region false [⟨(some 34), .move (.tmp 0), none, [], false, false⟩,
          ⟨(some 35), .move (.const (.int .i64 0)), none, [], false, false⟩])
       (.block 2 (.loop (some [1, 9, 10, 34, 35]) (
         .seq (.region false [⟨(some 36), .bin .lss (.tmp 35) (.tmp 34), none, [], false, false⟩])
          (.seq (.cond (.tmp 36) (.skip)
            (.exit 2))
           (.seq (.block 3 (.region false [⟨(some 37), .move (.tmp 1), none, [], false, false⟩,
                ⟨(some 38), .move (.tmp 9), none, [], false, false⟩,
                ⟨(some 39), .move (.tmp 10), none, [], false, false⟩,
                ⟨(some 40), .indexAddr none 1 (.tmp 38) (.tmp 39), none, [], false, false⟩,
                ⟨(some 41), .load false 1 (.tmp 40), none, [], false, false⟩,
                ⟨(some 42), .indexAddr none 3 (.tmp 37) (.tmp 41), none, [], false, false⟩,
                ⟨(some 43), .fieldAddr 0 (.tmp 42), none, [], false, false⟩,
                ⟨(some 44), .load false 1 (.tmp 43), none, [], false, false⟩,
                ⟨(some 10), .move (.tmp 44), none, [], false, false⟩]))
            (.region false [⟨(some 45), .bin .add (.tmp 35) (.const (.int .i64 1)), none, [], false, false⟩,
               ⟨(some 35), .move (.tmp 45), none, [], false, false⟩])))))))
      (.seq (.region false [⟨(some 11), .move (.const (.slice none 0 0)), none, [], false, false⟩])
       (.seq (.seq (.region false [⟨(some 46), .move (.tmp 10), none, [], false, false⟩,
            ⟨(some 12), .move (.tmp 46), none, [], false, false⟩])
         (.block 4 (.loop (some [1, 9, 10, 11, 12]) (
           .seq (.seq (.region false [⟨(some 47), .move (.tmp 11), none, [], false, false⟩,
                ⟨(some 48), .len false (.tmp 47), none, [], false, false⟩,
                ⟨(some 49), .bin .eql (.tmp 48) (.const (.int .i64 0)), none, [], false, false⟩,
                ⟨(some 50), .move (.tmp 49), none, [], false, false⟩,
                ⟨(some 51), .move (.tmp 12), (some (50, false)), [], false, false⟩,
                ⟨(some 52), .move (.tmp 10), (some (50, false)), [], false, false⟩,
                ⟨(some 53), .bin .neq (.tmp 51) (.tmp 52), (some (50, false)), [], false, false⟩,
                ⟨(some 54), .pick (.tmp 50) (.const (.bool true)) (.tmp 53), none, [], false, false⟩])
             (.cond (.tmp 54) (.skip)
              (.exit 4)))
            (.seq (.block 5 (.region false [⟨(some 63), .move (.tmp 11), none, [], false, false⟩,
                 ⟨(some 64), .move (.tmp 9), none, [], false, false⟩,
                 ⟨(some 65), .move (.tmp 12), none, [], false, false⟩,
                 ⟨(some 66), .indexAddr none 1 (.tmp 64) (.tmp 65), none, [], false, false⟩,
                 ⟨(some 67), .load false 1 (.tmp 66), none, [], false, false⟩,
                 ⟨(some 68), .buildSlice 1 1 [(.int .i64 0)] [(0, 1, (.tmp 67))], none, [], false, false⟩,
                 ⟨(some 69), .append 1 8 (.tmp 63) (.tmp 68), none, [], false, false⟩,
                 ⟨(some 11), .move (.tmp 69), none, [], false, false⟩]))
             (.region false [⟨(some 55), .move (.tmp 1), none, [], false, false⟩,
                ⟨(some 56), .move (.tmp 9), none, [], false, false⟩,
                ⟨(some 57), .move (.tmp 12), none, [], false, false⟩,
                ⟨(some 58), .indexAddr none 1 (.tmp 56) (.tmp 57), none, [], false, false⟩,
                ⟨(some 59), .load false 1 (.tmp 58), none, [], false, false⟩,
                ⟨(some 60), .indexAddr none 3 (.tmp 55) (.tmp 59), none, [], false, false⟩,
                ⟨(some 61), .fieldAddr 0 (.tmp 60), none, [], false, false⟩,
                ⟨(some 62), .load false 1 (.tmp 61), none, [], false, false⟩,
                ⟨(some 12), .move (.tmp 62), none, [], false, false⟩]))))))
        (.seq (.region false [⟨(some 70), .move (.tmp 11), none, [], false, false⟩,
            ⟨(some 71), .call 75 [(.tmp 70)], none, [], false, false⟩])
         (.seq (.region false [⟨(some 72), .move (.tmp 11), none, [], false, false⟩,
             ⟨(some 4), .move (.const (.slice none 0 0)), none, [], false, false⟩,
             ⟨(some 5), .move (.tmp 72), none, [], false, false⟩,
             ⟨(some 6), .move (.const (.int .i64 21)), none, [], false, false⟩])
          (.ret)))))))))),
 [.tmp 4, .tmp 5, .tmp 6], .pure, 73⟩

/-- agraffe/number.CheckSystem -/
def ef60 : EFun := ⟨
 .seq (.region false [⟨(some 4), .move (.const (.int .i64 0)), none, [], false, false⟩])
 (.seq (.block 0 (.seq (.region false [⟨(some 8), .move (.tmp 0), none, [], false, false⟩,
       ⟨(some 9), .call 61 [(.tmp 8), (.const (.int .i64 1)), (.const (.int .i64 60))], none, [], false, false⟩,
       ⟨(some 10), .un .not (.tmp 9), none, [], false, false⟩,
       ⟨(some 7), .move (.tmp 10), none, [], false, false⟩])
    (.cond (.tmp 7) (.seq (.region false [⟨(some 4), .move (.const (.int .i64 2)), none, [], false, false⟩])
      (.ret))
     (.seq (.region false [⟨(some 12), .move (.tmp 1), none, [], false, false⟩,
         ⟨(some 13), .len false (.tmp 12), none, [], false, false⟩,
         ⟨(some 14), .bin .gtr (.tmp 13) (.const (.int .i64 200)), none, [], false, false⟩,
         ⟨(some 11), .move (.tmp 14), none, [], false, false⟩])
      (.cond (.tmp 11) (.seq (.region false [⟨(some 4), .move (.const (.int .i64 8)), none, [], false, false⟩])
        (.ret))
       (.skip))))))
  (.seq (.seq (.region false [⟨(some 15), .move (.tmp 1), none, [], false, false⟩,
       ⟨(some 16), .len false (.tmp 15), none, [], false, false⟩,
       ⟨(some 17), .move (.const (.int .i64 0)), none, [], false, false⟩])
    (.block 1 (.loop (some [0, 15, 16, 17]) (
      .seq (.region false [⟨(some 18), .bin .lss (.tmp 17) (.tmp 16), none, [], false, false⟩])
       (.seq (.cond (.tmp 18) (.skip)
         (.exit 1))
        (.seq (.block 2 (.seq (.region false [⟨(some 19), .indexAddr none 3 (.tmp 15) (.tmp 17), none, [], false, false⟩,
              ⟨(some 20), .load true 3 (.tmp 19), none, [], false, false⟩,
              ⟨(some 6), .push [(.int .i64 0), (.int .i64 0), (.int .i64 0)], none, [], false, false⟩,
              ⟨none, .store 3 (.tmp 6) (.tmp 20), none, [], false, false⟩])
           (.block 3 (.seq (.region false [⟨(some 22), .fieldAddr 0 (.tmp 6), none, [], false, false⟩,
                ⟨(some 23), .load false 1 (.tmp 22), none, [], false, false⟩,
                ⟨(some 24), .move (.tmp 0), none, [], false, false⟩,
                ⟨(some 25), .bin .sub (.tmp 24) (.const (.int .i64 1)), none, [], false, false⟩,
                ⟨(some 26), .call 61 [(.tmp 23), (.const (.int .i64 0)), (.tmp 25)], none, [], false, false⟩,
                ⟨(some 27), .un .not (.tmp 26), none, [], false, false⟩,
                ⟨(some 28), .move (.tmp 27), none, [], false, false⟩,
                ⟨(some 29), .fieldAddr 1 (.tmp 6), (some (28, false)), [], false, false⟩,
                ⟨(some 30), .load false 1 (.tmp 29), (some (28, false)), [], false, false⟩,
                ⟨(some 31), .move (.tmp 0), (some (28, false)), [], false, false⟩,
                ⟨(some 32), .bin .sub (.tmp 31) (.const (.int .i64 1)), (some (28, false)), [], false, false⟩,
                ⟨(some 33), .call 61 [(.tmp 30), (.const (.int .i64 0)), (.tmp 32)], (some (28, false)), [], false, false⟩,
                ⟨(some 34), .un .not (.tmp 33), (some (28, false)), [], false, false⟩,
                ⟨(some 35), .pick (.tmp 28) (.const (.bool true)) (.tmp 34), none, [], false, false⟩,
                ⟨(some 21), .move (.tmp 35), none, [], false, false⟩])
             (.cond (.tmp 21) (.seq (.region false [⟨(some 4), .move (.const (.int .i64 6)), none, [], false, false⟩])
               (.ret))
              (.seq (.region false [⟨(some 37), .fieldAddr 2 (.tmp 6), none, [], false, false⟩,
                  ⟨(some 38), .load false 1 (.tmp 37), none, [], false, false⟩,
                  ⟨(some 39), .call 61 [(.tmp 38), (.const (.int .i64 (-1000000000))), (.const (.int .i64 1000000000))], none, [], false, false⟩,
                  ⟨(some 40), .un .not (.tmp 39), none, [], false, false⟩,
                  ⟨(some 36), .move (.tmp 40), none, [], false, false⟩])
               (.cond (.tmp 36) (.seq (.region false [⟨(some 4), .move (.const (.int .i64 2)), none, [], false, false⟩])
                 (.ret))
                (.skip))))))))
         (.region false [⟨(some 41), .bin .add (.tmp 17) (.const (.int .i64 1)), none, [], false, false⟩,
            ⟨(some 17), .move (.tmp 41), none, [], false, false⟩])))))))
   (.seq (.region false [⟨(some 4), .move (.const (.int .i64 0)), none, [], false, false⟩])
    (.ret)))),
 [.tmp 4], .pure, 42⟩

/-- agraffe/number.within -/
def ef61 : EFun := ⟨
 .seq (.region false [⟨(some 6), .move (.const (.bool false)), none, [], false, false⟩])
 (.seq (.region false [⟨(some 7), .move (.tmp 0), none, [], false, false⟩,
     ⟨(some 8), .move (.tmp 1), none, [], false, false⟩,
     ⟨(some 9), .bin .geq (.tmp 7) (.tmp 8), none, [], false, false⟩,
     ⟨(some 10), .move (.tmp 9), none, [], false, false⟩,
     ⟨(some 11), .move (.tmp 0), (some (10, true)), [], false, false⟩,
     ⟨(some 12), .move (.tmp 2), (some (10, true)), [], false, false⟩,
     ⟨(some 13), .bin .leq (.tmp 11) (.tmp 12), (some (10, true)), [], false, false⟩,
     ⟨(some 14), .pick (.tmp 10) (.tmp 13) (.const (.bool false)), none, [], false, false⟩,
     ⟨(some 6), .move (.tmp 14), none, [], false, false⟩])
  (.ret)),
 [.tmp 6], .pure, 15⟩

/-- sort.SearchInts -/
def ef62 : EFun := ⟨
 .seq (.region false [⟨(some 2), .box (.tmp 0), none, [], false, false⟩,
    ⟨(some 3), .box (.tmp 1), none, [], false, false⟩,
    ⟨(some 4), .move (.const (.int .i64 0)), none, [], false, false⟩])
 (.seq (.region false [⟨(some 5), .load false 1 (.tmp 2), none, [], false, false⟩,
     ⟨(some 6), .len false (.tmp 5), none, [], false, false⟩,
     ⟨(some 7), .makeFunc (.func 77) [(.tmp 2), (.tmp 3)], none, [], false, false⟩,
     ⟨(some 8), .call 76 [(.tmp 6), (.tmp 7)], none, [], false, false⟩,
     ⟨(some 4), .move (.tmp 8), none, [], false, false⟩])
  (.ret)),
 [.tmp 4], .pure, 9⟩

/-- agraffe/agrafferef02.below -/
def ef63 : EFun := ⟨
 .seq (.region false [⟨(some 4), .move (.const (.int .i64 0)), none, [], false, false⟩])
 (.seq (.region false [⟨(some 5), .move (.const (.int .i64 0)), none, [], false, false⟩])
  (.seq (.seq (.region false [⟨(some 6), .move (.const (.int .i64 0)), none, [], false, false⟩])
    (.block 0 (.loop (some [0, 1, 5, 6]) (
      .seq (.seq (.region false [⟨(some 7), .move (.tmp 6), none, [], false, false⟩,
           ⟨(some 8), .move (.tmp 0), none, [], false, false⟩,
           ⟨(some 9), .len false (.tmp 8), none, [], false, false⟩,
           ⟨(some 10), .bin .lss (.tmp 7) (.tmp 9), none, [], false, false⟩])
        (.cond (.tmp 10) (.skip)
         (.exit 0)))
       (.seq (.block 1 (.seq (.region false [⟨(some 13), .move (.tmp 0), none, [], false, false⟩,
             ⟨(some 14), .move (.tmp 6), none, [], false, false⟩,
             ⟨(some 15), .indexAddr none 1 (.tmp 13) (.tmp 14), none, [], false, false⟩,
             ⟨(some 16), .load false 1 (.tmp 15), none, [], false, false⟩,
             ⟨(some 17), .move (.tmp 1), none, [], false, false⟩,
             ⟨(some 18), .bin .leq (.tmp 16) (.tmp 17), none, [], false, false⟩])
          (.cond (.tmp 18) (.region false [⟨(some 19), .move (.tmp 5), none, [], false, false⟩,
              ⟨(some 20), .bin .add (.tmp 19) (.const (.int .i64 1)), none, [], false, false⟩,
              ⟨(some 5), .move (.tmp 20), none, [], false, false⟩])
           (.skip))))
        (.region false [⟨(some 11), .move (.tmp 6), none, [], false, false⟩,
           ⟨(some 12), .bin .add (.tmp 11) (.const (.int .i64 1)), none, [], false, false⟩,
           ⟨(some 6), .move (.tmp 12), none, [], false, false⟩]))))))
   (.seq (.region false [⟨(some 21), .move (.tmp 5), none, [], false, false⟩,
       ⟨(some 4), .move (.tmp 21), none, [], false, false⟩])
    (.ret)))),
 [.tmp 4], .pure, 22⟩

/-- agraffe/scale.checkFrequency -/
def ef64 : EFun := ⟨
 .seq (.region false [⟨(some 1), .box (.tmp 0), none, [], false, false⟩,
    ⟨(some 2), .move (.const (.int .i64 0)), none, [], false, false⟩])
 (.seq (.seq (.region false [⟨(some 3), .fieldAddr 0 (.tmp 1), none, [], false, false⟩,
      ⟨(some 4), .load false 1 (.tmp 3), none, [], false, false⟩,
      ⟨(some 5), .bin .lss (.tmp 4) (.const (.int .i64 1)), none, [], false, false⟩,
      ⟨(some 6), .move (.tmp 5), none, [], false, false⟩,
      ⟨(some 7), .fieldAddr 0 (.tmp 1), (some (6, false)), [], false, false⟩,
      ⟨(some 8), .load false 1 (.tmp 7), (some (6, false)), [], false, false⟩,
      ⟨(some 9), .fieldAddr 1 (.tmp 1), (some (6, false)), [], false, false⟩,
      ⟨(some 10), .load false 1 (.tmp 9), (some (6, false)), [], false, false⟩,
      ⟨(some 11), .bin .gtr (.tmp 8) (.tmp 10), (some (6, false)), [], false, false⟩,
      ⟨(some 12), .pick (.tmp 6) (.const (.bool true)) (.tmp 11), none, [], false, false⟩,
      ⟨(some 13), .move (.tmp 12), none, [], false, false⟩,
      ⟨(some 14), .fieldAddr 1 (.tmp 1), (some (13, false)), [], false, false⟩,
      ⟨(some 15), .load false 1 (.tmp 14), (some (13, false)), [], false, false⟩,
      ⟨(some 16), .bin .gtr (.tmp 15) (.const (.int .i64 10000000)), (some (13, false)), [], false, false⟩,
      ⟨(some 17), .pick (.tmp 13) (.const (.bool true)) (.tmp 16), none, [], false, false⟩])
   (.cond (.tmp 17) (.seq (.region false [⟨(some 2), .move (.const (.int .i64 2)), none, [], false, false⟩])
     (.ret))
    (.skip)))
  (.seq (.region false [⟨(some 2), .move (.const (.int .i64 0)), none, [], false, false⟩])
   (.ret))),
 [.tmp 2], .pure, 18⟩

/-- agraffe/scale.sounding -/
def ef65 : EFun := ⟨
 .seq (.region false [⟨(some 4), .box (.tmp 1), none, [], false, false⟩,
    ⟨(some 5), .box (.tmp 2), none, [], false, false⟩,
    ⟨(some 6), .push [(.string ⟨#[]⟩), (.int .i64 0), (.int .i64 0), (.int .i64 0), (.int .i64 0), (.int .i64 0), (.int .i64 0), (.string ⟨#[]⟩), (.string ⟨#[]⟩), (.int .i64 0), (.int .i64 0), (.int .i64 0), (.int .i64 0)], none, [], false, false⟩])
 (.seq (.region false [⟨(some 14), .move (.tmp 0), none, [], false, false⟩,
     ⟨(some 15), .fieldAddr 3 (.tmp 4), none, [], false, false⟩,
     ⟨(some 16), .load false 1 (.tmp 15), none, [], false, false⟩,
     ⟨(some 17), .call 51 [(.tmp 14), (.tmp 16)], none, [], false, false⟩,
     ⟨(some 13), .move (.tmp 17), none, [], false, false⟩,
     ⟨(some 18), .extract (.tmp 13) 0, none, [], false, false⟩,
     ⟨(some 19), .extract (.tmp 13) 1, none, [], false, false⟩,
     ⟨(some 7), .push [(.string ⟨#[]⟩), (.int .i64 0), (.int .i64 0), (.int .i64 0)], none, [], false, false⟩,
     ⟨none, .store 4 (.tmp 7) (.tmp 18), none, [], false, false⟩,
     ⟨(some 8), .move (.tmp 19), none, [], false, false⟩])
  (.seq (.region false [⟨(some 20), .fieldAddr 0 (.tmp 5), none, [], false, false⟩,
      ⟨(some 21), .load false 1 (.tmp 20), none, [], false, false⟩,
      ⟨(some 22), .fieldAddr 0 (.tmp 4), none, [], false, false⟩,
      ⟨(some 23), .load false 1 (.tmp 22), none, [], false, false⟩,
      ⟨(some 24), .bin .mul (.tmp 21) (.tmp 23), none, [], false, false⟩,
      ⟨(some 25), .fieldAddr 1 (.tmp 5), none, [], false, false⟩,
      ⟨(some 26), .load false 1 (.tmp 25), none, [], false, false⟩,
      ⟨(some 27), .fieldAddr 0 (.tmp 4), none, [], false, false⟩,
      ⟨(some 28), .load false 1 (.tmp 27), none, [], false, false⟩,
      ⟨(some 29), .bin .mul (.tmp 26) (.tmp 28), none, [], false, false⟩,
      ⟨(some 30), .call 70 [(.tmp 24), (.tmp 29), (.const (.int .i64 1000000))], none, [], false, false⟩,
      ⟨(some 9), .push [(.int .i64 0), (.int .i64 0)], none, [], false, false⟩,
      ⟨none, .store 2 (.tmp 9) (.tmp 30), none, [], false, false⟩])
   (.seq (.region false [⟨(some 31), .fieldAddr 0 (.tmp 9), none, [], false, false⟩,
       ⟨(some 32), .load false 1 (.tmp 31), none, [], false, false⟩,
       ⟨(some 33), .fieldAddr 0 (.tmp 9), none, [], false, false⟩,
       ⟨(some 34), .load false 1 (.tmp 33), none, [], false, false⟩,
       ⟨(some 35), .bin .mul (.tmp 32) (.tmp 34), none, [], false, false⟩,
       ⟨(some 36), .fieldAddr 1 (.tmp 9), none, [], false, false⟩,
       ⟨(some 37), .load false 1 (.tmp 36), none, [], false, false⟩,
       ⟨(some 38), .fieldAddr 1 (.tmp 9), none, [], false, false⟩,
       ⟨(some 39), .load false 1 (.tmp 38), none, [], false, false⟩,
       ⟨(some 40), .bin .mul (.tmp 37) (.tmp 39), none, [], false, false⟩,
       ⟨(some 41), .call 70 [(.tmp 35), (.tmp 40), (.const (.int .i64 10000))], none, [], false, false⟩,
       ⟨(some 10), .push [(.int .i64 0), (.int .i64 0)], none, [], false, false⟩,
       ⟨none, .store 2 (.tmp 10) (.tmp 41), none, [], false, false⟩])
    (.seq (.region false [⟨(some 42), .move (.tmp 0), none, [], false, false⟩,
        ⟨(some 43), .load true 5 (.tmp 4), none, [], false, false⟩,
        ⟨(some 44), .call 46 [(.tmp 42), (.tmp 43)], none, [], false, false⟩,
        ⟨(some 11), .move (.tmp 44), none, [], false, false⟩])
     (.seq (.region false [⟨(some 45), .move (.tmp 11), none, [], false, false⟩,
         ⟨(some 46), .move (.tmp 11), none, [], false, false⟩,
         ⟨(some 47), .call 70 [(.tmp 45), (.tmp 46), (.const (.int .i64 10000))], none, [], false, false⟩,
         ⟨(some 12), .push [(.int .i64 0), (.int .i64 0)], none, [], false, false⟩,
         ⟨none, .store 2 (.tmp 12) (.tmp 47), none, [], false, false⟩])
      (.seq (.region true [⟨(some 48), .load true 4 (.tmp 7), none, [], false, false⟩,
          ⟨(some 49), .load true 5 (.tmp 4), none, [], false, false⟩,
          ⟨(some 50), .load true 2 (.tmp 9), none, [], false, false⟩,
          ⟨(some 51), .fieldAddr 0 (.tmp 12), none, [], false, false⟩,
          ⟨(some 52), .load false 1 (.tmp 51), none, [], false, false⟩,
          ⟨(some 53), .fieldAddr 0 (.tmp 10), none, [], false, false⟩,
          ⟨(some 54), .load false 1 (.tmp 53), none, [], false, false⟩,
          ⟨(some 55), .bin .mul (.tmp 52) (.tmp 54), none, [], false, false⟩,
          ⟨(some 56), .fieldAddr 1 (.tmp 12), none, [], false, false⟩,
          ⟨(some 57), .load false 1 (.tmp 56), none, [], false, false⟩,
          ⟨(some 58), .fieldAddr 1 (.tmp 10), none, [], false, false⟩,
          ⟨(some 59), .load false 1 (.tmp 58), none, [], false, false⟩,
          ⟨(some 60), .bin .mul (.tmp 57) (.tmp 59), none, [], false, false⟩,
          ⟨(some 61), .call 70 [(.tmp 55), (.tmp 60), (.const (.int .i64 1000000))], none, [], false, true⟩,
          ⟨(some 62), .build [(.string ⟨#[]⟩), (.int .i64 0), (.int .i64 0), (.int .i64 0), (.int .i64 0), (.int .i64 0), (.int .i64 0), (.string ⟨#[]⟩), (.string ⟨#[]⟩), (.int .i64 0), (.int .i64 0), (.int .i64 0), (.int .i64 0)] [(0, 4, (.tmp 48)), (4, 5, (.tmp 49)), (9, 2, (.tmp 50)), (11, 2, (.tmp 61))], none, [], false, false⟩,
          ⟨none, .store 13 (.tmp 6) (.tmp 62), none, [], false, false⟩])
       (.ret))))))),
 [.cell 6 true 13], .pure, 63⟩

/-- agraffe/agraffebase.isLetter -/
def ef66 : EFun := ⟨
 .seq (.region false [⟨(some 2), .move (.const (.bool false)), none, [], false, false⟩])
 (.seq (.region false [⟨(some 3), .move (.tmp 0), none, [], false, false⟩,
     ⟨(some 4), .bin .geq (.tmp 3) (.const (.int .u8 97)), none, [], false, false⟩,
     ⟨(some 5), .move (.tmp 4), none, [], false, false⟩,
     ⟨(some 6), .move (.tmp 0), (some (5, true)), [], false, false⟩,
     ⟨(some 7), .bin .leq (.tmp 6) (.const (.int .u8 122)), (some (5, true)), [], false, false⟩,
     ⟨(some 8), .pick (.tmp 5) (.tmp 7) (.const (.bool false)), none, [], false, false⟩,
     ⟨(some 9), .move (.tmp 8), none, [], false, false⟩,
     ⟨(some 10), .move (.tmp 0), (some (9, false)), [], false, false⟩,
     ⟨(some 11), .bin .geq (.tmp 10) (.const (.int .u8 65)), (some (9, false)), [], false, false⟩,
     ⟨(some 12), .move (.tmp 11), (some (9, false)), [], false, false⟩,
     ⟨(some 13), .move (.tmp 0), (some (12, true)), [], false, false⟩,
     ⟨(some 14), .bin .leq (.tmp 13) (.const (.int .u8 90)), (some (12, true)), [], false, false⟩,
     ⟨(some 15), .pick (.tmp 12) (.tmp 14) (.const (.bool false)), (some (9, false)), [], false, false⟩,
     ⟨(some 16), .pick (.tmp 9) (.const (.bool true)) (.tmp 15), none, [], false, false⟩,
     ⟨(some 2), .move (.tmp 16), none, [], false, false⟩])
  (.ret)),
 [.tmp 2], .pure, 17⟩

/-- agraffe/agraffebase.isDigit -/
def ef67 : EFun := ⟨
 .seq (.region false [⟨(some 2), .move (.const (.bool false)), none, [], false, false⟩])
 (.seq (.region false [⟨(some 3), .move (.tmp 0), none, [], false, false⟩,
     ⟨(some 4), .bin .geq (.tmp 3) (.const (.int .u8 48)), none, [], false, false⟩,
     ⟨(some 5), .move (.tmp 4), none, [], false, false⟩,
     ⟨(some 6), .move (.tmp 0), (some (5, true)), [], false, false⟩,
     ⟨(some 7), .bin .leq (.tmp 6) (.const (.int .u8 57)), (some (5, true)), [], false, false⟩,
     ⟨(some 8), .pick (.tmp 5) (.tmp 7) (.const (.bool false)), none, [], false, false⟩,
     ⟨(some 2), .move (.tmp 8), none, [], false, false⟩])
  (.ret)),
 [.tmp 2], .pure, 9⟩

/-- slices.IndexFunc[[]agraffe/api.Wire,agraffe/api.Wire] -/
def ef68 : EFun := ⟨
 .seq (.region false [⟨(some 4), .move (.const (.int .i64 0)), none, [], false, false⟩])
 (.seq (.seq (.region false [⟨(some 6), .move (.tmp 0), none, [], false, false⟩,
      ⟨(some 7), .len false (.tmp 6), none, [], false, false⟩,
      ⟨(some 8), .move (.const (.int .i64 0)), none, [], false, false⟩])
   (.block 0 (.loop (some [0, 1, 7, 8]) (
     .seq (.region false [⟨(some 9), .bin .lss (.tmp 8) (.tmp 7), none, [], false, false⟩])
      (.seq (.cond (.tmp 9) (.skip)
        (.exit 0))
       (.seq (.block 1 (.seq (.region false [⟨(some 10), .move (.tmp 8), none, [], false, false⟩,
             ⟨(some 5), .move (.tmp 10), none, [], false, false⟩])
          (.seq (.region false [⟨(some 11), .move (.tmp 1), none, [], false, false⟩,
              ⟨(some 12), .move (.tmp 0), none, [], false, false⟩,
              ⟨(some 13), .move (.tmp 5), none, [], false, false⟩,
              ⟨(some 14), .indexAddr none 4 (.tmp 12) (.tmp 13), none, [], false, false⟩,
              ⟨(some 15), .load true 4 (.tmp 14), none, [], false, false⟩,
              ⟨(some 16), .callVal (.tmp 11) [(.tmp 15)], none, [], false, false⟩])
           (.cond (.tmp 16) (.seq (.region false [⟨(some 17), .move (.tmp 5), none, [], false, false⟩,
                ⟨(some 4), .move (.tmp 17), none, [], false, false⟩])
             (.ret))
            (.skip)))))
        (.region false [⟨(some 18), .bin .add (.tmp 8) (.const (.int .i64 1)), none, [], false, false⟩,
           ⟨(some 8), .move (.tmp 18), none, [], false, false⟩])))))))
  (.seq (.region false [⟨(some 4), .move (.const (.int .i64 (-1))), none, [], false, false⟩])
   (.ret))),
 [.tmp 4], .pure, 19⟩

/-- agraffe/scale.wire$1 -/
def ef69 : EFun := ⟨
 .seq (.region false [⟨(some 2), .box (.tmp 0), none, [], false, false⟩,
    ⟨(some 3), .move (.const (.bool false)), none, [], false, false⟩])
 (.seq (.region false [⟨(some 4), .fieldAddr 0 (.tmp 2), none, [], false, false⟩,
     ⟨(some 5), .load false 1 (.tmp 4), none, [], false, false⟩,
     ⟨(some 6), .load false 1 (.tmp 1), none, [], false, false⟩,
     ⟨(some 7), .bin .eql (.tmp 5) (.tmp 6), none, [], false, false⟩,
     ⟨(some 3), .move (.tmp 7), none, [], false, false⟩])
  (.ret)),
 [.tmp 3], .pure, 8⟩

/-- agraffe/scale.parted -/
def ef70 : EFun := ⟨
 .seq (.region false [⟨(some 6), .push [(.int .i64 0), (.int .i64 0)], none, [], false, false⟩])
 (.seq (.region false [⟨(some 7), .move (.tmp 0), none, [], false, false⟩,
     ⟨(some 8), .move (.tmp 2), none, [], false, false⟩,
     ⟨(some 9), .move (.tmp 1), none, [], false, false⟩,
     ⟨(some 10), .move (.tmp 2), none, [], false, false⟩,
     ⟨(some 11), .call 71 [(.tmp 7), (.tmp 8), (.tmp 9), (.tmp 10)], none, [], false, false⟩,
     ⟨none, .store 2 (.tmp 6) (.tmp 11), none, [], false, false⟩])
  (.ret)),
 [.cell 6 true 2], .pure, 12⟩

/-- agraffe/scale.part -/
def ef71 : EFun := ⟨
 .seq (.region false [⟨(some 8), .push [(.int .i64 0), (.int .i64 0)], none, [], false, false⟩])
 (.seq (.region true [⟨(some 9), .move (.tmp 0), none, [], false, false⟩,
     ⟨(some 10), .move (.tmp 1), none, [], false, false⟩,
     ⟨(some 11), .bin .quo (.tmp 9) (.tmp 10), none, [], false, false⟩,
     ⟨(some 12), .move (.tmp 2), none, [], false, false⟩,
     ⟨(some 13), .move (.tmp 3), none, [], false, false⟩,
     ⟨(some 14), .bin .add (.tmp 12) (.tmp 13), none, [], false, false⟩,
     ⟨(some 15), .bin .sub (.tmp 14) (.const (.int .i64 1)), none, [], false, false⟩,
     ⟨(some 16), .move (.tmp 3), none, [], false, false⟩,
     ⟨(some 17), .bin .quo (.tmp 15) (.tmp 16), none, [], false, false⟩,
     ⟨(some 18), .build [(.int .i64 0), (.int .i64 0)] [(0, 1, (.tmp 11)), (1, 1, (.tmp 17))], none, [], false, false⟩,
     ⟨none, .store 2 (.tmp 8) (.tmp 18), none, [], false, false⟩])
  (.ret)),
 [.cell 8 true 2], .pure, 19⟩

/-- agraffe/agraffebase.Floor -/
def ef72 : EFun := ⟨
 .seq (.region false [⟨(some 4), .move (.const (.int .i64 0)), none, [], false, false⟩])
 (.seq (.region false [⟨(some 6), .move (.tmp 0), none, [], false, false⟩,
     ⟨(some 7), .move (.tmp 1), none, [], false, false⟩,
     ⟨(some 8), .bin .quo (.tmp 6) (.tmp 7), none, [], false, false⟩,
     ⟨(some 5), .move (.tmp 8), none, [], false, false⟩])
  (.seq (.seq (.region false [⟨(some 9), .move (.tmp 0), none, [], false, false⟩,
       ⟨(some 10), .move (.tmp 1), none, [], false, false⟩,
       ⟨(some 11), .bin .rem (.tmp 9) (.tmp 10), none, [], false, false⟩,
       ⟨(some 12), .bin .lss (.tmp 11) (.const (.int .i64 0)), none, [], false, false⟩])
    (.cond (.tmp 12) (.region false [⟨(some 13), .move (.tmp 5), none, [], false, false⟩,
        ⟨(some 14), .bin .sub (.tmp 13) (.const (.int .i64 1)), none, [], false, false⟩,
        ⟨(some 5), .move (.tmp 14), none, [], false, false⟩])
     (.skip)))
   (.seq (.region false [⟨(some 15), .move (.tmp 5), none, [], false, false⟩,
       ⟨(some 4), .move (.tmp 15), none, [], false, false⟩])
    (.ret)))),
 [.tmp 4], .pure, 16⟩

/-- agraffe/agraffebase.Ceil -/
def ef73 : EFun := ⟨
 .seq (.region false [⟨(some 4), .move (.const (.int .i64 0)), none, [], false, false⟩])
 (.seq (.region false [⟨(some 5), .move (.tmp 0), none, [], false, false⟩,
     ⟨(some 6), .un .neg (.tmp 5), none, [], false, false⟩,
     ⟨(some 7), .move (.tmp 1), none, [], false, false⟩,
     ⟨(some 8), .call 72 [(.tmp 6), (.tmp 7)], none, [], false, false⟩,
     ⟨(some 9), .un .neg (.tmp 8), none, [], false, false⟩,
     ⟨(some 4), .move (.tmp 9), none, [], false, false⟩])
  (.ret)),
 [.tmp 4], .pure, 10⟩

end Go.Abs.V
