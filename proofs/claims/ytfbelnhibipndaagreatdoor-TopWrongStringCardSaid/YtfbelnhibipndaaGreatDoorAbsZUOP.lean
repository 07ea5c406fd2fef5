/- A part of a row is appended. -/
import Derived.Test.YtfbelnhibipndaaGreatDoorAbsZUAM
import Derived.Test.YtfbelnhibipndaaGreatDoorAbsZUON
set_option linter.unusedSimpArgs false
set_option linter.unusedVariables false
/- A part of a row is appended. -/
namespace Go.Abs
namespace Z.U
set_option maxRecDepth 100000
end Z.U
end Go.Abs
/- Sets of one note: the loop. -/
namespace Go.Abs
namespace Z.U
set_option maxRecDepth 100000
set_option maxHeartbeats 0
set_option linter.unusedSimpArgs false
/-- The blocks under the loop over sets. -/
structure LB (h : Heap) (v w : Value) (D N : List Int) (sz : Int) (out : Value) (L : List (Option Blk)) : Prop where
  e0 : L[0]? = some (some ⟨[v], true⟩)
  e1 : L[1]? = some (some ⟨[w], true⟩)
  e2 : L[2]? = some (some ⟨cI D, true⟩)
  e3 : L[3]? = some (some ⟨[out], true⟩)
  e4 : L[4]? = some (some ⟨[i64 sz], true⟩)
  e5 : L[5]? = some (some ⟨[vS (h.length + 2) N.length], true⟩)
  e6 : L[6]? = some (rec61 h.length 0)
  e7 : L[7]? = some (some ⟨[yieldVal (h.length + 6)], true⟩)
  e10 : L[10]? = some (some ⟨[f117 h.length], true⟩)
  len : 11 ≤ L.length
/-- What is kept when other blocks turn. -/
theorem LB.keep {h : Heap} {v w out : Value} {D N : List Int} {sz : Int} {L L' : List (Option Blk)} (B : LB h v w D N sz out L) (hl : 11 ≤ L'.length) (k : ∀ i, i < 11 → i ≠ 8 → i ≠ 9 → L'[i]? = L[i]?) : LB h v w D N sz out L' :=
  ⟨(k 0 (by omega) (by omega) (by omega)).trans B.e0, (k 1 (by omega) (by omega) (by omega)).trans B.e1, (k 2 (by omega) (by omega) (by omega)).trans B.e2, (k 3 (by omega) (by omega) (by omega)).trans B.e3, (k 4 (by omega) (by omega) (by omega)).trans B.e4,
   (k 5 (by omega) (by omega) (by omega)).trans B.e5, (k 6 (by omega) (by omega) (by omega)).trans B.e6, (k 7 (by omega) (by omega) (by omega)).trans B.e7, (k 10 (by omega) (by omega) (by omega)).trans B.e10, hl⟩
end Z.U
end Go.Abs
/- The smallest explanations: one note. -/
namespace Go.Abs
namespace Z.U
set_option maxRecDepth 100000
set_option maxHeartbeats 0
set_option linter.unusedSimpArgs false
end Z.U
end Go.Abs
/- The smallest explanations: nothing fails. -/
namespace Go.Abs
namespace Z.U
set_option maxRecDepth 100000
set_option maxHeartbeats 0
set_option linter.unusedSimpArgs false
end Z.U
end Go.Abs
