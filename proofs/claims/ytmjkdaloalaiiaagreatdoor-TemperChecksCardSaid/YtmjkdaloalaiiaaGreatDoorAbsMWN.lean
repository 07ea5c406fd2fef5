--
import Derived.Test.YtmjkdaloalaiiaaGreatDoorAbsMWM
import Derived.Test.YtmjkdaloalaiiaaGreatDoorAbsMDN
set_option linter.unusedSimpArgs false
set_option linter.unusedVariables false
namespace Go.Abs
namespace M
set_option maxRecDepth 100000
set_option maxHeartbeats 0
end M
end Go.Abs
namespace Go.Abs
namespace M
set_option maxRecDepth 100000
set_option maxHeartbeats 0
theorem tmL_congr {nm : List UInt8} {P S P' S' : Nat → Int} (h : ∀ i, i < 12 → P i = P' i ∧ S i = S' i) : tmL nm P S = tmL nm P' S' := by
 have e1 : (List.range 12).map (fun i => i64 (P i)) = (List.range 12).map (fun i => i64 (P' i)) := by
  apply List.map_congr_left; intro j hj; rw [(h j (List.mem_range.1 hj)).1]
 have e2 : (List.range 12).map (fun i => i64 (S i)) = (List.range 12).map (fun i => i64 (S' i)) := by
  apply List.map_congr_left; intro j hj; rw [(h j (List.mem_range.1 hj)).2]
 unfold tmL; rw [e1, e2]
theorem chkT_congr {nm : List UInt8} {P S P' S' : Nat → Int} (h : ∀ i, i < 12 → P i = P' i ∧ S i = S' i) : chkT ⟨nm.toArray⟩ P S = chkT ⟨nm.toArray⟩ P' S' := by
 have a := c10 (d := 0) (lim := 0) (h := []) (tmL_tm nm P S)
 have b := c10 (d := 0) (lim := 0) (h := []) (tmL_tm nm P' S')
 rw [tmL_congr h, b] at a
 simp at a
 exact a.symm
abbrev kT : List CK := [.str, .int .i64, .int .i64, .int .i64, .int .i64, .int .i64, .int .i64, .int .i64, .int .i64, .int .i64, .int .i64, .int .i64, .int .i64, .int .i64, .int .i64, .int .i64, .int .i64, .int .i64, .int .i64, .int .i64, .int .i64, .int .i64, .int .i64, .int .i64, .int .i64]
theorem tmL_same (nm : List UInt8) (P S : Nat → Int) : E.eqCells kT (tmL nm P S) (tmL nm P S) = some true := by
 simp [tmL, kT, E.eqCells, List.range_succ]
end M
end Go.Abs
