/- A part of a row is appended. -/
import Derived.Test.YtfbelnhibipndaaAbsUC00
import Derived.Test.YtfbelnhibipndaaAbsUA
set_option linter.unusedSimpArgs false
set_option linter.unusedVariables false
namespace Go.Abs
namespace U
set_option maxRecDepth 100000
theorem app_seg {bytes b b2 n m o : Nat} {H : Heap} {X Y Z : List Int} {rw : Bool} (hb : H.get b = some ⟨cI X, true⟩) (hn : n = X.length) (hb2 : H.get b2 = some ⟨cI Y, rw⟩) (hm : m ≠ 0) (hZ : (Y.drop o).take m = Z) (hl : o + m ≤ Y.length)
    (hby : (n + m) * bytes ≤ 140737488355328) (hmx : n + m ≤ 9223372036854775807) :
    E.append H 1 bytes (.slice (some ⟨b, 0, none⟩) n 1) (.slice (some ⟨b2, o, none⟩) m 1) = some ⟨.slice (some ⟨H.length, 0, none⟩) (n + m) 1, [b, b2], .move b ⟨cI (X ++ Z), true⟩⟩ := by
  have hmx' : n + m ≤ maxLen := by unfold maxLen; exact hmx
  have hd : ((cI Y).drop o).take m = cI Z := by rw [← hZ]; unfold cI; rw [List.map_take, List.map_drop]
  have l1 : o + m * 1 ≤ (cI Y).length := by rw [cI_len]; omega
  have one := one_cI Z
  have l2 : 0 + n * 1 = (cI X).length := by rw [cI_len]; omega
  unfold E.append E.added
  rw [Nat.mul_one] at l1 l2
  simp only [hb, hb2, hm, if_false, Nat.mul_one, hd, one]
  simp only [if_true, if_pos l1, one, l2, hby, hmx', and_self, Nat.one_ne_zero, if_false]
  simp [hby, hmx', cI, hn, hm]
end U
end Go.Abs
