/- The law TemperNotes, of a row's arguments. -/
import Derived.Test.YtfbelnhibipndaaGreatDoorAbsZDN
set_option linter.unusedSimpArgs false
set_option linter.unusedVariables false
namespace Go.Abs
namespace Z
set_option maxRecDepth 100000
set_option maxHeartbeats 0
theorem sp0 (bs : List (Option Blk)) : SlU ([primesB] ++ bs) (.slice (some ⟨0, 0, none⟩) 3 1) [2, 3, 5] := by
  have g : Heap.get ([primesB] ++ bs) 0 = some ⟨cU [2, 3, 5], false⟩ := rfl
  exact SlU_own (Heap.get_lt g) g
end Z
end Go.Abs
