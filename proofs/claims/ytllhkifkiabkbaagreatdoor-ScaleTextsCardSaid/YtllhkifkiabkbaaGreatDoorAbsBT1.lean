--
import Derived.Test.YtllhkifkiabkbaaGreatDoorAbsBZ1
import Derived.Test.YtllhkifkiabkbaaGreatDoorAbsBBN
set_option linter.unusedSimpArgs false
set_option linter.unusedVariables false
namespace Go.Abs
namespace B
set_option maxRecDepth 100000
set_option maxHeartbeats 0
abbrev Pr (h:Heap):Prop:=SlU h (.slice (some ⟨0,0,none⟩) 3 1) [2,3,5]
end B
end Go.Abs
