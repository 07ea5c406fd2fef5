--
import Derived.Test.YtmjkdaloalaiiaaGreatDoorAbsMWN
set_option linter.unusedSimpArgs false
set_option linter.unusedVariables false
namespace Go.Abs
namespace M
set_option maxRecDepth 100000
def h00 (te : TypeId) : Heap := [primesB, some ⟨[.iface te (.pointer (some ⟨4, 0, none⟩))], false⟩, some ⟨[.iface te (.pointer (some ⟨5, 0, none⟩))], false⟩, some ⟨[], false⟩, none, none]
theorem er00 (te : TypeId) (L : Heap) : Er (h00 te ++ L) := Er.app ⟨rfl, rfl⟩
theorem sp00 (te : TypeId) (L : Heap) : SlU (h00 te ++ L) (.slice (some ⟨0, 0, none⟩) 3 1) [2, 3, 5] := sp1 _
end M
end Go.Abs
