--
import Derived.Test.YtoloaempiiedgaaDoorAbsRXM
import Derived.Test.YtoloaempiiedgaaDoorAbsRYM
set_option linter.unusedSimpArgs false
set_option linter.unusedVariables false
namespace Go.Abs
namespace R
set_option maxRecDepth 100000
set_option maxHeartbeats 0
theorem steel_chk : chkW [steelW] = 0 := by
 have e : wErr [] steelW = 0 := by decide +kernel
 have l1 : ¬ 20 < ([steelW] : List Wi).length := by decide
 unfold chkW
 rw [if_neg l1, chkWL_lt (by decide)]
 rw [show ([steelW] : List Wi).take 0 = [] from rfl, show atW [steelW] 0 = steelW from rfl, if_pos e]
 exact chkWL_ge (by decide)
theorem steel_ok : chkD [steelW] plainS = 0 := by
 have e : sErr [steelW] plainS = 0 := by decide +kernel
 unfold chkD
 rw [if_pos steel_chk, e]
theorem steel_heard : heardE [steelW] plainS 440000 440000 = 0 := by
 unfold heardE
 rw [if_pos steel_ok]; decide
theorem steel_ten : tenL [steelW] plainS 440000 = 76389 ∧ tenH [steelW] plainS 440000 = 76390 := by decide +kernel
theorem steel_nms : Nms [steelW] := by
 intro i hi
 have : i = 0 := by simpa using hi
 subst this
 decide
abbrev bA : Option Blk := some ⟨[i64 440000, i64 440000], true⟩
abbrev bS : Option Blk := some ⟨cS encW [steelW], true⟩
end R
end Go.Abs
