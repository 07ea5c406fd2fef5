--
import Derived.Test.YtoloaempiiedgaaDoorAbsRA
set_option linter.unusedSimpArgs false
set_option linter.unusedVariables false
namespace Go.Abs
namespace R
set_option maxRecDepth 100000
set_option maxHeartbeats 0
theorem qdiv_nn {a b : Int} (h : 0 ≤ a) : qdiv a b = a / b := by unfold qdiv; exact Int.tdiv_eq_ediv_of_nonneg h
theorem div_bd {a b : Int} (h : 0 ≤ a) (hb : 0 < b) : 0 ≤ a / b ∧ a / b ≤ a := ⟨Int.ediv_nonneg h (Int.le_of_lt hb), Int.ediv_le_self _ h⟩
theorem up_neg {n m : Int} (hm : 0 < m) : -((-n) / m) = up n m := by
 unfold up
 have e := Int.mul_ediv_add_emod (n + m - 1) m
 have r0 := Int.emod_nonneg (n + m - 1) (Int.ne_of_gt hm)
 have r1 := Int.emod_lt_of_pos (n + m - 1) hm
 generalize (n + m - 1) / m = q at *
 generalize (n + m - 1) % m = s at *
 have := (Int.ediv_emod_unique (a := -n) (r := m - 1 - s) (q := -q) hm).2 ⟨by rw [Int.mul_neg]; omega, by omega, by omega⟩
 omega
theorem up_bd {a b : Int} (h : 0 ≤ a) (hb : 0 < b) : 0 ≤ up a b ∧ up a b ≤ a := by
 refine ⟨by unfold up; exact Int.ediv_nonneg (by omega) (by omega), ?_⟩
 rw [← up_neg hb]
 have e := Int.mul_ediv_add_emod (-a) b
 have r1 := Int.emod_lt_of_pos (-a) hb
 have r0 := Int.emod_nonneg (-a) (Int.ne_of_gt hb)
 generalize (-a) / b = q at *
 generalize (-a) % b = s at *
 rcases Int.lt_or_le (-q) a with z | z
 ·omega
 ·rcases Int.lt_or_le a (-q) with z2 | z2
  ·exfalso
   have := Int.mul_le_mul_of_nonneg_right (show (1 : Int) ≤ b by omega) (show 0 ≤ -q by omega)
   rw [Int.one_mul, Int.mul_neg] at this
   have h3 : b * q ≤ -a - s := by omega
   have : b * (q + a + 1) ≤ 0 := by
    have : b * (q + a + 1) ≤ b * 0 := Int.mul_le_mul_of_nonneg_left (by omega) (by omega)
    simpa using this
   rw [Int.mul_add, Int.mul_add, Int.mul_one] at this
   have ba : a ≤ b * a := by
    have := Int.mul_le_mul_of_nonneg_right (show (1 : Int) ≤ b by omega) h
    rwa [Int.one_mul] at this
   omega
  ·omega
end R
end Go.Abs
