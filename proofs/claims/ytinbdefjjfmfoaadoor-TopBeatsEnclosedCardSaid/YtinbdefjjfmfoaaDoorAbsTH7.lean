/- Multiples of multiples. -/
import Derived.Test.YtinbdefjjfmfoaaDoorAbsTHM
set_option linter.unusedSimpArgs false
set_option linter.unusedVariables false
namespace Go.Abs
namespace T
set_option maxRecDepth 100000
set_option maxHeartbeats 0
theorem enc_mul {a b c : Int} {t p l h L H : Nat} (hp : 1 ≤ p) (s : EncS a b c 12 t l h) (S : EncS a b c 12 (t * p) L H) (hh : h ≤ 1000000000000000) (hH : H ≤ 1000000000000000) : l * p ≤ L ∧ H ≤ h * p := by
  have l1 := EncS.lt s
  have l2 := EncS.lt S
  have lift : ∀ n, encP a b c 12 t n → encP a b c 12 (t * p) (n * p) := fun n k => by
    unfold encP at *
    rw [Nat.mul_pow, Nat.mul_pow]
    calc n ^ (12 : Int).toNat * p ^ (12 : Int).toNat * numV (-a) (-b) (-c) 3 = n ^ (12 : Int).toNat * numV (-a) (-b) (-c) 3 * p ^ (12 : Int).toNat := by ac_rfl
      _ ≤ t ^ (12 : Int).toNat * numV a b c 3 * p ^ (12 : Int).toNat := Nat.mul_le_mul_right _ k
      _ = t ^ (12 : Int).toNat * p ^ (12 : Int).toNat * numV a b c 3 := by ac_rfl
  have pp : 0 < p ^ (12 : Int).toNat := Nat.pow_pos (by omega)
  have drop : ∀ n, encP a b c 12 (t * p) (n * p) → encP a b c 12 t n := fun n k => by
    unfold encP at *
    rw [Nat.mul_pow, Nat.mul_pow] at k
    refine Nat.le_of_mul_le_mul_right ?_ pp
    calc n ^ (12 : Int).toNat * numV (-a) (-b) (-c) 3 * p ^ (12 : Int).toNat = n ^ (12 : Int).toNat * p ^ (12 : Int).toNat * numV (-a) (-b) (-c) 3 := by ac_rfl
      _ ≤ t ^ (12 : Int).toNat * p ^ (12 : Int).toNat * numV a b c 3 := k
      _ = t ^ (12 : Int).toNat * numV a b c 3 * p ^ (12 : Int).toNat := by ac_rfl
  have q1 := (s.iff l s.le).2 (Nat.le_refl _)
  have q2 := (S.iff L S.le).2 (Nat.le_refl _)
  have low : l * p ≤ L := by
    rcases Nat.lt_or_ge L (l * p) with z | z
    · have := (S.iff (L + 1) (by omega)).1 (encP_mono z (lift l q1)); omega
    · exact z
  refine ⟨low, ?_⟩
  by_cases q : encQ a b c 12 t l
  · have e := s.on q
    have qq : encQ a b c 12 (t * p) (l * p) := by
      unfold encQ at *
      rw [Nat.mul_pow, Nat.mul_pow]
      calc l ^ (12 : Int).toNat * p ^ (12 : Int).toNat * numV (-a) (-b) (-c) 3 = l ^ (12 : Int).toNat * numV (-a) (-b) (-c) 3 * p ^ (12 : Int).toNat := by ac_rfl
        _ = t ^ (12 : Int).toNat * numV a b c 3 * p ^ (12 : Int).toNat := by rw [q]
        _ = t ^ (12 : Int).toNat * p ^ (12 : Int).toNat * numV a b c 3 := by ac_rfl
    have hL : L ≤ l * p := by
      unfold encP at q2
      unfold encQ at qq
      rw [← qq] at q2
      have := Nat.le_of_mul_le_mul_right q2 (numV_pos _ _ _)
      exact (Nat.pow_le_pow_iff_left (by decide)).1 this
    have eL : L = l * p := by omega
    rw [← eL] at qq
    rw [S.on qq, e]; omega
  · have e := s.off q
    have no : ¬ encP a b c 12 t (l + 1) := fun k => by have := (s.iff (l + 1) (by omega)).1 k; omega
    have : L < (l + 1) * p := by
      rcases Nat.lt_or_ge L ((l + 1) * p) with z | z
      · exact z
      · exact absurd (drop _ (encP_mono z q2)) no
    rw [e]; omega
end T
end Go.Abs
