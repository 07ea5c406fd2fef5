/- The reference's product. -/
import Derived.Test.YtjalhpdmdiimoaaDoorAbsNB7
set_option linter.unusedSimpArgs false
set_option linter.unusedVariables false
namespace Go.Abs
theorem ofF_fuel : ∀ (f g n : Nat), n ≤ f → n ≤ g → ofF f n = ofF g n
  | 0, g, n, h, _ => by
    have : n = 0 := by omega
    subst this; rw [ofF_zero, ofF_zero]
  | f + 1, 0, n, _, h => by
    have : n = 0 := by omega
    subst this; rw [ofF_zero, ofF_zero]
  | f + 1, g + 1, n, h1, h2 => by
    unfold ofF
    split
    · rfl
    · rw [ofF_fuel f g (n / 10000) (by omega) (by omega)]
/-- The digits of a number. -/
def dgs (n : Nat) : List Nat := ofF n n
theorem dgs_zero : dgs 0 = [] := rfl
theorem dgs_pos {n : Nat} (h : 0 < n) : dgs n = n % 10000 :: dgs (n / 10000) := by
  unfold dgs; rw [ofF_pos (Nat.le_refl n) h, ofF_fuel (n - 1) (n / 10000) _ (by omega) (Nat.le_refl _)]
theorem dgs_uniq : ∀ {l : List Nat}, digB 10000 l → l = dgs (val 10000 l) ++ List.replicate (l.length - (dgs (val 10000 l)).length) 0
  | [], _ => by simp [val, dgs_zero]
  | x :: r, h => by
    have hx := h x (List.mem_cons_self ..)
    have ih := dgs_uniq (l := r) (fun y hy => h y (List.mem_cons_of_mem _ hy))
    simp only [val, List.length_cons]
    generalize val 10000 r = V at *
    by_cases q : x + 10000 * V = 0
    · have : V = 0 := by omega
      subst this
      have : x = 0 := by omega
      subst this
      rw [dgs_zero] at ih ⊢
      simp at ih ⊢
      rw [List.replicate_succ, ← ih]
    · have e1 : (x + 10000 * V) % 10000 = x := by omega
      have e2 : (x + 10000 * V) / 10000 = V := by omega
      rw [dgs_pos (by omega), e1, e2]
      simp only [List.cons_append, List.length_cons, Nat.add_sub_add_right]
      rw [← ih]
theorem dgs_val (n : Nat) : val 10000 (dgs n) = n := ofF_val n n (Nat.le_refl n)
theorem dgs_dig (n : Nat) : digB 10000 (dgs n) := ofF_dig n n
theorem dgs_topped (n : Nat) : topped (dgs n) := ofF_topped n n (Nat.le_refl n)
theorem val_set (B : Nat) (y : Nat) : ∀ {l : List Nat} {p : Nat} (h : p < l.length), val B (l.set p y) + l[p] * B ^ p = val B l + y * B ^ p
  | x :: r, 0, h => by simp [val]; omega
  | x :: r, p + 1, h => by
    have h' : p < r.length := by simpa using h
    have ih := val_set B y (l := r) (p := p) h'
    simp only [List.set_cons_succ, val, List.getElem_cons_succ, Nat.pow_succ]
    have := congrArg (B * ·) ih
    simp only [Nat.mul_add] at this
    have e1 : B * (r[p] * B ^ p) = r[p] * (B ^ p * B) := by rw [Nat.mul_comm B, Nat.mul_assoc]
    have e2 : B * (y * B ^ p) = y * (B ^ p * B) := by rw [Nat.mul_comm B, Nat.mul_assoc]
    omega
/-- One step of the inner loop: the digit at a place and the carry. -/
theorem step_val {o : List Nat} {p i j c a x V : Nat} (hp : p < o.length) (e : p = i + j) (h : val 10000 o + c * 10000 ^ p = V) :
    val 10000 (o.set p ((o[p] + c + a * x) % 10000)) + (o[p] + c + a * x) / 10000 * 10000 ^ (p + 1) = V + a * (10000 ^ j * x) * 10000 ^ i := by
  have hs := val_set 10000 ((o[p] + c + a * x) % 10000) hp
  have hd := Nat.div_add_mod (o[p] + c + a * x) 10000
  have e1 : a * (10000 ^ j * x) * 10000 ^ i = a * x * 10000 ^ p := by
    rw [e, Nat.pow_add, Nat.mul_comm (10000 ^ i), Nat.mul_comm (10000 ^ j) x]
    simp only [Nat.mul_assoc]
  rw [e1, Nat.pow_succ]
  generalize o[p] = y at *
  generalize hq : (y + c + a * x) / 10000 = Q at *
  generalize hr : (y + c + a * x) % 10000 = R at *
  generalize 10000 ^ p = P at *
  have e2 : (10000 * Q + R) * P = (y + c + a * x) * P := by rw [hd]
  rw [Nat.add_mul, Nat.add_mul, Nat.add_mul] at e2
  have e3 : Q * (P * 10000) = 10000 * Q * P := by rw [Nat.mul_comm P, ← Nat.mul_assoc, Nat.mul_comm Q]
  omega
theorem set_dig {o : List Nat} {p y : Nat} (h : digB 10000 o) (hy : y < 10000) : digB 10000 (o.set p y) := by
  intro x hx
  rcases List.mem_or_eq_of_mem_set hx with q | q
  · exact h x q
  · omega
theorem carry_lt {y c a x : Nat} (hy : y < 10000) (hc : c < 10000) (ha : a < 10000) (hx : x < 10000) : (y + c + a * x) / 10000 < 10000 := by
  have : a * x ≤ 9999 * 9999 := Nat.mul_le_mul (by omega) (by omega)
  omega
theorem val_take (B : Nat) {l : List Nat} {i : Nat} (h : i < l.length) : val B (l.take (i + 1)) = val B (l.take i) + B ^ i * l[i] := by
  have e : l.take (i + 1) = l.take i ++ [l[i]] := by simp
  have n : (l.take i).length = i := by simp; omega
  rw [e, val_snoc, n]
/-- The carry ends one place behind the second factor. -/
theorem carry_end {o : List Nat} {c i j : Nat} {l r : List Nat} (hi : i < l.length) (dl : digB 10000 l) (dr : digB 10000 r)
    (h : val 10000 o + c * 10000 ^ (i + j) = val 10000 (l.take i) * val 10000 r + l[i] * val 10000 r * 10000 ^ i) (hj : r.length < j) : c = 0 := by
  have h1 : val 10000 (l.take (i + 1)) < 10000 ^ (i + 1) := by
    have := val_lt (B := 10000) (by decide) (l := l.take (i + 1)) (fun x hx => dl x (List.mem_of_mem_take hx))
    have n : (l.take (i + 1)).length = i + 1 := by simp; omega
    rwa [n] at this
  have h2 := val_lt (B := 10000) (by decide) dr
  have e : val 10000 (l.take i) * val 10000 r + l[i] * val 10000 r * 10000 ^ i = val 10000 (l.take (i + 1)) * val 10000 r := by
    rw [val_take 10000 hi, Nat.add_mul]
    congr 1
    rw [Nat.mul_comm (10000 ^ i), Nat.mul_assoc, Nat.mul_assoc, Nat.mul_comm (val 10000 r)]
  rw [e] at h
  have h3 : val 10000 (l.take (i + 1)) * val 10000 r < 10000 ^ (i + 1) * 10000 ^ r.length := Nat.mul_lt_mul'' h1 h2
  rw [← Nat.pow_add] at h3
  have h4 : 10000 ^ (i + 1 + r.length) ≤ 10000 ^ (i + j) := Nat.pow_le_pow_right (by decide) (by omega)
  rcases Nat.eq_zero_or_pos c with q | q
  · exact q
  · have := Nat.mul_le_mul_right (10000 ^ (i + j)) q
    omega
end Go.Abs
