/- Plain laws of digits: what a comparison says of the numbers. -/
import Derived.Test.YtjalhpdmdiimoaaDoorAbsNB2
set_option linter.unusedSimpArgs false
set_option linter.unusedVariables false
namespace Go.Abs
def cmpN (a b : Nat) : Int := if a < b then -1 else if b < a then 1 else 0
def digB (B : Nat) (l : List Nat) : Prop := ∀ x ∈ l, x < B
def topped (l : List Nat) : Prop := ∀ h : l ≠ [], l.getLast h ≠ 0
theorem val_snoc (B : Nat) (x : Nat) : ∀ l : List Nat, val B (l ++ [x]) = val B l + B ^ l.length * x
  | [] => by simp [val]
  | y :: r => by
    simp only [List.cons_append, val, List.length_cons]
    rw [val_snoc B x r, Nat.pow_succ, Nat.mul_add, Nat.mul_comm (B ^ r.length) B, ← Nat.mul_assoc]; omega
theorem val_lt {B : Nat} (hB : 0 < B) : ∀ {l : List Nat}, digB B l → val B l < B ^ l.length
  | [], _ => by simp [val]
  | y :: r, h => by
    have h1 := h y (List.mem_cons_self ..)
    have h2 := val_lt hB (l := r) (fun x hx => h x (List.mem_cons_of_mem _ hx))
    simp only [val, List.length_cons, Nat.pow_succ]
    have : B * (val B r + 1) ≤ B * B ^ r.length := Nat.mul_le_mul_left _ h2
    rw [Nat.mul_add] at this
    rw [Nat.mul_comm (B ^ r.length)]; omega
theorem val_ge {B : Nat} {l : List Nat} (h : l ≠ []) (ht : topped l) : B ^ (l.length - 1) ≤ val B l := by
  have e := List.dropLast_concat_getLast h
  have hl := ht h
  rw [← e, val_snoc]
  have : 1 ≤ l.getLast h := by omega
  have h2 := Nat.mul_le_mul_left (B ^ l.dropLast.length) this
  have e2 : l.dropLast.length = l.length - 1 := by simp
  rw [e2] at *
  simp
  simp at h2
  omega
theorem cmpTop_val {B : Nat} (hB : 0 < B) {l r : List Nat} (hl : digB B l) (hr : digB B r) : ∀ k, k ≤ l.length → k ≤ r.length → cmpTop l r k = cmpN (val B (l.take k)) (val B (r.take k))
  | 0, _, _ => by simp [cmpTop, cmpN, val]
  | k + 1, h1, h2 => by
    have k1 : k < l.length := h1
    have k2 : k < r.length := h2
    have e1 : l.take (k + 1) = l.take k ++ [l[k]] := by simp
    have e2 : r.take (k + 1) = r.take k ++ [r[k]] := by simp
    have n1 : (l.take k).length = k := by simp; omega
    have n2 : (r.take k).length = k := by simp; omega
    have d1 : val B (l.take k) < B ^ k := by
      have := val_lt hB (l := l.take k) (fun x hx => hl x (List.mem_of_mem_take hx)); rwa [n1] at this
    have d2 : val B (r.take k) < B ^ k := by
      have := val_lt hB (l := r.take k) (fun x hx => hr x (List.mem_of_mem_take hx)); rwa [n2] at this
    have ih := cmpTop_val hB hl hr k (by omega) (by omega)
    rw [cmpTop_succ, e1, e2, val_snoc, val_snoc, n1, n2, ih]
    have g1 : l.getD k 0 = l[k] := by simp [k1]
    have g2 : r.getD k 0 = r[k] := by simp [k2]
    rw [g1, g2]
    generalize l[k] = x
    generalize r[k] = y
    generalize val B (l.take k) = u at *
    generalize val B (r.take k) = w at *
    generalize B ^ k = P at *
    rcases Nat.lt_trichotomy x y with q | q | q
    · have := Nat.mul_le_mul_left P q
      rw [Nat.mul_succ] at this
      simp only [cmpN, q, if_true]; rw [if_pos (by omega)]
    · subst q; simp [cmpN]
    · have := Nat.mul_le_mul_left P q
      rw [Nat.mul_succ] at this
      simp only [cmpN]; rw [if_neg (by omega), if_pos q, if_neg (by omega), if_pos (by omega)]
theorem cmpL_val {B : Nat} (hB : 1 < B) {l r : List Nat} (hl : digB B l) (hr : digB B r) (tl : topped l) (tr : topped r) : cmpL l r = cmpN (val B l) (val B r) := by
  have v1 := val_lt (by omega : 0 < B) hl
  have v2 := val_lt (by omega : 0 < B) hr
  unfold cmpL
  by_cases h1 : l.length < r.length
  · have hne : r ≠ [] := by intro e; simp [e] at h1
    have g := val_ge (B := B) hne tr
    have := Nat.pow_le_pow_right (n := B) (by omega) (by omega : l.length ≤ r.length - 1)
    rw [if_pos h1, cmpN, if_pos (by omega)]
  · by_cases h2 : r.length < l.length
    · have hne : l ≠ [] := by intro e; simp [e] at h2
      have g := val_ge (B := B) hne tl
      have := Nat.pow_le_pow_right (n := B) (by omega) (by omega : r.length ≤ l.length - 1)
      rw [if_neg h1, if_pos h2, cmpN, if_neg (by omega), if_pos (by omega)]
    · have e : l.length = r.length := by omega
      rw [if_neg h1, if_neg h2, cmpTop_val (by omega) hl hr _ (Nat.le_refl _) (by omega), List.take_length]
      rw [e, List.take_length]
end Go.Abs
