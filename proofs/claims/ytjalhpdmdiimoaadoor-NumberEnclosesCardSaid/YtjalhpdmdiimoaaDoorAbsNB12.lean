/- The reference's numerators and denominators: the walk. -/
import Derived.Test.YtjalhpdmdiimoaaDoorAbsNB11
set_option linter.unusedSimpArgs false
set_option linter.unusedVariables false
namespace Go.Abs
namespace N
set_option maxRecDepth 100000
set_option maxHeartbeats 0
theorem P3_lt (i : Nat) : P3 i < 10000 := by
  match i with
  | 0 => decide
  | 1 => decide
  | _ + 2 => simp [P3]
theorem E3_le {a b c : Int} {M : Int} (ha : a ≤ M) (hb : b ≤ M) (hc : c ≤ M) (i : Nat) : E3 a b c i ≤ M := by
  match i with
  | 0 => exact ha
  | 1 => exact hb
  | _ + 2 => exact hc
theorem E3_neg (a b c : Int) (i : Nat) : E3 (-a) (-b) (-c) i = -E3 a b c i := by
  match i with
  | 0 => rfl
  | 1 => rfl
  | _ + 2 => rfl
theorem numV_lt {K : Nat} {a b c : Int} (ha : a ≤ K) (hb : b ≤ K) (hc : c ≤ K) : ∀ i, numV a b c i < 10000 ^ (K * i + 1)
  | 0 => by simp [numV]
  | i + 1 => by
    have ih := numV_lt ha hb hc i
    have e := E3_le ha hb hc i
    have h1 : P3 i ^ (E3 a b c i).toNat ≤ 10000 ^ K := Nat.le_trans (Nat.pow_le_pow_left (Nat.le_of_lt (P3_lt i)) _) (Nat.pow_le_pow_right (by decide) (by omega))
    have h2 : numV a b c i * P3 i ^ (E3 a b c i).toNat ≤ numV a b c i * 10000 ^ K := Nat.mul_le_mul_left _ h1
    have h3 : numV a b c i * 10000 ^ K < 10000 ^ (K * i + 1) * 10000 ^ K := Nat.mul_lt_mul_of_pos_right ih (Nat.pow_pos (by decide))
    rw [← Nat.pow_add] at h3
    have h4 : K * i + 1 + K = K * (i + 1) + 1 := by rw [Nat.mul_succ]; omega
    rw [h4] at h3
    show numV a b c i * P3 i ^ (E3 a b c i).toNat < _
    omega
/-- How many digits a numerator has. -/
theorem numV_len {a b c : Int} (ha : a ≤ 20000) (hb : b ≤ 20000) (hc : c ≤ 20000) {i : Nat} (hi : i ≤ 3) : (dgs (numV a b c i)).length ≤ 60001 := by
  obtain ⟨K, hK⟩ : ∃ K : Nat, K = 20000 := ⟨_, rfl⟩
  have h := dgs_len (numV_lt (a := a) (b := b) (c := c) (K := K) (by omega) (by omega) (by omega) i)
  have : K * i ≤ K * 3 := Nat.mul_le_mul_left _ hi
  omega
theorem c89d {d lim : Nat} {h : Heap} {n : Nat} (h0 : 0 < n) (hn : n < 9223372036854775808) :
    E.call (d + 1) lim 89 [i64 n] h = some (sW h.length n, h ++ [bW n 0]) := by
  rw [c89 (d := d) (lim := lim) (h := h) h0 hn]
  simp [sW, bW, dgs]
theorem c86 {d lim : Nat} {h : Heap} {a b c : Int} (ha : R2 a) (hb : R2 b) (hc : R2 c) :
    ∃ y z, E.call (d + 3) lim 86 [i64 a, i64 b, i64 c] h = some (.tuple #[sW h.length (numV a b c 3), sW (h.length + 1) (numV (-a) (-b) (-c) 3)],
      h ++ [bW (numV a b c 3) y, bW (numV (-a) (-b) (-c) 3) z]) := by
  obtain ⟨a1, a2⟩ := ha; obtain ⟨b1, b2⟩ := hb; obtain ⟨c1, c2⟩ := hc
  obtain ⟨_, _, e, y, z, rfl, rfl⟩ := call_pure_ex (E := E) (d := d + 2) (lim := lim) (h := h) (args := [i64 a, i64 b, i64 c])
    (Q := fun v bs => ∃ y z, v = .tuple #[sW h.length (numV a b c 3), sW (h.length + 1) (numV (-a) (-b) (-c) 3)] ∧ bs = [bW (numV a b c 3) y, bW (numV (-a) (-b) (-c) 3) z]) fn86 rfl (by simp [ef86]) (by
    simp [ef86]
    refine wpC_loop (fun q st => ∃ i y z, q = 3 - i ∧ i ≤ 3 ∧ st = ⟨[(8, sW h.length (numV a b c i)), (9, sW (h.length + 1) (numV (-a) (-b) (-c) i)), (18, .agg #[i64 a, i64 b, i64 c]), (19, i64 (i : Nat))],
      h.freeze ++ [bW (numV a b c i) y, bW (numV (-a) (-b) (-c) i) z]⟩) 3 (by show 3 < 2 ^ 64; decide) ?_ ?_
    · simp [St.tidy]
      exact ⟨0, rfl, by omega, by simp [numV, dgs_one], ⟨0, by simp [numV, dgs_one, cW]⟩, ⟨0, by simp [numV, dgs_one, cW]⟩⟩
    · rintro q0 hq _ ⟨i, y, z, rfl, hi, rfl⟩
      by_cases hlt : i < 3
      · have gi : ∀ hh : i < [i64 a, i64 b, i64 c].length, [i64 a, i64 b, i64 c][i]'hh = i64 (E3 a b c i) := fun hh => by
          match i, hlt with
          | 0, _ => rfl
          | 1, _ => rfl
          | 2, _ => rfl
        have gp : ∀ hh : i < [i64 2, i64 3, i64 5].length, [i64 2, i64 3, i64 5][i]'hh = i64 (P3 i : Nat) := fun hh => by
          match i, hlt with
          | 0, _ => rfl
          | 1, _ => rfl
          | 2, _ => rfl
        have eN : numV a b c (i + 1) = numV a b c i * P3 i ^ (E3 a b c i).toNat := rfl
        have eD : numV (-a) (-b) (-c) (i + 1) = numV (-a) (-b) (-c) i * P3 i ^ (-E3 a b c i).toNat := by rw [← E3_neg]; rfl
        have rE := E3_le a2 b2 c2 i
        have rE' := E3_le (a := -a) (b := -b) (c := -c) (M := 20000) (by omega) (by omega) (by omega) i
        rw [E3_neg] at rE'
        have lN' := numV_len a2 b2 c2 hi
        have lD' := numV_len (a := -a) (b := -b) (c := -c) (by omega) (by omega) (by omega) hi
        have pP := P3_lt i
        have pP0 := (P3_pos i).1
        have ilt : (i : Int) < 3 := by omega
        have wi : IntKind.wrap .i64 ((i : Int) + 1) = ((i + 1 : Nat) : Int) := by rw [wrap_eq (by omega) (by omega)]; rfl
        generalize E3 a b c i = e at *
        generalize P3 i = P at *
        generalize numV a b c i = N at *
        generalize numV (-a) (-b) (-c) i = D at *
        have wn : IntKind.wrap .i64 (-e) = -e := by rw [wrap_eq (by omega) (by omega)]
        have e1 := c89d (d := d + 1) (lim := h.length) (h := h.freeze ++ [bW N y, bW D z]) pP0 (show P < 9223372036854775808 by omega)
        have sP : SlW (h.freeze ++ [bW N y, bW D z, bW P 0]) (sW (h.length + 2) P) (dgs P) := SlW_bW (z := 0) (by simp) (by rw [hget_base (by simp)]; rfl)
        have pl := pow_len (X := P) (L := 1) (K := 20000) (by omega) (show (if 0 < e then e else -e).toNat ≤ 20000 by split <;> omega)
        simp only [List.length_append, Heap.length_freeze, List.length_cons, List.length_nil, List.append_assoc, List.cons_append, List.nil_append] at e1
        by_cases he : 0 < e
        · rw [if_pos he] at pl
          have en : ((e.toNat : Nat) : Int) = e := by omega
          obtain ⟨z1, e2⟩ := c88 (d := d) (lim := h.length) (K := e.toNat) (L := 1) sP (by omega) (by omega) (by omega)
          rw [en] at e2
          have sN : SlW (h.freeze ++ [bW N y, bW D z, bW P 0, bW (P ^ e.toNat) z1]) (sW h.length N) (dgs N) := SlW_bW (z := y) (by simp) (by rw [hget_base0 (by simp)]; rfl)
          have sX : SlW (h.freeze ++ [bW N y, bW D z, bW P 0, bW (P ^ e.toNat) z1]) (sW (h.length + 3) (P ^ e.toNat)) (dgs (P ^ e.toNat)) := SlW_bW (z := z1) (by simp) (by rw [hget_base (by simp)]; rfl)
          obtain ⟨z2, e3⟩ := c87d (d := d + 1) (lim := h.length) sN sX (by omega)
          simp only [List.length_append, Heap.length_freeze, List.length_cons, List.length_nil, List.append_assoc, List.cons_append, List.nil_append] at e2 e3
          have ne : (-e).toNat = 0 := by omega
          rw [ne, Nat.pow_zero, Nat.mul_one] at eD
          simp [hlt, ilt, gi, gp, he, wi, e1, e2, e3, St.tidy]
          exact ⟨3 - (i + 1), by omega, i + 1, rfl, by omega, by rw [eN, eD]; simp, ⟨z2, by rw [eN]⟩, ⟨z, by rw [eD]⟩⟩
        · rw [if_neg he] at pl
          have en : (((-e).toNat : Nat) : Int) = -e := by omega
          obtain ⟨z1, e2⟩ := c88 (d := d) (lim := h.length) (K := (-e).toNat) (L := 1) sP (by omega) (by omega) (by omega)
          rw [en] at e2
          have sN : SlW (h.freeze ++ [bW N y, bW D z, bW P 0, bW (P ^ (-e).toNat) z1]) (sW (h.length + 1) D) (dgs D) := SlW_bW (z := z) (by simp) (by rw [hget_base (by simp)]; rfl)
          have sX : SlW (h.freeze ++ [bW N y, bW D z, bW P 0, bW (P ^ (-e).toNat) z1]) (sW (h.length + 3) (P ^ (-e).toNat)) (dgs (P ^ (-e).toNat)) := SlW_bW (z := z1) (by simp) (by rw [hget_base (by simp)]; rfl)
          obtain ⟨z2, e3⟩ := c87d (d := d + 1) (lim := h.length) sN sX (by omega)
          simp only [List.length_append, Heap.length_freeze, List.length_cons, List.length_nil, List.append_assoc, List.cons_append, List.nil_append] at e2 e3
          have ne : e.toNat = 0 := by omega
          rw [ne, Nat.pow_zero, Nat.mul_one] at eN
          simp [hlt, ilt, gi, gp, he, wi, wn, e1, e2, e3, St.tidy]
          exact ⟨3 - (i + 1), by omega, i + 1, rfl, by omega, by rw [eN, eD]; simp, ⟨y, by rw [eN]⟩, ⟨z2, by rw [eD]⟩⟩
      · have e : i = 3 := by omega
        subst e
        simp [St.tidy]
        exact ⟨⟨y, rfl⟩, ⟨z, rfl⟩⟩)
  exact ⟨y, z, e⟩
end N
end Go.Abs
