/- The reference's power: the walk. -/
import Derived.Test.YtjalhpdmdiimoaaDoorAbsNB10
set_option linter.unusedSimpArgs false
set_option linter.unusedVariables false
namespace Go.Abs
namespace N
set_option maxRecDepth 100000
set_option maxHeartbeats 0
/-- A block of digits with zeros behind. -/
abbrev bW (n z : Nat) : Option Blk := some ⟨cW (dgs n ++ List.replicate z 0), true⟩
abbrev sW (b n : Nat) : Value := .slice (some ⟨b, 0, none⟩) (dgs n).length 1
theorem SlW_bW {h : Heap} {b n z : Nat} (hb : b < h.length) (e : h.get b = some ⟨cW (dgs n ++ List.replicate z 0), true⟩) : SlW h (sW b n) (dgs n) := SlW_pad (rw := true) hb e
theorem c87d {d lim : Nat} {h : Heap} {v w : Value} {A B : Nat} (s : SlW h v (dgs A)) (t : SlW h w (dgs B)) (hs : (dgs A).length + (dgs B).length < 1000000) :
    ∃ z, E.call (d + 1) lim 87 [v, w] h = some (sW h.length (A * B), h ++ [bW (A * B) z]) := by
  have := c87 (d := d) (lim := lim) s t (dgs_dig A) (dgs_dig B) hs
  simp only [dgs_val] at this
  exact ⟨_, this⟩
theorem pow_len {X L m K : Nat} (hX : X < 10000 ^ L) (hm : m ≤ K) : (dgs (X ^ m)).length ≤ L * K + 1 := by
  refine dgs_len ?_
  have h1 : X ^ m ≤ (10000 ^ L) ^ m := Nat.pow_le_pow_left (by omega) m
  rw [← Nat.pow_mul] at h1
  have h2 : 10000 ^ (L * m) ≤ 10000 ^ (L * K) := Nat.pow_le_pow_right (by decide) (Nat.mul_le_mul_left _ hm)
  have h3 : 10000 ^ (L * K) < 10000 ^ (L * K + 1) := Nat.pow_lt_pow_right (by decide) (by omega)
  omega
theorem dgs_one : dgs 1 = [1] := by rw [dgs_pos (by omega)]; rfl
theorem c88 {d lim : Nat} {h : Heap} {v : Value} {X L K : Nat} (s : SlW h v (dgs X)) (hX : X < 10000 ^ L) (hL : 1 ≤ L) (hK : L * K < 300000) :
    ∃ z, E.call (d + 2) lim 88 [v, i64 K] h = some (sW h.length (X ^ K), h ++ [bW (X ^ K) z]) := by
  have kb : K < 300000 := Nat.lt_of_le_of_lt (by have := Nat.mul_le_mul_right K hL; omega) hK
  have p := s.rules2
  have lowv := s.low
  have d1 : (dgs 1).length = 1 := by rw [dgs_one]; rfl
  have wq : ∀ n : Nat, n < 300000 → IntKind.wrap .i64 (qdiv (n : Int) 2) = ((n / 2 : Nat) : Int) := fun n hn => by
    have : qdiv (n : Int) 2 = ((n / 2 : Nat) : Int) := by unfold qdiv; rw [Int.tdiv_eq_ediv_of_nonneg (by omega)]; omega
    rw [this, wrap_eq (by omega) (by omega)]
  have wm : ∀ n : Nat, qmod (n : Int) 2 = ((n % 2 : Nat) : Int) := fun n => by
    unfold qmod; rw [Int.tmod_eq_emod_of_nonneg (by omega)]; omega
  obtain ⟨_, _, e, z, rfl, rfl⟩ := call_pure_ex (E := E) (d := d + 1) (lim := lim) (h := h) (args := [v, i64 K]) (Q := fun v bs => ∃ z, v = sW h.length (X ^ K) ∧ bs = [bW (X ^ K) z]) fn88 rfl (by simp [ef88]) (by
    simp [ef88]
    refine wpC_loop (fun n st => (n = K ∧ st = ⟨[(0, v), (1, i64 n), (5, sW h.length 1)], h.freeze ++ [bW 1 0]⟩) ∨
      (∃ m r zb zr, n ≤ K ∧ r + m * n = K ∧ st = ⟨[(0, sW h.length (X ^ m)), (1, i64 n), (5, sW (h.length + 1) (X ^ r))], h.freeze ++ [bW (X ^ m) zb, bW (X ^ r) zr]⟩)) K (by show K < 2 ^ 64; omega) ?_ ?_
    · rcases lowv with rfl | ⟨b, o, m', t', rfl, hb⟩ <;> simp [St.tidy, *, dgs_one, cW]
    · rintro n hn _ (⟨rfl, rfl⟩ | ⟨m, r, zb, zr, hnK, hm, rfl⟩)
      · by_cases h0 : n = 0
        · subst h0
          simp [St.tidy]
          exact ⟨0, rfl⟩
        · have hp : (0 : Int) < n := by omega
          have hp' : 0 < n := by omega
          have s1 : SlW (h.freeze ++ [bW 1 0]) v (dgs X) := (Sl_freeze.2 s).app _
          have t1 : SlW (h.freeze ++ [bW 1 0]) (sW h.length 1) (dgs 1) := SlW_bW (z := 0) (by simp) (by rw [hget_base0 (by simp)]; rfl)
          have l1 := pow_len (m := 1) hX (show 1 ≤ n by omega)
          rw [Nat.pow_one] at l1
          by_cases od : n % 2 = 1
          · obtain ⟨z1, e1⟩ := c87d (d := d) (lim := h.length) t1 s1 (by omega)
            have s2 : SlW (h.freeze ++ [bW 1 0, bW (1 * X) z1]) v (dgs X) := (Sl_freeze.2 s).app _
            obtain ⟨z2, e2⟩ := c87d (d := d) (lim := h.length) s2 s2 (by omega)
            simp only [Nat.one_mul, List.length_append, Heap.length_freeze, List.length_cons, List.length_nil, List.append_assoc, List.cons_append, List.nil_append] at e1 e2
            simp [hp, hp', wm, wq n (by omega), od, e1, e2, St.tidy]
            exact ⟨n / 2, by omega, by omega, 2, 1, by omega, ⟨by rw [Nat.pow_two], by omega, by rw [Nat.pow_one]⟩, ⟨z2, by rw [Nat.pow_two]⟩, ⟨z1, by rw [Nat.pow_one]⟩⟩
          · have od' : n % 2 = 0 := by omega
            obtain ⟨z2, e2⟩ := c87d (d := d) (lim := h.length) s1 s1 (by omega)
            simp only [List.length_append, Heap.length_freeze, List.length_cons, List.length_nil, List.append_assoc, List.cons_append, List.nil_append] at e2
            simp [hp, hp', wm, wq n (by omega), od', e2, St.tidy]
            exact ⟨n / 2, by omega, by omega, 2, 0, by omega, ⟨by rw [Nat.pow_two], by omega, by rw [Nat.pow_zero]⟩, ⟨z2, by rw [Nat.pow_two]⟩, ⟨0, by rw [Nat.pow_zero]; simp⟩⟩
      · by_cases h0 : n = 0
        · subst h0
          have : r = K := by omega
          subst this
          simp [St.tidy]
          exact ⟨zr, rfl⟩
        · have hp : (0 : Int) < n := by omega
          have hp' : 0 < n := by omega
          have hmK : m ≤ K := by have := Nat.le_mul_of_pos_right m hp'; omega
          have lm := pow_len (m := m) hX hmK
          have lr := pow_len (m := r) hX (show r ≤ K by omega)
          have t1 : SlW (h.freeze ++ [bW (X ^ m) zb, bW (X ^ r) zr]) (sW h.length (X ^ m)) (dgs (X ^ m)) := SlW_bW (z := zb) (by simp) (by rw [hget_base0 (by simp)]; rfl)
          have t2 : SlW (h.freeze ++ [bW (X ^ m) zb, bW (X ^ r) zr]) (sW (h.length + 1) (X ^ r)) (dgs (X ^ r)) := SlW_bW (z := zr) (by simp) (by rw [hget_base (by simp)]; rfl)
          have em : m * 2 * (n / 2) + m * (n % 2) = m * n := by
            conv => rhs; rw [← Nat.div_add_mod n 2]
            rw [Nat.mul_add, Nat.mul_assoc]
          by_cases od : n % 2 = 1
          · obtain ⟨z1, e1⟩ := c87d (d := d) (lim := h.length) t2 t1 (by omega)
            have t3 : SlW (h.freeze ++ [bW (X ^ m) zb, bW (X ^ r) zr, bW (X ^ r * X ^ m) z1]) (sW h.length (X ^ m)) (dgs (X ^ m)) := SlW_bW (z := zb) (by simp) (by rw [hget_base0 (by simp)]; rfl)
            obtain ⟨z2, e2⟩ := c87d (d := d) (lim := h.length) t3 t3 (by omega)
            simp only [← Nat.pow_add, ← Nat.mul_two, List.length_append, Heap.length_freeze, List.length_cons, List.length_nil, List.append_assoc, List.cons_append, List.nil_append] at e1 e2
            simp [hp, hp', wm, wq n (by omega), od, e1, e2, St.tidy]
            rw [od] at em
            exact ⟨n / 2, by omega, by omega, m * 2, r + m, by omega, ⟨rfl, by omega, rfl⟩, ⟨z2, rfl⟩, ⟨z1, rfl⟩⟩
          · have od' : n % 2 = 0 := by omega
            obtain ⟨z2, e2⟩ := c87d (d := d) (lim := h.length) t1 t1 (by omega)
            simp only [← Nat.pow_add, ← Nat.mul_two, List.length_append, Heap.length_freeze, List.length_cons, List.length_nil, List.append_assoc, List.cons_append, List.nil_append] at e2
            simp [hp, hp', wm, wq n (by omega), od', e2, St.tidy]
            rw [od'] at em
            exact ⟨n / 2, by omega, by omega, m * 2, r, by omega, ⟨rfl, by omega, rfl⟩, ⟨z2, rfl⟩, ⟨zr, rfl⟩⟩)
  exact ⟨z, e⟩
end N
end Go.Abs
