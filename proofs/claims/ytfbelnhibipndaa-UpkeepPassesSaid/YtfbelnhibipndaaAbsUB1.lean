/- Chapter 7: passes. -/
import Derived.Test.YtfbelnhibipndaaAbsUA
import Derived.Test.YtfbelnhibipndaaAbsUT
set_option linter.unusedSimpArgs false
set_option linter.unusedVariables false
namespace Go.Abs
namespace U
set_option maxRecDepth 100000
set_option maxHeartbeats 0
/-- What is left behind a pass. -/
def up (m p : Int) : Int := (m * p + 999) / 1000
theorem up_bd {m p : Int} (h0 : 0 ≤ m) (h1 : m ≤ 200000) (p0 : 0 ≤ p) (p1 : p ≤ 999) : 0 ≤ m * p ∧ m * p ≤ 999 * m ∧ 0 ≤ up m p ∧ up m p ≤ m := by
  have a := Int.mul_nonneg h0 p0
  have b := Int.mul_le_mul_of_nonneg_left p1 h0
  unfold up
  omega
theorem up_mono {a b p : Int} (h : a ≤ b) (p0 : 0 ≤ p) : up a p ≤ up b p := by
  have := Int.mul_le_mul_of_nonneg_right h p0
  unfold up; omega
def passR (p t : Int) (m n : Int) : Int × Int := if t < m ∧ 0 ≤ up m p ∧ up m p < m then passR p t (up m p) (n + 1) else if t < m then (0, 12) else (n, 0)
termination_by m.toNat
decreasing_by omega
def passV (m p t : Int) : Int × Int := if within m 0 200000 ∧ within p 0 999 ∧ within t 0 200000 then passR p t m 0 else (0, 2)
theorem within_iff {a b c : Int} : within a b c = true ↔ b ≤ a ∧ a ≤ c := by simp [within]
theorem passR_go {p t m n : Int} (h : t < m) (h0 : 0 ≤ m) (h1 : m ≤ 200000) (p0 : 0 ≤ p) (p1 : p ≤ 999) (hu : up m p ≠ m) : passR p t m n = passR p t (up m p) (n + 1) := by
  obtain ⟨_, _, a, b⟩ := up_bd h0 h1 p0 p1
  conv => lhs; unfold passR
  rw [if_pos ⟨h, a, by omega⟩]
theorem passR_stop {p t m n : Int} (h : t < m) (hu : up m p = m) : passR p t m n = (0, 12) := by
  unfold passR
  rw [if_neg (by omega), if_pos h]
theorem passR_done {p t m n : Int} (h : ¬ t < m) : passR p t m n = (n, 0) := by
  unfold passR
  rw [if_neg (by omega), if_neg h]
abbrev pairV (x : Int × Int) : Value := .tuple #[i64 x.1, i64 x.2]
theorem c15 {d lim : Nat} {h : Heap} {m p t : Int} : E.call (d + 2) lim 15 [i64 m, i64 p, i64 t] h = some (pairV (passV m p t), h) := by
  refine call1 fn15 rfl (by simp [ef15]) ?_
  unfold passV
  by_cases q1 : within m 0 200000 = true
  case neg => simp [ef15, c65, q1]
  by_cases q2 : within p 0 999 = true
  case neg => simp [ef15, c65, q1, q2]
  by_cases q3 : within t 0 200000 = true
  case neg => simp [ef15, c65, q1, q2, q3]
  rw [if_pos ⟨q1, q2, q3⟩]
  simp [ef15, c65, q1, q2, q3]
  rw [within_iff] at q1 q2 q3
  refine wpC_loop (fun q st => ∃ x k : Int, q = x.toNat ∧ 0 ≤ x ∧ x ≤ m ∧ 0 ≤ k ∧ k + x ≤ m ∧ passR p t x k = passR p t m 0 ∧ st = ⟨[(0, i64 x), (1, i64 p), (2, i64 t), (8, i64 k)], h.freeze⟩) m.toNat (by show m.toNat < 2 ^ 64; omega) ?_ ?_
  · simp [St.tidy]
    exact ⟨m, rfl, by omega, by omega, 0, by omega, by omega, rfl, rfl, rfl⟩
  · rintro q hq _ ⟨x, k, rfl, x0, x1, k0, k1, e, rfl⟩
    by_cases hlt : t < x
    · obtain ⟨b1, b2, b3, b4⟩ := up_bd (m := x) (p := p) x0 (by omega) q2.1 q2.2
      have wa : IntKind.wrap .i64 (x * p) = x * p := wrap_eq (by omega) (by omega)
      have wb : IntKind.wrap .i64 (x * p + 1000) = x * p + 1000 := wrap_eq (by omega) (by omega)
      have wc : IntKind.wrap .i64 (x * p + 1000 - 1) = x * p + 999 := by rw [wrap_eq (by omega) (by omega)]; omega
      have wd : IntKind.wrap .i64 (qdiv (x * p + 999) 1000) = up x p := by rw [qdiv_nn (by omega)]; exact wrap_eq (by unfold up at b3; omega) (by unfold up at b4; omega)
      have we : IntKind.wrap .i64 (k + 1) = k + 1 := wrap_eq (by omega) (by omega)
      by_cases hu : up x p = x
      · rw [passR_stop hlt hu] at e
        rw [← e]
        simp [hlt, wa, wb, wc, wd, hu]
      · rw [passR_go hlt x0 (by omega) q2.1 q2.2 hu] at e
        simp [hlt, wa, wb, wc, wd, hu, we, St.tidy]
        exact ⟨(up x p).toNat, by omega, up x p, rfl, b3, by omega, k + 1, by omega, by omega, e, rfl, rfl⟩
    · rw [passR_done hlt] at e
      rw [← e]
      simp [hlt]
theorem c16 {d lim : Nat} {h : Heap} {m p t : Int} : E.call (d + 3) lim 16 [i64 m, i64 p, i64 t] h = some (pairV (passV m p t), h) := by
  refine call1 fn16 rfl (by simp [ef16]) ?_
  unfold passV
  by_cases q1 : within m 0 200000 = true
  case neg => simp [ef16, c66, c30, q1]
  by_cases q2 : within p 0 999 = true
  case neg => simp [ef16, c66, c30, q1, q2]
  by_cases q3 : within t 0 200000 = true
  case neg => simp [ef16, c66, c30, q1, q2, q3]
  rw [if_pos ⟨q1, q2, q3⟩]
  simp [ef16, c66, c30, q1, q2, q3]
  rw [within_iff] at q1 q2 q3
  refine wpC_loop (fun q st => ∃ x k : Int, q = x.toNat ∧ 0 ≤ x ∧ x ≤ m ∧ 0 ≤ k ∧ k + x ≤ m ∧ passR p t x k = passR p t m 0 ∧ st = ⟨[(0, i64 x), (1, i64 p), (2, i64 t), (8, i64 k)], h.freeze⟩) m.toNat (by show m.toNat < 2 ^ 64; omega) ?_ ?_
  · simp [St.tidy]
    exact ⟨m, rfl, by omega, by omega, 0, by omega, by omega, rfl, rfl, rfl⟩
  · rintro q hq _ ⟨x, k, rfl, x0, x1, k0, k1, e, rfl⟩
    by_cases hlt : t < x
    · obtain ⟨b1, b2, b3, b4⟩ := up_bd (m := x) (p := p) x0 (by omega) q2.1 q2.2
      have wa : IntKind.wrap .i64 (x * p) = x * p := wrap_eq (by omega) (by omega)
      have k67 := fun lim => c67 (d := d) (lim := lim) (h := h.freeze) (n := x * p) b1 (by omega)
      rw [show (x * p + 999) / 1000 = up x p from rfl] at k67
      have we : IntKind.wrap .i64 (k + 1) = k + 1 := wrap_eq (by omega) (by omega)
      by_cases hu : up x p = x
      · rw [passR_stop hlt hu] at e
        rw [← e]
        simp [hlt, wa, k67, hu]
      · rw [passR_go hlt x0 (by omega) q2.1 q2.2 hu] at e
        simp [hlt, wa, k67, hu, we, St.tidy]
        exact ⟨(up x p).toNat, by omega, up x p, rfl, b3, by omega, k + 1, by omega, by omega, e, rfl, rfl⟩
    · rw [passR_done hlt] at e
      rw [← e]
      simp [hlt]
theorem passR_count {p t : Int} (p0 : 0 ≤ p) (p1 : p ≤ 999) : ∀ (k : Nat) (m n r : Int), m.toNat < k → 0 ≤ m → m ≤ 200000 → passR p t m n = (r, 0) → n ≤ r := by
  intro k
  induction k with
  | zero => intro m n r h; omega
  | succ k ih =>
    intro m n r hk h0 h1 e
    by_cases hlt : t < m
    · by_cases hu : up m p = m
      · rw [passR_stop hlt hu] at e; simp at e
      · obtain ⟨_, _, b3, b4⟩ := up_bd h0 h1 p0 p1
        rw [passR_go hlt h0 h1 p0 p1 hu] at e
        have := ih (up m p) (n + 1) r (by omega) b3 (by omega) e
        omega
    · rw [passR_done hlt] at e
      simp at e; omega
theorem passR_less {p t : Int} (p0 : 0 ≤ p) (p1 : p ≤ 999) : ∀ (k : Nat) (b a n m r : Int), b.toNat < k → 0 ≤ a → a ≤ b → b ≤ 200000 → m ≤ n → passR p t b n = (r, 0) → ∃ q, passR p t a m = (q, 0) ∧ q ≤ r := by
  intro k
  induction k with
  | zero => intro b a n m r h; omega
  | succ k ih =>
    intro b a n m r hk h0 h1 h2 hmn e
    have hcount := passR_count p0 p1 _ b n r (Nat.lt_succ_self _) (by omega) h2 e
    by_cases ha : t < a
    · have hb : t < b := by omega
      by_cases hu : up b p = b
      · rw [passR_stop hb hu] at e; simp at e
      · obtain ⟨_, _, b3, b4⟩ := up_bd (m := b) (by omega) h2 p0 p1
        obtain ⟨_, _, a3, a4⟩ := up_bd (m := a) (by omega) (by omega) p0 p1
        rw [passR_go hb (by omega) h2 p0 p1 hu] at e
        have hm := up_mono h1 p0
        by_cases hua : up a p = a
        · obtain ⟨q, e1, _⟩ := ih (up b p) a (n + 1) m r (by omega) h0 (by omega) (by omega) (by omega) e
          rw [passR_stop ha hua] at e1; simp at e1
        · rw [passR_go ha h0 (by omega) p0 p1 hua]
          exact ih (up b p) (up a p) (n + 1) (m + 1) r (by omega) a3 hm (by omega) (by omega) e
    · exact ⟨m, passR_done ha, by omega⟩
theorem passV_less {m p t n : Int} (e : passV m p t = (n, 0)) (hm : m ≠ 0) : ∃ q, passV (m - 1) p t = (q, 0) ∧ q ≤ n := by
  unfold passV at e
  split at e
  · rename_i hc
    obtain ⟨q1, q2, q3⟩ := hc
    have q1' := within_iff.1 q1
    have q2' := within_iff.1 q2
    obtain ⟨q, e1, e2⟩ := passR_less q2'.1 q2'.2 _ m (m - 1) 0 0 n (Nat.lt_succ_self _) (by omega) (by omega) (by omega) (Int.le_refl 0) e
    refine ⟨q, ?_, e2⟩
    unfold passV
    rw [if_pos ⟨within_iff.2 (by omega), q2, q3⟩]; exact e1
  · simp at e
theorem passV_0 {m p t : Int} (h : (passV m p t).2 = 0) : within m 0 200000 = true := by
  unfold passV at h
  split at h
  · rename_i hc; exact hc.1
  · simp at h
theorem law3 {m p t : Int} {lim : Nat} : E.call 31 lim 3 [i64 m, i64 p, i64 t] [] = some (.bool true, []) := by
  have aw := fun lim => awake0 lim
  have k15 := fun lim m => c15 (d := 28) (lim := lim) (h := []) (m := m) (p := p) (t := t)
  have k16 := fun lim => c16 (d := 27) (lim := lim) (h := []) (m := m) (p := p) (t := t)
  refine call1 fn3 rfl (by simp [ef3]) ?_
  have hf : Heap.freeze [] = [] := rfl
  rw [hf]
  generalize hv : passV m p t = v at *
  obtain ⟨n, e⟩ := v
  by_cases he : e = 0
  · subst he
    by_cases hm : m = 0
    · subst hm
      simp [ef3, aw, k15, k16, hv]
    · obtain ⟨q, e1, e2⟩ := passV_less hv hm
      have hw := within_iff.1 (passV_0 (by rw [hv]))
      have wm : IntKind.wrap .i64 (m - 1) = m - 1 := wrap_eq (by omega) (by omega)
      simp [ef3, aw, k15, k16, hv, hm, wm, e1, e2]
  · simp [ef3, aw, k15, k16, hv, he]
end U
end Go.Abs
