/- Chapter 2: classes. -/
import Derived.Test.YtodofkolnmoliaaAbsVZM
import Derived.Test.YtodofkolnmoliaaAbsWp16
set_option linter.unusedSimpArgs false
set_option linter.unusedVariables false
namespace Go.Abs
namespace V
set_option maxRecDepth 100000
set_option maxHeartbeats 0
theorem wrapU2 {n : Int} (h0 : 0 ≤ n) (h : n < 18446744073709551616) : IntKind.wrap .u64 n = n := by
  have e : IntKind.wrap .u64 n = n % 18446744073709551616 := by simp [IntKind.wrap, IntKind.bits, IntKind.signed]
  rw [e]; exact Int.emod_eq_of_lt h0 h
theorem bin_shr1 (a : Int) : E.bin .shr (.int .u64 a) (.int .u64 1) = some (.int .u64 (a / 2)) := by
  show semPure (binOp .shr 0 (.int .u64 a) (.int .u64 1)) = _
  rw [show binOp .shr 0 (.int .u64 a) (.int .u64 1) = Op.shift .shr .u64 a .u64 1 by simp [binOp]]
  simp [Op.shift, semPure]
  have e : a.fdiv (2 ^ min 1 IntKind.u64.bits) = a / 2 := by
    rw [show ((2 : Int) ^ min 1 IntKind.u64.bits) = 2 from rfl]
    exact Int.fdiv_eq_ediv_of_nonneg a (by decide)
  rw [e]; rfl
def belowN : List Int → Int → Nat
  | [], _ => 0
  | a :: r, n => (if a ≤ n then 1 else 0) + belowN r n
theorem belowN_le : ∀ (l : List Int) (n : Int), belowN l n ≤ l.length
  | [], _ => Nat.le_refl _
  | a :: r, n => by have := belowN_le r n; simp only [belowN, List.length_cons]; split <;> omega
theorem belowN_drop {l : List Int} {i : Nat} (h : i < l.length) (n : Int) : belowN (l.drop i) n = (if gx l i ≤ n then 1 else 0) + belowN (l.drop (i + 1)) n := by
  rw [List.drop_eq_getElem_cons h, belowN]
  have : l[i] = gx l i := by simp [gx, List.getD_eq_getElem?_getD, List.getElem?_eq_getElem h]
  rw [this]
theorem below_none : ∀ {l : List Int} {n : Int}, (∀ k, k < l.length → ¬ gx l k ≤ n) → belowN l n = 0
  | [], _, _ => rfl
  | a :: r, n, h => by
    have h0 := h 0 (by simp)
    have ih := below_none (l := r) (n := n) fun k hk => by have := h (k + 1) (by simpa using hk); simpa [gx] using this
    have : ¬ a ≤ n := by simpa [gx] using h0
    simp [belowN, this, ih]
/-- In lists that ascend the first marks are those that are not above. -/
theorem below_iff : ∀ {l : List Int} {n : Int}, (∀ k, k + 1 < l.length → gx l k < gx l (k + 1)) → ∀ k, k < l.length → (gx l k ≤ n ↔ k < belowN l n)
  | [], _, _, k, h => by simp at h
  | a :: r, n, hs, k, hk => by
    have hr : ∀ k, k + 1 < r.length → gx r k < gx r (k + 1) := fun k hk => by have := hs (k + 1) (by simpa using hk); simpa [gx] using this
    have up : ∀ k, k < r.length → a < gx r k := by
      intro k
      induction k with
      | zero => intro hk; have := hs 0 (by simpa using hk); simpa [gx] using this
      | succ k ih => intro hk; have := ih (by omega); have := hr k hk; omega
    by_cases q : a ≤ n
    · cases k with
      | zero => simp only [belowN, if_pos q]; constructor
                · intro _; omega
                · intro _; simpa [gx] using q
      | succ k =>
        have ih := below_iff (l := r) (n := n) hr k (by simpa using hk)
        have e : gx (a :: r) (k + 1) = gx r k := by simp [gx]
        rw [e, ih]; simp only [belowN, if_pos q]; omega
    · have z : belowN r n = 0 := below_none fun k hk => by have := up k hk; omega
      simp only [belowN, if_neg q, z]
      constructor
      · intro h
        cases k with
        | zero => exact absurd (by simpa [gx] using h) q
        | succ k =>
          have e : gx (a :: r) (k + 1) = gx r k := by simp [gx]
          rw [e] at h
          have := up k (by simpa using hk); omega
      · intro h; omega
def mErr (l : List Int) (i : Nat) : Int := if within (gx l i) 1 1000000000000000 = false then 2 else if 0 < i ∧ gx l i ≤ gx l (i - 1) then 9 else 0
/-- The first fault of marks, from some number on. -/
def chkML (l : List Int) (i : Nat) : Int := if i < l.length then (if mErr l i = 0 then chkML l (i + 1) else mErr l i) else 0
termination_by l.length - i
theorem chkML_lt {l : List Int} {i : Nat} (h : i < l.length) : chkML l i = if mErr l i = 0 then chkML l (i + 1) else mErr l i := by rw [chkML, if_pos h]
theorem chkML_ge {l : List Int} {i : Nat} (h : ¬ i < l.length) : chkML l i = 0 := by rw [chkML, if_neg h]
theorem chkML_all {l : List Int} : ∀ (k i : Nat), l.length - i = k → chkML l i = 0 → ∀ j, i ≤ j → j < l.length → mErr l j = 0
  | 0, i, hk, _, j, h1, h2 => by omega
  | k + 1, i, hk, h, j, h1, h2 => by
    rw [chkML_lt (by omega)] at h
    split at h
    · rename_i e
      rcases Nat.eq_or_lt_of_le h1 with rfl | h3
      · exact e
      · exact chkML_all k (i + 1) (by omega) h j h3 h2
    · rename_i e; exact absurd h e
def classE (l : List Int) (a b : Int) : Int := if 20 < l.length then 8 else if chkML l 0 = 0 then
  (if b < a ∨ within a 0 1000000000000000 = false ∨ within b 0 1000000000000000 = false then 2 else if belowN l a ≠ belowN l b then 12 else 0) else chkML l 0
def classN (l : List Int) (a b : Int) : Int := if classE l a b = 0 then (belowN l a : Int) else 0
theorem asc_of {l : List Int} (h : chkML l 0 = 0) : ∀ k, k + 1 < l.length → gx l k < gx l (k + 1) := fun k hk => by
  have := chkML_all _ 0 rfl h (k + 1) (by omega) hk
  unfold mErr at this
  split at this
  · cases this
  · split at this
    · cases this
    · rename_i q; simp only [Nat.add_sub_cancel] at q; omega
theorem c63 {d lim : Nat} {h : Heap} {v : Value} {l : List Int} {n : Int} (s : SlI' h v l) (hl : l.length ≤ 1000) : E.call (d + 1) lim 63 [v, i64 n] h = some (i64 (belowN l n : Int), h) := by
  have r := s.rules2
  refine call1 fn63 rfl (by simp [ef63]) ?_
  simp [ef63, r]
  refine wpC_loop (fun q st => ∃ (i k : Nat), q = l.length - i ∧ i ≤ l.length ∧ k ≤ i ∧ k + belowN (l.drop i) n = belowN l n ∧ st = ⟨[(0, v), (1, i64 n), (5, i64 (k : Int)), (6, i64 (i : Int))], h.freeze⟩) l.length (by show l.length < 2 ^ 64; omega) ?_ ?_
  · simp [St.tidy, r]
    exact ⟨0, by omega, by omega, 0, by omega, by simp, rfl, rfl⟩
  · rintro q hq _ ⟨i, k, rfl, hi, hki, hk, rfl⟩
    by_cases hlt : i < l.length
    · have w1' := w1 (i := i) (by omega)
      have wk := w1 (i := k) (by omega)
      simp only [W] at w1' wk
      have hlti : (i : Int) < l.length := by omega
      have c0 := cI_gx (x := l) (v := i) hlt
      have q0 : ∀ hh, (cI l)[i]'hh = i64 (gx l i) := fun hh => by simp [cI, gx, List.getD_eq_getElem?_getD, List.getElem?_eq_getElem hlt]
      rw [belowN_drop hlt] at hk
      by_cases z : gx l i ≤ n
      · rw [if_pos z] at hk
        simp [hlt, Nat.not_le.2 hlt, hlti, r, q0, z, Int.not_lt.2 z, w1', wk, St.tidy]
        exact ⟨l.length - (i + 1), by omega, i + 1, by omega, by omega, k + 1, by omega, by omega, by omega, by omega⟩
      · rw [if_neg z] at hk
        simp [hlt, Nat.not_le.2 hlt, hlti, r, q0, z, Int.not_le.1 z, w1', St.tidy]
        exact ⟨l.length - (i + 1), by omega, i + 1, by omega, by omega, k, by omega, by omega, by omega, by omega⟩
    · obtain rfl : i = l.length := by omega
      have e : belowN (l.drop l.length) n = 0 := by rw [List.drop_length]; rfl
      rw [e] at hk
      obtain rfl : k = belowN l n := by omega
      simp [r]
theorem c77 {d lim b1 b2 : Nat} {h : Heap} {v : Value} {l : List Int} {n : Int} {k : Nat} (s : SlI' h v l) (hk : k < l.length) (h1 : h.cell b1 0 = some v) (h2 : h.cell b2 0 = some (i64 n)) (l1 : b1 < h.length) (l2 : b2 < h.length) :
    E.call (d + 1) lim 77 [i64 (k : Int), .pointer (some ⟨b1, 0, none⟩), .pointer (some ⟨b2, 0, none⟩)] h = some (.bool (decide (n ≤ gx l k)), h) := by
  have r := s.rules2
  have hki : (k : Int) < l.length := by omega
  have q0 : ∀ hh, (cI l)[k]'hh = i64 (gx l k) := fun hh => by simp [cI, gx, List.getD_eq_getElem?_getD, List.getElem?_eq_getElem hk]
  refine call1 fn77 rfl (by simp [ef77]) ?_
  simp [ef77, h1, h2, l1, l2, r, hk, hki, q0]
theorem c76 {d lim b1 b2 : Nat} {h : Heap} {v : Value} {l : List Int} {x : Int} (s : SlI' h v l) (hl : l.length ≤ 1000) (ha : ∀ k, k + 1 < l.length → gx l k < gx l (k + 1)) (h1 : h.cell b1 0 = some v) (h2 : h.cell b2 0 = some (i64 (x + 1))) (l1 : b1 < h.length) (l2 : b2 < h.length) :
    E.call (d + 2) lim 76 [i64 (l.length : Int), .func (.func 77) #[] #[.pointer (some ⟨b1, 0, none⟩), .pointer (some ⟨b2, 0, none⟩)]] h = some (i64 (belowN l x : Int), h) := by
  have k77 := fun lim k (hk : k < l.length) => c77 (d := d) (lim := lim) (h := h.freeze) (n := x + 1) (Sl_freeze.2 s) hk (by rw [cell_freeze]; exact h1) (by rw [cell_freeze]; exact h2) (by simpa using l1) (by simpa using l2)
  have it := below_iff (n := x) ha
  have le := belowN_le l x
  generalize belowN l x = T at *
  refine call1 fn76 rfl (by simp [ef76]) ?_
  simp [ef76]
  refine wpC_loop (fun q st => ∃ (i j : Nat), q = j - i ∧ i ≤ T ∧ T ≤ j ∧ j ≤ l.length ∧ st = ⟨[(1, .func (.func 77) #[] #[.pointer (some ⟨b1, 0, none⟩), .pointer (some ⟨b2, 0, none⟩)]), (5, i64 (i : Int)), (6, i64 (j : Int))], h.freeze⟩) l.length (by show l.length < 2 ^ 64; omega) ?_ ?_
  · simp [St.tidy, l1, l2]
    exact ⟨0, l.length, by omega, by omega, by omega, by omega, rfl, rfl⟩
  · rintro q hq _ ⟨i, j, rfl, hi, hj, hjl, rfl⟩
    by_cases hlt : i < j
    · have hm : (i + j) / 2 < l.length := by omega
      have wa : IntKind.wrap .i64 ((i : Int) + j) = ((i + j : Nat) : Int) := by rw [wrap_eq (by omega) (by omega)]; omega
      have wu : IntKind.wrap .u64 ((i + j : Nat) : Int) = ((i + j : Nat) : Int) := wrapU2 (by omega) (by omega)
      have wh : IntKind.wrap .i64 (((i + j : Nat) : Int) / 2) = (((i + j) / 2 : Nat) : Int) := by rw [wrap_eq (by omega) (by omega)]; omega
      have km := fun lim => k77 lim _ hm
      have im := it _ hm
      generalize hM : (i + j) / 2 = M at *
      generalize hS : i + j = S at *
      have w1' := w1 (i := M) (by omega)
      simp only [W] at w1'
      by_cases z : x + 1 ≤ gx l M
      · have : ¬ M < T := by rw [← im]; omega
        simp [hlt, wa, wu, wh, bin_shr1, km, z, St.tidy, l1, l2]
        exact ⟨M - i, by omega, i, M, by omega, by omega, by omega, by omega, rfl, rfl⟩
      · have : M < T := by rw [← im]; omega
        simp [hlt, wa, wu, wh, bin_shr1, km, z, Int.not_le.1 z, St.tidy, l1, l2, w1']
        exact ⟨j - (M + 1), by omega, M + 1, j, by omega, by omega, by omega, by omega, by omega, rfl⟩
    · obtain rfl : i = T := by omega
      simp [hlt]
theorem c62 {d lim : Nat} {h : Heap} {v : Value} {l : List Int} {x : Int} (s : SlI' h v l) (hl : l.length ≤ 1000) (ha : ∀ k, k + 1 < l.length → gx l k < gx l (k + 1)) :
    E.call (d + 3) lim 62 [v, i64 (x + 1)] h = some (i64 (belowN l x : Int), h) := by
  have r := s.rules2
  have k76 := fun lim => c76 (d := d) (lim := lim) (x := x) (b1 := h.length) (b2 := h.length + 1) ((Sl_freeze.2 s).app [some ⟨[v], true⟩, some ⟨[i64 (x + 1)], true⟩]) hl ha (by simp) (by simp) (by simp) (by simp)
  refine call1 fn62 rfl (by simp [ef62]) ?_
  have r1 := s.len
  rcases s.low with rfl | ⟨bv, o', m', t', rfl, hbv⟩
  · simp at r1
    rw [← r1] at k76
    simp at k76
    simp [ef62, k76]
  · simp at r1
    subst r1
    simp [ef62, k76]
end V
end Go.Abs
