/- One number is taken out of a row. -/
import Derived.Test.YtfbelnhibipndaaAbsUN2
set_option linter.unusedSimpArgs false
set_option linter.unusedVariables false
namespace Go.Abs
namespace U
set_option maxRecDepth 100000
set_option maxHeartbeats 0
set_option linter.unusedSimpArgs false
theorem c96 {d lim p : Nat} {h : Heap} {x i : Int} {rw_ : Bool} (hp : h.get p = some ⟨[i64 i], rw_⟩) : E.call (d + 1) lim 96 [i64 x, pB p] h = some (.bool (decide (x = i)), h) := by
  refine call1 fn96 rfl (by simp [ef96]) ?_
  have ck := cell_get (o := 0) hp
  simp [ef96, ck]
  by_cases z : x = i <;> simp [z]
theorem c95 {d lim b p j0 : Nat} {G : Heap} {S Z : List Int} {i : Int} {rw_ : Bool} (hb : b < G.length) (hpl : p < G.length) (hp : ∀ X, (sH G b X).get p = some ⟨[i64 i], rw_⟩) (hs : S.length ≤ 1000) (hj : j0 < S.length) (hji : gI S j0 = i) (hne : ∀ j, j < S.length → j ≠ j0 → gI S j ≠ i) :
    E.call (d + 3) lim 95 [vS b S.length, .func (.func 96) #[] #[pB p]] (sH G b (S ++ Z)) = some (vS b (S.length - 1), sH G b (S.eraseIdx j0 ++ 0 :: Z)) := by
  have key : ∃ v h', E.call (d + 3) lim 95 [vS b S.length, .func (.func 96) #[] #[pB p]] (sH G b (S ++ Z)) = some (v, h') ∧ v = vS b (S.length - 1) ∧ h' = sH G b (S.eraseIdx j0 ++ 0 :: Z) := by
    refine call_trunc (Q := fun v h' => v = vS b (S.length - 1) ∧ h' = sH G b (S.eraseIdx j0 ++ 0 :: Z)) fn95 rfl (by simp [ef95]) ?_
    have sl : SlI' (sH G b (S ++ Z)) (vS b S.length) S := SlI'_pre (sH_get hb _) rfl
    have k104 := fun lim => c104 (d := d + 1) (lim := lim) (g := 96) (h := sH G b (S ++ Z)) (ca := #[pB p]) (p := fun x => decide (x = i)) sl (by omega) (by simp [hpl]) (by simp) (fun lim x => by have := c96 (d := d) (lim := lim) (x := x) (hget_freeze (hp (S ++ Z))); simpa using this)
    have eJ : fstI (fun i_1 => decide (S.getD i_1 0 = i)) S.length 0 = j0 := by
      obtain ⟨a1, a2, a3, a4⟩ := fstI_spec (p := fun k => decide (S.getD k 0 = i)) (n := S.length) _ 0 rfl (by omega)
      generalize fstI (fun k => decide (S.getD k 0 = i)) S.length 0 = J at *
      rcases Nat.lt_trichotomy J j0 with z | z | z
      · have := a3 (by omega)
        rw [decide_eq_true_eq] at this
        exact absurd this (hne J (by omega) (by omega))
      · exact z
      · have := a4 j0 (by omega) z
        rw [decide_eq_false_iff_not] at this
        exact absurd hji this
    simp only [eJ, if_pos hj] at k104
    have w1' := w1 (i := j0) (by omega)
    have nm : ¬ (j0 : Int) = -1 := by omega
    simp [ef95, k104, w1', nm]
    obtain ⟨n, hn⟩ : ∃ n, n = S.length := ⟨_, rfl⟩
    have k96 := fun lim X x => c96 (d := d + 1) (lim := lim) (x := x) (hp X)
    have gS : ∀ j, j < n → gI (S ++ Z) j = gI S j := fun j h => by
      unfold gI
      rw [List.getD_eq_getElem?_getD, List.getD_eq_getElem?_getD, List.getElem?_append_left (by omega)]
    have hL : (S ++ Z).length = n + Z.length := by rw [List.length_append, hn]
    rw [← hn] at hs hj hne ⊢
    generalize hY : S ++ Z = Y at *
    have fin : ∀ X : List Int, X.length = n + Z.length → (∀ j, gI X j = if j < j0 then gI Y j else if j < n - 1 then gI Y (j + 1) else gI Y j) → X.set (n - 1) 0 = S.eraseIdx j0 ++ 0 :: Z := fun X hX hP => by
      have le : (S.eraseIdx j0).length = n - 1 := by rw [List.length_eraseIdx, if_pos (by omega)]; omega
      refine gI_ext (by rw [List.length_set, List.length_append, le, List.length_cons]; omega) fun j hj' => ?_
      rw [gI_set (by omega), hP j]
      unfold gI
      simp only [List.getD_eq_getElem?_getD]
      by_cases z1 : n - 1 = j
      · rw [if_pos z1, List.getElem?_append_right (by omega), le, show j - (n - 1) = 0 by omega]; rfl
      · rw [if_neg z1]
        by_cases z2 : j < n - 1
        · rw [List.getElem?_append_left (by omega), List.getElem?_eraseIdx]
          by_cases z3 : j < j0
          · rw [if_pos z3, if_pos z3, ← hY, List.getElem?_append_left (by omega)]
          · rw [if_neg z3, if_pos z2, if_neg z3, ← hY, List.getElem?_append_left (by omega)]
        · rw [if_neg (by omega), if_neg z2, ← hY, List.getElem?_append_right (by omega), List.getElem?_append_right (by omega), le, ← hn, show j - (n - 1) = (j - n) + 1 by omega]; rfl
    refine wpC_loop (fun q st => ∃ (m w : Nat) (X : List Int), q = n - m ∧ j0 + 1 ≤ m ∧ m ≤ n ∧ w = m - 1 ∧ X.length = n + Z.length ∧ (∀ j, gI X j = if j < j0 then gI Y j else if j < m - 1 then gI Y (j + 1) else gI Y j) ∧ st = ⟨[(0, vS b n), (1, .func (.func 96) #[] #[pB p]), (5, i64 (w : Int)), (6, i64 (m : Int))], sH G b X⟩) (n - (j0 + 1)) (by show n - (j0 + 1) < 2 ^ 64; omega) ?_ ?_
    · simp [St.tidy, hb, hpl, sH_take]
      refine ⟨j0 + 1, rfl, by omega, by omega, Y, hL, fun j => ?_, ⟨by omega, by omega⟩, rfl⟩
      by_cases z : j < j0
      · rw [if_pos z]
      · rw [if_neg z, if_neg (by omega)]
    · rintro q hq _ ⟨m, w, X, rfl, hm1, hm, hw, hX, hP, rfl⟩
      have cl : (cI X).length = n + Z.length := by rw [cI_len, hX]
      by_cases lt : m < n
      · have lti : (m : Int) < n := by omega
        obtain ⟨p1, p2, p3, p4, p5⟩ := ixL (l := X) (k := m) (by omega)
        have gm : gI X m = gI S m := by rw [hP m, if_neg (by omega), if_neg (by omega), gS m lt]
        rw [gm] at p2 p3
        have nx := hne m lt (by omega)
        have wm := w1 (i := m) (by omega)
        have ww := w1 (i := w) (by omega)
        have wn : w < n := by omega
        have wni : (w : Int) < n := by omega
        have wle : w + 1 ≤ n + Z.length := by omega
        have na : noAddr (i64 (gI S m)) = true := rfl
        simp [lt, lti, Nat.not_le.2 lt, Int.not_le.2 lti, p2, p3, k96, nx, wm, ww, wn, wni, wle, na, sH_get hb, sH_cell hb, sH_put, cl, cI_set, St.tidy, hb, hpl, sH_take]
        refine ⟨n - (m + 1), by omega, m + 1, rfl, by omega, by omega, X.set w (gI S m), by rw [List.length_set, hX], fun j => ?_, ⟨by omega, by omega⟩, rfl⟩
        rw [gI_set (by omega)]
        by_cases z1 : w = j
        · rw [if_pos z1, if_neg (by omega), if_pos (by omega), show j + 1 = m by omega, gS m lt]
        · rw [if_neg z1, hP j]
          by_cases z2 : j < j0
          · rw [if_pos z2, if_pos z2]
          · rw [if_neg z2, if_neg z2]
            by_cases z3 : j < m - 1
            · rw [if_pos z3, if_pos (by omega)]
            · rw [if_neg z3, if_neg (by omega)]
      · obtain rfl : m = n := by omega
        subst hw
        have nn : m - (m - 1) = 1 := by omega
        have mle : m - 1 ≤ m := by omega
        simp [E.bound, nn, mle, sH_get hb, cl, hb]
        refine ⟨by omega, ?_⟩
        rw [show splice (cI X) (m - 1) (zeros [Value.int IntKind.i64 0] 1) = (cI X).set (m - 1) (i64 0) from rfl, cI_set, sH_put, sH_take, fin X hX hP]
  obtain ⟨v, h', e1, rfl, rfl⟩ := key
  exact e1
end U
end Go.Abs
