/- Chapter 7: monotone: the plain law. -/
import Derived.Test.YtfbelnhibipndaaAbsUG4
set_option linter.unusedSimpArgs false
set_option linter.unusedVariables false
namespace Go.Abs
namespace U
set_option maxRecDepth 100000
theorem fl_mono {x x' c c' m : Int} (hm : 0 < m) (hx : x ≤ x') (hc : c ≤ c') : x + (c - x) / m ≤ x' + (c' - x') / m := by
  have h1 : (c - x - (x' - x) * m) / m = (c - x) / m - (x' - x) := by
    rw [show c - x - (x' - x) * m = c - x + (-(x' - x)) * m by rw [Int.neg_mul]; omega, Int.add_mul_ediv_right _ _ (by omega)]; omega
  have h2 : (c - x - (x' - x) * m) / m ≤ (c' - x') / m := by
    refine Int.ediv_le_ediv hm ?_
    have : (x' - x) * 1 ≤ (x' - x) * m := Int.mul_le_mul_of_nonneg_left (by omega) (by omega)
    omega
  omega
/-- Days alike, humidity never less. -/
structure Wet (l w : List P2) : Prop where
  len : w.length = l.length
  day : ∀ i, i < l.length → (at2 w i).1 = (at2 l i).1
  hum : ∀ i, i < l.length → (at2 l i).2 ≤ (at2 w i).2
theorem fstI_congr {p p' : Nat → Bool} {n : Nat} (h : ∀ i, i < n → p i = p' i) : ∀ (k i : Nat), n - i = k → fstI p n i = fstI p' n i
  | 0, i, e => by rw [fstI_ge (by omega), fstI_ge (by omega)]
  | k + 1, i, e => by
    rw [fstI_lt (p := p) (i := i) (by omega), fstI_lt (p := p') (i := i) (by omega), h i (by omega), fstI_congr h k (i + 1) (by omega)]
theorem Wet.humK {l w : List P2} (W : Wet l w) (day : Int) : humK w day = humK l day := by
  unfold U.humK
  rw [W.len]
  exact fstI_congr (fun i hi => by rw [W.day i hi]) _ 0 rfl
theorem Wet.humV {l w : List P2} (W : Wet l w) (O : COk l) (day : Int) : humV l day ≤ humV w day := by
  unfold U.humV
  rw [W.humK day]
  have := (humK_spec O day).1
  have := O.pos
  exact W.hum _ (by omega)
theorem Wet.mo {l w : List P2} (W : Wet l w) (O : COk l) {s m : Int} (hm : 0 < m) : ∀ n, mo s m l n ≤ mo s m w n
  | 0 => Int.le_refl _
  | n + 1 => by
    unfold U.mo
    have h := W.humV O ((n + 1 : Nat) : Int)
    exact fl_mono hm (W.mo O hm n) (by omega)
theorem mo_ge {l : List P2} (O : COk l) {s m : Int} (hm : 0 < m) (hs : ∀ i, i < l.length → s ≤ (at2 l i).2) : ∀ n, 1000 * s ≤ mo s m l n
  | 0 => Int.le_refl _
  | n + 1 => by
    unfold mo
    have h : s ≤ humV l ((n + 1 : Nat) : Int) := by
      unfold humV
      have := (humK_spec O ((n + 1 : Nat) : Int)).1
      have := O.pos
      exact hs _ (by omega)
    have := fl_mono hm (mo_ge O hm hs n) (show 1000 * s ≤ 1000 * humV l ((n + 1 : Nat) : Int) by omega)
    rw [Int.sub_self, Int.zero_ediv] at this
    omega
theorem offV_mono {s r x x' : Int} (hr : 0 ≤ r) (hx : x ≤ x') : offV s r x ≤ offV s r x' := by
  unfold offV
  exact Int.ediv_le_ediv (by omega) (Int.mul_le_mul_of_nonneg_left (by omega) hr)
theorem offV_nn {s r x : Int} (hr : 0 ≤ r) (hx : 1000 * s ≤ x) : 0 ≤ offV s r x := by
  unfold offV
  exact Int.ediv_nonneg (Int.mul_nonneg hr (by omega)) (by omega)
theorem fstI_imp {p p' : Nat → Bool} {n : Nat} (h : ∀ i, i < n → p i = true → p' i = true) : fstI p' n 0 ≤ fstI p n 0 := by
  obtain ⟨a1, a2, a3, a4⟩ := fstI_spec (p := p) (n := n) _ 0 rfl (by omega)
  obtain ⟨b1, b2, b3, b4⟩ := fstI_spec (p := p') (n := n) _ 0 rfl (by omega)
  rcases Nat.lt_or_ge (fstI p n 0) (fstI p' n 0) with z | z
  · have := h _ (by omega) (a3 (by omega))
    rw [b4 _ (by omega) z] at this; cases this
  · exact z
theorem svc_wet {l w : List P2} (W : Wet l w) (O : COk l) {s m r t : Int} {day : Nat} (hm : 0 < m) (hr : 0 ≤ r) (hs : ∀ i, i < l.length → s ≤ (at2 l i).2) : svcN s m r t w day ≤ svcN s m r t l day := by
  unfold svcN
  refine fstI_imp fun i _ hp => ?_
  unfold stopD absV at hp ⊢
  simp only [Bool.and_eq_true, decide_eq_true_eq] at hp ⊢
  refine ⟨hp.1, ?_⟩
  have h1 := mo_ge O hm hs i
  have h2 := W.mo (s := s) O hm i
  have h3 := offV_nn hr h1
  have h4 := offV_mono (s := s) hr h2
  have h5 := hp.2
  rw [if_neg (by omega)] at h5 ⊢
  omega
theorem svc_tol {l : List P2} {s m r t : Int} {day : Nat} : svcN s m r t l day ≤ svcN s m r (t + 1) l day := by
  unfold svcN
  refine fstI_imp fun i _ hp => ?_
  unfold stopD at hp ⊢
  simp only [Bool.and_eq_true, decide_eq_true_eq] at hp ⊢
  exact ⟨hp.1, by omega⟩
theorem svc_le {l : List P2} {s m r t : Int} {day : Nat} : svcN s m r t l day ≤ day := (fstI_spec (p := fun n => stopD s r t n (mo s m l n)) (n := day) _ 0 rfl (by omega)).2.1
/-- A climate that is good, wetter. -/
theorem Wet.chk {l w : List P2} (W : Wet l w) (h : chkC l = 0) (hb : ∀ i, i < l.length → (at2 w i).2 ≤ 1000) : chkC w = 0 := by
  have O := COk.of h
  unfold chkC
  have := O.pos
  have := O.len
  rw [W.len, if_neg (by omega), if_neg (by omega), fstE_all _ 0 rfl]
  intro i _ hi
  unfold cErr
  have d := O.day i hi
  have hm := O.hum i hi
  have a := W.hum i hi
  have b := hb i hi
  rw [W.day i hi, if_pos ⟨within_iffC.2 d, within_iffC.2 (by omega)⟩, if_neg]
  rintro ⟨p, q⟩
  rw [W.day (i - 1) (by omega)] at q
  have := O.asc (i - 1) (by omega)
  rw [show i - 1 + 1 = i by omega] at this
  omega
theorem c2_set {m : List P2} {i : Nat} {y : Int} (hi : i < m.length) : (cS enc2 m).set (i * 2 + 1) (i64 y) = cS enc2 (m.set i ((at2 m i).1, y)) := by
  induction m generalizing i with
  | nil => simp at hi
  | cons a m ih =>
    cases i with
    | zero => rfl
    | succ i =>
      have := ih (i := i) (by simpa using hi)
      show (i64 a.1 :: i64 a.2 :: cS enc2 m).set ((i + 1) * 2 + 1) (i64 y) = i64 a.1 :: i64 a.2 :: cS enc2 (m.set i ((at2 m i).1, y))
      rw [show (i + 1) * 2 + 1 = i * 2 + 1 + 1 + 1 by omega, List.set_cons_succ, List.set_cons_succ, this]
theorem at2_set {m : List P2} {i j : Nat} {c : P2} (hi : i < m.length) : at2 (m.set i c) j = if i = j then c else at2 m j := by
  unfold at2
  rw [List.getElem?_set]
  split
  · subst i; rfl
  · rfl
end U
end Go.Abs
