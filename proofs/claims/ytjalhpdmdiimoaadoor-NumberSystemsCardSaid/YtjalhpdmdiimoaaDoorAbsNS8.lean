/- Systems of differences: the plain facts of the law. -/
import Derived.Test.YtjalhpdmdiimoaaDoorAbsNS7
import Derived.Test.YtjalhpdmdiimoaaDoorAbsTyped
set_option linter.unusedSimpArgs false
set_option linter.unusedVariables false
namespace Go.Abs
namespace N
set_option maxRecDepth 100000
set_option maxHeartbeats 0
theorem toBd {n : Int} {l0 : List B3i} (h : chkS n l0 = 0) : ∃ (k : Nat) (l : List Bd), n = (k : Int) ∧ 1 ≤ k ∧ k ≤ 60 ∧ l0 = l.map iB ∧ Good k l ∧ l.length ≤ 200 := by
  unfold chkS at h
  split at h
  · rename_i hn
    split at h
    · omega
    · rename_i hl
      obtain ⟨k, rfl, h1, h2⟩ := within_nat hn
      have all := fun j hj => chkBL_all l0.length 0 (by omega) h j (Nat.zero_le j) hj
      have fact : ∀ j (hj : j < l0.length), (0 ≤ l0[j].1 ∧ l0[j].1 < k) ∧ (0 ≤ l0[j].2.1 ∧ l0[j].2.1 < k) ∧ -1000000000 ≤ l0[j].2.2 ∧ l0[j].2.2 ≤ 1000000000 := fun j hj => by
        have := all j hj
        rw [← atB_get hj] at this
        unfold chkB at this
        split at this
        · split at this
          · split at this
            · rename_i a b c
              simp [within] at a b c
              omega
            · omega
          · omega
        · omega
      refine ⟨k, l0.map fun b => (b.1.toNat, b.2.1.toNat, b.2.2), rfl, h1, h2, ?_, ⟨fun i hi => ?_⟩, by simpa using hl⟩
      · apply List.ext_getElem?
        intro j
        rw [List.map_map]
        by_cases hj : j < l0.length
        · rw [List.getElem?_map, List.getElem?_eq_getElem hj]
          have := fact j hj
          simp only [Option.map_some, Function.comp_apply, iB]
          congr 1
          refine Prod.ext ?_ (Prod.ext ?_ rfl) <;> simp only <;> omega
        · rw [List.getElem?_eq_none (by omega), List.getElem?_eq_none (by simp; omega)]
      · have hi' : i < l0.length := by simpa using hi
        have := fact i hi'
        simp only [List.getElem_map]
        omega
  · omega
theorem tryR_len {n : Nat} {l : List Bd} (G : Good n l) : ∀ (m k : Nat) (X : List Int), tryR l n m k = some X → X.length = n
  | 0, k, X, h => by cases h
  | m + 1, k, X, h => by
    rw [tryR] at h
    split at h
    · rw [← Option.some.inj h]; exact (iter_ok G (k + 1)).1
    · exact tryR_len G m (k + 1) X h
theorem cycI_get (l : List Bd) (b : List Nat) (w : Nat) : ∀ p i, i < p → (cycI l b w p)[i]? = some ((gb b (back l b w i) : Nat) : Int)
  | 0, i, h => by omega
  | p + 1, i, h => by
    have ln := cycI_len l b w p
    simp only [cycI]
    by_cases e : i < p
    · rw [List.getElem?_append_left (by omega)]; exact cycI_get l b w p i e
    · have : i = p := by omega
      subst this
      rw [List.getElem?_append_right (by omega), ln, Nat.sub_self]; rfl
def fW (l : List Bd) (b : List Nat) (w p i : Nat) : Nat := gb b (back l b w (p - 1 - i))
theorem way_of {n : Nat} {l : List Bd} {b : List Nat} {w p : Nat} (C : Cyc n l b w p) (hn : n ≤ 60) : Way n l (cycI l b w p).reverse (fW l b w p) := by
  have ln := cycI_len l b w p
  have p1 := C.p1
  have pn := C.pn
  refine ⟨by simp [ln]; omega, by simp [ln]; omega, fun i hi => ?_, fun i hi => ?_⟩
  · rw [List.length_reverse, ln] at hi
    rw [List.getElem?_reverse (by omega), ln, cycI_get l b w p _ (by omega)]; rfl
  · rw [List.length_reverse, ln] at hi
    exact (C.ok (p - 1 - i) (by omega)).2.1
theorem bd_at {n : Nat} {l : List Bd} {b : List Nat} {w p : Nat} (C : Cyc n l b w p) {q : Nat} (hq : q ≤ p) : (bdA l (gb b (back l b w q))).2.1 = back l b w q ∧ (bdA l (gb b (back l b w q))).1 = back l b w (q + 1) ∧ (bdA l (gb b (back l b w q))).2.2 = wgt l b (back l b w q) := by
  obtain ⟨_, a, e⟩ := C.ok q hq
  rw [bdA_get a] at e
  refine ⟨e, ?_, ?_⟩
  · show _ = prev l b (back l b w q)
    unfold prev; rw [List.getElem?_eq_getElem a]; simp only; rw [bdA_get a]
  · unfold wgt; rw [List.getElem?_eq_getElem a]; simp only; rw [bdA_get a]
theorem chain_of {n : Nat} {l : List Bd} {b : List Nat} {w p : Nat} (C : Cyc n l b w p) : ∀ i, i < p → (bdA l (fW l b w p i)).1 = (bdA l (fW l b w p (prevI p i))).2.1 := fun i hi => by
  have p1 := C.p1
  unfold fW
  rw [(bd_at C (show p - 1 - i ≤ p by omega)).2.1]
  rcases Nat.eq_zero_or_pos i with z | z
  · subst z
    have : prevI p 0 = p - 1 := rfl
    rw [this, show p - 1 - (p - 1) = 0 by omega, (bd_at C (Nat.zero_le p)).1, show p - 1 - 0 + 1 = p by omega]
    exact C.close
  · have : prevI p i = i - 1 := by unfold prevI; rw [if_neg (by omega)]
    rw [this, (bd_at C (show p - 1 - (i - 1) ≤ p by omega)).1]
    congr 1; omega
theorem sum_of {n : Nat} {l : List Bd} {b : List Nat} {w p : Nat} (C : Cyc n l b w p) : ∀ k, k ≤ p → sumF l (fW l b w p) k = sumB l b w p - sumB l b w (p - k)
  | 0, _ => by simp [sumF]
  | k + 1, hk => by
    have ih := sum_of C k (by omega)
    simp only [sumF]
    rw [ih]
    have e : p - k = (p - (k + 1)) + 1 := by omega
    have e2 : sumB l b w (p - k) = sumB l b w (p - (k + 1)) + wgt l b (back l b w (p - (k + 1))) := by rw [e]; rfl
    have e3 : (bdA l (fW l b w p k)).2.2 = wgt l b (back l b w (p - (k + 1))) := by
      unfold fW
      rw [show p - 1 - k = p - (k + 1) by omega]
      exact (bd_at C (by omega)).2.2
    omega
theorem sum_all {n : Nat} {l : List Bd} {b : List Nat} {w p : Nat} (C : Cyc n l b w p) : sumF l (fW l b w p) p < 0 := by
  rw [sum_of C p (Nat.le_refl p), Nat.sub_self]
  have := C.neg
  simp only [sumB]; omega
end N
end Go.Abs
