/- Systems of differences: all rounds; the way round. -/
import Derived.Test.YtjalhpdmdiimoaaDoorAbsNS1
set_option linter.unusedSimpArgs false
set_option linter.unusedVariables false
namespace Go.Abs
def iterR (l : List Bd) (n : Nat) : Nat → RS
  | 0 => ⟨zerosI n, zerosN n, none⟩
  | k + 1 => relax l (iterR l n k).x (iterR l n k).by_
theorem iter_sys {n : Nat} {l : List Bd} (G : Good n l) : ∀ k, ∃ rd T, Sys n l (k + 1) l.length (iterR l n (k + 1)) rd T ((k + 1) * l.length)
  | 0 => by
    obtain ⟨rd, T, S⟩ := Sys.round G (Sys.start n l) (Nat.le_refl 1) l.length (Nat.le_refl _)
    refine ⟨rd, T, ?_⟩
    have e : 0 + l.length = (0 + 1) * l.length := by omega
    rw [e] at S
    exact S
  | k + 1 => by
    obtain ⟨rd, T, S⟩ := iter_sys G k
    obtain ⟨rd', T', S'⟩ := Sys.round G (Sys.next S) (by omega) l.length (Nat.le_refl _)
    refine ⟨rd', T', ?_⟩
    have e : (k + 1) * l.length + l.length = (k + 1 + 1) * l.length := (Nat.succ_mul (k + 1) l.length).symm
    rw [e] at S'
    exact S'
theorem pigeon : ∀ (n : Nat) (f : Nat → Nat), (∀ i, i ≤ n → f i < n) → ∃ i j, i < j ∧ j ≤ n ∧ f i = f j
  | 0, f, h => absurd (h 0 (Nat.le_refl 0)) (by omega)
  | n + 1, f, h => by
    by_cases q : ∃ i, i ≤ n ∧ f i = f (n + 1)
    · obtain ⟨i, hi, e⟩ := q
      exact ⟨i, n + 1, by omega, Nat.le_refl _, e⟩
    · have hn := h (n + 1) (Nat.le_refl _)
      have ne : ∀ i, i ≤ n → f i ≠ f (n + 1) := fun i hi e => q ⟨i, hi, e⟩
      obtain ⟨i, j, h1, h2, h3⟩ := pigeon n (fun i => if f i < f (n + 1) then f i else f i - 1) (fun i hi => by
        have a := ne i hi
        have b := h i (by omega)
        try dsimp only
        split <;> omega)
      refine ⟨i, j, h1, by omega, ?_⟩
      have a := ne i (by omega)
      have b := ne j h2
      try dsimp only at h3
      split at h3 <;> split at h3 <;> omega
theorem back_add (l : List Bd) (b : List Nat) (v n : Nat) : ∀ k, back l b (back l b v n) k = back l b v (n + k)
  | 0 => rfl
  | k + 1 => by
    show prev l b (back l b (back l b v n) k) = prev l b (back l b v (n + k))
    rw [back_add l b v n k]
structure Cyc (n : Nat) (l : List Bd) (b : List Nat) (w p : Nat) : Prop where
  p1 : 1 ≤ p
  pn : p ≤ n
  ok : ∀ q, q ≤ p → back l b w q < n ∧ ∃ h : gb b (back l b w q) < l.length, l[gb b (back l b w q)].2.1 = back l b w q
  close : back l b w p = w
  first : ∀ q, 1 ≤ q → q < p → back l b w q ≠ w
  neg : sumB l b w p < 0
theorem least {P : Nat → Prop} (hP : ∃ m, P m) : ∃ m, P m ∧ ∀ q, q < m → ¬ P q := by
  obtain ⟨m, hm⟩ := hP
  induction m using Nat.strongRecOn with
  | _ m ih =>
    by_cases h : ∃ q, q < m ∧ P q
    · obtain ⟨q, hq, hp⟩ := h
      exact ih q hq hp
    · exact ⟨m, hm, fun q hq hp => h ⟨q, hq, hp⟩⟩
theorem Sys.cyc {n : Nat} {l : List Bd} {s : RS} {rd T : Nat → Nat} {c : Nat} (G : Good n l) (S : Sys n l n l.length s rd T c) {v : Nat} (hv : s.low = some v) :
    (∀ j, j < n → back l s.by_ v j < n ∧ ∃ h : gb s.by_ (back l s.by_ v j) < l.length, l[gb s.by_ (back l s.by_ v j)].2.1 = back l s.by_ v j) ∧ ∃ p, Cyc n l s.by_ (back l s.by_ v n) p := by
  obtain ⟨v1, v2⟩ := S.lowS v hv
  have br : ∀ j, j ≤ n → back l s.by_ v j < n ∧ n ≤ rd (back l s.by_ v j) + j := by
    intro j
    induction j with
    | zero => intro _; exact ⟨v1, by show n ≤ rd v + 0; omega⟩
    | succ j ih =>
      intro hj
      obtain ⟨a1, a2⟩ := ih (by omega)
      obtain ⟨b1, b2, _⟩ := S.prev_ok G a1 (by omega)
      exact ⟨b1, by show n ≤ rd (prev l s.by_ (back l s.by_ v j)) + (j + 1); omega⟩
  have okj : ∀ j, j < n → back l s.by_ v j < n ∧ 1 ≤ rd (back l s.by_ v j) ∧ ∃ h : gb s.by_ (back l s.by_ v j) < l.length, l[gb s.by_ (back l s.by_ v j)].2.1 = back l s.by_ v j := fun j hj => by
    obtain ⟨a1, a2⟩ := br j (by omega)
    obtain ⟨b1, b2, _⟩ := S.by_ok _ a1 (by omega)
    exact ⟨a1, by omega, b1, b2⟩
  refine ⟨fun j hj => ⟨(okj j hj).1, (okj j hj).2.2⟩, ?_⟩
  obtain ⟨i, j, h1, h2, h3⟩ := pigeon n (fun k => back l s.by_ v k) (fun k hk => (br k hk).1)
  have per : ∀ t, back l s.by_ v (i + t) = back l s.by_ v (j + t) := fun t => by
    rw [← back_add, ← back_add, h3]
  have red : ∀ a, i ≤ a → ∃ a', a' < n ∧ back l s.by_ v a = back l s.by_ v a' := by
    intro a
    induction a using Nat.strongRecOn with
    | _ a ih =>
      intro ha
      by_cases q : a < j
      · exact ⟨a, by omega, rfl⟩
      · obtain ⟨a', e1, e2⟩ := ih (a - (j - i)) (by omega) (by omega)
        refine ⟨a', e1, ?_⟩
        rw [← e2]
        have := per (a - j)
        rw [show j + (a - j) = a by omega, show i + (a - j) = a - (j - i) by omega] at this
        exact this.symm
  have okw : ∀ q, back l s.by_ (back l s.by_ v n) q < n ∧ 1 ≤ rd (back l s.by_ (back l s.by_ v n) q) ∧ ∃ h : gb s.by_ (back l s.by_ (back l s.by_ v n) q) < l.length, l[gb s.by_ (back l s.by_ (back l s.by_ v n) q)].2.1 = back l s.by_ (back l s.by_ v n) q := fun q => by
    rw [back_add]
    obtain ⟨a', e1, e2⟩ := red (n + q) (by omega)
    rw [e2]; exact okj a' e1
  obtain ⟨p, ⟨p1, p2⟩, p3⟩ := least (P := fun p => 1 ≤ p ∧ back l s.by_ (back l s.by_ v n) p = back l s.by_ v n) ⟨j - i, by omega, by
    rw [back_add]
    have := per (n - i)
    rw [show i + (n - i) = n by omega, show j + (n - i) = n + (j - i) by omega] at this
    exact this.symm⟩
  have pm : p ≤ j - i := by
    rcases Nat.lt_or_ge (j - i) p with z | z
    · exact absurd ⟨by omega, by
        rw [back_add]
        have := per (n - i)
        rw [show i + (n - i) = n by omega, show j + (n - i) = n + (j - i) by omega] at this
        exact this.symm⟩ (p3 (j - i) z)
    · exact z
  exact ⟨p, p1, by omega, fun q _ => ⟨(okw q).1, (okw q).2.2⟩, p2, fun q a b e => p3 q b ⟨a, e⟩, S.cycle_neg G p1 (fun q _ => ⟨(okw q).1, (okw q).2.1⟩) p2⟩
/-- Where there is such a way round, no numbers keep all bounds. -/
theorem Cyc.none {n : Nat} {l : List Bd} {b : List Nat} {w p : Nat} (C : Cyc n l b w p) (x : List Int) : ¬ ∀ j (hj : j < l.length), gx x l[j].2.1 ≤ gx x l[j].1 + l[j].2.2 := fun h => by
  have key : ∀ q, q ≤ p → gx x w ≤ gx x (back l b w q) + sumB l b w q := by
    intro q
    induction q with
    | zero => intro _; simp [back, sumB]
    | succ q ih =>
      intro hq
      have h1 := ih (by omega)
      obtain ⟨_, a2, a3⟩ := C.ok q (by omega)
      have h2 := h _ a2
      rw [a3] at h2
      have e1 : prev l b (back l b w q) = l[gb b (back l b w q)].1 := by simp [prev, a2]
      have e2 : wgt l b (back l b w q) = l[gb b (back l b w q)].2.2 := by simp [wgt, a2]
      simp only [back, sumB]
      rw [e1, e2]; omega
  have := key p (Nat.le_refl p)
  rw [C.close] at this
  have := C.neg
  omega
/-- n rounds that all lower something: there is a way round, and the next round lowers something, too. -/
theorem never {n : Nat} {l : List Bd} (G : Good n l) (h1 : 1 ≤ n) {v : Nat} (h : (iterR l n n).low = some v) : (iterR l n (n + 1)).low ≠ none ∧
    (∀ j, j < n → back l (iterR l n n).by_ v j < n ∧ ∃ h : gb (iterR l n n).by_ (back l (iterR l n n).by_ v j) < l.length, l[gb (iterR l n n).by_ (back l (iterR l n n).by_ v j)].2.1 = back l (iterR l n n).by_ v j) ∧
    ∃ p, Cyc n l (iterR l n n).by_ (back l (iterR l n n).by_ v n) p := by
  obtain ⟨rd, T, S⟩ := iter_sys G (n - 1)
  rw [show n - 1 + 1 = n by omega] at S
  obtain ⟨a, p, C⟩ := S.cyc G h
  refine ⟨fun e => ?_, a, p, C⟩
  obtain ⟨rd', T', S'⟩ := iter_sys G n
  exact C.none _ (S'.solved G e)
end Go.Abs
