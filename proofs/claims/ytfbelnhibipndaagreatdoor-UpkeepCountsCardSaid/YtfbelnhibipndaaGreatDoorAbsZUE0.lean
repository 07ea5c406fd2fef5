/- Chapter 7: lists of numbers: copied, compared, searched. -/
import Derived.Test.YtfbelnhibipndaaGreatDoorAbsZUAM
set_option linter.unusedSimpArgs false
set_option linter.unusedVariables false
namespace Go.Abs
namespace Z.U
set_option maxRecDepth 100000
set_option maxHeartbeats 0
theorem c23 {d lim : Nat} {h : Heap} {v w : Value} {a b : List Int} (s : SlI' h v a) (t : SlI' h w b) (hl : a.length ≤ 100000) (hl2 : b.length ≤ 100000) : E.call (d + 1) lim 23 [v, w] h = some (.bool (decide (a = b)), h) := by
  have r := s.rules2
  have r' := t.rules2
  refine call1 fn23 rfl (by simp [ef23]) ?_
  by_cases hn : a.length = b.length
  case neg =>
    have hn' : ¬ (a.length : Int) = (b.length : Int) := by omega
    have : decide (a = b) = false := by
      rw [decide_eq_false_iff_not]; rintro rfl; exact hn rfl
    rw [this]
    simp [ef23, r, r', hn, hn']
  simp [ef23, r, r', hn]
  refine wpC_loop (fun q st => ∃ i : Nat, q = a.length - i ∧ i ≤ a.length ∧ (∀ j, j < i → a[j]? = b[j]?) ∧ st = ⟨[(0, v), (1, w), (5, i64 (i : Int))], h.freeze⟩) a.length (by show a.length < 2 ^ 64; omega) ?_ ?_
  · simp [St.tidy, r, r']
    exact ⟨0, by omega, by omega, fun j hj => by omega, rfl⟩
  · rintro q hq _ ⟨i, rfl, hi, hc, rfl⟩
    by_cases hlt : i < a.length
    · have hlt2 : i < b.length := by omega
      have w1' := w1 (i := i) (by omega)
      have h4 : (i : Int) < b.length := by omega
      have ca : ∀ hh, (cI a)[i]'hh = i64 a[i] := fun hh => by simp [cI]
      have cb : ∀ hh, (cI b)[i]'hh = i64 b[i] := fun hh => by simp [cI]
      have ha := cI_at a hlt
      have hb := cI_at b hlt2
      by_cases q1 : a[i] = b[i]
      · simp [hlt, hlt2, Nat.not_le.2 hlt2, h4, r, r', hn, ca, cb, q1, w1', St.tidy]
        refine ⟨b.length - (i + 1), by omega, i + 1, by omega, by omega, fun j hj => ?_, by omega⟩
        rcases Nat.lt_or_ge j i with z | z
        · exact hc j z
        · obtain rfl : j = i := by omega
          rw [List.getElem?_eq_getElem hlt, List.getElem?_eq_getElem hlt2, q1]
      · have : ¬ a = b := by rintro rfl; exact q1 rfl
        simp [hlt, hlt2, Nat.not_le.2 hlt2, h4, r, r', hn, ca, cb, q1, this]
    · have hab : a = b := by
        apply List.ext_getElem?
        intro j
        rcases Nat.lt_or_ge j i with z | z
        · exact hc j z
        · rw [List.getElem?_eq_none (by omega), List.getElem?_eq_none (by omega)]
      obtain rfl : i = a.length := by omega
      subst hab
      simp [r, r']
theorem c123 {d lim g : Nat} {h : Heap} {v : Value} {l : List Int} {p : Int → Bool} {ca : Array Value} (s : SlI' h v l) (hl : l.length ≤ 100000) (hlow : ca.toList.all (lowV h.length 3) = true) (hfew : (ca.toList.map (fewV 3)).sum ≤ 9)
    (hp : ∀ lim x, E.call d lim g ([i64 x] ++ ca.toList) h.freeze = some (.bool (p x), h.freeze)) :
    E.call (d + 1) lim 123 [v, .func (.func g) #[] ca] h = some (i64 (if fstI (fun i => p (l.getD i 0)) l.length 0 < l.length then (fstI (fun i => p (l.getD i 0)) l.length 0 : Int) else -1), h) := by
  have r := s.rules2
  refine call1 fn123 rfl (by simp [ef123]) ?_
  generalize hI : fstI (fun i => p (l.getD i 0)) l.length 0 = I
  have hlow' : ∀ x ∈ ca, lowV h.length 3 x = true := fun x hx => List.all_eq_true.1 hlow x (by simpa using hx)
  have hfew' : (ca.toList.map (fewV 3)).sum ≤ 9 := hfew
  have hp' : ∀ lim x, E.call d lim g (i64 x :: ca.toList) h.freeze = some (.bool (p x), h.freeze) := hp
  simp [ef123, r]
  refine wpC_loop (fun q st => ∃ i : Nat, q = l.length - i ∧ i ≤ l.length ∧ fstI (fun i => p (l.getD i 0)) l.length i = I ∧ st = ⟨[(0, v), (1, .func (.func g) #[] ca), (7, i64 (l.length : Int)), (8, i64 (i : Int))], h.freeze⟩) l.length (by show l.length < 2 ^ 64; omega) ?_ ?_
  · have := collect_low2 (n := h.length) (vs := [v, .func (.func g) #[] ca, i64 (l.length : Int), i64 0]) (h := h.freeze) (by simp [r]; exact fun i hi => hlow' _ (Array.getElem_mem hi)) (by simp [r]; exact hfew') (by simp)
    simp [St.tidy, this]
    exact ⟨0, by omega, by omega, hI, rfl⟩
  · rintro q hq _ ⟨i, rfl, hi, hc2, rfl⟩
    by_cases hlt : i < l.length
    · have w1' := w1 (i := i) (by omega)
      have hlti : (i : Int) < l.length := by omega
      have ca' : ∀ hh, (cI l)[i]'hh = i64 l[i] := fun hh => by simp [cI]
      have gd : l.getD i 0 = l[i] := by rw [List.getD_eq_getElem?_getD, List.getElem?_eq_getElem hlt]; rfl
      rw [fstI_lt hlt, gd] at hc2
      by_cases q1 : p l[i] = true
      · rw [if_pos q1] at hc2
        subst hc2
        simp [hlti, hlt, Nat.not_le.2 hlt, r, ca', hp', q1]
      · rw [if_neg q1] at hc2
        have := collect_low2 (n := h.length) (vs := [v, .func (.func g) #[] ca, i64 (l.length : Int), i64 ((i + 1 : Nat) : Int)]) (h := h.freeze) (by simp [r]; exact fun i hi => hlow' _ (Array.getElem_mem hi)) (by simp [r]; exact hfew') (by simp)
        simp only [Int.natCast_add, Int.cast_ofNat_Int] at this
        simp [hlti, hlt, Nat.not_le.2 hlt, r, ca', hp', q1, w1', St.tidy, this]
        exact ⟨l.length - (i + 1), by omega, i + 1, by omega, by omega, hc2, by omega⟩
    · obtain rfl : i = l.length := by omega
      rw [fstI_ge (by omega)] at hc2
      subst hc2
      simp [r]
theorem fstI_any {p : Nat → Bool} {n : Nat} : decide (fstI p n 0 < n) = (List.range n).any p := by
  obtain ⟨_, _, a, b⟩ := fstI_spec (p := p) (n := n) _ 0 rfl (by omega)
  rw [Bool.eq_iff_iff]
  simp only [decide_eq_true_eq, List.any_eq_true, List.mem_range]
  constructor
  · intro h; exact ⟨_, h, a h⟩
  · rintro ⟨x, hx, hp⟩
    rcases Nat.lt_or_ge (fstI p n 0) n with z | z
    · exact z
    · have := b x (by omega) (by omega); rw [this] at hp; cases hp
theorem any_getD (l : List Int) (p : Int → Bool) : ((List.range l.length).any fun i => p (l.getD i 0)) = l.any p := by
  rw [Bool.eq_iff_iff]
  simp only [List.any_eq_true, List.mem_range]
  constructor
  · rintro ⟨i, hi, hp⟩
    refine ⟨l[i], List.getElem_mem hi, ?_⟩
    rw [List.getD_eq_getElem?_getD, List.getElem?_eq_getElem hi] at hp; exact hp
  · rintro ⟨x, hx, hp⟩
    obtain ⟨i, hi, rfl⟩ := List.getElem_of_mem hx
    exact ⟨i, hi, by rw [List.getD_eq_getElem?_getD, List.getElem?_eq_getElem hi]; exact hp⟩
/-- Whether a number of a list has a property. -/
theorem c112 {d lim g : Nat} {h : Heap} {v : Value} {l : List Int} {p : Int → Bool} {ca : Array Value} (s : SlI' h v l) (hl : l.length ≤ 100000) (hlow : ca.toList.all (lowV h.length 3) = true) (hfew : (ca.toList.map (fewV 3)).sum ≤ 9)
    (hp : ∀ lim x, E.call d lim g ([i64 x] ++ ca.toList) h.freeze = some (.bool (p x), h.freeze)) : E.call (d + 2) lim 112 [v, .func (.func g) #[] ca] h = some (.bool (l.any p), h) := by
  have k := fun lim => c123 (d := d) (lim := lim) (h := h.freeze) (Sl_freeze.2 s) hl (by simpa using hlow) hfew (by rw [freeze_freeze]; exact hp)
  refine call1 fn112 rfl (by simp [ef112]) ?_
  have e := fstI_any (p := fun i => p (l.getD i 0)) (n := l.length)
  rw [any_getD] at e
  rw [← e]
  generalize fstI (fun i => p (l.getD i 0)) l.length 0 = I at *
  by_cases q : I < l.length
  · simp [ef112, k, q]
  · simp [ef112, k, q]
end Z.U
end Go.Abs
