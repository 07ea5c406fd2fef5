/- Lists of tests; sizes of beats; Rises: both. -/
import Derived.Test.YtinbdefjjfmfoaaDoorAbsTH5
import Derived.Test.YtinbdefjjfmfoaaDoorAbsWp12
set_option linter.unusedSimpArgs false
set_option linter.unusedVariables false
namespace Go.Abs
namespace T
set_option maxRecDepth 100000
set_option maxHeartbeats 0
abbrev X4 := Int × Int × Int × Int
def encX (x : X4) : List Value := [i64 x.1, i64 x.2.1, i64 x.2.2.1, i64 x.2.2.2]
abbrev xV (x : X4) : Value := pt x.1 x.2.1 x.2.2.1 x.2.2.2
def cX (l : List X4) : List Value := cS encX l
theorem cX_len (l : List X4) : (cX l).length = l.length * 4 := cS_len (f := encX) (es := 4) (fun _ => rfl) l
def atX (l : List X4) (i : Nat) : X4 := l[i]?.getD (0, 0, 0, 0)
theorem cX_part {l : List X4} {i : Nat} (h : i < l.length) : ((cX l).drop (i * 4)).take 4 = [i64 (atX l i).1, i64 (atX l i).2.1, i64 (atX l i).2.2.1, i64 (atX l i).2.2.2] := by
  have := cS_part (f := encX) (es := 4) (fun _ => rfl) l i h
  unfold cX atX; rw [this, List.getElem?_eq_getElem h]; rfl
abbrev SlX (h : Heap) (v : Value) (l : List X4) : Prop := Sl 4 h v l.length (cX l)
theorem SlX_own {h : Heap} {b n : Nat} {l : List X4} {rw : Bool} (e : h.get b = some ⟨cX l, rw⟩) (hn : n = l.length) : SlX h (.slice (some ⟨b, 0, none⟩) n 4) l := by
  subst hn
  exact ⟨rfl, cX_len l, fun _ => rfl, .inr ⟨b, 0, l.length, 4, rfl, Heap.get_lt e⟩, fun k hk => by simp only [slB_some, slO_some, Nat.zero_add]; rw [cell_get e]⟩
theorem cX_plain (l : List X4) : (cX l).all plainV = true := by
  rw [List.all_eq_true]
  intro x hx
  simp only [cX, cS, List.mem_flatMap, encX] at hx
  obtain ⟨p, _, hp⟩ := hx
  simp at hp
  rcases hp with rfl | rfl | rfl | rfl <;> rfl
def chkO (x : X4) : Int := chkX x.1 x.2.1 x.2.2.1 x.2.2.2
/-- The first fault of tests, from some number on. -/
def chkL (l : List X4) (i : Nat) : Int := if i < l.length then (if chkO (atX l i) = 0 then chkL l (i + 1) else chkO (atX l i)) else 0
termination_by l.length - i
theorem chkL_lt {l : List X4} {i : Nat} (h : i < l.length) : chkL l i = if chkO (atX l i) = 0 then chkL l (i + 1) else chkO (atX l i) := by rw [chkL, if_pos h]
theorem chkL_ge {l : List X4} {i : Nat} (h : ¬ i < l.length) : chkL l i = 0 := by rw [chkL, if_neg h]
theorem chkL_all {l : List X4} : ∀ (k i : Nat), l.length - i = k → chkL l i = 0 → ∀ j, i ≤ j → j < l.length → chkO (atX l j) = 0
  | 0, i, hk, _, j, h1, h2 => by omega
  | k + 1, i, hk, h, j, h1, h2 => by
    rw [chkL_lt (by omega)] at h
    by_cases q : chkO (atX l i) = 0
    · rw [if_pos q] at h
      by_cases e : j = i
      · rw [e]; exact q
      · exact chkL_all k (i + 1) (by omega) h j (by omega) h2
    · rw [if_neg q] at h; exact absurd h q
def leV (lo hi : Int) : Int := max 0 (max lo (W (-hi)))
def moV (lo hi : Int) : Int := max hi (W (-lo))
theorem c106 {d lim : Nat} {h : Heap} {lo hi : Int} : E.call (d + 1) lim 106 [rg lo hi] h = some (.tuple #[i64 (leV lo hi), i64 (moV lo hi)], h) := by
  refine call1 fn106 rfl (by simp [ef106]) ?_
  simp [ef106, leV, moV]
theorem c107 {d lim : Nat} {h : Heap} {lo hi : Int} : E.call (d + 1) lim 107 [rg lo hi] h = some (.tuple #[i64 (leV lo hi), i64 (moV lo hi)], h) := by
  refine call1 fn107 rfl (by simp [ef107]) ?_
  simp [ef107, leV, moV]
def sclI (lo hi : Nat → Int) : Nat → List Value
  | 0 => []
  | i + 1 => sclI lo hi i ++ [i64 (lo i), i64 (hi i)]
theorem sclI_len (lo hi : Nat → Int) : ∀ i, (sclI lo hi i).length = i * 2
  | 0 => rfl
  | i + 1 => by simp [sclI, sclI_len lo hi i]; omega
theorem sclI_plain (lo hi : Nat → Int) : ∀ i, (sclI lo hi i).all plainV = true
  | 0 => rfl
  | i + 1 => by simp [sclI, sclI_plain lo hi i, plainV]
theorem sclI_part (lo hi : Nat → Int) {n : Nat} : ∀ k, n < k → ((sclI lo hi k).drop (n * 2)).take 2 = [i64 (lo n), i64 (hi n)]
  | 0, h => by omega
  | k + 1, h => by
    have bl := sclI_len lo hi k
    by_cases e : n = k
    · subst e
      simp only [sclI]
      rw [List.drop_append_of_le_length (by omega), List.drop_of_length_le (by omega)]; rfl
    · simp only [sclI]
      rw [List.drop_append_of_le_length (by omega), List.take_append_of_le_length (by rw [List.length_drop]; omega)]
      exact sclI_part lo hi k (by omega)
theorem SlR_own {h : Heap} {b n : Nat} {lo hi : Nat → Int} {rw : Bool} (e : h.get b = some ⟨sclI lo hi n, rw⟩) : Sl 2 h (.slice (some ⟨b, 0, none⟩) n 2) n (sclI lo hi n) :=
  ⟨rfl, sclI_len lo hi n, fun _ => rfl, .inr ⟨b, 0, n, 2, rfl, Heap.get_lt e⟩, fun k hk => by simp only [slB_some, slO_some, Nat.zero_add]; rw [cell_get e]⟩
/-- Whether beats become faster. -/
def riB (lo hi : Nat → Int) (i : Nat) : Bool := decide (moV (lo (i - 1)) (hi (i - 1)) < leV (lo i) (hi i))
def riseB (lo hi : Nat → Int) (n : Nat) : Bool := (List.range n).all fun i => i == 0 || riB lo hi i
theorem riseB_false {lo hi : Nat → Int} {n i : Nat} (hi' : i < n) (h0 : i ≠ 0) (h : riB lo hi i = false) : riseB lo hi n = false := by
  unfold riseB
  rw [Bool.eq_false_iff]
  intro q
  have := List.all_eq_true.1 q i (List.mem_range.2 hi')
  simp [h0, h] at this
theorem riseB_true {lo hi : Nat → Int} {n : Nat} (h : ∀ j, 1 ≤ j → j < n → riB lo hi j = true) : riseB lo hi n = true := by
  unfold riseB
  rw [List.all_eq_true]
  intro j hj
  by_cases e : j = 0
  · simp [e]
  · simp [h j (by omega) (List.mem_range.1 hj)]
theorem le_nonneg (lo hi : Int) : 0 ≤ leV lo hi := by unfold leV; omega
theorem wP1 {n : Nat} (h : n < 1000000) (h0 : n ≠ 0) : IntKind.wrap .i64 ((n : Int) - 1) = ((n - 1 : Nat) : Int) := by rw [wrap_eq (by omega) (by omega)]; omega
theorem c50 {d lim : Nat} {h : Heap} {v : Value} {lo hi : Nat → Int} {n : Nat} (s : Sl 2 h v n (sclI lo hi n)) (hn : n < 100000) : E.call (d + 2) lim 50 [v] h = some (.bool (riseB lo hi n), h) := by
  have r := s.rules2
  refine call1 fn50 rfl (by simp [ef50]) ?_
  simp [ef50]
  refine wpC_loop (fun q st => ∃ i : Nat, q = n + 1 - i ∧ 1 ≤ i ∧ (i ≤ n ∨ i = 1) ∧ (∀ j, 1 ≤ j → j < i → j < n → riB lo hi j = true) ∧ st = ⟨[(0, v), (3, i64 i)], h.freeze⟩) n (by show n < 2 ^ 64; omega) ?_ ?_
  · simp [St.tidy, r]
    exact ⟨1, by omega, by omega, .inr rfl, fun j h1 h2 => absurd h1 (by omega), rfl⟩
  · rintro q hq _ ⟨i, rfl, h1, hi', hb, rfl⟩
    by_cases hlt : i < n
    · have w1' := w1 (i := i) (by omega)
      have wp := wP1 (n := i) (by omega) (by omega)
      simp only [W] at w1'
      have k1 : (i - 1) * 2 + 2 ≤ n * 2 := by omega
      have k2 : i * 2 + 2 ≤ n * 2 := by omega
      have p1 := sclI_part lo hi n (n := i - 1) (by omega)
      have p2 := sclI_part lo hi n (n := i) hlt
      have e1 : ((i - 1 : Nat) : Int) < n := by omega
      have bd : riB lo hi i = decide (moV (lo (i - 1)) (hi (i - 1)) < leV (lo i) (hi i)) := rfl
      have fal := fun q => riseB_false (lo := lo) (hi := hi) hlt (by omega) q
      have h4 : (i : Int) < n := by omega
      by_cases q1 : moV (lo (i - 1)) (hi (i - 1)) < leV (lo i) (hi i)
      · have bt : riB lo hi i = true := by rw [bd]; simp [q1]
        have nx : ∀ j, 1 ≤ j → j < i + 1 → j < n → riB lo hi j = true := fun j j1 j2 j3 => by
          by_cases e : j = i
          · rw [e]; exact bt
          · exact hb j j1 (by omega) j3
        generalize i - 1 = i' at *
        simp [hlt, h4, r, wp, e1, k1, k2, p1, p2, c107, q1, w1', St.tidy]
        exact ⟨⟨fun q => absurd q (by omega), n + 1 - (i + 1), by omega, i + 1, rfl, by omega, .inl (by omega), nx, rfl⟩, fun q => absurd q (by omega)⟩
      · have bt : riB lo hi i = false := by rw [bd]; simp; omega
        rw [fal bt]
        generalize i - 1 = i' at *
        simp [hlt, h4, r, wp, e1, k1, k2, p1, p2, c107, q1]
    · have nl : ¬ ((i : Int) < n) := by omega
      rw [riseB_true fun j j1 j2 => hb j j1 (by omega) j2]
      simp [r, hlt, nl]
end T
end Go.Abs
