/- Systems of differences: both checks. -/
import Derived.Test.YtjalhpdmdiimoaaDoorAbsNF2
import Derived.Test.YtjalhpdmdiimoaaDoorAbsWpM
import Derived.Test.YtjalhpdmdiimoaaDoorAbsWpN
set_option linter.unusedSimpArgs false
set_option linter.unusedVariables false
namespace Go.Abs
namespace N
set_option maxRecDepth 100000
set_option maxHeartbeats 0
abbrev B3i := Int × Int × Int
def encB (x : B3i) : List Value := [.int .i64 x.1, .int .i64 x.2.1, .int .i64 x.2.2]
def cB (l : List B3i) : List Value := cS encB l
theorem cB_len (l : List B3i) : (cB l).length = l.length * 3 := cS_len (f := encB) (es := 3) (fun _ => rfl) l
def atB (l : List B3i) (i : Nat) : B3i := l[i]?.getD (0, 0, 0)
theorem atB_get {l : List B3i} {i : Nat} (h : i < l.length) : l[i] = atB l i := by unfold atB; rw [List.getElem?_eq_getElem h]; rfl
theorem cB_part {l : List B3i} {i : Nat} (h : i < l.length) : ((cB l).drop (i * 3)).take 3 = [.int .i64 (atB l i).1, .int .i64 (atB l i).2.1, .int .i64 (atB l i).2.2] := by
  have := cS_part (f := encB) (es := 3) (fun _ => rfl) l i h
  unfold cB atB; rw [this, List.getElem?_eq_getElem h]; rfl
theorem cB_0 {l : List B3i} {i : Nat} (h : i < l.length) : (cB l)[i * 3]? = some (.int .i64 (atB l i).1) := by
  have := cS_get (f := encB) (es := 3) (fun _ => rfl) l i 0 h (by omega)
  rw [Nat.add_zero] at this
  unfold cB; rw [this, atB_get h]; rfl
theorem cB_1 {l : List B3i} {i : Nat} (h : i < l.length) : (cB l)[i * 3 + 1]? = some (.int .i64 (atB l i).2.1) := by
  have := cS_get (f := encB) (es := 3) (fun _ => rfl) l i 1 h (by omega)
  unfold cB; rw [this, atB_get h]; rfl
theorem cB_2 {l : List B3i} {i : Nat} (h : i < l.length) : (cB l)[i * 3 + 2]? = some (.int .i64 (atB l i).2.2) := by
  have := cS_get (f := encB) (es := 3) (fun _ => rfl) l i 2 h (by omega)
  unfold cB; rw [this, atB_get h]; rfl
abbrev SlB3 (h : Heap) (v : Value) (l : List B3i) : Prop := Sl 3 h v l.length (cB l)
def chkB (n : Int) (x : B3i) : Int := if within x.1 0 (n - 1) = true then (if within x.2.1 0 (n - 1) = true then (if within x.2.2 (-1000000000) 1000000000 = true then 0 else 2) else 6) else 6
/-- The first fault of bounds, from some number on. -/
def chkBL (n : Int) (l : List B3i) (i : Nat) : Int := if i < l.length then (if chkB n (atB l i) = 0 then chkBL n l (i + 1) else chkB n (atB l i)) else 0
termination_by l.length - i
theorem chkBL_lt {n : Int} {l : List B3i} {i : Nat} (h : i < l.length) : chkBL n l i = if chkB n (atB l i) = 0 then chkBL n l (i + 1) else chkB n (atB l i) := by rw [chkBL, if_pos h]
theorem chkBL_ge {n : Int} {l : List B3i} {i : Nat} (h : ¬ i < l.length) : chkBL n l i = 0 := by rw [chkBL, if_neg h]
theorem chkBL_all {n : Int} {l : List B3i} : ∀ (k i : Nat), l.length - i = k → chkBL n l i = 0 → ∀ j, i ≤ j → j < l.length → chkB n (atB l j) = 0
  | 0, i, hk, _, j, h1, h2 => by omega
  | k + 1, i, hk, h, j, h1, h2 => by
    rw [chkBL_lt (by omega)] at h
    by_cases q : chkB n (atB l i) = 0
    · rw [if_pos q] at h
      by_cases e : j = i
      · rw [e]; exact q
      · exact chkBL_all k (i + 1) (by omega) h j (by omega) h2
    · rw [if_neg q] at h; exact absurd h q
def chkS (n : Int) (l : List B3i) : Int := if within n 1 60 = true then (if 200 < l.length then 8 else chkBL n l 0) else 2
theorem w1n {i : Nat} (h : i < 1000000) : IntKind.wrap .i64 ((i : Int) + 1) = ((i + 1 : Nat) : Int) := by rw [wrap_eq (by omega) (by omega)]; rfl
theorem within_nat {n : Int} (h : within n 1 60 = true) : ∃ k : Nat, n = k ∧ 1 ≤ k ∧ k ≤ 60 := by
  simp [within] at h
  exact ⟨n.toNat, by omega, by omega, by omega⟩
theorem c34 {d lim : Nat} {h : Heap} {v : Value} {l : List B3i} {n : Int} (s : SlB3 h v l) : E.call (d + 2) lim 34 [.int .i64 n, v] h = some (.int .i64 (chkS n l), h) := by
  have r := s.rules2
  refine call1 fn34 rfl (by simp [ef34]) ?_
  by_cases hn : within n 1 60 = true
  case neg => simp [ef34, c22, hn, chkS]
  by_cases hl : 200 < l.length
  case pos =>
    have h4 : (200 : Int) < l.length := by omega
    simp [ef34, c22, hn, chkS, r, hl, h4, Int.not_le.2 h4]
  have h4 : ¬ (200 : Int) < l.length := by omega
  have wn : IntKind.wrap .i64 (n - 1) = n - 1 := by
    simp [within] at hn
    rw [wrap_eq (by omega) (by omega)]
  simp [ef34, c22, hn, chkS, r, hl, h4, Int.not_lt.1 h4]
  refine wpC_loop (fun q st => ∃ i : Nat, q = l.length - i ∧ i ≤ l.length ∧ chkBL n l i = chkBL n l 0 ∧ st = ⟨[(0, .int .i64 n), (1, v), (5, .int .i64 (i : Int))], h.freeze⟩) l.length (by show l.length < 2 ^ 64; omega) ?_ ?_
  · simp [St.tidy, r]
    exact ⟨0, by omega, by omega, rfl, rfl⟩
  · rintro q hq _ ⟨i, rfl, hi, hc, rfl⟩
    by_cases hlt : i < l.length
    · have w1' := w1n (i := i) (by omega)
      have h4 : (i : Int) < l.length := by omega
      have p0 := cB_0 hlt
      have p1 := cB_1 hlt
      have p2 := cB_2 hlt
      have k0 : i * 3 < l.length * 3 := by omega
      have k1 : i * 3 + 1 < l.length * 3 := by omega
      have k2 : i * 3 + 2 < l.length * 3 := by omega
      rw [chkBL_lt hlt] at hc
      unfold chkB at hc
      generalize atB l i = x at *
      obtain ⟨f, t, m⟩ := x
      simp only at p0 p1 p2 hc
      by_cases q1 : within f 0 (n - 1) = true
      · by_cases q2 : within t 0 (n - 1) = true
        · by_cases q3 : within m (-1000000000) 1000000000 = true
          · simp only [q1, q2, q3, if_true] at hc
            simp [hlt, h4, r, k0, k1, k2, p0, p1, p2, c22, wn, q1, q2, q3, w1', St.tidy]
            exact ⟨⟨l.length - (i + 1), by omega, i + 1, by omega, by omega, hc, by omega⟩, fun z => absurd z (by omega)⟩
          · simp [q1, q2, q3] at hc
            simp [hlt, h4, r, k0, k1, k2, p0, p1, p2, c22, wn, q1, q2, q3, ← hc]
        · simp [q1, q2] at hc
          simp [hlt, h4, r, k0, k1, k2, p0, p1, p2, c22, wn, q1, q2, ← hc]
      · simp [q1] at hc
        simp [hlt, h4, r, k0, k1, k2, p0, p1, p2, c22, wn, q1, ← hc]
    · obtain rfl : i = l.length := by omega
      rw [chkBL_ge hlt] at hc
      simp [r, ← hc]
theorem c36 {d lim : Nat} {h : Heap} {v : Value} {l : List B3i} {n : Int} (s : SlB3 h v l) : E.call (d + 2) lim 36 [.int .i64 n, v] h = some (.int .i64 (chkS n l), h) := by
  have r := s.rules2
  refine call1 fn36 rfl (by simp [ef36]) ?_
  by_cases hn : within n 1 60 = true
  case neg => simp [ef36, c77, hn, chkS]
  by_cases hl : 200 < l.length
  case pos =>
    have h4 : (200 : Int) < l.length := by omega
    simp [ef36, c77, hn, chkS, r, hl, h4, Int.not_le.2 h4]
  have h4 : ¬ (200 : Int) < l.length := by omega
  have wn : IntKind.wrap .i64 (n - 1) = n - 1 := by
    simp [within] at hn
    rw [wrap_eq (by omega) (by omega)]
  simp [ef36, c77, hn, chkS, r, hl, h4, Int.not_lt.1 h4]
  refine wpC_loop (fun q st => ∃ i : Nat, q = l.length - i ∧ i ≤ l.length ∧ chkBL n l i = chkBL n l 0 ∧ st = ⟨[(0, .int .i64 n), (15, v), (16, .int .i64 (l.length : Int)), (17, .int .i64 (i : Int))], h.freeze⟩) l.length (by show l.length < 2 ^ 64; omega) ?_ ?_
  · simp [St.tidy, r]
    exact ⟨0, by omega, by omega, rfl, rfl⟩
  · rintro q hq _ ⟨i, rfl, hi, hc, rfl⟩
    by_cases hlt : i < l.length
    · have w1' := w1n (i := i) (by omega)
      have h4 : (i : Int) < l.length := by omega
      have p1 := cB_part hlt
      have k1 : i * 3 + 3 ≤ l.length * 3 := by omega
      rw [chkBL_lt hlt] at hc
      unfold chkB at hc
      generalize atB l i = x at *
      obtain ⟨f, t, m⟩ := x
      simp only at p1 hc
      by_cases q1 : within f 0 (n - 1) = true
      · by_cases q2 : within t 0 (n - 1) = true
        · by_cases q3 : within m (-1000000000) 1000000000 = true
          · simp only [q1, q2, q3, if_true] at hc
            simp [hlt, h4, r, k1, p1, c77, wn, q1, q2, q3, w1', St.tidy]
            exact ⟨l.length - (i + 1), by omega, i + 1, by omega, by omega, hc, by omega⟩
          · simp [q1, q2, q3] at hc
            simp [hlt, h4, r, k1, p1, c77, wn, q1, q2, q3, ← hc]
        · simp [q1, q2] at hc
          simp [hlt, h4, r, k1, p1, c77, wn, q1, q2, ← hc]
      · simp [q1] at hc
        simp [hlt, h4, r, k1, p1, c77, wn, q1, ← hc]
    · obtain rfl : i = l.length := by omega
      rw [chkBL_ge hlt] at hc
      simp [r, ← hc]
end N
end Go.Abs
