/- Chapter 7: overpulls. -/
import Derived.Test.YtfbelnhibipndaaAbsUD0
import Derived.Test.YtfbelnhibipndaaAbsUT
set_option linter.unusedSimpArgs false
set_option linter.unusedVariables false
namespace Go.Abs
namespace U
set_option maxRecDepth 100000
set_option maxHeartbeats 0
def oErr (l : List P3) (i : Nat) : Int :=
  if within (at3 l i).1 0 87 = true ∧ within (at3 l i).2.1 0 87 = true ∧ within (at3 l i).2.2 0 500 = true then (if (at3 l i).2.1 < (at3 l i).1 ∨ 0 < i ∧ (at3 l i).1 ≤ (at3 l (i - 1)).2.1 then 9 else 0) else 2
def chkO (l : List P3) : Int := if 20 < l.length then 8 else fstE (oErr l) l.length 0
theorem c36 {d lim : Nat} {h : Heap} {v : Value} {l : List P3} (s : Sl3 h v l) : E.call (d + 3) lim 36 [v] h = some (i64 (chkO l), h) := by
  have r := s.rules2
  refine call1 fn36 rfl (by simp [ef36]) ?_
  by_cases h20 : 20 < l.length
  case pos =>
    have i20 : (20 : Int) < l.length := by omega
    simp [ef36, r, i20, chkO, h20, Int.not_le.2 i20, Nat.not_le.2 h20]
  have i20 : ¬ (20 : Int) < l.length := by omega
  have e0 : chkO l = fstE (oErr l) l.length 0 := by simp [chkO, h20]
  generalize chkO l = E0 at *
  simp [ef36, r, i20, Int.not_lt.1 i20]
  refine wpC_loop (fun q st => ∃ i : Nat, q = l.length - i ∧ i ≤ l.length ∧ fstE (oErr l) l.length i = E0 ∧ st = ⟨[(0, v), (8, v), (9, i64 (l.length : Int)), (10, i64 (i : Int))], h.freeze⟩) l.length (by show l.length < 2 ^ 64; omega) ?_ ?_
  · simp [St.tidy, r]
    exact ⟨0, by omega, by omega, e0.symm, rfl⟩
  · rintro q hq _ ⟨i, rfl, hi, hc, rfl⟩
    by_cases hlt : i < l.length
    · have w1' := w1 (i := i) (by omega)
      have p := c3_part hlt
      have k3 : i * 3 + 3 ≤ l.length * 3 := by omega
      have hlti : (i : Int) < l.length := by omega
      rw [fstE_lt hlt] at hc
      by_cases q1 : within (at3 l i).1 0 87 = true
      case neg =>
        rw [show oErr l i = 2 by simp [oErr, q1], if_neg (by decide)] at hc
        subst hc
        simp [hlti, hlt, Nat.not_le.2 hlt, r, k3, p, c78, q1]
      by_cases q2 : within (at3 l i).2.1 0 87 = true
      case neg =>
        rw [show oErr l i = 2 by simp [oErr, q1, q2], if_neg (by decide)] at hc
        subst hc
        simp [hlti, hlt, Nat.not_le.2 hlt, r, k3, p, c78, q1, q2]
      by_cases q3 : within (at3 l i).2.2 0 500 = true
      case neg =>
        rw [show oErr l i = 2 by simp [oErr, q1, q2, q3], if_neg (by decide)] at hc
        subst hc
        simp [hlti, hlt, Nat.not_le.2 hlt, r, k3, p, c78, c65, q1, q2, q3]
      by_cases q4 : (at3 l i).2.1 < (at3 l i).1
      · rw [show oErr l i = 9 by simp [oErr, q1, q2, q3, q4], if_neg (by decide)] at hc
        subst hc
        simp [hlti, hlt, Nat.not_le.2 hlt, r, k3, p, c78, c65, q1, q2, q3, q4, Int.not_le.2 q4]
      by_cases q5 : 0 < i
      case neg =>
        have q5' : ¬ (0 : Int) < i := by omega
        rw [show oErr l i = 0 by simp [oErr, q1, q2, q3, q4, q5], if_pos rfl] at hc
        simp [hlti, hlt, Nat.not_le.2 hlt, r, k3, p, c78, c65, q1, q2, q3, q4, Int.not_lt.1 q4, q5, q5', w1', St.tidy]
        exact ⟨l.length - (i + 1), by omega, i + 1, by omega, by omega, hc, by omega⟩
      have wm := wm1 q5 (by omega)
      have q5' : (0 : Int) < i := by omega
      have pm := c3_1 (l := l) (i := i - 1) (by omega)
      have km : (i - 1) * 3 + 1 < l.length * 3 := by omega
      have km2 : ((i - 1 : Nat) : Int) < l.length := by omega
      by_cases q6 : (at3 l i).1 ≤ (at3 l (i - 1)).2.1
      · rw [show oErr l i = 9 by simp [oErr, q1, q2, q3, q4, q5, q6], if_neg (by decide)] at hc
        subst hc
        simp [hlti, hlt, Nat.not_le.2 hlt, r, k3, p, c78, c65, q1, q2, q3, q4, Int.not_lt.1 q4, q5, q5', q6, wm, pm, km, km2]
      · rw [show oErr l i = 0 by simp [oErr, q1, q2, q3, q4, q5, q6], if_pos rfl] at hc
        simp [hlti, hlt, Nat.not_le.2 hlt, r, k3, p, c78, c65, q1, q2, q3, q4, Int.not_lt.1 q4, q5, q5', q6, wm, pm, km, km2, w1', St.tidy]
        exact ⟨l.length - (i + 1), by omega, i + 1, by omega, by omega, hc, by omega⟩
    · obtain rfl : i = l.length := by omega
      rw [fstE_ge (by omega)] at hc
      subst hc
      simp [r]
theorem c35 {d lim : Nat} {h : Heap} {v : Value} {l : List P3} (s : Sl3 h v l) : E.call (d + 3) lim 35 [v] h = some (i64 (chkO l), h) := by
  have r := s.rules2
  refine call1 fn35 rfl (by simp [ef35]) ?_
  by_cases h20 : 20 < l.length
  case pos =>
    have i20 : (20 : Int) < l.length := by omega
    simp [ef35, r, i20, chkO, h20, Int.not_le.2 i20, Nat.not_le.2 h20]
  have i20 : ¬ (20 : Int) < l.length := by omega
  have e0 : chkO l = fstE (oErr l) l.length 0 := by simp [chkO, h20]
  generalize chkO l = E0 at *
  simp [ef35, r, i20, Int.not_lt.1 i20]
  refine wpC_loop (fun q st => ∃ i : Nat, q = l.length - i ∧ i ≤ l.length ∧ fstE (oErr l) l.length i = E0 ∧ st = ⟨[(0, v), (3, i64 (i : Int))], h.freeze⟩) l.length (by show l.length < 2 ^ 64; omega) ?_ ?_
  · simp [St.tidy, r]
    exact ⟨0, by omega, by omega, e0.symm, rfl⟩
  · rintro q hq _ ⟨i, rfl, hi, hc, rfl⟩
    by_cases hlt : i < l.length
    · have w1' := w1 (i := i) (by omega)
      have p0 := c3_0 hlt
      have p1 := c3_1 hlt
      have p2 := c3_2 hlt
      have k0 : i * 3 < l.length * 3 := by omega
      have k1 : i * 3 + 1 < l.length * 3 := by omega
      have k2 : i * 3 + 2 < l.length * 3 := by omega
      have hlti : (i : Int) < l.length := by omega
      rw [fstE_lt hlt] at hc
      by_cases q1 : within (at3 l i).1 0 87 = true
      case neg =>
        rw [show oErr l i = 2 by simp [oErr, q1], if_neg (by decide)] at hc
        subst hc
        simp [hlti, hlt, Nat.not_le.2 hlt, r, k0, k1, k2, p0, p1, p2, c37, q1]
      by_cases q2 : within (at3 l i).2.1 0 87 = true
      case neg =>
        rw [show oErr l i = 2 by simp [oErr, q1, q2], if_neg (by decide)] at hc
        subst hc
        simp [hlti, hlt, Nat.not_le.2 hlt, r, k0, k1, k2, p0, p1, p2, c37, q1, q2]
      by_cases q3 : within (at3 l i).2.2 0 500 = true
      case neg =>
        rw [show oErr l i = 2 by simp [oErr, q1, q2, q3], if_neg (by decide)] at hc
        subst hc
        simp [hlti, hlt, Nat.not_le.2 hlt, r, k0, k1, k2, p0, p1, p2, c37, c30, q1, q2, q3]
      by_cases q4 : (at3 l i).2.1 < (at3 l i).1
      · rw [show oErr l i = 9 by simp [oErr, q1, q2, q3, q4], if_neg (by decide)] at hc
        subst hc
        simp [hlti, hlt, Nat.not_le.2 hlt, r, k0, k1, k2, p0, p1, p2, c37, c30, q1, q2, q3, q4, Int.not_le.2 q4]
      by_cases q5 : 0 < i
      case neg =>
        have q5' : ¬ (0 : Int) < i := by omega
        rw [show oErr l i = 0 by simp [oErr, q1, q2, q3, q4, q5], if_pos rfl] at hc
        simp [hlti, hlt, Nat.not_le.2 hlt, r, k0, k1, k2, p0, p1, p2, c37, c30, q1, q2, q3, q4, Int.not_lt.1 q4, q5, q5', w1', St.tidy]
        exact ⟨l.length - (i + 1), by omega, i + 1, by omega, by omega, hc, by omega⟩
      have wm := wm1 q5 (by omega)
      have q5' : (0 : Int) < i := by omega
      have pm := c3_1 (l := l) (i := i - 1) (by omega)
      have km : (i - 1) * 3 + 1 < l.length * 3 := by omega
      have km2 : ((i - 1 : Nat) : Int) < l.length := by omega
      by_cases q6 : (at3 l i).1 ≤ (at3 l (i - 1)).2.1
      · rw [show oErr l i = 9 by simp [oErr, q1, q2, q3, q4, q5, q6], if_neg (by decide)] at hc
        subst hc
        simp [hlti, hlt, Nat.not_le.2 hlt, r, k0, k1, k2, p0, p1, p2, c37, c30, q1, q2, q3, q4, Int.not_lt.1 q4, q5, q5', q6, wm, pm, km, km2]
      · rw [show oErr l i = 0 by simp [oErr, q1, q2, q3, q4, q5, q6], if_pos rfl] at hc
        simp [hlti, hlt, Nat.not_le.2 hlt, r, k0, k1, k2, p0, p1, p2, c37, c30, q1, q2, q3, q4, Int.not_lt.1 q4, q5, q5', q6, wm, pm, km, km2, w1', St.tidy]
        exact ⟨l.length - (i + 1), by omega, i + 1, by omega, by omega, hc, by omega⟩
    · obtain rfl : i = l.length := by omega
      rw [fstE_ge (by omega)] at hc
      subst hc
      simp [r]
/-- The line of a note. -/
def inO (l : List P3) (note : Int) (i : Nat) : Bool := within note (at3 l i).1 (at3 l i).2.1
def ovr (l : List P3) (note : Int) : Int := if fstI (inO l note) l.length 0 < l.length then (at3 l (fstI (inO l note) l.length 0)).2.2 else 0
abbrev fn103V (b : Nat) : Value := .func (.func 103) #[] #[.pointer (some ⟨b, 0, none⟩)]
theorem c103 {d lim b : Nat} {h : Heap} {x y z n : Int} (hb : b < h.length) (hc : h.cell b 0 = some (i64 n)) : E.call (d + 2) lim 103 [.agg #[i64 x, i64 y, i64 z], .pointer (some ⟨b, 0, none⟩)] h = some (.bool (within n x y), h) := by
  refine call1 fn103 rfl (by simp [ef103]) ?_
  simp [ef103, hc, hb, c65]
theorem c102 {d lim b : Nat} {h : Heap} {v : Value} {l : List P3} {n : Int} (s : Sl3 h v l) (hl : l.length ≤ 1000) (hb : b < h.length) (hc : h.cell b 0 = some (i64 n)) :
    E.call (d + 3) lim 102 [v, fn103V b] h = some (i64 (if fstI (inO l n) l.length 0 < l.length then (fstI (inO l n) l.length 0 : Int) else -1), h) := by
  have r := s.rules2
  refine call1 fn102 rfl (by simp [ef102]) ?_
  generalize hI : fstI (inO l n) l.length 0 = I
  simp [ef102, r]
  refine wpC_loop (fun q st => ∃ i : Nat, q = l.length - i ∧ i ≤ l.length ∧ fstI (inO l n) l.length i = I ∧ st = ⟨[(0, v), (1, fn103V b), (7, i64 (l.length : Int)), (8, i64 (i : Int))], h.freeze⟩) l.length (by show l.length < 2 ^ 64; omega) ?_ ?_
  · simp [St.tidy, r, hb]
    exact ⟨0, by omega, by omega, hI, rfl⟩
  · rintro q hq _ ⟨i, rfl, hi, hc2, rfl⟩
    by_cases hlt : i < l.length
    · have w1' := w1 (i := i) (by omega)
      have p := c3_part hlt
      have k3 : i * 3 + 3 ≤ l.length * 3 := by omega
      have hlti : (i : Int) < l.length := by omega
      have k103 := fun lim x y z => c103 (d := d) (lim := lim) (h := h.freeze) (x := x) (y := y) (z := z) (by simpa using hb) (by rw [cell_freeze]; exact hc)
      rw [fstI_lt hlt] at hc2
      by_cases q1 : inO l n i = true
      · rw [if_pos q1] at hc2
        subst hc2
        unfold inO at q1
        simp [hlti, hlt, Nat.not_le.2 hlt, r, k3, p, k103, q1]
      · rw [if_neg q1] at hc2
        unfold inO at q1
        simp [hlti, hlt, Nat.not_le.2 hlt, r, k3, p, k103, q1, w1', St.tidy, hb]
        exact ⟨l.length - (i + 1), by omega, i + 1, by omega, by omega, hc2, by omega⟩
    · obtain rfl : i = l.length := by omega
      rw [fstI_ge (by omega)] at hc2
      subst hc2
      simp [r]
theorem c79 {d lim : Nat} {h : Heap} {v : Value} {l : List P3} {n : Int} (s : Sl3 h v l) (hl : l.length ≤ 1000) : E.call (d + 4) lim 79 [v, i64 n] h = some (i64 (ovr l n), h) := by
  have r := s.rules2
  have k102 := fun lim => c102 (d := d) (lim := lim) (b := h.length) (h := h.freeze ++ [some ⟨[i64 n], true⟩]) (n := n) ((Sl_freeze.2 s).app _) hl (by simp) (by simp)
  refine call1 fn79 rfl (by simp [ef79]) ?_
  unfold ovr
  have sp := fstI_spec (p := inO l n) (n := l.length) _ 0 rfl (by omega)
  generalize fstI (inO l n) l.length 0 = I at *
  by_cases q : I < l.length
  · have qi : (I : Int) < l.length := by omega
    have p2 := c3_2 q
    have k2 : I * 3 + 2 < l.length * 3 := by omega
    have nn : ¬ (I : Int) < 0 := by omega
    simp [ef79, k102, q, qi, r, p2, k2, nn]
  · simp [ef79, k102, q]
theorem c38 {d lim : Nat} {h : Heap} {v : Value} {l : List P3} {n : Int} (s : Sl3 h v l) (hl : l.length ≤ 1000) : E.call (d + 2) lim 38 [v, i64 n] h = some (i64 (ovr l n), h) := by
  have r := s.rules2
  refine call1 fn38 rfl (by simp [ef38]) ?_
  unfold ovr
  generalize hI : fstI (inO l n) l.length 0 = I
  simp [ef38, r]
  refine wpC_loop (fun q st => ∃ i : Nat, q = l.length - i ∧ i ≤ l.length ∧ fstI (inO l n) l.length i = I ∧ st = ⟨[(0, v), (1, i64 n), (5, i64 (i : Int))], h.freeze⟩) l.length (by show l.length < 2 ^ 64; omega) ?_ ?_
  · simp [St.tidy, r]
    exact ⟨0, by omega, by omega, hI, rfl⟩
  · rintro q hq _ ⟨i, rfl, hi, hc2, rfl⟩
    by_cases hlt : i < l.length
    · have w1' := w1 (i := i) (by omega)
      have p0 := c3_0 hlt
      have p1 := c3_1 hlt
      have p2 := c3_2 hlt
      have k0 : i * 3 < l.length * 3 := by omega
      have k1 : i * 3 + 1 < l.length * 3 := by omega
      have k2 : i * 3 + 2 < l.length * 3 := by omega
      have hlti : (i : Int) < l.length := by omega
      rw [fstI_lt hlt] at hc2
      by_cases q1 : inO l n i = true
      · rw [if_pos q1] at hc2
        subst hc2
        unfold inO at q1
        simp [hlti, hlt, Nat.not_le.2 hlt, r, k0, k1, k2, p0, p1, p2, c30, q1]
      · rw [if_neg q1] at hc2
        unfold inO at q1
        simp [hlti, hlt, Nat.not_le.2 hlt, r, k0, k1, k2, p0, p1, p2, c30, q1, w1', St.tidy]
        exact ⟨l.length - (i + 1), by omega, i + 1, by omega, by omega, hc2, by omega⟩
    · obtain rfl : i = l.length := by omega
      rw [fstI_ge (by omega)] at hc2
      subst hc2
      simp [r]
theorem chkO_len {l : List P3} (h : chkO l = 0) : l.length ≤ 20 := by
  unfold chkO at h
  split at h
  · contradiction
  · omega
def ovrV (l : List P3) (n : Int) : Int × Int := if chkO l = 0 then (if within n 0 87 = true then (ovr l n, 0) else (0, 2)) else (0, chkO l)
abbrev prV' (x : Int × Int) : Value := .tuple #[i64 x.1, i64 x.2]
theorem c34 {d lim : Nat} {h : Heap} {v : Value} {l : List P3} {n : Int} (s : Sl3 h v l) : E.call (d + 5) lim 34 [v, i64 n] h = some (prV' (ovrV l n), h) := by
  have k36 := fun lim => c36 (d := d + 1) (lim := lim) (Sl_freeze.2 s)
  refine call1 fn34 rfl (by simp [ef34]) ?_
  unfold ovrV
  by_cases q0 : chkO l = 0
  case neg => simp [ef34, k36, q0]
  by_cases q1 : within n 0 87 = true
  case neg => simp [ef34, k36, q0, c78, q1]
  have k79 := fun lim => c79 (d := d) (lim := lim) (n := n) (Sl_freeze.2 s) (by have := chkO_len q0; omega)
  simp [ef34, k36, q0, c78, q1, k79]
theorem fr1' {bs : Heap} (h1 : bs.length = 1) : ∃ x, Heap.freeze bs = [x] := by
  match bs, h1 with
  | [y], _ => exact ⟨_, rfl⟩
theorem law7 {bs : Heap} {lim : Nat} {v : Value} {l : List P3} {n : Int} (h1 : bs.length = 1) (s : Sl3 bs v l) : E.call 31 lim 7 [v, i64 n] bs = some (.bool true, bs) := by
  have r := s.rules2
  obtain ⟨x, hx⟩ := fr1' h1
  have aw := fun lim => awake1 lim x
  rw [← hx] at aw
  have K35 := fun (L : Heap) lim => c35 (d := 27) (lim := lim) ((Sl_freeze.2 s).app L)
  have K34 := fun (L : Heap) (b n' lim : Nat) (hg : Heap.get (bs.freeze ++ L) b = some ⟨cS enc3 l, true⟩) (hn : n' = l.length) => c34 (d := 25) (lim := lim) (n := n) (Sl_own (f := enc3) (es := 3) (fun _ => rfl) hg hn)
  have K36 := fun (L : Heap) (b n' lim : Nat) (hg : Heap.get (bs.freeze ++ L) b = some ⟨cS enc3 l, true⟩) (hn : n' = l.length) => c36 (d := 27) (lim := lim) (Sl_own (f := enc3) (es := 3) (fun _ => rfl) hg hn)
  refine call1 fn7 rfl (by simp [ef7]) ?_
  by_cases h63 : 23 < l.length
  · have i63 : (23 : Int) < l.length := by omega
    simp [ef7, aw, r, i63, Int.not_le.2 i63, Nat.not_le.2 h63]
  have i63 : ¬ (23 : Int) < l.length := by omega
  have K38 := fun (L : Heap) lim => c38 (d := 28) (lim := lim) (n := n) ((Sl_freeze.2 s).app L) (by omega)
  have A1 := fun (L : Heap) (b : Nat) (hl : l.length ≠ 0) (hg : Heap.get (bs.freeze ++ L) b = some ⟨[], true⟩) => app_some (bytes := 24) ((Sl_freeze.2 s).app L) hl (by omega) hg (c3_one l) (by omega) (by omega)
  have A0 := fun (L : Heap) (b : Nat) (hl : l.length = 0) => app_none (es := 3) (bytes := 24) (b := b) (cs := cS enc3 l) (by have := (Sl_freeze.2 s).app L; rwa [hl] at this) (by omega)
  have e0 : l.length = 0 → cS enc3 l = [] := fun hz => by rw [List.eq_nil_of_length_eq_zero hz]; rfl
  unfold ovrV at K34
  generalize ovr l n = V at *
  generalize chkO l = C at *
  have key : ∀ q0 : C = 0 ∨ C ≠ 0, wpC ⟨E.call 30, bs.length, bs.length, true, E.glob, E.fuel, EProg.roundOf E (E.call 30)⟩ ef7.code ⟨argFrame 0 [v, i64 n], bs.freeze⟩ (KFun bs.length ef7.results (.bool true) []) := by
    intro q0
    rcases Nat.eq_zero_or_pos l.length with hz | hz
    · rw [e0 hz] at K34 K36
      by_cases q1 : C = 0
      · by_cases q2 : within n 0 87 = true
        · simp [ef7, aw, r, i63, zeros, fillL, A0, hz, K34, K35, K36, K38, q1, q2, c37]
        · simp [ef7, aw, r, i63, zeros, fillL, A0, hz, K34, K35, K36, K38, q1, q2, c37]
      · simp [ef7, aw, r, i63, zeros, fillL, A0, hz, K34, K35, K36, K38, q1, c37]
    · have n0 : l.length ≠ 0 := by omega
      by_cases q1 : C = 0
      · by_cases q2 : within n 0 87 = true
        · simp [ef7, aw, r, i63, Int.not_lt.1 i63, zeros, fillL, A1, n0, K34, K35, K36, K38, q1, q2, c37]
        · simp [ef7, aw, r, i63, Int.not_lt.1 i63, zeros, fillL, A1, n0, K34, K35, K36, K38, q1, q2, c37]
      · simp [ef7, aw, r, i63, Int.not_lt.1 i63, zeros, fillL, A1, n0, K34, K35, K36, K38, q1, c37]
  exact key (by omega)
end U
end Go.Abs
