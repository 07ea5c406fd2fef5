/- Chapter 7: the reference's check of tests; copies of tests. -/
import Derived.Test.YtfbelnhibipndaaAbsUJ2
set_option linter.unusedSimpArgs false
set_option linter.unusedVariables false
namespace Go.Abs
namespace U
set_option maxRecDepth 100000
theorem has4_fst {l : List P4} {i : Nat} {x : P4} (hi : i ≤ l.length) : has4 (l.take i) x = decide (fstI (fun k => eq4 (at4 l k) x) i 0 < i) := by
  have hl : (l.take i).length = i := by rw [List.length_take]; omega
  rw [Bool.eq_iff_iff, has4_iff, decide_eq_true_eq, hl]
  obtain ⟨a1, a2, a3, a4⟩ := fstI_spec (p := fun k => eq4 (at4 l k) x) (n := i) _ 0 rfl (by omega)
  constructor
  · rintro ⟨k, hk, e⟩
    rw [at4_take hk] at e
    rcases Nat.lt_or_ge (fstI (fun k => eq4 (at4 l k) x) i 0) i with z | z
    · exact z
    · have := a4 k (by omega) (by omega)
      rw [eq4_iff.2 e] at this; cases this
  · intro h
    exact ⟨_, h, by rw [at4_take h]; exact eq4_iff.1 (a3 h)⟩
theorem c55 {d lim : Nat} {h : Heap} {v : Value} {l : List P4} (s : Sl4 h v l) : E.call (d + 4) lim 55 [v] h = some (i64 (chkTs l), h) := by
  have r := s.rules2
  refine call1 fn55 rfl (by simp [ef55]) ?_
  unfold chkTs
  by_cases hl : 60 < l.length
  · have hli : (60 : Int) < l.length := by omega
    simp [ef55, r, hl, hli, Int.not_le.2 hli]
  have hli : (l.length : Int) ≤ 60 := by omega
  rw [if_neg hl]
  generalize hI : fstE (tErr l) l.length 0 = I
  simp [ef55, r, Nat.not_lt.1 hl, hl, hli, Int.not_lt.2 hli]
  refine wpC_loop (fun z st => ∃ i : Nat, z = l.length - i ∧ i ≤ l.length ∧ fstE (tErr l) l.length i = I ∧ st = ⟨[(0, v), (3, i64 (i : Int))], h.freeze⟩) l.length (by show l.length < 2 ^ 64; omega) ?_ ?_
  · simp [St.tidy, r]
    exact ⟨0, by omega, by omega, hI, rfl⟩
  · rintro z hz _ ⟨i, rfl, hi, hc, rfl⟩
    by_cases hlt : i < l.length
    · have hlti : (i : Int) < l.length := by omega
      have w1' := w1 (i := i) (by omega)
      have p4 := c4_part hlt
      have k4 : i * 4 + 4 ≤ l.length * 4 := by omega
      rw [fstE_lt hlt] at hc
      have k88 := fun lim H => c88 (d := d) (lim := lim) (h := H) (n := (at4 l i).1) (m := (at4 l i).2.1) (p := (at4 l i).2.2.1) (q := (at4 l i).2.2.2)
      generalize hX : chkX (at4 l i).1 (at4 l i).2.1 (at4 l i).2.2.1 (at4 l i).2.2.2 = X at *
      by_cases e1 : X = 0
      case neg =>
        rw [show tErr l i = X by simp only [tErr, hX]; rw [if_neg e1], if_neg e1] at hc
        subst hc
        simp [hlti, hlt, Nat.not_le.2 hlt, r, p4, k4, k88, e1]
      have e2 : tErr l i = if fstI (fun k => eq4 (at4 l k) (at4 l i)) i 0 < i then 5 else 0 := by
        simp only [tErr, hX]; rw [if_pos e1, has4_fst (by omega)]
        simp only [decide_eq_true_eq]
      rw [e2] at hc
      generalize hJ : fstI (fun k => eq4 (at4 l k) (at4 l i)) i 0 = J at *
      simp [hlti, hlt, Nat.not_le.2 hlt, r, p4, k4, k88, e1]
      refine wpC_loop (fun z st => ∃ j : Nat, z = i - j ∧ j ≤ i ∧ fstI (fun k => eq4 (at4 l k) (at4 l i)) i j = J ∧ st = ⟨[(0, v), (3, i64 (i : Int)), (5, i64 (j : Int))], h.freeze⟩) i (by show i < 2 ^ 64; omega) ?_ ?_
      · simp [St.tidy, r]
        exact ⟨0, by omega, by omega, hJ, rfl⟩
      · rintro z hz _ ⟨j, rfl, hj, hc2, rfl⟩
        by_cases hjt : j < i
        · have hjti : (j : Int) < i := by omega
          have wj := w1 (i := j) (by omega)
          have hjl : j < l.length := by omega
          have hjli : (j : Int) < l.length := by omega
          have q4 := c4_part hjl
          have kj : j * 4 + 4 ≤ l.length * 4 := by omega
          rw [fstI_lt hjt] at hc2
          by_cases e : eq4 (at4 l j) (at4 l i) = true
          · rw [if_pos e] at hc2
            subst hc2
            rw [if_pos hjt, if_neg (by omega)] at hc
            subst hc
            unfold eq4 at e
            simp [hlti, hlt, Nat.not_le.2 hlt, hjti, hjt, Nat.not_le.2 hjt, hjl, hjli, Nat.not_le.2 hjl, r, p4, k4, q4, kj, E.eqCells, e]
          · rw [if_neg e] at hc2
            unfold eq4 at e
            have e := Bool.eq_false_iff.2 e
            simp [hlti, hlt, Nat.not_le.2 hlt, hjti, hjt, Nat.not_le.2 hjt, hjl, hjli, Nat.not_le.2 hjl, r, p4, k4, q4, kj, E.eqCells, e, wj, St.tidy]
            exact ⟨i - (j + 1), by omega, j + 1, by omega, by omega, hc2, by omega⟩
        · obtain rfl : j = i := by omega
          rw [fstI_ge (by omega)] at hc2
          rw [← hc2, if_neg (Nat.lt_irrefl _), if_pos rfl] at hc
          simp [w1', St.tidy, r]
          exact ⟨l.length - (j + 1), by omega, j + 1, by omega, by omega, hc, by omega⟩
    · obtain rfl : i = l.length := by omega
      rw [fstE_ge (by omega)] at hc
      subst hc
      simp [r]
/-- Few tests. -/
def fewB (n most : Int) : Bool := decide (n ≤ most) || (decide (60 < n) && decide (n ≤ 63))
theorem c39 {d lim : Nat} {h : Heap} {v : Value} {l : List P4} {m : Int} (s : Sl4 h v l) : E.call (d + 1) lim 39 [v, i64 m] h = some (.bool (fewB l.length m), h) := by
  have r := s.rules2
  refine call1 fn39 rfl (by simp [ef39]) ?_
  unfold fewB
  simp [ef39, r]
  grind
theorem c41 {d lim : Nat} {h : Heap} {v : Value} {l : List P4} (s : Sl4 h v l) (hl : l.length ≤ 100000) :
    E.call (d + 1) lim 41 [v] h = some (.slice (some ⟨h.length, 0, none⟩) l.length 4, h ++ [some ⟨cS enc4 l, true⟩]) := by
  refine call_pure fn41 rfl (by simp [ef41]) ?_
  have A1 := fun (hn : l.length ≠ 0) => app_some (bytes := 32) (b := h.length) (H := h.freeze ++ [some ⟨[], true⟩]) ((Sl_freeze.2 s).app _) hn (by omega) (by rw [hget_base0 (by simp)]; rfl) (c4_one l) (by omega) (by omega)
  have A0 := fun (hn : l.length = 0) => app_none (es := 4) (bytes := 32) (b := h.length) (H := h.freeze ++ [some ⟨[], true⟩]) (cs := cS enc4 l) (by have := (Sl_freeze.2 s).app [some ⟨[], true⟩]; rwa [hn] at this) (by omega)
  have cp := c4_plain l
  rcases Nat.eq_zero_or_pos l.length with hz | hz
  · have e0 : cS enc4 l = [] := by rw [List.eq_nil_of_length_eq_zero hz]; rfl
    simp [ef41, zeros, fillL, A0, hz, e0, Blk_addrs_nil, Blk_ren_nil]
  · have n0 : l.length ≠ 0 := by omega
    simp [ef41, zeros, fillL, A1, n0, cp]
end U
end Go.Abs
