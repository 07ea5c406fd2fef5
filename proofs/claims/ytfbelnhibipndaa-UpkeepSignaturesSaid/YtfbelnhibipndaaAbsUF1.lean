/- Chapter 7: climates: checked, searched. -/
import Derived.Test.YtfbelnhibipndaaAbsUD0
set_option linter.unusedSimpArgs false
set_option linter.unusedVariables false
namespace Go.Abs
namespace U
set_option maxRecDepth 100000
set_option maxHeartbeats 0
theorem wrapU2 {n : Int} (h0 : 0 ≤ n) (h : n < 18446744073709551616) : IntKind.wrap .u64 n = n := by
  have e : IntKind.wrap .u64 n = n % 18446744073709551616 := by simp [IntKind.wrap, IntKind.bits, IntKind.signed]
  rw [e]; exact Int.emod_eq_of_lt h0 h
theorem bin_shr1 (a : Int) : E.bin .shr (.int .u64 a) (.int .u64 1) = some (.int .u64 (a / 2)) := by
  show semPure (binOp .shr 0 (.int .u64 a) (.int .u64 1)) = _
  rw [show binOp .shr 0 (.int .u64 a) (.int .u64 1) = Op.shift .shr .u64 a .u64 1 by simp [binOp]]
  simp [Op.shift, semPure]
  have e : a.fdiv (2 ^ min 1 IntKind.u64.bits) = a / 2 := by
    rw [show ((2 : Int) ^ min 1 IntKind.u64.bits) = 2 from rfl]
    exact Int.fdiv_eq_ediv_of_nonneg a (by decide)
  rw [e]; rfl
def cErr (l : List P2) (i : Nat) : Int := if within (at2 l i).1 0 100000 = true ∧ within (at2 l i).2 0 1000 = true then (if 0 < i ∧ (at2 l i).1 ≤ (at2 l (i - 1)).1 then 9 else 0) else 2
def chkC (l : List P2) : Int := if l.length = 0 then 12 else if 200 < l.length then 8 else fstE (cErr l) l.length 0
theorem c68 {d lim : Nat} {h : Heap} {x y : Int} : E.call (d + 3) lim 68 [.agg #[i64 x, i64 y]] h = some (i64 (if within x 0 100000 = true ∧ within y 0 1000 = true then 0 else 2), h) := by
  refine call1 fn68 rfl (by simp [ef68]) ?_
  by_cases q1 : within x 0 100000 = true
  · by_cases q2 : within y 0 1000 = true
    · simp [ef68, c70, c65, q1, q2]
    · simp [ef68, c70, c65, q1, q2]
  · simp [ef68, c70, c65, q1]
theorem c19 {d lim : Nat} {h : Heap} {v : Value} {l : List P2} (s : Sl2 h v l) : E.call (d + 4) lim 19 [v] h = some (i64 (chkC l), h) := by
  have r := s.rules2
  refine call1 fn19 rfl (by simp [ef19]) ?_
  by_cases h0 : l.length = 0
  · have e : chkC l = 12 := by simp [chkC, h0]
    rw [e]
    simp [ef19, r, h0]
  by_cases h200 : 200 < l.length
  · have i200 : (200 : Int) < l.length := by omega
    have e : chkC l = 8 := by simp [chkC, h0, h200]
    rw [e]
    simp [ef19, r, h0, i200, h200, Int.not_le.2 i200, Nat.not_le.2 h200]
  have i200 : ¬ (200 : Int) < l.length := by omega
  have e0 : chkC l = fstE (cErr l) l.length 0 := by simp [chkC, h0, h200]
  generalize chkC l = E0 at *
  simp [ef19, r, h0, i200, Int.not_lt.1 i200]
  refine wpC_loop (fun q st => ∃ i : Nat, q = l.length - i ∧ i ≤ l.length ∧ fstE (cErr l) l.length i = E0 ∧ st = ⟨[(0, v), (14, v), (15, i64 (l.length : Int)), (16, i64 (i : Int))], h.freeze⟩) l.length (by show l.length < 2 ^ 64; omega) ?_ ?_
  · simp [St.tidy, r]
    exact ⟨0, by omega, by omega, e0.symm, rfl⟩
  · rintro q hq _ ⟨i, rfl, hi, hc, rfl⟩
    by_cases hlt : i < l.length
    · have w1' := w1 (i := i) (by omega)
      have p := c2_part hlt
      have k2 : i * 2 + 2 ≤ l.length * 2 := by omega
      have hlti : (i : Int) < l.length := by omega
      have k68 := fun lim L => c68 (d := d) (lim := lim) (h := h.freeze ++ L) (x := (at2 l i).1) (y := (at2 l i).2)
      rw [fstE_lt hlt] at hc
      by_cases q1 : within (at2 l i).1 0 100000 = true ∧ within (at2 l i).2 0 1000 = true
      case neg =>
        rw [show cErr l i = 2 by simp only [cErr, q1, if_false], if_neg (by decide)] at hc
        subst hc
        simp only [q1, if_false] at k68
        simp [hlti, hlt, Nat.not_le.2 hlt, r, k2, p, k68]
      simp only [q1, if_true, and_self] at k68
      by_cases q3 : 0 < i
      case neg =>
        have q3' : ¬ (0 : Int) < i := by omega
        rw [show cErr l i = 0 by simp [cErr, q1, q3], if_pos rfl] at hc
        simp [hlti, hlt, Nat.not_le.2 hlt, r, k2, p, k68, q3, q3', w1', St.tidy]
        exact ⟨l.length - (i + 1), by omega, i + 1, by omega, by omega, hc, by omega⟩
      have wm := wm1 q3 (by omega)
      have q3' : (0 : Int) < i := by omega
      have pm := c2_0 (l := l) (i := i - 1) (by omega)
      have km : (i - 1) * 2 < l.length * 2 := by omega
      have km2 : ((i - 1 : Nat) : Int) < l.length := by omega
      by_cases q4 : (at2 l i).1 ≤ (at2 l (i - 1)).1
      · rw [show cErr l i = 9 by simp [cErr, q1, q3, q4], if_neg (by decide)] at hc
        subst hc
        simp [hlti, hlt, Nat.not_le.2 hlt, r, k2, p, k68, q3, q3', q4, wm, pm, km, km2]
      · rw [show cErr l i = 0 by simp [cErr, q1, q3, q4], if_pos rfl] at hc
        simp [hlti, hlt, Nat.not_le.2 hlt, r, k2, p, k68, q3, q3', q4, wm, pm, km, km2, w1', St.tidy]
        exact ⟨l.length - (i + 1), by omega, i + 1, by omega, by omega, hc, by omega⟩
    · obtain rfl : i = l.length := by omega
      rw [fstE_ge (by omega)] at hc
      subst hc
      simp [r]
theorem c18 {d lim : Nat} {h : Heap} {v : Value} {l : List P2} (s : Sl2 h v l) : E.call (d + 3) lim 18 [v] h = some (i64 (chkC l), h) := by
  have r := s.rules2
  refine call1 fn18 rfl (by simp [ef18]) ?_
  by_cases h0 : l.length = 0
  · have e : chkC l = 12 := by simp [chkC, h0]
    rw [e]
    simp [ef18, r, h0]
  by_cases h200 : 200 < l.length
  · have i200 : (200 : Int) < l.length := by omega
    have e : chkC l = 8 := by simp [chkC, h0, h200]
    rw [e]
    simp [ef18, r, h0, i200, h200, Int.not_le.2 i200, Nat.not_le.2 h200]
  have i200 : ¬ (200 : Int) < l.length := by omega
  have e0 : chkC l = fstE (cErr l) l.length 0 := by simp [chkC, h0, h200]
  generalize chkC l = E0 at *
  simp [ef18, r, h0, i200, Int.not_lt.1 i200]
  refine wpC_loop (fun q st => ∃ i : Nat, q = l.length - i ∧ i ≤ l.length ∧ fstE (cErr l) l.length i = E0 ∧ st = ⟨[(0, v), (3, i64 (i : Int))], h.freeze⟩) l.length (by show l.length < 2 ^ 64; omega) ?_ ?_
  · simp [St.tidy, r]
    exact ⟨0, by omega, by omega, e0.symm, rfl⟩
  · rintro q hq _ ⟨i, rfl, hi, hc, rfl⟩
    by_cases hlt : i < l.length
    · have w1' := w1 (i := i) (by omega)
      have p0 := c2_0 hlt
      have p1 := c2_1 hlt
      have k0 : i * 2 < l.length * 2 := by omega
      have k1 : i * 2 + 1 < l.length * 2 := by omega
      have hlti : (i : Int) < l.length := by omega
      rw [fstE_lt hlt] at hc
      by_cases q1 : within (at2 l i).1 0 100000 = true
      case neg =>
        rw [show cErr l i = 2 by simp [cErr, q1], if_neg (by decide)] at hc
        subst hc
        simp [hlti, hlt, Nat.not_le.2 hlt, r, k0, k1, p0, p1, c23, q1]
      by_cases q2 : within (at2 l i).2 0 1000 = true
      case neg =>
        rw [show cErr l i = 2 by simp [cErr, q1, q2], if_neg (by decide)] at hc
        subst hc
        simp [hlti, hlt, Nat.not_le.2 hlt, r, k0, k1, p0, p1, c23, c30, q1, q2]
      by_cases q3 : 0 < i
      case neg =>
        have q3' : ¬ (0 : Int) < i := by omega
        rw [show cErr l i = 0 by simp [cErr, q1, q2, q3], if_pos rfl] at hc
        simp [hlti, hlt, Nat.not_le.2 hlt, r, k0, k1, p0, p1, c23, c30, q1, q2, q3, q3', w1', St.tidy]
        exact ⟨l.length - (i + 1), by omega, i + 1, by omega, by omega, hc, by omega⟩
      have wm := wm1 q3 (by omega)
      have q3' : (0 : Int) < i := by omega
      have pm := c2_0 (l := l) (i := i - 1) (by omega)
      have km : (i - 1) * 2 < l.length * 2 := by omega
      have km2 : ((i - 1 : Nat) : Int) < l.length := by omega
      by_cases q4 : (at2 l i).1 ≤ (at2 l (i - 1)).1
      · rw [show cErr l i = 9 by simp [cErr, q1, q2, q3, q4], if_neg (by decide)] at hc
        subst hc
        simp [hlti, hlt, Nat.not_le.2 hlt, r, k0, k1, p0, p1, c23, c30, q1, q2, q3, q3', q4, wm, pm, km, km2]
      · rw [show cErr l i = 0 by simp [cErr, q1, q2, q3, q4], if_pos rfl] at hc
        simp [hlti, hlt, Nat.not_le.2 hlt, r, k0, k1, p0, p1, c23, c30, q1, q2, q3, q3', q4, wm, pm, km, km2, w1', St.tidy]
        exact ⟨l.length - (i + 1), by omega, i + 1, by omega, by omega, hc, by omega⟩
    · obtain rfl : i = l.length := by omega
      rw [fstE_ge (by omega)] at hc
      subst hc
      simp [r]
/-- The readings are right. -/
structure COk (l : List P2) : Prop where
  pos : 0 < l.length
  len : l.length ≤ 200
  day : ∀ i, i < l.length → 0 ≤ (at2 l i).1 ∧ (at2 l i).1 ≤ 100000
  hum : ∀ i, i < l.length → 0 ≤ (at2 l i).2 ∧ (at2 l i).2 ≤ 1000
  asc : ∀ i, i + 1 < l.length → (at2 l i).1 < (at2 l (i + 1)).1
theorem within_iffC {a b c : Int} : within a b c = true ↔ b ≤ a ∧ a ≤ c := by simp [within]
theorem COk.of {l : List P2} (h : chkC l = 0) : COk l := by
  unfold chkC at h
  split at h
  · contradiction
  · rename_i h0
    split at h
    · contradiction
    · rename_i h200
      have k := (fstE_all _ 0 rfl).1 h
      have a : ∀ i, i < l.length → within (at2 l i).1 0 100000 = true ∧ within (at2 l i).2 0 1000 = true ∧ ¬ (0 < i ∧ (at2 l i).1 ≤ (at2 l (i - 1)).1) := fun i hi => by
        have := k i (by omega) hi
        unfold cErr at this
        split at this
        · rename_i q
          split at this
          · contradiction
          · rename_i q2; exact ⟨q.1, q.2, q2⟩
        · contradiction
      refine ⟨by omega, by omega, fun i hi => within_iffC.1 (a i hi).1, fun i hi => within_iffC.1 (a i hi).2.1, fun i hi => ?_⟩
      have := (a (i + 1) hi).2.2
      simp only [Nat.add_sub_cancel] at this
      omega
theorem COk.lt {l : List P2} (O : COk l) : ∀ (k i : Nat), i + k + 1 < l.length → (at2 l i).1 < (at2 l (i + k + 1)).1
  | 0, i, h => O.asc i h
  | k + 1, i, h => by
    have := O.lt k i (by omega)
    have := O.asc (i + k + 1) (by omega)
    rw [show i + (k + 1) + 1 = i + k + 1 + 1 by omega]; omega
theorem COk.mono {l : List P2} (O : COk l) {i j : Nat} (h : i < j) (hj : j < l.length) : (at2 l i).1 < (at2 l j).1 := by
  have := O.lt (j - i - 1) i (by omega)
  rwa [show i + (j - i - 1) + 1 = j by omega] at this
/-- How many readings are not behind a day; the humidity of a day. -/
def humK (l : List P2) (day : Int) : Nat := fstI (fun i => decide (day < (at2 l i).1)) l.length 0
def humV (l : List P2) (day : Int) : Int := (at2 l (humK l day - 1)).2
theorem humK_spec {l : List P2} (O : COk l) (day : Int) : humK l day ≤ l.length ∧ (∀ i, i < humK l day → (at2 l i).1 ≤ day) ∧ ∀ i, humK l day ≤ i → i < l.length → day < (at2 l i).1 := by
  obtain ⟨_, a, b, c⟩ := fstI_spec (p := fun i => decide (day < (at2 l i).1)) (n := l.length) _ 0 rfl (by omega)
  refine ⟨a, fun i hi => ?_, fun i h1 h2 => ?_⟩
  · have := c i (by omega) hi
    simpa using this
  · have hb := b (by unfold humK at h1; omega)
    have hb' : day < (at2 l (humK l day)).1 := of_decide_eq_true hb
    rcases Nat.lt_or_ge (humK l day) i with z | z
    · have := O.mono z h2; omega
    · rw [show i = humK l day by omega]; exact hb'
theorem c24 {d lim : Nat} {h : Heap} {v : Value} {l : List P2} {day : Int} (s : Sl2 h v l) (O : COk l) : E.call (d + 1) lim 24 [v, i64 day] h = some (i64 (humV l day), h) := by
  have r := s.rules2
  have l0 := O.pos
  have hl := O.len
  obtain ⟨sp1, sp2, sp3⟩ := humK_spec O day
  have s0 : slAt 2 v (i64 0) = some (.pointer (some ⟨slB v, slO v, none⟩)) := by have := s.at (k := .i64) (i := 0) (by omega) (by omega); simpa using this
  have c1 : h.cell (slB v) (slO v + 1) = some (i64 (at2 l 0).2) := by
    have := s.cell 1 (by omega)
    rw [this]; have := c2_1 (l := l) (i := 0) l0; simpa using this
  refine call1 fn24 rfl (by simp [ef24]) ?_
  have e0 : humV l day = (at2 l (humK l day - 1)).2 := rfl
  generalize humV l day = V at *
  simp [ef24, s0, c1]
  refine wpC_loop (fun q st => ∃ i : Nat, q = l.length - i ∧ i ≤ l.length ∧ st = ⟨[(0, v), (1, i64 day), (5, i64 (at2 l (min i (humK l day) - 1)).2), (6, i64 (i : Int))], h.freeze⟩) l.length (by show l.length < 2 ^ 64; omega) ?_ ?_
  · simp [St.tidy, r]
    exact ⟨0, by omega, by omega, by simp, rfl⟩
  · rintro q hq _ ⟨i, rfl, hi, rfl⟩
    by_cases hlt : i < l.length
    · have w1' := w1 (i := i) (by omega)
      have p0 := c2_0 hlt
      have p1 := c2_1 hlt
      have k0 : i * 2 < l.length * 2 := by omega
      have k1 : i * 2 + 1 < l.length * 2 := by omega
      have hlti : (i : Int) < l.length := by omega
      by_cases q1 : i < humK l day
      · have q2 := sp2 i q1
        have e1 : min (i + 1) (humK l day) - 1 = i := by omega
        simp [hlti, hlt, Nat.not_le.2 hlt, r, k0, k1, p0, p1, q2, w1', St.tidy]
        exact ⟨l.length - (i + 1), by omega, i + 1, by omega, by omega, by rw [e1], by omega⟩
      · have q2 := sp3 i (by omega) hlt
        have e1 : min (i + 1) (humK l day) - 1 = min i (humK l day) - 1 := by omega
        simp [hlti, hlt, Nat.not_le.2 hlt, r, k0, k1, p0, p1, q2, Int.not_le.2 q2, w1', St.tidy]
        exact ⟨l.length - (i + 1), by omega, i + 1, by omega, by omega, by rw [e1], by omega⟩
    · obtain rfl : i = l.length := by omega
      have e1 : min l.length (humK l day) - 1 = humK l day - 1 := by omega
      rw [e1, ← e0]
      simp [r]
def cmpI (a b : Int) : Int := if a < b then -1 else if b < a then 1 else 0
theorem c125 {d lim : Nat} {h : Heap} {a : Int} : E.call (d + 1) lim 125 [i64 a] h = some (.bool false, h) := by
  refine call1 fn125 rfl (by simp [ef125]) ?_
  simp [ef125]
theorem c119 {d lim : Nat} {h : Heap} {a b : Int} : E.call (d + 2) lim 119 [i64 a, i64 b] h = some (i64 (cmpI a b), h) := by
  refine call1 fn119 rfl (by simp [ef119]) ?_
  unfold cmpI
  by_cases q1 : a < b
  · simp [ef119, c125, q1]
  · by_cases q2 : b < a
    · simp [ef119, c125, q1, q2, Int.not_lt.1 q1]
    · simp [ef119, c125, q1, q2, Int.not_lt.1 q1, Int.not_lt.1 q2]
theorem c99 {d lim : Nat} {h : Heap} {x y b : Int} : E.call (d + 3) lim 99 [.agg #[i64 x, i64 y], i64 b] h = some (i64 (cmpI x b), h) := by
  refine call1 fn99 rfl (by simp [ef99]) ?_
  simp [ef99, c119]
/-- Where a day would stand. -/
def lowK (l : List P2) (day : Int) : Nat := fstI (fun i => decide (day ≤ (at2 l i).1)) l.length 0
theorem lowK_spec {l : List P2} (O : COk l) (day : Int) : lowK l day ≤ l.length ∧ (∀ i, i < lowK l day → (at2 l i).1 < day) ∧ ∀ i, lowK l day ≤ i → i < l.length → day ≤ (at2 l i).1 := by
  obtain ⟨_, a, b, c⟩ := fstI_spec (p := fun i => decide (day ≤ (at2 l i).1)) (n := l.length) _ 0 rfl (by omega)
  refine ⟨a, fun i hi => ?_, fun i h1 h2 => ?_⟩
  · have := c i (by omega) hi
    simpa using this
  · have hb := b (by unfold lowK at h1; omega)
    have hb' : day ≤ (at2 l (lowK l day)).1 := of_decide_eq_true hb
    rcases Nat.lt_or_ge (lowK l day) i with z | z
    · have := O.mono z h2; omega
    · rw [show i = lowK l day by omega]; exact hb'
def fndB (l : List P2) (day : Int) : Bool := decide (lowK l day < l.length ∧ (at2 l (lowK l day)).1 = day)
theorem c98 {d lim : Nat} {h : Heap} {v : Value} {l : List P2} {day : Int} (s : Sl2 h v l) (O : COk l) : E.call (d + 4) lim 98 [v, i64 day, .func (.func 99) #[] #[]] h = some (.tuple #[i64 (lowK l day : Int), .bool (fndB l day)], h) := by
  have r := s.rules2
  have l0 := O.pos
  have hl := O.len
  obtain ⟨sp1, sp2, sp3⟩ := lowK_spec O day
  have ef : fndB l day = decide (lowK l day < l.length ∧ (at2 l (lowK l day)).1 = day) := rfl
  generalize fndB l day = F at *
  generalize lowK l day = T at *
  refine call1 fn98 rfl (by simp [ef98]) ?_
  simp [ef98, r]
  refine wpC_loop (fun q st => ∃ i j : Nat, q = j - i ∧ i ≤ T ∧ T ≤ j ∧ j ≤ l.length ∧ st = ⟨[(0, v), (1, i64 day), (2, .func (.func 99) #[] #[]), (8, i64 (l.length : Int)), (9, i64 (i : Int)), (10, i64 (j : Int))], h.freeze⟩) l.length (by show l.length < 2 ^ 64; omega) ?_ ?_
  · simp [St.tidy, r]
    exact ⟨0, l.length, by omega, by omega, by omega, by omega, rfl, rfl⟩
  · rintro q hq _ ⟨i, j, rfl, hi, hj, hjl, rfl⟩
    by_cases hlt : i < j
    · have hm : (i + j) / 2 < l.length := by omega
      have wa : IntKind.wrap .i64 ((i : Int) + j) = ((i + j : Nat) : Int) := by rw [wrap_eq (by omega) (by omega)]; omega
      have wu : IntKind.wrap .u64 ((i + j : Nat) : Int) = ((i + j : Nat) : Int) := wrapU2 (by omega) (by omega)
      have wh : IntKind.wrap .i64 (((i + j : Nat) : Int) / 2) = (((i + j) / 2 : Nat) : Int) := by rw [wrap_eq (by omega) (by omega)]; omega
      have mi : i ≤ (i + j) / 2 ∧ (i + j) / 2 < j := by omega
      generalize (i + j) / 2 = M at *
      generalize i + j = S at *
      have w1' := w1 (i := M) (by omega)
      have p := c2_part hm
      have k2 : M * 2 + 2 ≤ l.length * 2 := by omega
      have hmi : (M : Int) < l.length := by omega
      have k99 := fun lim => c99 (d := d) (lim := lim) (h := h.freeze) (x := (at2 l M).1) (y := (at2 l M).2) (b := day)
      by_cases q : T ≤ M
      · have c0 : ¬ cmpI (at2 l M).1 day < 0 := by have := sp3 M q hm; unfold cmpI; omega
        generalize cmpI (at2 l M).1 day = cc at *
        simp [hlt, wa, wu, bin_shr1, wh, r, p, k2, hmi, hm, Nat.not_le.2 hm, k99, c0, Int.not_lt.1 c0, St.tidy]
        exact ⟨M - i, by omega, i, M, by omega, by omega, by omega, by omega, rfl, rfl⟩
      · have c0 : cmpI (at2 l M).1 day < 0 := by have := sp2 M (by omega); unfold cmpI; omega
        generalize cmpI (at2 l M).1 day = cc at *
        simp [hlt, wa, wu, bin_shr1, wh, r, p, k2, hmi, hm, Nat.not_le.2 hm, k99, c0, Int.not_le.2 c0, w1', St.tidy]
        exact ⟨j - (M + 1), by omega, M + 1, j, by omega, by omega, by omega, by omega, by omega, rfl⟩
    · obtain rfl : i = T := by omega
      by_cases q : i < l.length
      · have qi : (i : Int) < l.length := by omega
        have p := c2_part q
        have k2 : i * 2 + 2 ≤ l.length * 2 := by omega
        have k99 := fun lim => c99 (d := d) (lim := lim) (h := h.freeze) (x := (at2 l i).1) (y := (at2 l i).2) (b := day)
        have ec : (cmpI (at2 l i).1 day = 0) ↔ (at2 l i).1 = day := by unfold cmpI; omega
        by_cases q2 : (at2 l i).1 = day
        · have e2 := ec.2 q2
          rw [e2] at k99
          simp only [q2] at k99
          simp [hlt, r, p, k2, qi, q, Nat.not_le.2 q, k99, ef, q2]
        · have e2 : ¬ cmpI (at2 l i).1 day = 0 := fun h => q2 (ec.1 h)
          generalize cmpI (at2 l i).1 day = cc at *
          simp [hlt, r, p, k2, qi, q, Nat.not_le.2 q, k99, e2, ef, q2]
      · have qi : ¬ (i : Int) < l.length := by omega
        simp [hlt, r, qi, q, ef]
end U
end Go.Abs
