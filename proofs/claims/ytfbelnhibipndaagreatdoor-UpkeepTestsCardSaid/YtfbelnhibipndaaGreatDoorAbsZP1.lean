/- Chapter 7: what is predicted of tests. -/
import Derived.Test.YtfbelnhibipndaaGreatDoorAbsZEM
import Derived.Test.YtfbelnhibipndaaGreatDoorAbsZUJM
set_option linter.unusedSimpArgs false
set_option linter.unusedVariables false
namespace Go.Abs
namespace Z.U
set_option maxRecDepth 100000
set_option maxHeartbeats 0
set_option linter.unusedSimpArgs false
theorem chkX_eq (n m p q : Int) : U.chkX n m p q = Z.chkX n m p q := by
  have a := Z.c47 (d := 1) (lim := 0) (h := []) (n := n) (m := m) (p := p) (q := q)
  have b := U.c47 (d := 0) (lim := 0) (h := []) (n := n) (m := m) (p := p) (q := q)
  have e := Option.some.inj (b.symm.trans a)
  have e2 := (Prod.mk.inj e).1
  exact (Value.int.inj e2).2
/-- The error of a temperament and a fork. -/
def tuE (nm : ByteArray) (P S : Nat → Int) (F : Int) : Int := if chkT nm P S = 0 then (if isFork F = true then 0 else 2) else chkT nm P S
theorem wi_eq (a b c : Int) : U.within a b c = Z.within a b c := rfl
theorem c50 {d lim : Nat} {h : Heap} {C : List Value} {nm : ByteArray} {P S : Nat → Int} {F : Int} (t : Tm C nm P S) (hs : nm.size ≤ 1000) : E.call (d + 5) lim 50 [.agg C.toArray, i64 F] h = some (i64 (tuE nm P S F), h) := by
  have k88 := fun lim hh => Z.c88 (d := d) (lim := lim) (h := hh) t hs
  have k54 := fun lim hh => U.c54 (d := d + 3) (lim := lim) (h := hh) (a := F) (b := 1) (c := 1000000)
  refine call1 fn50 rfl (by simp [ef50]) ?_
  unfold tuE isFork
  by_cases q0 : chkT nm P S = 0
  case neg => simp [ef50, t.len, t.take, k88, q0]
  by_cases q1 : within F 1 1000000 = true
  · have q2 := wi_eq F 1 1000000 ▸ q1
    simp [ef50, t.len, t.take, k88, q0, k54, q1, q2]
  · have q2 := wi_eq F 1 1000000 ▸ q1
    simp [ef50, t.len, t.take, k88, q0, k54, q1, q2]
theorem c15 {d lim : Nat} {h : Heap} {C : List Value} {nm : ByteArray} {P S : Nat → Int} {F : Int} (t : Tm C nm P S) : E.call (d + 6) lim 15 [.agg C.toArray, i64 F] h = some (i64 (tuE nm P S F), h) := by
  have k36 := fun lim hh => Z.c36 (d := d) (lim := lim) (h := hh) t
  have k52 := fun lim hh => Z.c52 (d := d + 3) (lim := lim) (h := hh) (n := F)
  refine call1 fn15 rfl (by simp [ef15]) ?_
  unfold tuE
  by_cases q0 : chkT nm P S = 0
  case neg => simp [ef15, t.len, t.take, k36, q0]
  by_cases q1 : isFork F = true
  · simp [ef15, t.len, t.take, k36, q0, k52, q1]
  · simp [ef15, t.len, t.take, k36, q0, k52, q1]
/-- The ranges of the first tests. -/
def bl (bt : Nat → Int × Int) : Nat → List Value
  | 0 => []
  | k + 1 => bl bt k ++ [i64 (bt k).1, i64 (bt k).2]
theorem bl_len (bt : Nat → Int × Int) : ∀ k, (bl bt k).length = 2 * k
  | 0 => rfl
  | k + 1 => by rw [bl, List.length_append, bl_len bt k]; simp; omega
theorem bl_plain (bt : Nat → Int × Int) : ∀ k, (bl bt k).all plainV = true
  | 0 => rfl
  | k + 1 => by simp [bl, bl_plain bt k, plainV]
theorem bl_get (bt : Nat → Int × Int) {i : Nat} : ∀ k, i < k → ((bl bt k).drop (i * 2)).take 2 = [i64 (bt i).1, i64 (bt i).2]
  | 0, h => by omega
  | k + 1, h => by
    have l := bl_len bt k
    rw [bl]
    by_cases z : i < k
    · rw [List.drop_append_of_le_length (by omega), List.take_append_of_le_length (by rw [List.length_drop]; omega)]
      exact bl_get bt k z
    · obtain rfl : i = k := by omega
      rw [List.drop_append, List.drop_of_length_le (by omega), show i * 2 - (bl bt i).length = 0 by omega]; rfl
def lVR (b k : Nat) : Value := if k = 0 then .slice none 0 0 else .slice (some ⟨b, 0, none⟩) k 2
def lBR (bt : Nat → Int × Int) (k : Nat) : List (Option Blk) := if k = 0 then [] else [some ⟨bl bt k, true⟩]
theorem chkTs_len {l : List P4} (h : chkTs l = 0) : l.length ≤ 60 := by
  unfold chkTs at h
  by_cases z : 60 < l.length
  · rw [if_pos z] at h; cases h
  · omega
theorem c14 {d lim : Nat} {h : Heap} {v : Value} {l : List P4} {C : List Value} {nm : ByteArray} {P S : Nat → Int} {F : Int} {bt : Nat → Int × Int} (s : Sl4 h v l) (t : Tm C nm P S) (hs : nm.size ≤ 1000)
    (hb : tuE nm P S F = 0 → chkTs l = 0 → ∀ i, i < l.length → ∀ lim L, E.call (d + 8) lim 51 [.agg C.toArray, i64 F, vT (at4 l i)] (h.freeze ++ L) = some (r3 ((bt i).1, (bt i).2, 0), h.freeze ++ L)) :
    E.call (d + 9) lim 14 [.agg C.toArray, i64 F, v] h = some (.tuple #[if tuE nm P S F = 0 ∧ chkTs l = 0 then lVR h.length l.length else .slice none 0 0, i64 (if tuE nm P S F = 0 then chkTs l else tuE nm P S F)], h ++ if tuE nm P S F = 0 ∧ chkTs l = 0 then lBR bt l.length else []) := by
  have r := s.rules2
  have k50 := fun lim hh => c50 (d := d + 3) (lim := lim) (h := hh) (F := F) t hs
  have k11 := fun (L : Heap) lim => c11 (d := d + 4) (lim := lim) ((Sl_freeze.2 s).app L)
  refine call_pure fn14 rfl (by simp [ef14]) ?_
  by_cases q0 : tuE nm P S F = 0
  case neg => simp [ef14, t.len, t.take, k50, q0]
  by_cases q1 : chkTs l = 0
  case neg => simp [ef14, t.len, t.take, k50, q0, k11, q1]
  have hl := chkTs_len q1
  have k51 := hb q0 q1
  have tp := t.plain
  simp [-collect_own1, ef14, t.len, t.take, k50, q0, k11, q1, r]
  refine wpC_loop (fun q st => ∃ i : Nat, q = l.length - i ∧ i ≤ l.length ∧ st = ⟨[(1, i64 F), (3, .pointer (some ⟨h.length, 0, none⟩)), (10, lVR (h.length + 1) i), (26, v), (27, i64 (l.length : Int)), (28, i64 (i : Int))], h.freeze ++ some ⟨C, true⟩ :: lBR bt i⟩) l.length (by show l.length < 2 ^ 64; omega) ?_ ?_
  · simp [-collect_own1, tp, St.tidy, collect_box, s.own, r]
    exact ⟨0, by omega, by omega, by simp [lVR], by simp [lBR]⟩
  · rintro q hq _ ⟨i, rfl, hi, rfl⟩
    have bln := bl_len bt i
    have blp := bl_plain bt i
    have blp1 := bl_plain bt (i + 1)
    by_cases hlt : i < l.length
    · have hlti : (i : Int) < l.length := by omega
      have w1' := w1 (i := i) (by omega)
      have pt := c4_part hlt
      have k4 : i * 4 + 4 ≤ l.length * 4 := by omega
      have k51i := k51 i hlt
      have hsn : bl bt i ++ [i64 (bt i).1, i64 (bt i).2] = bl bt (i + 1) := rfl
      have l0 := c4_0 hlt
      have pp : ∀ L, i = 0 → Heap.part (h.freeze ++ L) (slB v) (slO v) 4 = some (.agg #[i64 (at4 l i).1, i64 (at4 l i).2.1, i64 (at4 l i).2.2.1, i64 (at4 l i).2.2.2]) := fun L hi0 => by
        subst hi0
        have := ((Sl_freeze.2 s).app L).part (k := 0) (m := 4) (by omega) (by decide)
        rw [Nat.add_zero] at this
        rw [this, show (0 : Nat) = 0 * 4 from rfl, c4_part (by omega)]
      generalize bt i = B at *
      obtain ⟨B1, B2⟩ := B
      generalize at4 l i = X at *
      obtain ⟨x1, x2, x3, x4⟩ := X
      simp only [vT] at k51i
      rcases Nat.eq_zero_or_pos i with z0 | z0
      · subst z0
        rw [show bl bt 0 = [] from rfl, List.nil_append] at hsn
        have s0 : slAt 4 v (i64 0) = some (.pointer (some ⟨slB v, slO v, none⟩)) := by have := s.at (k := .i64) (i := 0) (by omega) (by omega); simpa using this
        have pp0 := fun L => pp L rfl
        simp [-collect_own1, lVR, lBR, hlt, s0, pp0, pt, k4, k51i, t.len, t.take, r, w1', fillL, zeros, E.append, E.added, tp, St.tidy, collect_box, s.own]
        exact ⟨by decide, l.length - 1, by omega, 1, by omega, by omega, by rw [if_neg (by decide)]; exact ⟨rfl, rfl⟩, by rw [if_neg (by decide), ← hsn]⟩
      · have n0 : i ≠ 0 := by omega
        have i2 : i * 2 = 2 * i := by omega
        simp [-collect_own1, lVR, lBR, n0, hlt, hlti, Nat.not_le.2 hlt, pt, k4, k51i, t.len, t.take, r, w1', fillL, zeros, E.append, E.added, i2, bln, hsn, blp1, tp, St.tidy, collect_box, s.own]
        exact ⟨⟨by omega, by unfold maxLen; omega⟩, l.length - (i + 1), by omega, i + 1, rfl, by omega, ⟨by rw [if_neg (by omega)], by omega⟩, by rw [if_neg (by omega)]⟩
    · obtain rfl : i = l.length := by omega
      by_cases z : l.length = 0
      · simp [lVR, lBR, z, r]
      · simp [lVR, lBR, z, r, blp]
theorem c17 {d lim : Nat} {h : Heap} {v : Value} {l : List P4} {C : List Value} {nm : ByteArray} {P S : Nat → Int} {F : Int} {bt : Nat → Int × Int} (s : Sl4 h v l) (t : Tm C nm P S) (hl : l.length ≤ 60)
    (hb : ∀ i, i < l.length → ∀ lim L, E.call (d + 7) lim 53 [.agg C.toArray, i64 F, vT (at4 l i)] (h.freeze ++ L) = some (rg (bt i).1 (bt i).2, h.freeze ++ L)) :
    E.call (d + 8) lim 17 [.agg C.toArray, i64 F, v] h = some (lVR h.length l.length, h ++ lBR bt l.length) := by
  have r := s.rules2
  refine call_pure fn17 rfl (by simp [ef17]) ?_
  have tp := t.plain
  simp [-collect_own1, ef17, t.len, t.take, r]
  refine wpC_loop (fun q st => ∃ i : Nat, q = l.length - i ∧ i ≤ l.length ∧ st = if i = 0 then ⟨[(1, i64 F), (2, v), (3, .pointer (some ⟨h.length, 0, none⟩)), (7, .slice none 0 0), (8, i64 (i : Int))], h.freeze ++ [some ⟨C, true⟩]⟩ else ⟨[(1, i64 F), (2, v), (3, .pointer (some ⟨h.length, 0, none⟩)), (7, .slice (some ⟨h.length + 1, 0, none⟩) i 2), (8, i64 (i : Int))], h.freeze ++ [some ⟨C, true⟩, some ⟨bl bt i, true⟩]⟩) l.length (by show l.length < 2 ^ 64; omega) ?_ ?_
  · simp [-collect_own1, tp, St.tidy, collect_box, s.own, r]
    exact ⟨0, by omega, by omega, by simp⟩
  · rintro q hq _ ⟨i, rfl, hi, rfl⟩
    have bln := bl_len bt i
    have blp := bl_plain bt i
    have blp1 := bl_plain bt (i + 1)
    by_cases hlt : i < l.length
    · have hlti : (i : Int) < l.length := by omega
      have w1' := w1 (i := i) (by omega)
      have pt := c4_part hlt
      have k4 : i * 4 + 4 ≤ l.length * 4 := by omega
      have k53i := hb i hlt
      have hsn : bl bt i ++ [i64 (bt i).1, i64 (bt i).2] = bl bt (i + 1) := rfl
      have pp : ∀ L, i = 0 → Heap.part (h.freeze ++ L) (slB v) (slO v) 4 = some (.agg #[i64 (at4 l i).1, i64 (at4 l i).2.1, i64 (at4 l i).2.2.1, i64 (at4 l i).2.2.2]) := fun L hi0 => by
        subst hi0
        have := ((Sl_freeze.2 s).app L).part (k := 0) (m := 4) (by omega) (by decide)
        rw [Nat.add_zero] at this
        rw [this, show (0 : Nat) = 0 * 4 from rfl, c4_part (by omega)]
      generalize bt i = B at *
      obtain ⟨B1, B2⟩ := B
      generalize at4 l i = X at *
      obtain ⟨x1, x2, x3, x4⟩ := X
      simp only [vT] at k53i
      rcases Nat.eq_zero_or_pos i with z0 | z0
      · subst z0
        rw [show bl bt 0 = [] from rfl, List.nil_append] at hsn
        rw [if_pos rfl]
        have s0 : slAt 4 v (i64 0) = some (.pointer (some ⟨slB v, slO v, none⟩)) := by have := s.at (k := .i64) (i := 0) (by omega) (by omega); simpa using this
        have pp0 := fun L => pp L rfl
        have lne : ¬ l = [] := by rintro rfl; simp at hlt
        simp [-collect_own1, Nat.add_assoc, lne, hlt, s0, pp0, pt, k4, k53i, t.len, t.take, r, w1', fillL, zeros, E.append, E.added, tp, St.tidy, collect_box, s.own]
        exact ⟨by decide, l.length - 1, by omega, 1, by omega, by omega, by rw [if_neg (by decide), ← hsn]; rfl⟩
      · have n0 : i ≠ 0 := by omega
        have i2 : i * 2 = 2 * i := by omega
        rw [if_neg n0]
        simp [-collect_own1, Nat.add_assoc, n0, hlt, hlti, Nat.not_le.2 hlt, pt, k4, k53i, t.len, t.take, r, w1', fillL, zeros, E.append, E.added, i2, bln, hsn, blp1, tp, St.tidy, collect_box, s.own]
        exact ⟨⟨by omega, by unfold maxLen; omega⟩, l.length - (i + 1), by omega, i + 1, rfl, by omega, by rw [if_neg (by omega)]; simp⟩
    · obtain rfl : i = l.length := by omega
      by_cases z : l.length = 0
      · rw [if_pos z]
        simp [lVR, lBR, z, r]
      · rw [if_neg z]
        simp [lVR, lBR, z, r, blp]
theorem c16n {d lim : Nat} {h : Heap} : E.call (d + 1) lim 16 [.slice none 0 0, .slice none 0 0] h = some (.bool true, h) := by
  refine call1 fn16 rfl (by simp [ef16]) ?_
  simp [ef16]
  rw [wpC_unroll, wpI_step (by simp [E_fuel'])]
  simp [St.tidy]
theorem c16 {d lim a b k : Nat} {h : Heap} {bt : Nat → Int × Int} {x y : Bool} (ga : h.get a = some ⟨bl bt k, x⟩) (gb : h.get b = some ⟨bl bt k, y⟩) (hk : k ≤ 60) :
    E.call (d + 1) lim 16 [.slice (some ⟨a, 0, none⟩) k 2, .slice (some ⟨b, 0, none⟩) k 2] h = some (.bool true, h) := by
  refine call1 fn16 rfl (by simp [ef16]) ?_
  have la := Heap.get_lt ga
  have lb := Heap.get_lt gb
  have bln := bl_len bt k
  have PA := fun o => part_get (o := o) (n := 2) ga
  have PB := fun o => part_get (o := o) (n := 2) gb
  simp [ef16]
  refine wpC_loop (fun q st => ∃ i : Nat, q = k - i ∧ i ≤ k ∧ st = ⟨[(0, .slice (some ⟨a, 0, none⟩) k 2), (1, .slice (some ⟨b, 0, none⟩) k 2), (5, i64 (i : Int))], h.freeze⟩) k (by show k < 2 ^ 64; omega) ?_ ?_
  · simp [St.tidy, la, lb]
    exact ⟨0, by omega, by omega, rfl⟩
  · rintro q hq _ ⟨i, rfl, hi, rfl⟩
    by_cases hlt : i < k
    · have hlti : (i : Int) < k := by omega
      have w1' := w1 (i := i) (by omega)
      have bg := bl_get bt k hlt
      have k2 : i * 2 + 2 ≤ 2 * k := by omega
      simp [hlt, hlti, Nat.not_le.2 hlt, PA, PB, bln, k2, bg, w1', St.tidy, la, lb, E.eqCells]
      exact ⟨k - (i + 1), by omega, i + 1, rfl, by omega, by omega⟩
    · obtain rfl : i = k := by omega
      simp
end Z.U
end Go.Abs
