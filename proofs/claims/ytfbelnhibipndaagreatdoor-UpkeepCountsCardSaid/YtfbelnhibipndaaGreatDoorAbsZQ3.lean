/- Chapter 7: counts that fail. -/
import Derived.Test.YtfbelnhibipndaaGreatDoorAbsZQ2
set_option linter.unusedSimpArgs false
set_option linter.unusedVariables false
namespace Go.Abs
namespace Z.U
set_option maxRecDepth 100000
set_option maxHeartbeats 0
set_option linter.unusedSimpArgs false
def iV (b : Nat) (L : List Int) : Value := if L = [] then .slice none 0 0 else .slice (some ⟨b, 0, none⟩) L.length 1
def iB (L : List Int) : List (Option Blk) := if L = [] then [] else [some ⟨cI L, true⟩]
/-- Whether a count fails. -/
def failB (bt : Nat → Int × Int) (l : List P6) (i : Nat) : Bool := decide ((bt i).2 < (at6 l i).2.1) || decide ((at6 l i).2.2 < (bt i).1)
def fdL (bt : Nat → Int × Int) (l : List P6) : Nat → List Int
  | 0 => []
  | k + 1 => if failB bt l k = true then fdL bt l k ++ [(k : Int)] else fdL bt l k
theorem fdL_len (bt : Nat → Int × Int) (l : List P6) : ∀ k, (fdL bt l k).length ≤ k
  | 0 => Nat.le_refl _
  | k + 1 => by
    have := fdL_len bt l k
    unfold fdL
    split
    · rw [List.length_append]; simp; omega
    · omega
theorem cI_pl (l : List Int) : (cI l).all plainV = true := by simp [cI, plainV]
theorem chkN_len {l : List P6} (h : chkN l = 0) : l.length ≤ 60 := by
  unfold chkN at h
  by_cases z : 60 < l.length
  · rw [if_pos z] at h; cases h
  · omega
theorem chkN_at {l : List P6} (h : chkN l = 0) {i : Nat} (hi : i < l.length) : chkX (at6 l i).1.1 (at6 l i).1.2.1 (at6 l i).1.2.2.1 (at6 l i).1.2.2.2 = 0 ∧ (at6 l i).2.1 ≤ (at6 l i).2.2 := by
  have hl := chkN_len h
  unfold chkN at h
  rw [if_neg (by omega), fstE_all _ 0 rfl] at h
  have := h i (by omega) hi
  unfold cErr at this
  by_cases z : chkX (at6 l i).1.1 (at6 l i).1.2.1 (at6 l i).1.2.2.1 (at6 l i).1.2.2.2 = 0
  · refine ⟨z, ?_⟩
    rw [if_pos z] at this
    by_cases y : has4 ((tsL l).take i) (at6 l i).1 = true
    · rw [if_pos y] at this; cases this
    · rw [if_neg y] at this
      unfold rErr at this
      split at this
      · by_cases w : (at6 l i).2.2 < (at6 l i).2.1
        · rw [if_pos w] at this; cases this
        · omega
      · cases this
  · rw [if_neg z] at this; exact absurd this z
theorem c22 {d lim : Nat} {h : Heap} {v : Value} {l : List P6} {C : List Value} {nm : ByteArray} {P S : Nat → Int} {F : Int} {bt : Nat → Int × Int} (s : Sl6 h v l) (t : Tm C nm P S) (hs : nm.size ≤ 1000)
    (hb : tuE nm P S F = 0 → chkN l = 0 → ∀ i, i < l.length → (bt i).1 ≤ (bt i).2 ∧ ∀ lim L, E.call (d + 8) lim 51 [.agg C.toArray, i64 F, vT (at6 l i).1] (h.freeze ++ L) = some (r3 ((bt i).1, (bt i).2, 0), h.freeze ++ L)) :
    E.call (d + 9) lim 22 [.agg C.toArray, i64 F, v] h = some (.tuple #[if tuE nm P S F = 0 ∧ chkN l = 0 then iV h.length (fdL bt l l.length) else .slice none 0 0, i64 (if tuE nm P S F = 0 then chkN l else tuE nm P S F)], h ++ if tuE nm P S F = 0 ∧ chkN l = 0 then iB (fdL bt l l.length) else []) := by
  have r := s.rules2
  have k50 := fun lim hh => c50 (d := d + 3) (lim := lim) (h := hh) (F := F) t hs
  have k19 := fun (L : Heap) lim => c19 (d := d + 3) (lim := lim) ((Sl_freeze.2 s).app L)
  refine call_pure fn22 rfl (by simp [ef22]) ?_
  by_cases q0 : tuE nm P S F = 0
  case neg => simp [ef22, t.len, t.take, k50, q0]
  by_cases q1 : chkN l = 0
  case neg => simp [ef22, t.len, t.take, k50, q0, k19, q1]
  have hl := chkN_len q1
  have k51 := hb q0 q1
  have tp := t.plain
  simp [-collect_own1, ef22, t.len, t.take, k50, q0, k19, q1, r]
  refine wpC_loop (fun q st => ∃ i : Nat, q = l.length - i ∧ i ≤ l.length ∧ st = if fdL bt l i = [] then ⟨[(1, i64 F), (3, .pointer (some ⟨h.length, 0, none⟩)), (10, .slice none 0 0), (26, v), (27, i64 (l.length : Int)), (28, i64 (i : Int))], h.freeze ++ [some ⟨C, true⟩]⟩ else ⟨[(1, i64 F), (3, .pointer (some ⟨h.length, 0, none⟩)), (10, .slice (some ⟨h.length + 1, 0, none⟩) (fdL bt l i).length 1), (26, v), (27, i64 (l.length : Int)), (28, i64 (i : Int))], h.freeze ++ [some ⟨C, true⟩, some ⟨cI (fdL bt l i), true⟩]⟩) l.length (by show l.length < 2 ^ 64; omega) ?_ ?_
  · simp [-collect_own1, tp, St.tidy, collect_box, s.own, r]
    exact ⟨0, by omega, by omega, by simp [fdL]⟩
  · rintro q hq _ ⟨i, rfl, hi, rfl⟩
    have fl := fdL_len bt l i
    have hn : fdL bt l (i + 1) = if failB bt l i = true then fdL bt l i ++ [(i : Int)] else fdL bt l i := rfl
    generalize hD1 : fdL bt l (i + 1) = D1 at *
    by_cases hlt : i < l.length
    · obtain ⟨D, hD⟩ : ∃ D, D = fdL bt l i := ⟨_, rfl⟩
      rw [← hD] at fl hn ⊢
      have hlti : (i : Int) < l.length := by omega
      have w1' := w1 (i := i) (by omega)
      have pt := c6_part hlt
      have k6 : i * 6 + 6 ≤ l.length * 6 := by omega
      obtain ⟨bo, k51i⟩ := k51 i hlt
      obtain ⟨_, co⟩ := chkN_at q1 hlt
      have pp : ∀ L, i = 0 → Heap.part (h.freeze ++ L) (slB v) (slO v) 6 = some (.agg (enc6 (at6 l i)).toArray) := fun L hi0 => by
        subst hi0
        have := ((Sl_freeze.2 s).app L).part (k := 0) (m := 6) (by omega) (by decide)
        rw [Nat.add_zero] at this
        rw [this, show (0 : Nat) = 0 * 6 from rfl, c6_part (by omega)]
      have s0 : slAt 6 v (i64 0) = some (.pointer (some ⟨slB v, slO v, none⟩)) := by have := s.at (k := .i64) (i := 0) (by omega) (by omega); simpa using this
      have cn : cI D ++ [i64 (i : Int)] = cI (D ++ [(i : Int)]) := by simp [cI]
      have one := one_cI D
      have cp := cI_pl D
      have cp1 := cI_pl (D ++ [(i : Int)])
      have cl := cI_len D
      unfold failB at hn
      generalize bt i = B at *
      obtain ⟨B1, B2⟩ := B
      generalize at6 l i = X at *
      obtain ⟨⟨x1, x2, x3, x4⟩, y1, y2⟩ := X
      simp only [enc6, enc4, enc2, List.cons_append, List.nil_append] at pt pp
      simp only [vT] at k51i
      simp only at hn bo co
      have mxe : ∀ a b : Int, (max a b) = if a ≤ b then b else a := fun a b => Int.max_def a b
      have ife : (min B2 y2 < max B1 y1) ↔ (decide (B2 < y1) || decide (y2 < B1)) = true := by
        rw [Bool.or_eq_true, decide_eq_true_eq, decide_eq_true_eq]; omega
      by_cases q : (decide (B2 < y1) || decide (y2 < B1)) = true
      · have q2 := ife.2 q
        have q2b := Int.not_le.2 q2
        rw [if_pos q] at hn
        rcases Nat.eq_zero_or_pos i with z0 | z0
        · have e : D = [] := List.eq_nil_of_length_eq_zero (by omega)
          subst z0 e
          rw [if_pos rfl]
          have pp0 := fun L => pp L rfl
          simp [-collect_own1, Nat.add_assoc, hlt, s0, pp0, k51i, t.len, t.take, r, w1', q2, q2b, fillL, zeros, E.append, E.added, tp, St.tidy, collect_box, s.own]
          exact ⟨by decide, l.length - 1, by omega, 1, by omega, by omega, by rw [show fdL bt l 1 = D1 from hD1, hn, if_neg (by simp)]; simp [cI]⟩
        · by_cases z : D = []
          · rw [if_pos z]
            simp [-collect_own1, Nat.add_assoc, hlti, hlt, Nat.not_le.2 hlt, pt, k6, k51i, t.len, t.take, r, w1', q2, q2b, fillL, zeros, E.append, E.added, tp, St.tidy, collect_box, s.own]
            exact ⟨by decide, l.length - (i + 1), by omega, i + 1, rfl, by omega, by rw [hD1, hn, z, if_neg (by simp)]; simp [cI]⟩
          · rw [if_neg z]
            simp [-collect_own1, Nat.add_assoc, hlti, hlt, Nat.not_le.2 hlt, pt, k6, k51i, t.len, t.take, r, w1', q2, q2b, fillL, zeros, E.append, E.added, tp, St.tidy, collect_box, s.own, cl, cn, cp1]
            exact ⟨⟨by omega, by unfold maxLen; omega⟩, l.length - (i + 1), by omega, i + 1, rfl, by omega, by rw [hD1, hn, if_neg (by simp)]; simp⟩
      · have q2 : ¬ min B2 y2 < max B1 y1 := fun y => q (ife.1 y)
        have q2b := Int.not_lt.1 q2
        rw [if_neg q] at hn
        rcases Nat.eq_zero_or_pos i with z0 | z0
        · have e : D = [] := List.eq_nil_of_length_eq_zero (by omega)
          subst z0 e
          rw [if_pos rfl]
          have pp0 := fun L => pp L rfl
          simp [-collect_own1, Nat.add_assoc, hlt, s0, pp0, k51i, t.len, t.take, r, w1', q2, q2b, fillL, zeros, E.append, E.added, tp, St.tidy, collect_box, s.own]
          exact ⟨l.length - 1, by omega, 1, by omega, by omega, by rw [show fdL bt l 1 = D1 from hD1, hn, if_pos rfl]; simp⟩
        · by_cases z : D = []
          · rw [if_pos z]
            simp [-collect_own1, Nat.add_assoc, hlti, hlt, Nat.not_le.2 hlt, pt, k6, k51i, t.len, t.take, r, w1', q2, q2b, fillL, zeros, E.append, E.added, tp, St.tidy, collect_box, s.own]
            exact ⟨l.length - (i + 1), by omega, i + 1, rfl, by omega, by rw [hD1, hn, if_pos z]; simp⟩
          · rw [if_neg z]
            simp [-collect_own1, Nat.add_assoc, hlti, hlt, Nat.not_le.2 hlt, pt, k6, k51i, t.len, t.take, r, w1', q2, q2b, fillL, zeros, E.append, E.added, tp, St.tidy, collect_box, s.own, cp]
            exact ⟨l.length - (i + 1), by omega, i + 1, rfl, by omega, by rw [hD1, hn, if_neg z]; simp⟩
    · obtain rfl : i = l.length := by omega
      have cp := cI_pl (fdL bt l l.length)
      by_cases z : fdL bt l l.length = []
      · rw [if_pos z]
        simp [iV, iB, z, r]
      · rw [if_neg z]
        simp [iV, iB, z, r, cp]
theorem c24 {d lim : Nat} {h : Heap} {v : Value} {l : List P6} {C : List Value} {nm : ByteArray} {P S : Nat → Int} {F : Int} {bt : Nat → Int × Int} (s : Sl6 h v l) (t : Tm C nm P S) (hl : l.length ≤ 60)
    (hb : ∀ i, i < l.length → ∀ lim L, E.call (d + 7) lim 53 [.agg C.toArray, i64 F, vT (at6 l i).1] (h.freeze ++ L).freeze = some (rg (bt i).1 (bt i).2, (h.freeze ++ L).freeze)) :
    E.call (d + 8) lim 24 [.agg C.toArray, i64 F, v] h = some (iV h.length (fdL bt l l.length), h ++ iB (fdL bt l l.length)) := by
  have r := s.rules2
  refine call_pure fn24 rfl (by simp [ef24]) ?_
  have tp := t.plain
  simp [-collect_own1, ef24, t.len, t.take, r]
  refine wpC_loop (fun q st => ∃ i : Nat, q = l.length - i ∧ i ≤ l.length ∧ st = if fdL bt l i = [] then ⟨[(1, i64 F), (2, v), (3, .pointer (some ⟨h.length, 0, none⟩)), (7, .slice none 0 0), (8, i64 (i : Int))], h.freeze ++ [some ⟨C, true⟩]⟩ else ⟨[(1, i64 F), (2, v), (3, .pointer (some ⟨h.length, 0, none⟩)), (7, .slice (some ⟨h.length + 1, 0, none⟩) (fdL bt l i).length 1), (8, i64 (i : Int))], h.freeze ++ [some ⟨C, true⟩, some ⟨cI (fdL bt l i), true⟩]⟩) l.length (by show l.length < 2 ^ 64; omega) ?_ ?_
  · simp [-collect_own1, tp, St.tidy, collect_box, s.own, r]
    exact ⟨0, by omega, by omega, by simp [fdL]⟩
  · rintro q hq _ ⟨i, rfl, hi, rfl⟩
    have fl := fdL_len bt l i
    have hn : fdL bt l (i + 1) = if failB bt l i = true then fdL bt l i ++ [(i : Int)] else fdL bt l i := rfl
    generalize hD1 : fdL bt l (i + 1) = D1 at *
    by_cases hlt : i < l.length
    · obtain ⟨D, hD⟩ : ∃ D, D = fdL bt l i := ⟨_, rfl⟩
      rw [← hD] at fl hn ⊢
      have hlti : (i : Int) < l.length := by omega
      have lne : ¬ l = [] := by rintro rfl; simp at hlt
      have w1' := w1 (i := i) (by omega)
      have pt := c6_part hlt
      have p4 : ((cS enc6 l).drop (i * 6)).take 4 = enc4 (at6 l i).1 := by
        have : ((cS enc6 l).drop (i * 6)).take 4 = (((cS enc6 l).drop (i * 6)).take 6).take 4 := by rw [List.take_take]; rfl
        rw [this, pt]; rfl
      have p5 : (cS enc6 l)[i * 6 + 4]? = some (i64 (at6 l i).2.1) := by
        have : (((cS enc6 l).drop (i * 6)).take 6)[4]? = (cS enc6 l)[i * 6 + 4]? := by rw [List.getElem?_take, if_pos (by decide), List.getElem?_drop]
        rw [← this, pt]; rfl
      have p6 : (cS enc6 l)[i * 6 + 5]? = some (i64 (at6 l i).2.2) := by
        have : (((cS enc6 l).drop (i * 6)).take 6)[5]? = (cS enc6 l)[i * 6 + 5]? := by rw [List.getElem?_take, if_pos (by decide), List.getElem?_drop]
        rw [← this, pt]; rfl
      have k4 : i * 6 + 4 ≤ l.length * 6 := by omega
      have k5 : i * 6 + 4 < l.length * 6 := by omega
      have k6 : i * 6 + 5 < l.length * 6 := by omega
      have k53i := hb i hlt
      have pp : ∀ L, i = 0 → Heap.part (h.freeze ++ L) (slB v) (slO v) 4 = some (.agg (enc4 (at6 l i).1).toArray) := fun L hi0 => by
        have := ((Sl_freeze.2 s).app L).part (k := i * 6) (m := 4) (by omega) (by decide)
        rw [p4] at this
        rw [hi0] at this ⊢
        simpa using this
      have q5 : ∀ L, i = 0 → Heap.cell (h.freeze ++ L) (slB v) (slO v + 4) = some (i64 (at6 l i).2.1) := fun L hi0 => by
        have := ((Sl_freeze.2 s).app L).cell (i * 6 + 4) (by omega)
        rw [p5] at this
        rw [hi0] at this ⊢
        simpa using this
      have q6 : ∀ L, i = 0 → Heap.cell (h.freeze ++ L) (slB v) (slO v + 5) = some (i64 (at6 l i).2.2) := fun L hi0 => by
        have := ((Sl_freeze.2 s).app L).cell (i * 6 + 5) (by omega)
        rw [p6] at this
        rw [hi0] at this ⊢
        simpa using this
      have s0 : slAt 6 v (i64 0) = some (.pointer (some ⟨slB v, slO v, none⟩)) := by have := s.at (k := .i64) (i := 0) (by omega) (by omega); simpa using this
      have cn : cI D ++ [i64 (i : Int)] = cI (D ++ [(i : Int)]) := by simp [cI]
      have one := one_cI D
      have cp := cI_pl D
      have cp1 := cI_pl (D ++ [(i : Int)])
      have cl := cI_len D
      unfold failB at hn
      generalize bt i = B at *
      obtain ⟨B1, B2⟩ := B
      generalize at6 l i = X at *
      obtain ⟨⟨x1, x2, x3, x4⟩, y1, y2⟩ := X
      simp only [enc4] at p4 pp
      simp only [vT] at k53i
      simp only at hn p5 p6 q5 q6
      by_cases q : (decide (B2 < y1) || decide (y2 < B1)) = true
      · rw [if_pos q] at hn
        by_cases qa : B2 < y1
        · rcases Nat.eq_zero_or_pos i with z0 | z0
          · have e : D = [] := List.eq_nil_of_length_eq_zero (by omega)
            subst z0 e
            rw [if_pos rfl]
            have pp0 := fun L => pp L rfl
            have q50 := fun L => q5 L rfl
            have q60 := fun L => q6 L rfl
            simp [hlt, s0, pp0, q50, q60, -collect_own1, Nat.add_assoc, k53i, t.len, t.take, r, lne, w1', qa, Int.not_le.2 qa, qa, fillL, zeros, E.append, E.added, tp, St.tidy, collect_box, s.own]
            exact ⟨by decide, l.length - 1, by omega, 1, by omega, by omega, by rw [show fdL bt l 1 = D1 from hD1, hn, if_neg (by simp)]; simp [cI]⟩
          · by_cases z : D = []
            · rw [if_pos z]
              simp [hlti, hlt, Nat.not_le.2 hlt, p4, p5, p6, k4, k5, k6, -collect_own1, Nat.add_assoc, k53i, t.len, t.take, r, lne, w1', qa, Int.not_le.2 qa, qa, fillL, zeros, E.append, E.added, tp, St.tidy, collect_box, s.own]
              exact ⟨by decide, l.length - (i + 1), by omega, i + 1, rfl, by omega, by rw [hD1, hn, z, if_neg (by simp)]; simp [cI]⟩
            · rw [if_neg z]
              simp [hlti, hlt, Nat.not_le.2 hlt, p4, p5, p6, k4, k5, k6, -collect_own1, Nat.add_assoc, k53i, t.len, t.take, r, lne, w1', qa, Int.not_le.2 qa, qa, fillL, zeros, E.append, E.added, tp, St.tidy, collect_box, s.own, cl, cn, cp1]
              exact ⟨⟨by omega, by unfold maxLen; omega⟩, l.length - (i + 1), by omega, i + 1, rfl, by omega, by rw [hD1, hn, if_neg (by simp)]; simp⟩
        · have qb : y2 < B1 := by simpa [qa] using q
          rcases Nat.eq_zero_or_pos i with z0 | z0
          · have e : D = [] := List.eq_nil_of_length_eq_zero (by omega)
            subst z0 e
            rw [if_pos rfl]
            have pp0 := fun L => pp L rfl
            have q50 := fun L => q5 L rfl
            have q60 := fun L => q6 L rfl
            simp [hlt, s0, pp0, q50, q60, -collect_own1, Nat.add_assoc, k53i, t.len, t.take, r, lne, w1', qa, Int.not_lt.1 qa, qb, Int.not_le.2 qb, fillL, zeros, E.append, E.added, tp, St.tidy, collect_box, s.own]
            exact ⟨by decide, l.length - 1, by omega, 1, by omega, by omega, by rw [show fdL bt l 1 = D1 from hD1, hn, if_neg (by simp)]; simp [cI]⟩
          · by_cases z : D = []
            · rw [if_pos z]
              simp [hlti, hlt, Nat.not_le.2 hlt, p4, p5, p6, k4, k5, k6, -collect_own1, Nat.add_assoc, k53i, t.len, t.take, r, lne, w1', qa, Int.not_lt.1 qa, qb, Int.not_le.2 qb, fillL, zeros, E.append, E.added, tp, St.tidy, collect_box, s.own]
              exact ⟨by decide, l.length - (i + 1), by omega, i + 1, rfl, by omega, by rw [hD1, hn, z, if_neg (by simp)]; simp [cI]⟩
            · rw [if_neg z]
              simp [hlti, hlt, Nat.not_le.2 hlt, p4, p5, p6, k4, k5, k6, -collect_own1, Nat.add_assoc, k53i, t.len, t.take, r, lne, w1', qa, Int.not_lt.1 qa, qb, Int.not_le.2 qb, fillL, zeros, E.append, E.added, tp, St.tidy, collect_box, s.own, cl, cn, cp1]
              exact ⟨⟨by omega, by unfold maxLen; omega⟩, l.length - (i + 1), by omega, i + 1, rfl, by omega, by rw [hD1, hn, if_neg (by simp)]; simp⟩
      · rw [if_neg q] at hn
        rw [Bool.not_eq_true, Bool.or_eq_false_iff, decide_eq_false_iff_not, decide_eq_false_iff_not] at q
        obtain ⟨qa, qb⟩ := q
        rcases Nat.eq_zero_or_pos i with z0 | z0
        · have e : D = [] := List.eq_nil_of_length_eq_zero (by omega)
          subst z0 e
          rw [if_pos rfl]
          have pp0 := fun L => pp L rfl
          have q50 := fun L => q5 L rfl
          have q60 := fun L => q6 L rfl
          simp [hlt, s0, pp0, q50, q60, -collect_own1, Nat.add_assoc, k53i, t.len, t.take, r, lne, w1', qa, Int.not_lt.1 qa, qb, Int.not_lt.1 qb, fillL, zeros, E.append, E.added, tp, St.tidy, collect_box, s.own]
          exact ⟨l.length - 1, by omega, 1, by omega, by omega, by rw [show fdL bt l 1 = D1 from hD1, hn, if_pos rfl]; simp⟩
        · by_cases z : D = []
          · rw [if_pos z]
            simp [hlti, hlt, Nat.not_le.2 hlt, p4, p5, p6, k4, k5, k6, -collect_own1, Nat.add_assoc, k53i, t.len, t.take, r, lne, w1', qa, Int.not_lt.1 qa, qb, Int.not_lt.1 qb, fillL, zeros, E.append, E.added, tp, St.tidy, collect_box, s.own]
            exact ⟨l.length - (i + 1), by omega, i + 1, rfl, by omega, by rw [hD1, hn, if_pos z]; simp⟩
          · rw [if_neg z]
            simp [hlti, hlt, Nat.not_le.2 hlt, p4, p5, p6, k4, k5, k6, -collect_own1, Nat.add_assoc, k53i, t.len, t.take, r, lne, w1', qa, Int.not_lt.1 qa, qb, Int.not_lt.1 qb, fillL, zeros, E.append, E.added, tp, St.tidy, collect_box, s.own, cp]
            exact ⟨l.length - (i + 1), by omega, i + 1, rfl, by omega, by rw [hD1, hn, if_neg z]; simp⟩
    · obtain rfl : i = l.length := by omega
      have cp := cI_pl (fdL bt l l.length)
      by_cases z : fdL bt l l.length = []
      · rw [if_pos z]
        simp [iV, iB, z, r]
      · rw [if_neg z]
        simp [iV, iB, z, r, cp]
end Z.U
end Go.Abs
