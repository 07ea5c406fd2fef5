/- Notes of tests: what stands more than once is taken out. -/
import Derived.Test.YtfbelnhibipndaaGreatDoorAbsZULO
import Derived.Test.YtfbelnhibipndaaGreatDoorAbsZUKN
import Derived.Test.YtfbelnhibipndaaGreatDoorAbsZUKM
set_option linter.unusedSimpArgs false
set_option linter.unusedVariables false
/- Notes of tests: what stands more than once is taken out. -/
namespace Go.Abs
namespace Z.U
set_option maxRecDepth 100000
set_option maxHeartbeats 0
theorem ixL {l : List Int} {k : Nat} (hk : k < l.length) : (k : Int) < (l.length : Int) ∧ (cI l)[k]? = some (i64 (gI l k)) ∧ (∀ hh, (cI l)[k]'hh = i64 (gI l k)) ∧ k + 1 ≤ l.length ∧ k < l.length := by
  have e : (cI l)[k]? = some (i64 (gI l k)) := by rw [cI_get, gI_eq hk, List.getElem?_eq_getElem hk]; rfl
  refine ⟨by omega, e, fun hh => ?_, by omega, hk⟩
  rw [List.getElem?_eq_getElem hh] at e
  exact Option.some.inj e
theorem gI_set {l : List Int} {i j : Nat} {x : Int} (hi : i < l.length) : gI (l.set i x) j = if i = j then x else gI l j := by
  unfold gI
  rw [List.getD_eq_getElem?_getD, List.getD_eq_getElem?_getD, List.getElem?_set]
  by_cases e : i = j
  · subst e; simp [hi]
  · simp [e]
theorem gI_ext {l m : List Int} (hl : l.length = m.length) (h : ∀ i, i < l.length → gI l i = gI m i) : l = m := by
  apply List.ext_getElem hl
  intro i h1 h2
  have := h i h1
  rwa [gI_eq h1, gI_eq h2] at this
/-- The first numbers, each once where it stands in a row. -/
def dd (l : List Int) : Nat → List Int
  | 0 => []
  | k + 1 => if k = 0 ∨ gI l k ≠ gI l (k - 1) then dd l k ++ [gI l k] else dd l k
theorem dd_len (l : List Int) : ∀ k, (dd l k).length ≤ k
  | 0 => Nat.le_refl _
  | k + 1 => by
    have := dd_len l k
    unfold dd
    split
    · rw [List.length_append]; simp; omega
    · omega
theorem take_succ' {l : List Int} {k : Nat} (h : k < l.length) : l.take (k + 1) = l.take k ++ [gI l k] := by
  rw [gI_eq h, List.take_add_one, List.getElem?_eq_getElem h]; rfl
theorem dd_pair {l : List Int} {k : Nat} (hk : k ≠ 0) (h : gI l k ≠ gI l (k - 1)) : dd l (k + 1) = dd l k ++ [gI l k] := by rw [dd, if_pos (.inr h)]
theorem dd_same {l : List Int} {k : Nat} (hk : k ≠ 0) (h : gI l k = gI l (k - 1)) : dd l (k + 1) = dd l k := by
  rw [dd, if_neg (fun z => by rcases z with z | z <;> contradiction)]
theorem splice_z : ∀ (k w : Nat) (X : List Int), w + k = X.length → splice (cI X) w (List.replicate k (i64 0)) = cI (X.take w ++ List.replicate k 0)
  | 0, w, X, h => by
    rw [show List.replicate 0 (i64 0) = [] from rfl, splice, List.take_of_length_le (by omega)]; simp
  | k + 1, w, X, h => by
    rw [List.replicate_succ, splice, cI_set, splice_z k (w + 1) (X.set w 0) (by rw [List.length_set]; omega), take_succ' (by rw [List.length_set]; omega), gI_set (by omega), if_pos rfl, List.take_set_of_le (Nat.le_refl _), List.append_assoc]
    rfl
/-- What is left of a row: what stands once, then zeros. -/
def ddz (l : List Int) : List Int := dd l l.length ++ List.replicate (l.length - (dd l l.length).length) 0
theorem c116 {D lim : Nat} {h : Heap} {b : Nat} (hb : b < h.length) {l : List Int} (hl : l.length ≤ 1000) :
    E.call (D + 1) lim 116 [vS b l.length] (sH h b l) = some (vS b (dd l l.length).length, sH h b (ddz l)) := by
  have key : ∃ v h', E.call (D + 1) lim 116 [vS b l.length] (sH h b l) = some (v, h') ∧ v = vS b (dd l l.length).length ∧ h' = sH h b (ddz l) := by
    refine call_trunc (Q := fun v h' => v = vS b (dd l l.length).length ∧ h' = sH h b (ddz l)) fn116 rfl (by simp [ef116]) ?_
    have tk := fun x => sH_take (h := h) (b := b) x
    have all : dd l l.length = l → ddz l = l := fun e => by unfold ddz; rw [e, Nat.sub_self]; simp
    by_cases h2 : l.length < 2
    · have h2i : (l.length : Int) < 2 := by omega
      have e : dd l l.length = l := by
        match l, h2 with
        | [], _ => rfl
        | [x], _ => rfl
      have e2 := all e
      rw [e, e2]
      simp [ef116, h2, h2i, Int.not_le.2 h2i, Nat.not_le.2 h2, tk, hb]
    have h2i : ¬ (l.length : Int) < 2 := by omega
    generalize hn : l.length = n at *
    simp [ef116, h2, h2i, Int.not_lt.1 h2i]
    refine wpC_loop (fun q st => ∃ i : Nat, q = n - i ∧ 1 ≤ i ∧ i ≤ n ∧ dd l i = l.take i ∧ st = ⟨[(0, vS b n), (3, i64 (i : Int))], sH h b l⟩) (n - 1) (by show n - 1 < 2 ^ 64; omega) ?_ ?_
    · simp [St.tidy, hb, sH_take]
      exact ⟨1, rfl, by omega, by omega, by rw [take_succ' (by omega)]; simp [dd], rfl⟩
    · rintro q hq _ ⟨i, rfl, hi1, hi, hd, rfl⟩
      by_cases lt : i < n
      · have lti : (i : Int) < n := by omega
        obtain ⟨p1, p2, p3, p4, p5⟩ := ixL (l := l) (k := i) (by omega)
        obtain ⟨q1, q2, q3, q4, q5⟩ := ixL (l := l) (k := i - 1) (by omega)
        rw [hn] at p1 p4 p5 q1 q4 q5
        have w1' := w1 (i := i) (by omega)
        have wm := wm1 (i := i) (by omega) (by omega)
        by_cases z : gI l i = gI l (i - 1)
        case neg =>
          simp [lt, lti, Nat.not_le.2 lt, Int.not_le.2 lti, p1, p2, p3, p4, p5, q1, q2, q3, q4, q5, w1', wm, z, sH_cell hb, St.tidy, hb, sH_take]
          exact ⟨n - (i + 1), by omega, i + 1, rfl, by omega, by omega, by rw [dd_pair (by omega) z, hd, take_succ' (by omega)], by omega⟩
        simp [lt, lti, Nat.not_le.2 lt, Int.not_le.2 lti, p1, p2, p3, p4, p5, q1, q2, q3, q4, q5, w1', wm, z, sH_cell hb, E.bound]
        refine ⟨by omega, ?_⟩
        clear p1 p2 p3 p4 p5 q1 q2 q3 q4 q5 w1' wm
        obtain ⟨r, hr⟩ : ∃ r, r = n - i := ⟨_, rfl⟩
        rw [← hr]
        refine wpC_loop (fun q st => ∃ (m w : Nat) (X : List Int), q = r - m ∧ 1 ≤ m ∧ m ≤ r ∧ X.length = n ∧ X.take w = dd l (i + m) ∧ w = (dd l (i + m)).length ∧ w ≤ i + m - 1 ∧ (∀ j, i + m - 1 ≤ j → j < n → gI X j = gI l j) ∧ st = ⟨[(0, vS b n), (3, i64 (w : Int)), (4, .slice (some ⟨b, i, none⟩) r 1), (5, i64 (m : Int))], sH h b X⟩) (r - 1) (by show r - 1 < 2 ^ 64; omega) ?_ ?_
        · simp [St.tidy, hb, sH_take]
          have e1 : dd l (i + 1) = l.take i := by rw [dd_same (by omega) z, hd]
          have e2 : (l.take i).length = i := by rw [List.length_take]; omega
          exact ⟨1, rfl, by omega, by omega, i, l, hn, by rw [e1], by rw [e1, e2], by omega, fun _ _ _ => rfl, ⟨rfl, rfl⟩, rfl⟩
        · rintro q hq _ ⟨m, w, X, rfl, hm1, hm, hX, hXt, hw, hwm, hXl, rfl⟩
          have cl : (cI X).length = n := by rw [cI_len, hX]
          by_cases lt2 : m < r
          · have lt2i : (m : Int) < r := by omega
            obtain ⟨p1, p2, p3, p4, p5⟩ := ixL (l := X) (k := i + m) (by omega)
            obtain ⟨q1, q2, q3, q4, q5⟩ := ixL (l := X) (k := i + (m - 1)) (by omega)
            rw [hX] at p1 p4 p5 q1 q4 q5
            rw [hXl (i + m) (by omega) (by omega)] at p2 p3
            rw [hXl (i + (m - 1)) (by omega) (by omega)] at q2 q3
            have w1' := w1 (i := m) (by omega)
            have ww := w1 (i := w) (by omega)
            have wm := wm1 (i := m) (by omega) (by omega)
            have m1i : ((m - 1 : Nat) : Int) < r := by omega
            have hXl' : ∀ j, i + (m + 1) - 1 ≤ j → j < n → gI X j = gI l j := fun j h1 h2 => hXl j (by omega) h2
            by_cases y : gI l (i + m) = gI l (i + (m - 1))
            · have e1 : dd l (i + (m + 1)) = dd l (i + m) := dd_same (k := i + m) (by omega) (by rw [y]; congr 1; omega)
              simp [lt2, lt2i, Nat.not_le.2 lt2, Int.not_le.2 lt2i, m1i, p1, p2, p3, p4, p5, q1, q2, q3, q4, q5, w1', wm, y, sH_cell hb, St.tidy, hb, sH_take]
              exact ⟨r - (m + 1), by omega, m + 1, rfl, by omega, by omega, w, X, hX, by rw [e1]; exact hXt, by rw [e1]; exact hw, by omega, fun j h1 h2 => hXl j (by omega) h2, ⟨rfl, by omega⟩, rfl⟩
            · have e1 : dd l (i + (m + 1)) = dd l (i + m) ++ [gI l (i + m)] := dd_pair (k := i + m) (by omega) (by rw [show i + m - 1 = i + (m - 1) by omega]; exact y)
              have wn : (w : Int) < n := by omega
              have wk : w < n := by omega
              have nx : noAddr (i64 (gI l (i + m))) = true := rfl
              simp [lt2, lt2i, Nat.not_le.2 lt2, Int.not_le.2 lt2i, m1i, p1, p2, p3, p4, p5, q1, q2, q3, q4, q5, w1', wm, ww, y, wn, wk, sH_get hb, sH_cell hb, sH_put, cl, cI_set, nx, St.tidy, hb, sH_take]
              refine ⟨by omega, r - (m + 1), by omega, m + 1, rfl, by omega, by omega, w + 1, X.set w (gI l (i + m)), by rw [List.length_set, hX], ?_, by rw [e1, List.length_append, ← hw]; rfl, by omega, fun j h1 h2 => ?_, ⟨by omega, by omega⟩, rfl⟩
              · rw [take_succ' (by rw [List.length_set, hX]; exact wk), gI_set (by omega), if_pos rfl, List.take_set_of_le (Nat.le_refl _), hXt, e1]
              · rw [gI_set (by omega), if_neg (by omega)]; exact hXl j (by omega) h2
          · obtain rfl : m = r := by omega
            have wn : w ≤ n := by omega
            have wn0 : ¬ n ≤ w := by omega
            have nw : n - w ≠ 0 := by omega
            have im : i + m = n := by omega
            rw [im] at hXt hw hwm
            simp [E.bound, wn, wn0, nw, sH_get hb, cl, hb]
            refine ⟨hw, ?_⟩
            rw [show zeros [Value.int IntKind.i64 0] (n - w) = List.replicate (n - w) (i64 0) from rfl, splice_z (n - w) w X (by omega), hXt, sH_put, sH_take]
            unfold ddz
            rw [hn, hw]
      · obtain rfl : i = n := by omega
        have e : dd l i = l := by rw [hd, ← hn, List.take_length]
        have e2 := all e
        rw [e, e2, hn]
        simp [tk, hb]
  obtain ⟨v, h', e1, rfl, rfl⟩ := key
  exact e1
end Z.U
end Go.Abs
/- Notes of tests. -/
namespace Go.Abs
namespace Z.U
set_option maxRecDepth 100000
set_option maxHeartbeats 0
theorem c116n {D lim : Nat} {h : Heap} : E.call (D + 1) lim 116 [.slice none 0 0] h = some (.slice none 0 0, h) := by
  have key : ∃ v h', E.call (D + 1) lim 116 [.slice none 0 0] h = some (v, h') ∧ v = .slice none 0 0 ∧ h' = h := by
    refine call_trunc (Q := fun v h' => v = .slice none 0 0 ∧ h' = h) fn116 rfl (by simp [ef116]) ?_
    have tk : List.take h.length h = h := List.take_length
    simp [ef116, tk]
  obtain ⟨v, h', e1, rfl, rfl⟩ := key
  exact e1
def nts (l : List P4) : Nat → List Int
  | 0 => []
  | k + 1 => nts l k ++ [(at4 l k).1, (at4 l k).2.1]
theorem nts_len (l : List P4) : ∀ k, (nts l k).length = k * 2
  | 0 => rfl
  | k + 1 => by rw [nts, List.length_append, nts_len l k]; simp; omega
theorem mem_nts {l : List P4} {x : Int} : ∀ k, x ∈ nts l k ↔ ∃ j, j < k ∧ ((at4 l j).1 = x ∨ (at4 l j).2.1 = x)
  | 0 => by simp [nts]
  | k + 1 => by
    rw [nts, List.mem_append, mem_nts k]
    constructor
    · rintro (⟨j, hj, e⟩ | h)
      · exact ⟨j, by omega, e⟩
      · refine ⟨k, by omega, ?_⟩
        rcases List.mem_cons.1 h with e | e
        · exact .inl e.symm
        · exact .inr (List.mem_singleton.1 e).symm
    · rintro ⟨j, hj, e⟩
      by_cases z : j < k
      · exact .inl ⟨j, z, e⟩
      · obtain rfl : j = k := by omega
        refine .inr ?_
        rcases e with e | e
        · rw [e]; simp
        · rw [e]; simp
def ntS (l : List P4) : List Int := srt (nts l l.length)
/-- The notes, ascending. -/
def ntD (l : List P4) : List Int := dd (ntS l) (ntS l).length
theorem ntS_len (l : List P4) : (ntS l).length = l.length * 2 := by unfold ntS srt; rw [List.length_mergeSort, nts_len]
def ntV (l : List P4) (b : Nat) : Value := if l.length = 0 then .slice none 0 0 else vS b (ntD l).length
def ntB (l : List P4) : List (Option Blk) := if l.length = 0 then [] else [some ⟨cI (ddz (ntS l)), true⟩]
theorem cI_plain (l : List Int) : (cI l).all plainV = true := by simp [cI, plainV]
theorem c73 {D lim : Nat} {h : Heap} {v : Value} {l : List P4} (s : Sl4 h v l) (hl : l.length ≤ 12) : E.call (D + 8) lim 73 [v] h = some (ntV l h.length, h ++ ntB l) := by
  have r := s.rules2
  refine call_pure fn73 rfl (by simp [ef73]) ?_
  have k105n := fun lim H => c115n (D := D) (lim := lim) (h := H)
  have k106n := fun lim H => c116n (D := D + 6) (lim := lim) (h := H)
  have sh : ∀ L : List Int, sH (h.freeze ++ [some ⟨[], true⟩]) h.length L = h.freeze ++ [some ⟨cI L, true⟩] := fun L => by
    show Heap.put (h.freeze ++ [some ⟨[], true⟩]) h.length _ = _
    rw [hput_base0 (by simp)]; rfl
  have k105 := fun lim => c115 (D := D) (lim := lim) (h := h.freeze ++ [some ⟨[], true⟩]) (b := h.length) (by simp) (l := nts l l.length) (by rw [nts_len]; omega)
  have k106 := fun lim => c116 (D := D + 6) (lim := lim) (h := h.freeze ++ [some ⟨[], true⟩]) (b := h.length) (by simp) (l := ntS l) (by rw [ntS_len]; omega)
  rw [sh, sh, nts_len] at k105
  rw [sh, sh, ntS_len, ← ntS_len] at k106
  have e0 : srt (nts l l.length) = ntS l := rfl
  rw [e0] at k105
  have e1 : dd (ntS l) (ntS l).length = ntD l := rfl
  rw [e1, ntS_len] at k106
  unfold ntV ntB
  simp [ef73, r]
  refine wpC_loop (fun q st => ∃ i : Nat, q = l.length - i ∧ i ≤ l.length ∧ st = ⟨[(3, if i = 0 then .slice none 0 0 else vS h.length (i * 2)), (6, v), (7, i64 (l.length : Int)), (8, i64 (i : Int))], h.freeze ++ (if i = 0 then [] else [some ⟨cI (nts l i), true⟩])⟩) l.length (by show l.length < 2 ^ 64; omega) ?_ ?_
  · simp [St.tidy, r]
    exact ⟨0, by omega, by omega, by simp⟩
  · rintro q hq _ ⟨i, rfl, hi, rfl⟩
    by_cases hlt : i < l.length
    · have hlti : (i : Int) < l.length := by omega
      have w1' := w1 (i := i) (by omega)
      have p4 := c4_part hlt
      have k4 : i * 4 + 4 ≤ l.length * 4 := by omega
      have hnx : cI (nts l i) ++ [i64 (at4 l i).1, i64 (at4 l i).2.1] = cI (nts l (i + 1)) := by rw [nts]; simp [cI]
      have len := nts_len l i
      have one := one_cI (nts l i)
      have cp := cI_plain (nts l (i + 1))
      have cl : (cI (nts l i)).length = i * 2 := by rw [cI_len, len]
      rcases Nat.eq_zero_or_pos i with z0 | z0
      · subst z0
        have s0 : slAt 4 v (i64 0) = some (.pointer (some ⟨slB v, slO v, none⟩)) := by have := s.at (k := .i64) (i := 0) (by omega) (by omega); simpa using this
        have pp : h.part (slB v) (slO v) 4 = some (.agg #[i64 (at4 l 0).1, i64 (at4 l 0).2.1, i64 (at4 l 0).2.2.1, i64 (at4 l 0).2.2.2]) := by
          have := s.part (k := 0) (m := 4) (by omega) (by decide)
          rw [Nat.add_zero] at this
          rw [this, show (0 : Nat) = 0 * 4 from rfl, p4]
        simp [-collect_own1, hlt, s0, pp, r, fillL, zeros, E.append, E.added, w1', St.tidy, collect_box, s.own]
        exact ⟨by decide, l.length - 1, by omega, 1, by omega, by omega, ⟨rfl, rfl⟩, by rw [if_neg (by decide)]; exact congrArg (fun c => [some (Blk.mk c true)]) hnx⟩
      · have n0 : i ≠ 0 := by omega
        simp [-collect_own1, n0, hlti, hlt, Nat.not_le.2 hlt, r, p4, k4, fillL, zeros, E.append, E.added, cl, hnx, cp, w1', St.tidy, collect_box, s.own]
        exact ⟨⟨by omega, by unfold maxLen; omega⟩, l.length - (i + 1), by omega, i + 1, by omega, by omega, ⟨by rw [if_neg (by omega)]; congr 1; omega, by omega⟩, by rw [if_neg (by omega)]⟩
    · obtain rfl : i = l.length := by omega
      by_cases z0 : l.length = 0
      · have hnil := List.eq_nil_of_length_eq_zero z0
        subst hnil
        simp [k105n, k106n]
      · have cp := cI_plain (ddz (ntS l))
        have hnil : ¬ l = [] := fun e => z0 (by rw [e]; rfl)
        simp [z0, hnil, k105, k106, cp]
end Z.U
end Go.Abs
/- Signatures of notes. -/
namespace Go.Abs
namespace Z.U
set_option maxRecDepth 100000
set_option maxHeartbeats 0
set_option linter.unusedSimpArgs false
/-- A list that grew in a block of its own. -/
def lV (b : Nat) (L : List Int) : Value := if L = [] then .slice none 0 0 else vS b L.length
def lB (L : List Int) : List (Option Blk) := if L = [] then [] else [some ⟨cI L, true⟩]
def isIn (x : P4) (n : Int) : Bool := decide (x.1 = n) || decide (x.2.1 = n)
/-- The numbers of the tests in which a note is. -/
def sg (l : List P4) (n : Int) : Nat → List Int
  | 0 => []
  | k + 1 => if isIn (at4 l k) n = true then sg l n k ++ [(k : Int)] else sg l n k
theorem sg_len (l : List P4) (n : Int) : ∀ k, (sg l n k).length ≤ k
  | 0 => Nat.le_refl _
  | k + 1 => by
    have := sg_len l n k
    unfold sg
    split
    · rw [List.length_append]; simp; omega
    · omega
theorem mem_sg {l : List P4} {n x : Int} : ∀ k, x ∈ sg l n k ↔ ∃ j : Nat, j < k ∧ x = j ∧ isIn (at4 l j) n = true
  | 0 => by simp [sg]
  | k + 1 => by
    unfold sg
    by_cases z : isIn (at4 l k) n = true
    · rw [if_pos z, List.mem_append, mem_sg k]
      constructor
      · rintro (⟨j, hj, e⟩ | h)
        · exact ⟨j, by omega, e⟩
        · exact ⟨k, by omega, List.mem_singleton.1 h, z⟩
      · rintro ⟨j, hj, e, y⟩
        by_cases w : j < k
        · exact .inl ⟨j, w, e, y⟩
        · obtain rfl : j = k := by omega
          exact .inr (by rw [e]; simp)
    · rw [if_neg z, mem_sg k]
      constructor
      · rintro ⟨j, hj, e⟩; exact ⟨j, by omega, e⟩
      · rintro ⟨j, hj, e, y⟩
        by_cases w : j < k
        · exact ⟨j, w, e, y⟩
        · obtain rfl : j = k := by omega
          exact absurd y z
def sgA (l : List P4) (n : Int) : List Int := sg l n l.length
theorem c41 {d lim : Nat} {h : Heap} {v : Value} {l : List P4} {n : Int} (s : Sl4 h v l) (hl : l.length ≤ 1000) : E.call (d + 1) lim 41 [v, i64 n] h = some (lV h.length (sgA l n), h ++ lB (sgA l n)) := by
  have r := s.rules2
  refine call_pure fn41 rfl (by simp [ef41]) ?_
  generalize hA : sgA l n = A
  unfold sgA at hA
  simp [ef41, r]
  refine wpC_loop (fun q st => ∃ (i : Nat) (S : List Int), q = l.length - i ∧ i ≤ l.length ∧ S = sg l n i ∧ st = ⟨[(0, v), (1, i64 n), (5, lV h.length S), (6, i64 (i : Int))], h.freeze ++ lB S⟩) l.length (by show l.length < 2 ^ 64; omega) ?_ ?_
  · simp [St.tidy, r]
    exact ⟨0, by omega, by omega, ⟨by simp [sg, lV], rfl⟩, by simp [sg, lB]⟩
  · rintro q hq _ ⟨i, S, rfl, hi, hS, rfl⟩
    by_cases hlt : i < l.length
    · have hlti : (i : Int) < l.length := by omega
      have w1' := w1 (i := i) (by omega)
      have p4 := c4_part hlt
      have p0 := c4_0 hlt
      have p1 := c4_1 hlt
      have k4 : i * 4 + 4 ≤ l.length * 4 := by omega
      have k0 : i * 4 < l.length * 4 := by omega
      have k1 : i * 4 + 1 < l.length * 4 := by omega
      have s0 : slAt 4 v (i64 0) = some (.pointer (some ⟨slB v, slO v, none⟩)) := by have := s.at (k := .i64) (i := 0) (by omega) (by omega); simpa using this
      have pp : ∀ L, Heap.part (h.freeze ++ L) (slB v) (slO v) 4 = some (.agg #[i64 (at4 l 0).1, i64 (at4 l 0).2.1, i64 (at4 l 0).2.2.1, i64 (at4 l 0).2.2.2]) := by
        intro L
        have := ((Sl_freeze.2 s).app L).part (k := 0) (m := 4) (by omega) (by decide)
        rw [Nat.add_zero] at this
        rw [this, show (0 : Nat) = 0 * 4 from rfl, c4_part (by omega)]
      have pp0 : h.part (slB v) (slO v) 4 = some (.agg #[i64 (at4 l 0).1, i64 (at4 l 0).2.1, i64 (at4 l 0).2.2.1, i64 (at4 l 0).2.2.2]) := by
        have := s.part (k := 0) (m := 4) (by omega) (by decide)
        rw [Nat.add_zero] at this
        rw [this, show (0 : Nat) = 0 * 4 from rfl, c4_part (by omega)]
      have cc0 : h.cell (slB v) (slO v) = some (i64 (at4 l 0).1) := by
        have := s.cell 0 (by omega)
        rw [Nat.add_zero] at this
        rw [this, show (0 : Nat) = 0 * 4 from rfl, c4_0 (by omega)]
      have cc1 : h.cell (slB v) (slO v + 1) = some (i64 (at4 l 0).2.1) := by
        have := s.cell 1 (by omega)
        rw [this, show (1 : Nat) = 0 * 4 + 1 from rfl, c4_1 (by omega)]
      have sl := sg_len l n i
      rw [← hS] at sl
      have iff : isIn (at4 l i) n = true ↔ (at4 l i).1 = n ∨ (at4 l i).2.1 = n := by simp [isIn]
      by_cases z : (at4 l i).1 = n ∨ (at4 l i).2.1 = n
      · have hn : sg l n (i + 1) = S ++ [(i : Int)] := by rw [sg, if_pos (iff.2 z), hS]
        have cn : cI S ++ [i64 (i : Int)] = cI (S ++ [(i : Int)]) := by simp [cI]
        have one := one_cI S
        have cp := cI_plain (S ++ [(i : Int)])
        have cl := cI_len S
        by_cases e : S = []
        · subst e
          simp only [List.nil_append] at hn cn cp
          rcases Nat.eq_zero_or_pos i with z0 | z0
          · subst z0
            have F : ∀ y : (at4 l 0).1 = n ∨ (at4 l 0).1 ≠ n, True := fun _ => trivial
            by_cases y : (at4 l 0).1 = n
            · simp [-collect_own1, lV, lB, s0, pp, pp0, cc0, cc1, hlt, r, y, fillL, zeros, E.append, E.added, w1', St.tidy, collect_box, s.own]
              exact ⟨by decide, l.length - 1, by omega, 1, by omega, by omega, ⟨by rw [hn]; simp, rfl⟩, by rw [hn]; simp [cI]⟩
            · have y2 := z.resolve_left y
              simp [-collect_own1, lV, lB, s0, pp, pp0, cc0, cc1, hlt, r, y, y2, fillL, zeros, E.append, E.added, w1', St.tidy, collect_box, s.own]
              exact ⟨by decide, l.length - 1, by omega, 1, by omega, by omega, ⟨by rw [hn]; simp, rfl⟩, by rw [hn]; simp [cI]⟩
          · by_cases y : (at4 l i).1 = n
            · simp [-collect_own1, lV, lB, hlti, hlt, Nat.not_le.2 hlt, r, p4, p0, p1, k4, k0, k1, y, fillL, zeros, E.append, E.added, w1', St.tidy, collect_box, s.own]
              exact ⟨by decide, l.length - (i + 1), by omega, i + 1, by omega, by omega, ⟨by rw [hn]; simp, by omega⟩, by rw [hn]; simp [cI]⟩
            · have y2 := z.resolve_left y
              simp [-collect_own1, lV, lB, hlti, hlt, Nat.not_le.2 hlt, r, p4, p0, p1, k4, k0, k1, y, y2, fillL, zeros, E.append, E.added, w1', St.tidy, collect_box, s.own]
              exact ⟨by decide, l.length - (i + 1), by omega, i + 1, by omega, by omega, ⟨by rw [hn]; simp, by omega⟩, by rw [hn]; simp [cI]⟩
        · have i0 : i ≠ 0 := fun y => by subst y; rw [sg] at hS; exact e hS
          have ne : ¬ S ++ [(i : Int)] = [] := by simp
          by_cases y : (at4 l i).1 = n
          · simp [-collect_own1, lV, lB, e, hlti, hlt, Nat.not_le.2 hlt, r, p4, p0, p1, k4, k0, k1, y, fillL, zeros, E.append, E.added, cl, cn, cp, w1', St.tidy, collect_box, s.own]
            exact ⟨⟨by omega, by unfold maxLen; omega⟩, l.length - (i + 1), by omega, i + 1, by omega, by omega, ⟨by rw [hn]; simp, by omega⟩, by rw [hn]; simp⟩
          · have y2 := z.resolve_left y
            simp [-collect_own1, lV, lB, e, hlti, hlt, Nat.not_le.2 hlt, r, p4, p0, p1, k4, k0, k1, y, y2, fillL, zeros, E.append, E.added, cl, cn, cp, w1', St.tidy, collect_box, s.own]
            exact ⟨⟨by omega, by unfold maxLen; omega⟩, l.length - (i + 1), by omega, i + 1, by omega, by omega, ⟨by rw [hn]; simp, by omega⟩, by rw [hn]; simp⟩
      · have hn : sg l n (i + 1) = S := by rw [sg, if_neg (fun y => z (iff.1 y)), hS]
        rw [not_or] at z
        have cp := cI_plain S
        by_cases e : S = []
        · subst e
          rcases Nat.eq_zero_or_pos i with z0 | z0
          · subst z0
            simp [-collect_own1, lV, lB, s0, pp, pp0, cc0, cc1, hlt, r, z.1, z.2, w1', St.tidy, collect_box, s.own]
            exact ⟨l.length - 1, by omega, 1, by omega, by omega, ⟨by simp [hn], rfl⟩, by simp [hn]⟩
          · simp [-collect_own1, lV, lB, hlti, hlt, Nat.not_le.2 hlt, r, p4, p0, p1, k4, k0, k1, z.1, z.2, w1', St.tidy, collect_box, s.own]
            exact ⟨l.length - (i + 1), by omega, i + 1, by omega, by omega, ⟨by simp [hn], by omega⟩, by simp [hn]⟩
        · have i0 : i ≠ 0 := fun y => by subst y; rw [sg] at hS; exact e hS
          simp [-collect_own1, lV, lB, e, hlti, hlt, Nat.not_le.2 hlt, r, p4, p0, p1, k4, k0, k1, z.1, z.2, cp, w1', St.tidy, collect_box, s.own]
          exact ⟨l.length - (i + 1), by omega, i + 1, by omega, by omega, ⟨by rw [hn]; simp [e], by omega⟩, by rw [hn]; simp [e]⟩
    · obtain rfl : i = l.length := by omega
      rw [hA] at hS
      subst hS
      have cp := cI_plain S
      by_cases e : S = []
      · subst e
        simp [lV, lB, r]
      · simp [lV, lB, e, cp, r]
theorem c122 {d lim : Nat} {h : Heap} {v : Value} {l : List P4} {n : Int} (s : Sl4 h v l) (hl : l.length ≤ 1000) : E.call (d + 1) lim 122 [v, i64 n] h = some (lV h.length (sgA l n), h ++ lB (sgA l n)) := by
  have r := s.rules2
  refine call_pure fn122 rfl (by simp [ef122]) ?_
  generalize hA : sgA l n = A
  unfold sgA at hA
  simp [ef122, r]
  refine wpC_loop (fun q st => ∃ (i : Nat) (S : List Int), q = l.length - i ∧ i ≤ l.length ∧ S = sg l n i ∧ st = ⟨[(1, i64 n), (5, lV h.length S), (8, v), (9, i64 (l.length : Int)), (10, i64 (i : Int))], h.freeze ++ lB S⟩) l.length (by show l.length < 2 ^ 64; omega) ?_ ?_
  · simp [St.tidy, r]
    exact ⟨0, by omega, by omega, ⟨by simp [sg, lV], rfl⟩, by simp [sg, lB]⟩
  · rintro q hq _ ⟨i, S, rfl, hi, hS, rfl⟩
    by_cases hlt : i < l.length
    · have hlti : (i : Int) < l.length := by omega
      have w1' := w1 (i := i) (by omega)
      have p4 := c4_part hlt
      have p0 := c4_0 hlt
      have p1 := c4_1 hlt
      have k4 : i * 4 + 4 ≤ l.length * 4 := by omega
      have k0 : i * 4 < l.length * 4 := by omega
      have k1 : i * 4 + 1 < l.length * 4 := by omega
      have s0 : slAt 4 v (i64 0) = some (.pointer (some ⟨slB v, slO v, none⟩)) := by have := s.at (k := .i64) (i := 0) (by omega) (by omega); simpa using this
      have pp : ∀ L, Heap.part (h.freeze ++ L) (slB v) (slO v) 4 = some (.agg #[i64 (at4 l 0).1, i64 (at4 l 0).2.1, i64 (at4 l 0).2.2.1, i64 (at4 l 0).2.2.2]) := by
        intro L
        have := ((Sl_freeze.2 s).app L).part (k := 0) (m := 4) (by omega) (by decide)
        rw [Nat.add_zero] at this
        rw [this, show (0 : Nat) = 0 * 4 from rfl, c4_part (by omega)]
      have pp0 : h.part (slB v) (slO v) 4 = some (.agg #[i64 (at4 l 0).1, i64 (at4 l 0).2.1, i64 (at4 l 0).2.2.1, i64 (at4 l 0).2.2.2]) := by
        have := s.part (k := 0) (m := 4) (by omega) (by decide)
        rw [Nat.add_zero] at this
        rw [this, show (0 : Nat) = 0 * 4 from rfl, c4_part (by omega)]
      have cc0 : h.cell (slB v) (slO v) = some (i64 (at4 l 0).1) := by
        have := s.cell 0 (by omega)
        rw [Nat.add_zero] at this
        rw [this, show (0 : Nat) = 0 * 4 from rfl, c4_0 (by omega)]
      have cc1 : h.cell (slB v) (slO v + 1) = some (i64 (at4 l 0).2.1) := by
        have := s.cell 1 (by omega)
        rw [this, show (1 : Nat) = 0 * 4 + 1 from rfl, c4_1 (by omega)]
      have sl := sg_len l n i
      rw [← hS] at sl
      have iff : isIn (at4 l i) n = true ↔ (at4 l i).1 = n ∨ (at4 l i).2.1 = n := by simp [isIn]
      by_cases z : (at4 l i).1 = n ∨ (at4 l i).2.1 = n
      · have hn : sg l n (i + 1) = S ++ [(i : Int)] := by rw [sg, if_pos (iff.2 z), hS]
        have cn : cI S ++ [i64 (i : Int)] = cI (S ++ [(i : Int)]) := by simp [cI]
        have one := one_cI S
        have cp := cI_plain (S ++ [(i : Int)])
        have cl := cI_len S
        by_cases e : S = []
        · subst e
          simp only [List.nil_append] at hn cn cp
          rcases Nat.eq_zero_or_pos i with z0 | z0
          · subst z0
            have F : ∀ y : (at4 l 0).1 = n ∨ (at4 l 0).1 ≠ n, True := fun _ => trivial
            by_cases y : (at4 l 0).1 = n
            · simp [-collect_own1, lV, lB, s0, pp, pp0, cc0, cc1, hlt, r, y, fillL, zeros, E.append, E.added, w1', St.tidy, collect_box, s.own]
              exact ⟨by decide, l.length - 1, by omega, 1, by omega, by omega, ⟨by rw [hn]; simp, rfl⟩, by rw [hn]; simp [cI]⟩
            · have y2 := z.resolve_left y
              simp [-collect_own1, lV, lB, s0, pp, pp0, cc0, cc1, hlt, r, y, y2, fillL, zeros, E.append, E.added, w1', St.tidy, collect_box, s.own]
              exact ⟨by decide, l.length - 1, by omega, 1, by omega, by omega, ⟨by rw [hn]; simp, rfl⟩, by rw [hn]; simp [cI]⟩
          · by_cases y : (at4 l i).1 = n
            · simp [-collect_own1, lV, lB, hlti, hlt, Nat.not_le.2 hlt, r, p4, p0, p1, k4, k0, k1, y, fillL, zeros, E.append, E.added, w1', St.tidy, collect_box, s.own]
              exact ⟨by decide, l.length - (i + 1), by omega, i + 1, by omega, by omega, ⟨by rw [hn]; simp, by omega⟩, by rw [hn]; simp [cI]⟩
            · have y2 := z.resolve_left y
              simp [-collect_own1, lV, lB, hlti, hlt, Nat.not_le.2 hlt, r, p4, p0, p1, k4, k0, k1, y, y2, fillL, zeros, E.append, E.added, w1', St.tidy, collect_box, s.own]
              exact ⟨by decide, l.length - (i + 1), by omega, i + 1, by omega, by omega, ⟨by rw [hn]; simp, by omega⟩, by rw [hn]; simp [cI]⟩
        · have i0 : i ≠ 0 := fun y => by subst y; rw [sg] at hS; exact e hS
          have ne : ¬ S ++ [(i : Int)] = [] := by simp
          by_cases y : (at4 l i).1 = n
          · simp [-collect_own1, lV, lB, e, hlti, hlt, Nat.not_le.2 hlt, r, p4, p0, p1, k4, k0, k1, y, fillL, zeros, E.append, E.added, cl, cn, cp, w1', St.tidy, collect_box, s.own]
            exact ⟨⟨by omega, by unfold maxLen; omega⟩, l.length - (i + 1), by omega, i + 1, by omega, by omega, ⟨by rw [hn]; simp, by omega⟩, by rw [hn]; simp⟩
          · have y2 := z.resolve_left y
            simp [-collect_own1, lV, lB, e, hlti, hlt, Nat.not_le.2 hlt, r, p4, p0, p1, k4, k0, k1, y, y2, fillL, zeros, E.append, E.added, cl, cn, cp, w1', St.tidy, collect_box, s.own]
            exact ⟨⟨by omega, by unfold maxLen; omega⟩, l.length - (i + 1), by omega, i + 1, by omega, by omega, ⟨by rw [hn]; simp, by omega⟩, by rw [hn]; simp⟩
      · have hn : sg l n (i + 1) = S := by rw [sg, if_neg (fun y => z (iff.1 y)), hS]
        rw [not_or] at z
        have cp := cI_plain S
        by_cases e : S = []
        · subst e
          rcases Nat.eq_zero_or_pos i with z0 | z0
          · subst z0
            simp [-collect_own1, lV, lB, s0, pp, pp0, cc0, cc1, hlt, r, z.1, z.2, w1', St.tidy, collect_box, s.own]
            exact ⟨l.length - 1, by omega, 1, by omega, by omega, ⟨by simp [hn], rfl⟩, by simp [hn]⟩
          · simp [-collect_own1, lV, lB, hlti, hlt, Nat.not_le.2 hlt, r, p4, p0, p1, k4, k0, k1, z.1, z.2, w1', St.tidy, collect_box, s.own]
            exact ⟨l.length - (i + 1), by omega, i + 1, by omega, by omega, ⟨by simp [hn], by omega⟩, by simp [hn]⟩
        · have i0 : i ≠ 0 := fun y => by subst y; rw [sg] at hS; exact e hS
          simp [-collect_own1, lV, lB, e, hlti, hlt, Nat.not_le.2 hlt, r, p4, p0, p1, k4, k0, k1, z.1, z.2, cp, w1', St.tidy, collect_box, s.own]
          exact ⟨l.length - (i + 1), by omega, i + 1, by omega, by omega, ⟨by rw [hn]; simp [e], by omega⟩, by rw [hn]; simp [e]⟩
    · obtain rfl : i = l.length := by omega
      rw [hA] at hS
      subst hS
      have cp := cI_plain S
      by_cases e : S = []
      · subst e
        simp [lV, lB, r]
      · simp [lV, lB, e, cp, r]
end Z.U
end Go.Abs
