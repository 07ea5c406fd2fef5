/- The reference's notes. -/
import Derived.Test.YtfbelnhibipndaaGreatDoorAbsZUMM
set_option linter.unusedSimpArgs false
set_option linter.unusedVariables false
/- The reference's notes. -/
namespace Go.Abs
namespace Z.U
set_option maxRecDepth 100000
set_option maxHeartbeats 0
set_option linter.unusedSimpArgs false
def rn (l : List P4) : Nat → List Int
  | 0 => []
  | k + 1 => if sgA l k = [] then rn l k else rn l k ++ [(k : Int)]
theorem rn_len (l : List P4) : ∀ k, (rn l k).length ≤ k
  | 0 => Nat.le_refl _
  | k + 1 => by
    have := rn_len l k
    unfold rn
    split
    · omega
    · rw [List.length_append]; simp; omega
theorem c70 {d lim : Nat} {h : Heap} {v : Value} {l : List P4} (s : Sl4 h v l) (hl : l.length ≤ 1000) : E.call (d + 2) lim 70 [v] h = some (lV h.length (rn l 88), h ++ lB (rn l 88)) := by
  have r := s.rules2
  refine call_pure fn70 rfl (by simp [ef70]) ?_
  simp [ef70]
  refine wpC_loop (fun q st => ∃ i : Nat, q = 88 - i ∧ i ≤ 88 ∧ st = ⟨[(0, v), (3, lV h.length (rn l i)), (4, i64 (i : Int))], h.freeze ++ lB (rn l i)⟩) 88 (by show 88 < 2 ^ 64; decide) ?_ ?_
  · simp [St.tidy, r]
    exact ⟨0, by omega, by omega, ⟨by simp [rn, lV], rfl⟩, by simp [rn, lB]⟩
  · rintro q hq _ ⟨i, rfl, hi, rfl⟩
    have k58 := fun (L : Heap) lim => c41 (d := d) (lim := lim) (n := (i : Int)) ((Sl_freeze.2 s).app L) hl
    have k58b := fun lim => c41 (d := d) (lim := lim) (n := (i : Int)) (Sl_freeze.2 s) hl
    obtain ⟨S, hS⟩ : ∃ S, S = rn l i := ⟨_, rfl⟩
    have sl := rn_len l i
    rw [← hS] at sl ⊢
    by_cases hlt : i < 88
    · have hlti : (i : Int) ≤ 87 := by omega
      have w1' := w1 (i := i) (by omega)
      have cn : cI S ++ [i64 (i : Int)] = cI (S ++ [(i : Int)]) := by simp [cI]
      have one := one_cI S
      have cp := cI_plain (S ++ [(i : Int)])
      have cp0 := cI_plain S
      have cl := cI_len S
      have cps := cI_plain (sgA l i)
      by_cases z : sgA l i = []
      · have hn : rn l (i + 1) = S := by rw [rn, if_pos z, hS]
        rw [z] at k58 k58b
        by_cases e : S = []
        · subst e
          simp [-collect_own1, Nat.add_assoc, lV, lB, hlti, k58, k58b, w1', St.tidy, collect_box, s.own, r]
          exact ⟨88 - (i + 1), by omega, i + 1, by omega, by omega, ⟨by simp [hn], by omega⟩, by simp [hn]⟩
        · simp [-collect_own1, Nat.add_assoc, lV, lB, e, hlti, k58, k58b, cp0, w1', St.tidy, collect_box, s.own, r]
          exact ⟨88 - (i + 1), by omega, i + 1, by omega, by omega, ⟨by simp [hn, e], by omega⟩, by simp [hn, e]⟩
      · have hn : rn l (i + 1) = S ++ [(i : Int)] := by rw [rn, if_neg z, hS]
        have zl : 0 < (sgA l i).length := List.length_pos_iff.2 z
        have zli : (0 : Int) < (sgA l i).length := by omega
        by_cases e : S = []
        · subst e
          simp only [List.nil_append] at hn cn cp
          simp [-collect_own1, Nat.add_assoc, lV, lB, z, zl, zli, hlti, k58, k58b, cps, fillL, zeros, E.append, E.added, w1', St.tidy, collect_box, s.own, r]
          exact ⟨by decide, 88 - (i + 1), by omega, i + 1, by omega, by omega, ⟨by simp [hn], by omega⟩, by simp [hn, cI]⟩
        · simp [-collect_own1, Nat.add_assoc, lV, lB, e, z, zl, zli, hlti, k58, k58b, cps, cp, cn, cl, fillL, zeros, E.append, E.added, w1', St.tidy, collect_box, s.own, r]
          exact ⟨⟨by omega, by unfold maxLen; omega⟩, 88 - (i + 1), by omega, i + 1, by omega, by omega, ⟨by simp [hn], by omega⟩, by simp [hn]⟩
    · obtain rfl : i = 88 := by omega
      rw [← hS]
      have cp := cI_plain S
      by_cases e : S = []
      · subst e
        simp [lV, lB, r]
      · simp [lV, lB, e, cp, r]
end Z.U
end Go.Abs
/- Notes alike. -/
namespace Go.Abs
namespace Z.U
set_option maxRecDepth 100000
set_option maxHeartbeats 0
set_option linter.unusedSimpArgs false
theorem c77 {d lim : Nat} {h : Heap} {v w : Value} {a b : List Int} (s : SlI' h v a) (t : SlI' h w b) (hl : a.length ≤ 100000) (hl2 : b.length ≤ 100000) : E.call (d + 1) lim 77 [v, w] h = some (.bool (decide (a = b)), h) := by
  have r := s.rules2
  have r' := t.rules2
  refine call1 fn77 rfl (by simp [ef77]) ?_
  by_cases hn : a.length = b.length
  case neg =>
    have hn' : ¬ (a.length : Int) = (b.length : Int) := by omega
    have : decide (a = b) = false := by
      rw [decide_eq_false_iff_not]; rintro rfl; exact hn rfl
    rw [this]
    simp [ef77, r, r', hn, hn']
  simp [ef77, r, r', hn]
  refine wpC_loop (fun q st => ∃ i : Nat, q = a.length - i ∧ i ≤ a.length ∧ (∀ j, j < i → a[j]? = b[j]?) ∧ st = ⟨[(0, v), (1, w), (12, i64 (b.length : Int)), (13, i64 (i : Int))], h.freeze⟩) a.length (by show a.length < 2 ^ 64; omega) ?_ ?_
  · simp [St.tidy, r, r']
    exact ⟨0, by omega, by omega, fun j hj => by omega, rfl⟩
  · rintro q hq _ ⟨i, rfl, hi, hc, rfl⟩
    by_cases hlt : i < a.length
    · have hlt2 : i < b.length := by omega
      have w1' := w1 (i := i) (by omega)
      have h4 : (i : Int) < b.length := by omega
      have ca : ∀ hh, (cI a)[i]'hh = i64 a[i] := fun hh => by simp [cI]
      have cb : ∀ hh, (cI b)[i]'hh = i64 b[i] := fun hh => by simp [cI]
      have ha := cI_at a hlt
      have hb := cI_at b hlt2
      by_cases q1 : a[i] = b[i]
      · simp [hlt, hlt2, Nat.not_le.2 hlt2, h4, r, r', hn, ca, cb, q1, w1', St.tidy]
        refine ⟨b.length - (i + 1), by omega, i + 1, by omega, by omega, fun j hj => ?_, by omega⟩
        rcases Nat.lt_or_ge j i with z | z
        · exact hc j z
        · obtain rfl : j = i := by omega
          rw [List.getElem?_eq_getElem hlt, List.getElem?_eq_getElem hlt2, q1]
      · have : ¬ a = b := by rintro rfl; exact q1 rfl
        simp [hlt, hlt2, Nat.not_le.2 hlt2, h4, r, r', hn, ca, cb, q1, this]
    · have hab : a = b := by
        apply List.ext_getElem?
        intro j
        rcases Nat.lt_or_ge j i with z | z
        · exact hc j z
        · rw [List.getElem?_eq_none (by omega), List.getElem?_eq_none (by omega)]
      obtain rfl : i = a.length := by omega
      subst hab
      simp [r, r']
/-- The first pair of places with equal lists. -/
def tw2 (f : Int → List Int) (N : List Int) (i k : Nat) : Option (Int × Int) := if k < N.length then (if f (gI N i) = f (gI N k) then some (gI N i, gI N k) else tw2 f N i (k + 1)) else none
termination_by N.length - k
theorem tw2_lt {f : Int → List Int} {N : List Int} {i k : Nat} (h : k < N.length) : tw2 f N i k = if f (gI N i) = f (gI N k) then some (gI N i, gI N k) else tw2 f N i (k + 1) := by rw [tw2, if_pos h]
theorem tw2_ge {f : Int → List Int} {N : List Int} {i k : Nat} (h : ¬ k < N.length) : tw2 f N i k = none := by rw [tw2, if_neg h]
def tw1 (f : Int → List Int) (N : List Int) (i : Nat) : Option (Int × Int) := if i < N.length then (match tw2 f N i (i + 1) with | some p => some p | none => tw1 f N (i + 1)) else none
termination_by N.length - i
theorem tw1_lt {f : Int → List Int} {N : List Int} {i : Nat} (h : i < N.length) : tw1 f N i = match tw2 f N i (i + 1) with | some p => some p | none => tw1 f N (i + 1) := by rw [tw1, if_pos h]
theorem tw1_ge {f : Int → List Int} {N : List Int} {i : Nat} (h : ¬ i < N.length) : tw1 f N i = none := by rw [tw1, if_neg h]
def twV (o : Option (Int × Int)) : Value := match o with
  | some p => .tuple #[.agg #[i64 p.1, i64 p.2], .bool true]
  | none => .tuple #[.agg #[i64 0, i64 0], .bool false]
theorem c122' {d lim : Nat} {h : Heap} {v : Value} {l : List P4} {n : Int} (s : Sl4 h v l) (hl : l.length ≤ 1000) (hn : sgA l n ≠ []) : E.call (d + 1) lim 122 [v, i64 n] h = some (vS h.length (sgA l n).length, h ++ [some ⟨cI (sgA l n), true⟩]) := by
  rw [c122 s hl, lV, lB, if_neg hn, if_neg hn]
theorem gI_mem {l : List Int} {i : Nat} (h : i < l.length) : gI l i ∈ l := by rw [gI_eq h]; exact List.getElem_mem h
theorem sgA_len (l : List P4) (n : Int) : (sgA l n).length ≤ l.length := sg_len l n _
end Z.U
end Go.Abs
/- Notes alike: the program's. -/
namespace Go.Abs
namespace Z.U
set_option maxRecDepth 100000
set_option maxHeartbeats 0
set_option linter.unusedSimpArgs false
theorem mem_dd {L : List Int} {x : Int} : ∀ k, k ≤ L.length → x ∈ dd L k → x ∈ L
  | 0, _, h => by simp [dd] at h
  | k + 1, hk, h => by
    unfold dd at h
    by_cases z : k = 0 ∨ gI L k ≠ gI L (k - 1)
    · rw [if_pos z] at h
      rcases List.mem_append.1 h with y | y
      · exact mem_dd k (by omega) y
      · rw [List.mem_singleton.1 y]; exact gI_mem (by omega)
    · rw [if_neg z] at h; exact mem_dd k (by omega) h
theorem mem_ntS {l : List P4} {x : Int} : x ∈ ntS l ↔ x ∈ nts l l.length := by
  unfold ntS srt; rw [List.mem_mergeSort]
theorem ntD_in {l : List P4} {x : Int} (h : x ∈ ntD l) : ∃ j, j < l.length ∧ ((at4 l j).1 = x ∨ (at4 l j).2.1 = x) :=
  (mem_nts _).1 (mem_ntS.1 (mem_dd _ (Nat.le_refl _) h))
theorem ntD_ne {l : List P4} {x : Int} (h : x ∈ ntD l) : sgA l x ≠ [] := by
  obtain ⟨j, hj, e⟩ := ntD_in h
  have : (j : Int) ∈ sgA l x := (mem_sg _).2 ⟨j, hj, rfl, by simpa [isIn] using e⟩
  intro z; rw [z] at this; cases this
theorem ddz_at {L : List Int} {i : Nat} (h : i < (dd L L.length).length) : i < (ddz L).length ∧ gI (ddz L) i = gI (dd L L.length) i := by
  have hl : i < (ddz L).length := by unfold ddz; rw [List.length_append]; omega
  refine ⟨hl, ?_⟩
  rw [gI_eq hl, gI_eq h]
  unfold ddz
  exact List.getElem_append_left h
theorem ddz_len (L : List Int) : (ddz L).length = L.length := by
  unfold ddz; rw [List.length_append, List.length_replicate]; have := dd_len L L.length; omega
theorem c76 {d lim : Nat} {h : Heap} {v : Value} {l : List P4} (s : Sl4 h v l) (hl : l.length ≤ 12) : E.call (d + 9) lim 76 [v] h = some (twV (tw1 (sgA l) (ntD l) 0), h) := by
  have r := s.rules2
  have k85 := fun (L : Heap) lim => c73 (D := d) (lim := lim) ((Sl_freeze.2 s).app L) hl
  refine call1 fn76 rfl (by simp [ef76]) ?_
  unfold ntV ntB at k85
  by_cases l0 : l.length = 0
  · have e : l = [] := List.eq_nil_of_length_eq_zero l0
    simp only [if_pos l0] at k85
    have T : tw1 (sgA l) (ntD l) 0 = none := by
      have : (ntD l).length = 0 := by
        have := dd_len (ntS l) (ntS l).length
        have := ntS_len l
        unfold ntD; omega
      exact tw1_ge (by omega)
    rw [T]
    simp [ef76, k85]
    refine wpC_loop (fun q st => q = 0 ∧ st = ⟨[(0, v), (2, pB h.length), (4, .slice none 0 0), (12, .slice none 0 0), (13, i64 0), (14, i64 0)], h.freeze ++ [some ⟨[i64 0, i64 0], true⟩]⟩) 0 (by show 0 < 2 ^ 64; omega) ?_ ?_
    · simp [-collect_own1, St.tidy, collect_box, s.own, r]
    · rintro q hq _ ⟨rfl, rfl⟩
      simp [twV]
  simp only [if_neg l0] at k85
  have hN := fun i (hi : i < (ntD l).length) => ntD_ne (gI_mem hi)
  have hZ : ∀ i, i < (ntD l).length → i < (ddz (ntS l)).length ∧ gI (ddz (ntS l)) i = gI (ntD l) i := fun i hi => ddz_at hi
  have nl : (ntD l).length ≤ 24 := by
    have := dd_len (ntS l) (ntS l).length
    have := ntS_len l
    unfold ntD; omega
  have zl : (ddz (ntS l)).length ≤ 24 := by rw [ddz_len, ntS_len]; omega
  have hnil : ¬ l = [] := fun e => l0 (by rw [e]; rfl)
  generalize hT : tw1 (sgA l) (ntD l) 0 = T
  generalize ntD l = N at *
  generalize ddz (ntS l) = Z at *
  have cpz := cI_plain Z
  simp [ef76, k85, hnil]
  refine wpC_loop (fun q st => ∃ i : Nat, q = N.length - i ∧ i ≤ N.length ∧ tw1 (sgA l) N i = T ∧ st = ⟨[(0, v), (2, pB h.length), (4, vS (h.length + 1) N.length), (12, vS (h.length + 1) N.length), (13, i64 (N.length : Int)), (14, i64 (i : Int))], h.freeze ++ [some ⟨[i64 0, i64 0], true⟩, some ⟨cI Z, true⟩]⟩) N.length (by show N.length < 2 ^ 64; omega) ?_ ?_
  · simp [-collect_own1, hnil, cpz, St.tidy, collect_box, s.own, r]
    exact ⟨0, by omega, by omega, hT, rfl⟩
  · rintro q hq _ ⟨i, rfl, hi, hc, rfl⟩
    by_cases lt : i < N.length
    · have lti : (i : Int) < N.length := by omega
      have w1' := w1 (i := i) (by omega)
      obtain ⟨p1, p2, p3, p4, p5⟩ := ixL (hZ i lt).1
      rw [(hZ i lt).2] at p2 p3
      have A0 := hN i lt
      have ka := fun (L : Heap) lim => c122' (d := d + 7) (lim := lim) (n := gI N i) ((Sl_freeze.2 s).app L) (by omega) A0
      have al := sgA_len l (gI N i)
      have cpa := cI_plain (sgA l (gI N i))
      obtain ⟨R, hR⟩ : ∃ R, R = N.length - (i + 1) := ⟨_, rfl⟩
      have le : i + 1 ≤ N.length := by omega
      rw [tw1_lt lt] at hc
      generalize hM : tw2 (sgA l) N i (i + 1) = M at hc
      obtain ⟨i1, hi1⟩ : ∃ i1, i1 = i + 1 := ⟨_, rfl⟩
      have w1'' : IntKind.wrap .i64 ((i : Int) + 1) = (i1 : Int) := by rw [w1', hi1]
      rw [← hi1] at hR le
      simp [-collect_own1, lti, lt, Nat.not_le.2 lt, w1'', p1, p2, p3, p4, p5, ka, E.bound, le, ← hR]
      refine wpC_loop (fun q st => ∃ k : Nat, q = R - k ∧ k ≤ R ∧ tw2 (sgA l) N i (i1 + k) = M ∧ st = ⟨[(0, v), (2, pB h.length), (4, vS (h.length + 1) N.length), (6, i64 (gI N i)), (7, vS (h.length + 2) (sgA l (gI N i)).length), (12, vS (h.length + 1) N.length), (13, i64 (N.length : Int)), (14, i64 (i : Int)), (25, .slice (some ⟨h.length + 1, i1, none⟩) R 1), (26, i64 (R : Int)), (27, i64 (k : Int))], h.freeze ++ [some ⟨[i64 0, i64 0], true⟩, some ⟨cI Z, true⟩, some ⟨cI (sgA l (gI N i)), true⟩]⟩) R (by show R < 2 ^ 64; omega) ?_ ?_
      · simp [-collect_own1, cpz, cpa, St.tidy, collect_box, s.own, r]
        exact ⟨0, by omega, by omega, by rw [Nat.add_zero, hi1]; exact hM, rfl⟩
      · rintro q hq _ ⟨k, rfl, hk, hc2, rfl⟩
        by_cases lt2 : k < R
        · have lt2i : (k : Int) < R := by omega
          have ltN : i1 + k < N.length := by omega
          obtain ⟨q1, q2, q3, q4, q5⟩ := ixL (hZ (i1 + k) ltN).1
          rw [(hZ (i1 + k) ltN).2] at q2 q3
          have wk := w1 (i := k) (by omega)
          have B0 := hN (i1 + k) ltN
          have kb := fun (L : Heap) lim => c122' (d := d + 7) (lim := lim) (n := gI N (i1 + k)) ((Sl_freeze.2 s).app L) (by omega) B0
          have bl := sgA_len l (gI N (i1 + k))
          have k94 := fun (L : Heap) (b1 b2 n1 n2 lim : Nat) (g1 : Heap.get (h.freeze ++ L) b1 = some ⟨cI (sgA l (gI N i)), true⟩) (h1 : n1 = (sgA l (gI N i)).length) (g2 : Heap.get (h.freeze ++ L) b2 = some ⟨cI (sgA l (gI N (i1 + k))), true⟩) (h2 : n2 = (sgA l (gI N (i1 + k))).length) => c77 (d := d + 7) (lim := lim) (SlI'_own g1 h1) (SlI'_own g2 h2) (by omega) (by omega)
          rw [tw2_lt ltN] at hc2
          by_cases y : sgA l (gI N i) = sgA l (gI N (i1 + k))
          · rw [if_pos y] at hc2
            subst hc2
            simp only at hc
            subst hc
            simp [lt2i, lt2, Nat.not_le.2 lt2, q1, q2, q3, q4, q5, kb, k94, Nat.add_assoc, y, twV]
          · rw [if_neg y] at hc2
            simp [-collect_own1, lt2i, lt2, Nat.not_le.2 lt2, q1, q2, q3, q4, q5, kb, k94, Nat.add_assoc, y, wk, cpz, cpa, St.tidy, collect_box, s.own, r]
            exact ⟨R - (k + 1), by omega, k + 1, rfl, by omega, by rw [← Nat.add_assoc]; exact hc2, by omega⟩
        · obtain rfl : k = R := by omega
          rw [tw2_ge (by omega)] at hc2
          subst hc2
          simp only at hc
          simp [-collect_own1, w1', cpz, St.tidy, collect_box, s.own, r]
          exact ⟨N.length - (i + 1), by omega, i + 1, rfl, by omega, hc, by omega⟩
    · obtain rfl : i = N.length := by omega
      rw [tw1_ge lt] at hc
      subst hc
      simp [twV]
end Z.U
end Go.Abs
/- Notes: both lists are one. -/
namespace Go.Abs
namespace Z.U
set_option maxRecDepth 100000
theorem asc_ext : ∀ (A B : List Int), A.Pairwise (· < ·) → B.Pairwise (· < ·) → (∀ x, x ∈ A ↔ x ∈ B) → A = B
  | [], [], _, _, _ => rfl
  | [], b :: B, _, _, h => by have := (h b).2 (by simp); cases this
  | a :: A, [], _, _, h => by have := (h a).1 (by simp); cases this
  | a :: A, b :: B, hA, hB, h => by
    rw [List.pairwise_cons] at hA hB
    have e : a = b := by
      rcases List.mem_cons.1 ((h a).1 (by simp)) with x | x
      · exact x
      · rcases List.mem_cons.1 ((h b).2 (by simp)) with y | y
        · exact y.symm
        · have := hB.1 a x; have := hA.1 b y; omega
    subst e
    rw [asc_ext A B hA.2 hB.2 fun x => ?_]
    constructor
    · intro hx
      rcases List.mem_cons.1 ((h x).1 (by simp [hx])) with y | y
      · have := hA.1 x hx; omega
      · exact y
    · intro hx
      rcases List.mem_cons.1 ((h x).2 (by simp [hx])) with y | y
      · have := hB.1 x hx; omega
      · exact y
theorem rn_mem {l : List P4} {x : Int} : ∀ k, x ∈ rn l k ↔ ∃ j : Nat, j < k ∧ x = j ∧ sgA l j ≠ []
  | 0 => by simp [rn]
  | k + 1 => by
    unfold rn
    by_cases z : sgA l k = []
    · rw [if_pos z, rn_mem k]
      constructor
      · rintro ⟨j, hj, e⟩; exact ⟨j, by omega, e⟩
      · rintro ⟨j, hj, e, y⟩
        by_cases w : j < k
        · exact ⟨j, w, e, y⟩
        · obtain rfl : j = k := by omega
          exact absurd z y
    · rw [if_neg z, List.mem_append, rn_mem k]
      constructor
      · rintro (⟨j, hj, e⟩ | h)
        · exact ⟨j, by omega, e⟩
        · exact ⟨k, by omega, List.mem_singleton.1 h, z⟩
      · rintro ⟨j, hj, e, y⟩
        by_cases w : j < k
        · exact .inl ⟨j, w, e, y⟩
        · obtain rfl : j = k := by omega
          exact .inr (by rw [e]; simp)
theorem rn_asc {l : List P4} : ∀ k, (rn l k).Pairwise (· < ·)
  | 0 => List.Pairwise.nil
  | k + 1 => by
    unfold rn
    split
    · exact rn_asc k
    · rw [List.pairwise_append]
      refine ⟨rn_asc k, by simp, fun x hx y hy => ?_⟩
      obtain ⟨j, hj, e, _⟩ := (rn_mem k).1 hx
      rw [List.mem_singleton.1 hy]; omega
theorem dd_asc {L : List Int} (hs : ∀ i, i + 1 < L.length → gI L i ≤ gI L (i + 1)) : ∀ k, k ≤ L.length → (dd L k).Pairwise (· < ·) ∧ (∀ x ∈ dd L k, x ≤ gI L (k - 1))
  | 0, _ => ⟨List.Pairwise.nil, fun x h => by simp [dd] at h⟩
  | k + 1, hk => by
    obtain ⟨a, b⟩ := dd_asc hs k (by omega)
    have st : k ≠ 0 → gI L (k - 1) ≤ gI L k := fun h => by have := hs (k - 1) (by omega); rwa [show k - 1 + 1 = k by omega] at this
    rw [Nat.add_sub_cancel]
    unfold dd
    by_cases z : k = 0 ∨ gI L k ≠ gI L (k - 1)
    · rw [if_pos z]
      rcases Nat.eq_zero_or_pos k with z0 | z0
      · subst z0; simp [dd]
      · have lt : gI L (k - 1) < gI L k := by
          have := st (by omega)
          rcases z with z | z
          · omega
          · omega
        refine ⟨List.pairwise_append.2 ⟨a, by simp, fun x hx y hy => ?_⟩, fun x hx => ?_⟩
        · rw [List.mem_singleton.1 hy]; have := b x hx; omega
        · rcases List.mem_append.1 hx with y | y
          · have := b x y; omega
          · rw [List.mem_singleton.1 y]; omega
    · rw [if_neg z]
      rw [not_or] at z
      refine ⟨a, fun x hx => ?_⟩
      have := b x hx
      have := st z.1
      omega
theorem dd_mem {L : List Int} {x : Int} : ∀ k, k ≤ L.length → x ∈ L.take k → x ∈ dd L k
  | 0, _, h => by simp at h
  | k + 1, hk, h => by
    rw [take_succ' (by omega)] at h
    unfold dd
    by_cases z : k = 0 ∨ gI L k ≠ gI L (k - 1)
    · rw [if_pos z]
      rcases List.mem_append.1 h with y | y
      · exact List.mem_append.2 (.inl (dd_mem k (by omega) y))
      · exact List.mem_append.2 (.inr y)
    · rw [if_neg z]
      rw [not_or] at z
      rcases List.mem_append.1 h with y | y
      · exact dd_mem k (by omega) y
      · refine dd_mem k (by omega) ?_
        rw [List.mem_singleton.1 y]
        have e : gI L k = gI L (k - 1) := Decidable.of_not_not z.2
        rw [e, show L.take k = L.take (k - 1 + 1) by rw [show k - 1 + 1 = k by omega], take_succ' (by omega)]
        simp
theorem ntS_asc (l : List P4) : ∀ i, i + 1 < (ntS l).length → gI (ntS l) i ≤ gI (ntS l) (i + 1) := by
  intro i hi
  have p : (ntS l).Pairwise fun a b => decide (a ≤ b) = true := by
    unfold ntS srt
    exact List.pairwise_mergeSort (fun a b c h1 h2 => by simp at *; omega) (fun a b => by simp; omega) _
  have := List.pairwise_iff_getElem.1 p i (i + 1) (by omega) hi (by omega)
  rw [gI_eq (by omega), gI_eq hi]
  simpa using this
/-- The notes of good tests are the reference's. -/
theorem ntD_rn {l : List P4} (O : TOk l) : ntD l = rn l 88 := by
  refine asc_ext _ _ (dd_asc (ntS_asc l) _ (Nat.le_refl _)).1 (rn_asc 88) fun x => ?_
  have m : x ∈ ntD l ↔ ∃ j, j < l.length ∧ ((at4 l j).1 = x ∨ (at4 l j).2.1 = x) := by
    rw [← mem_nts, ← mem_ntS]
    exact ⟨fun h => mem_dd _ (Nat.le_refl _) h, fun h => dd_mem _ (Nat.le_refl _) (by rw [List.take_length]; exact h)⟩
  show x ∈ ntD l ↔ _
  rw [m, rn_mem]
  constructor
  · rintro ⟨j, hj, e⟩
    obtain ⟨a, b, _⟩ := chkX_0 (O.chk j hj)
    have hx : 0 ≤ x ∧ x ≤ 87 := by rcases e with e | e <;> omega
    refine ⟨x.toNat, by omega, by omega, fun z => ?_⟩
    have : (j : Int) ∈ sgA l (x.toNat : Int) := (mem_sg _).2 ⟨j, hj, rfl, by rw [show ((x.toNat : Nat) : Int) = x by omega]; simpa [isIn] using e⟩
    rw [z] at this; cases this
  · rintro ⟨n, hn, rfl, h⟩
    obtain ⟨y, hy⟩ := List.exists_mem_of_ne_nil _ h
    obtain ⟨j, hj, _, e⟩ := (mem_sg _).1 hy
    exact ⟨j, hj, by simpa [isIn] using e⟩
end Z.U
end Go.Abs
