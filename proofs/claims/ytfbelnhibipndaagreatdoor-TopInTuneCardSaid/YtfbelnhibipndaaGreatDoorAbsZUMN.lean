/- The reference's notes. -/
import Derived.Test.YtfbelnhibipndaaGreatDoorAbsZUMM
set_option linter.unusedSimpArgs false
set_option linter.unusedVariables false
/- The reference's notes. -/
namespace Go.Abs
namespace Z.U
set_option maxRecDepth 100000
set_option maxHeartbeats 0
set_option linter.unusedSimpArgs false
def rn (l : List P4) : Nat → List Int
  | 0 => []
  | k + 1 => if sgA l k = [] then rn l k else rn l k ++ [(k : Int)]
theorem rn_len (l : List P4) : ∀ k, (rn l k).length ≤ k
  | 0 => Nat.le_refl _
  | k + 1 => by
    have := rn_len l k
    unfold rn
    split
    · omega
    · rw [List.length_append]; simp; omega
theorem c70 {d lim : Nat} {h : Heap} {v : Value} {l : List P4} (s : Sl4 h v l) (hl : l.length ≤ 1000) : E.call (d + 2) lim 70 [v] h = some (lV h.length (rn l 88), h ++ lB (rn l 88)) := by
  have r := s.rules2
  refine call_pure fn70 rfl (by simp [ef70]) ?_
  simp [ef70]
  refine wpC_loop (fun q st => ∃ i : Nat, q = 88 - i ∧ i ≤ 88 ∧ st = ⟨[(0, v), (3, lV h.length (rn l i)), (4, i64 (i : Int))], h.freeze ++ lB (rn l i)⟩) 88 (by show 88 < 2 ^ 64; decide) ?_ ?_
  · simp [St.tidy, r]
    exact ⟨0, by omega, by omega, ⟨by simp [rn, lV], rfl⟩, by simp [rn, lB]⟩
  · rintro q hq _ ⟨i, rfl, hi, rfl⟩
    have k58 := fun (L : Heap) lim => c41 (d := d) (lim := lim) (n := (i : Int)) ((Sl_freeze.2 s).app L) hl
    have k58b := fun lim => c41 (d := d) (lim := lim) (n := (i : Int)) (Sl_freeze.2 s) hl
    obtain ⟨S, hS⟩ : ∃ S, S = rn l i := ⟨_, rfl⟩
    have sl := rn_len l i
    rw [← hS] at sl ⊢
    by_cases hlt : i < 88
    · have hlti : (i : Int) ≤ 87 := by omega
      have w1' := w1 (i := i) (by omega)
      have cn : cI S ++ [i64 (i : Int)] = cI (S ++ [(i : Int)]) := by simp [cI]
      have one := one_cI S
      have cp := cI_plain (S ++ [(i : Int)])
      have cp0 := cI_plain S
      have cl := cI_len S
      have cps := cI_plain (sgA l i)
      by_cases z : sgA l i = []
      · have hn : rn l (i + 1) = S := by rw [rn, if_pos z, hS]
        rw [z] at k58 k58b
        by_cases e : S = []
        · subst e
          simp [-collect_own1, Nat.add_assoc, lV, lB, hlti, k58, k58b, w1', St.tidy, collect_box, s.own, r]
          exact ⟨88 - (i + 1), by omega, i + 1, by omega, by omega, ⟨by simp [hn], by omega⟩, by simp [hn]⟩
        · simp [-collect_own1, Nat.add_assoc, lV, lB, e, hlti, k58, k58b, cp0, w1', St.tidy, collect_box, s.own, r]
          exact ⟨88 - (i + 1), by omega, i + 1, by omega, by omega, ⟨by simp [hn, e], by omega⟩, by simp [hn, e]⟩
      · have hn : rn l (i + 1) = S ++ [(i : Int)] := by rw [rn, if_neg z, hS]
        have zl : 0 < (sgA l i).length := List.length_pos_iff.2 z
        have zli : (0 : Int) < (sgA l i).length := by omega
        by_cases e : S = []
        · subst e
          simp only [List.nil_append] at hn cn cp
          simp [-collect_own1, Nat.add_assoc, lV, lB, z, zl, zli, hlti, k58, k58b, cps, fillL, zeros, E.append, E.added, w1', St.tidy, collect_box, s.own, r]
          exact ⟨by decide, 88 - (i + 1), by omega, i + 1, by omega, by omega, ⟨by simp [hn], by omega⟩, by simp [hn, cI]⟩
        · simp [-collect_own1, Nat.add_assoc, lV, lB, e, z, zl, zli, hlti, k58, k58b, cps, cp, cn, cl, fillL, zeros, E.append, E.added, w1', St.tidy, collect_box, s.own, r]
          exact ⟨⟨by omega, by unfold maxLen; omega⟩, 88 - (i + 1), by omega, i + 1, by omega, by omega, ⟨by simp [hn], by omega⟩, by simp [hn]⟩
    · obtain rfl : i = 88 := by omega
      rw [← hS]
      have cp := cI_plain S
      by_cases e : S = []
      · subst e
        simp [lV, lB, r]
      · simp [lV, lB, e, cp, r]
end Z.U
end Go.Abs
/- Notes alike. -/
namespace Go.Abs
namespace Z.U
set_option maxRecDepth 100000
set_option maxHeartbeats 0
set_option linter.unusedSimpArgs false
theorem gI_mem {l : List Int} {i : Nat} (h : i < l.length) : gI l i ∈ l := by rw [gI_eq h]; exact List.getElem_mem h
end Z.U
end Go.Abs
/- Notes alike: the program's. -/
namespace Go.Abs
namespace Z.U
set_option maxRecDepth 100000
set_option maxHeartbeats 0
set_option linter.unusedSimpArgs false
theorem mem_dd {L : List Int} {x : Int} : ∀ k, k ≤ L.length → x ∈ dd L k → x ∈ L
  | 0, _, h => by simp [dd] at h
  | k + 1, hk, h => by
    unfold dd at h
    by_cases z : k = 0 ∨ gI L k ≠ gI L (k - 1)
    · rw [if_pos z] at h
      rcases List.mem_append.1 h with y | y
      · exact mem_dd k (by omega) y
      · rw [List.mem_singleton.1 y]; exact gI_mem (by omega)
    · rw [if_neg z] at h; exact mem_dd k (by omega) h
theorem mem_ntS {l : List P4} {x : Int} : x ∈ ntS l ↔ x ∈ nts l l.length := by
  unfold ntS srt; rw [List.mem_mergeSort]
theorem ddz_at {L : List Int} {i : Nat} (h : i < (dd L L.length).length) : i < (ddz L).length ∧ gI (ddz L) i = gI (dd L L.length) i := by
  have hl : i < (ddz L).length := by unfold ddz; rw [List.length_append]; omega
  refine ⟨hl, ?_⟩
  rw [gI_eq hl, gI_eq h]
  unfold ddz
  exact List.getElem_append_left h
end Z.U
end Go.Abs
/- Notes: both lists are one. -/
namespace Go.Abs
namespace Z.U
set_option maxRecDepth 100000
theorem asc_ext : ∀ (A B : List Int), A.Pairwise (· < ·) → B.Pairwise (· < ·) → (∀ x, x ∈ A ↔ x ∈ B) → A = B
  | [], [], _, _, _ => rfl
  | [], b :: B, _, _, h => by have := (h b).2 (by simp); cases this
  | a :: A, [], _, _, h => by have := (h a).1 (by simp); cases this
  | a :: A, b :: B, hA, hB, h => by
    rw [List.pairwise_cons] at hA hB
    have e : a = b := by
      rcases List.mem_cons.1 ((h a).1 (by simp)) with x | x
      · exact x
      · rcases List.mem_cons.1 ((h b).2 (by simp)) with y | y
        · exact y.symm
        · have := hB.1 a x; have := hA.1 b y; omega
    subst e
    rw [asc_ext A B hA.2 hB.2 fun x => ?_]
    constructor
    · intro hx
      rcases List.mem_cons.1 ((h x).1 (by simp [hx])) with y | y
      · have := hA.1 x hx; omega
      · exact y
    · intro hx
      rcases List.mem_cons.1 ((h x).2 (by simp [hx])) with y | y
      · have := hB.1 x hx; omega
      · exact y
theorem rn_mem {l : List P4} {x : Int} : ∀ k, x ∈ rn l k ↔ ∃ j : Nat, j < k ∧ x = j ∧ sgA l j ≠ []
  | 0 => by simp [rn]
  | k + 1 => by
    unfold rn
    by_cases z : sgA l k = []
    · rw [if_pos z, rn_mem k]
      constructor
      · rintro ⟨j, hj, e⟩; exact ⟨j, by omega, e⟩
      · rintro ⟨j, hj, e, y⟩
        by_cases w : j < k
        · exact ⟨j, w, e, y⟩
        · obtain rfl : j = k := by omega
          exact absurd z y
    · rw [if_neg z, List.mem_append, rn_mem k]
      constructor
      · rintro (⟨j, hj, e⟩ | h)
        · exact ⟨j, by omega, e⟩
        · exact ⟨k, by omega, List.mem_singleton.1 h, z⟩
      · rintro ⟨j, hj, e, y⟩
        by_cases w : j < k
        · exact .inl ⟨j, w, e, y⟩
        · obtain rfl : j = k := by omega
          exact .inr (by rw [e]; simp)
theorem rn_asc {l : List P4} : ∀ k, (rn l k).Pairwise (· < ·)
  | 0 => List.Pairwise.nil
  | k + 1 => by
    unfold rn
    split
    · exact rn_asc k
    · rw [List.pairwise_append]
      refine ⟨rn_asc k, by simp, fun x hx y hy => ?_⟩
      obtain ⟨j, hj, e, _⟩ := (rn_mem k).1 hx
      rw [List.mem_singleton.1 hy]; omega
theorem dd_asc {L : List Int} (hs : ∀ i, i + 1 < L.length → gI L i ≤ gI L (i + 1)) : ∀ k, k ≤ L.length → (dd L k).Pairwise (· < ·) ∧ (∀ x ∈ dd L k, x ≤ gI L (k - 1))
  | 0, _ => ⟨List.Pairwise.nil, fun x h => by simp [dd] at h⟩
  | k + 1, hk => by
    obtain ⟨a, b⟩ := dd_asc hs k (by omega)
    have st : k ≠ 0 → gI L (k - 1) ≤ gI L k := fun h => by have := hs (k - 1) (by omega); rwa [show k - 1 + 1 = k by omega] at this
    rw [Nat.add_sub_cancel]
    unfold dd
    by_cases z : k = 0 ∨ gI L k ≠ gI L (k - 1)
    · rw [if_pos z]
      rcases Nat.eq_zero_or_pos k with z0 | z0
      · subst z0; simp [dd]
      · have lt : gI L (k - 1) < gI L k := by
          have := st (by omega)
          rcases z with z | z
          · omega
          · omega
        refine ⟨List.pairwise_append.2 ⟨a, by simp, fun x hx y hy => ?_⟩, fun x hx => ?_⟩
        · rw [List.mem_singleton.1 hy]; have := b x hx; omega
        · rcases List.mem_append.1 hx with y | y
          · have := b x y; omega
          · rw [List.mem_singleton.1 y]; omega
    · rw [if_neg z]
      rw [not_or] at z
      refine ⟨a, fun x hx => ?_⟩
      have := b x hx
      have := st z.1
      omega
theorem dd_mem {L : List Int} {x : Int} : ∀ k, k ≤ L.length → x ∈ L.take k → x ∈ dd L k
  | 0, _, h => by simp at h
  | k + 1, hk, h => by
    rw [take_succ' (by omega)] at h
    unfold dd
    by_cases z : k = 0 ∨ gI L k ≠ gI L (k - 1)
    · rw [if_pos z]
      rcases List.mem_append.1 h with y | y
      · exact List.mem_append.2 (.inl (dd_mem k (by omega) y))
      · exact List.mem_append.2 (.inr y)
    · rw [if_neg z]
      rw [not_or] at z
      rcases List.mem_append.1 h with y | y
      · exact dd_mem k (by omega) y
      · refine dd_mem k (by omega) ?_
        rw [List.mem_singleton.1 y]
        have e : gI L k = gI L (k - 1) := Decidable.of_not_not z.2
        rw [e, show L.take k = L.take (k - 1 + 1) by rw [show k - 1 + 1 = k by omega], take_succ' (by omega)]
        simp
theorem ntS_asc (l : List P4) : ∀ i, i + 1 < (ntS l).length → gI (ntS l) i ≤ gI (ntS l) (i + 1) := by
  intro i hi
  have p : (ntS l).Pairwise fun a b => decide (a ≤ b) = true := by
    unfold ntS srt
    exact List.pairwise_mergeSort (fun a b c h1 h2 => by simp at *; omega) (fun a b => by simp; omega) _
  have := List.pairwise_iff_getElem.1 p i (i + 1) (by omega) hi (by omega)
  rw [gI_eq (by omega), gI_eq hi]
  simpa using this
/-- The notes of good tests are the reference's. -/
theorem ntD_rn {l : List P4} (O : TOk l) : ntD l = rn l 88 := by
  refine asc_ext _ _ (dd_asc (ntS_asc l) _ (Nat.le_refl _)).1 (rn_asc 88) fun x => ?_
  have m : x ∈ ntD l ↔ ∃ j, j < l.length ∧ ((at4 l j).1 = x ∨ (at4 l j).2.1 = x) := by
    rw [← mem_nts, ← mem_ntS]
    exact ⟨fun h => mem_dd _ (Nat.le_refl _) h, fun h => dd_mem _ (Nat.le_refl _) (by rw [List.take_length]; exact h)⟩
  show x ∈ ntD l ↔ _
  rw [m, rn_mem]
  constructor
  · rintro ⟨j, hj, e⟩
    obtain ⟨a, b, _⟩ := chkX_0 (O.chk j hj)
    have hx : 0 ≤ x ∧ x ≤ 87 := by rcases e with e | e <;> omega
    refine ⟨x.toNat, by omega, by omega, fun z => ?_⟩
    have : (j : Int) ∈ sgA l (x.toNat : Int) := (mem_sg _).2 ⟨j, hj, rfl, by rw [show ((x.toNat : Nat) : Int) = x by omega]; simpa [isIn] using e⟩
    rw [z] at this; cases this
  · rintro ⟨n, hn, rfl, h⟩
    obtain ⟨y, hy⟩ := List.exists_mem_of_ne_nil _ h
    obtain ⟨j, hj, _, e⟩ := (mem_sg _).1 hy
    exact ⟨j, hj, by simpa [isIn] using e⟩
end Z.U
end Go.Abs
