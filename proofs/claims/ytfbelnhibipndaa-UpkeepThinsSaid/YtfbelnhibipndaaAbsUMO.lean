/- Notes: both lists are one. -/
import Derived.Test.YtfbelnhibipndaaAbsUMN
set_option linter.unusedSimpArgs false
set_option linter.unusedVariables false
/- Notes: both lists are one. -/
namespace Go.Abs
namespace U
set_option maxRecDepth 100000
theorem asc_ext : ∀ (A B : List Int), A.Pairwise (· < ·) → B.Pairwise (· < ·) → (∀ x, x ∈ A ↔ x ∈ B) → A = B
  | [], [], _, _, _ => rfl
  | [], b :: B, _, _, h => by have := (h b).2 (by simp); cases this
  | a :: A, [], _, _, h => by have := (h a).1 (by simp); cases this
  | a :: A, b :: B, hA, hB, h => by
    rw [List.pairwise_cons] at hA hB
    have e : a = b := by
      rcases List.mem_cons.1 ((h a).1 (by simp)) with x | x
      · exact x
      · rcases List.mem_cons.1 ((h b).2 (by simp)) with y | y
        · exact y.symm
        · have := hB.1 a x; have := hA.1 b y; omega
    subst e
    rw [asc_ext A B hA.2 hB.2 fun x => ?_]
    constructor
    · intro hx
      rcases List.mem_cons.1 ((h x).1 (by simp [hx])) with y | y
      · have := hA.1 x hx; omega
      · exact y
    · intro hx
      rcases List.mem_cons.1 ((h x).2 (by simp [hx])) with y | y
      · have := hB.1 x hx; omega
      · exact y
theorem rn_mem {l : List P4} {x : Int} : ∀ k, x ∈ rn l k ↔ ∃ j : Nat, j < k ∧ x = j ∧ sgA l j ≠ []
  | 0 => by simp [rn]
  | k + 1 => by
    unfold rn
    by_cases z : sgA l k = []
    · rw [if_pos z, rn_mem k]
      constructor
      · rintro ⟨j, hj, e⟩; exact ⟨j, by omega, e⟩
      · rintro ⟨j, hj, e, y⟩
        by_cases w : j < k
        · exact ⟨j, w, e, y⟩
        · obtain rfl : j = k := by omega
          exact absurd z y
    · rw [if_neg z, List.mem_append, rn_mem k]
      constructor
      · rintro (⟨j, hj, e⟩ | h)
        · exact ⟨j, by omega, e⟩
        · exact ⟨k, by omega, List.mem_singleton.1 h, z⟩
      · rintro ⟨j, hj, e, y⟩
        by_cases w : j < k
        · exact .inl ⟨j, w, e, y⟩
        · obtain rfl : j = k := by omega
          exact .inr (by rw [e]; simp)
theorem rn_asc {l : List P4} : ∀ k, (rn l k).Pairwise (· < ·)
  | 0 => List.Pairwise.nil
  | k + 1 => by
    unfold rn
    split
    · exact rn_asc k
    · rw [List.pairwise_append]
      refine ⟨rn_asc k, by simp, fun x hx y hy => ?_⟩
      obtain ⟨j, hj, e, _⟩ := (rn_mem k).1 hx
      rw [List.mem_singleton.1 hy]; omega
theorem dd_asc {L : List Int} (hs : ∀ i, i + 1 < L.length → gI L i ≤ gI L (i + 1)) : ∀ k, k ≤ L.length → (dd L k).Pairwise (· < ·) ∧ (∀ x ∈ dd L k, x ≤ gI L (k - 1))
  | 0, _ => ⟨List.Pairwise.nil, fun x h => by simp [dd] at h⟩
  | k + 1, hk => by
    obtain ⟨a, b⟩ := dd_asc hs k (by omega)
    have st : k ≠ 0 → gI L (k - 1) ≤ gI L k := fun h => by have := hs (k - 1) (by omega); rwa [show k - 1 + 1 = k by omega] at this
    rw [Nat.add_sub_cancel]
    unfold dd
    by_cases z : k = 0 ∨ gI L k ≠ gI L (k - 1)
    · rw [if_pos z]
      rcases Nat.eq_zero_or_pos k with z0 | z0
      · subst z0; simp [dd]
      · have lt : gI L (k - 1) < gI L k := by
          have := st (by omega)
          rcases z with z | z
          · omega
          · omega
        refine ⟨List.pairwise_append.2 ⟨a, by simp, fun x hx y hy => ?_⟩, fun x hx => ?_⟩
        · rw [List.mem_singleton.1 hy]; have := b x hx; omega
        · rcases List.mem_append.1 hx with y | y
          · have := b x y; omega
          · rw [List.mem_singleton.1 y]; omega
    · rw [if_neg z]
      rw [not_or] at z
      refine ⟨a, fun x hx => ?_⟩
      have := b x hx
      have := st z.1
      omega
theorem dd_mem {L : List Int} {x : Int} : ∀ k, k ≤ L.length → x ∈ L.take k → x ∈ dd L k
  | 0, _, h => by simp at h
  | k + 1, hk, h => by
    rw [take_succ' (by omega)] at h
    unfold dd
    by_cases z : k = 0 ∨ gI L k ≠ gI L (k - 1)
    · rw [if_pos z]
      rcases List.mem_append.1 h with y | y
      · exact List.mem_append.2 (.inl (dd_mem k (by omega) y))
      · exact List.mem_append.2 (.inr y)
    · rw [if_neg z]
      rw [not_or] at z
      rcases List.mem_append.1 h with y | y
      · exact dd_mem k (by omega) y
      · refine dd_mem k (by omega) ?_
        rw [List.mem_singleton.1 y]
        have e : gI L k = gI L (k - 1) := Decidable.of_not_not z.2
        rw [e, show L.take k = L.take (k - 1 + 1) by rw [show k - 1 + 1 = k by omega], take_succ' (by omega)]
        simp
theorem ntS_asc (l : List P4) : ∀ i, i + 1 < (ntS l).length → gI (ntS l) i ≤ gI (ntS l) (i + 1) := by
  intro i hi
  have p : (ntS l).Pairwise fun a b => decide (a ≤ b) = true := by
    unfold ntS srt
    exact List.pairwise_mergeSort (fun a b c h1 h2 => by simp at *; omega) (fun a b => by simp; omega) _
  have := List.pairwise_iff_getElem.1 p i (i + 1) (by omega) hi (by omega)
  rw [gI_eq (by omega), gI_eq hi]
  simpa using this
/-- The notes of good tests are the reference's. -/
theorem ntD_rn {l : List P4} (O : TOk l) : ntD l = rn l 88 := by
  refine asc_ext _ _ (dd_asc (ntS_asc l) _ (Nat.le_refl _)).1 (rn_asc 88) fun x => ?_
  have m : x ∈ ntD l ↔ ∃ j, j < l.length ∧ ((at4 l j).1 = x ∨ (at4 l j).2.1 = x) := by
    rw [← mem_nts, ← mem_ntS]
    exact ⟨fun h => mem_dd _ (Nat.le_refl _) h, fun h => dd_mem _ (Nat.le_refl _) (by rw [List.take_length]; exact h)⟩
  show x ∈ ntD l ↔ _
  rw [m, rn_mem]
  constructor
  · rintro ⟨j, hj, e⟩
    obtain ⟨a, b, _⟩ := chkX_0 (O.chk j hj)
    have hx : 0 ≤ x ∧ x ≤ 87 := by rcases e with e | e <;> omega
    refine ⟨x.toNat, by omega, by omega, fun z => ?_⟩
    have : (j : Int) ∈ sgA l (x.toNat : Int) := (mem_sg _).2 ⟨j, hj, rfl, by rw [show ((x.toNat : Nat) : Int) = x by omega]; simpa [isIn] using e⟩
    rw [z] at this; cases this
  · rintro ⟨n, hn, rfl, h⟩
    obtain ⟨y, hy⟩ := List.exists_mem_of_ne_nil _ h
    obtain ⟨j, hj, _, e⟩ := (mem_sg _).1 hy
    exact ⟨j, hj, by simpa [isIn] using e⟩
end U
end Go.Abs
/- Notes, signature, whether strings are singled out. -/
namespace Go.Abs
namespace U
set_option maxRecDepth 100000
set_option maxHeartbeats 0
set_option linter.unusedSimpArgs false
def sinV (l : List P4) : Value := if chkTs l = 0 then (match tw1 (sgA l) (ntD l) 0 with
  | some p => .tuple #[.bool false, .agg #[i64 p.1, i64 p.2], i64 0]
  | none => .tuple #[.bool true, .agg #[i64 0, i64 0], i64 0]) else .tuple #[.bool false, .agg #[i64 0, i64 0], i64 (chkTs l)]
theorem c54 {d lim : Nat} {h : Heap} {v : Value} {l : List P4} (s : Sl4 h v l) (hl : chkTs l = 0 → l.length ≤ 12) : E.call (d + 10) lim 54 [v] h = some (sinV l, h) := by
  have k59 := fun (L : Heap) lim => c59 (d := d + 5) (lim := lim) ((Sl_freeze.2 s).app L)
  refine call1 fn54 rfl (by simp [ef54]) ?_
  unfold sinV
  by_cases q0 : chkTs l = 0
  case neg => simp [ef54, k59, q0]
  have k87 := fun (L : Heap) lim => c87 (d := d) (lim := lim) ((Sl_freeze.2 s).app L) (hl q0)
  generalize tw1 (sgA l) (ntD l) 0 = T at *
  rcases T with _ | ⟨x, y⟩
  · simp only [twV] at k87
    simp [ef54, k59, q0, k87]
  · simp only [twV] at k87
    simp [ef54, k59, q0, k87]
theorem SlI'_pre {h : Heap} {b n : Nat} {l z : List Int} {rw : Bool} (e : h.get b = some ⟨cI (l ++ z), rw⟩) (hn : n = l.length) : SlI' h (vS b n) l := by
  subst hn
  refine ⟨rfl, by rw [cI_len]; simp, fun _ => rfl, .inr ⟨_, _, _, _, rfl, Heap.get_lt e⟩, fun k hk => ?_⟩
  rw [slB_some, slO_some, Nat.zero_add, cell_get e]
  simp only [cI, List.map_append]
  rw [List.getElem?_append_left (by simpa using hk)]
end U
end Go.Abs
