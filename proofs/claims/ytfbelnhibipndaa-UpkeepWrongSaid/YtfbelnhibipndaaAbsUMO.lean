/- Notes: both lists are one. -/
import Derived.Test.YtfbelnhibipndaaAbsUMN
set_option linter.unusedSimpArgs false
set_option linter.unusedVariables false
/- Notes: both lists are one. -/
namespace Go.Abs
namespace U
set_option maxRecDepth 100000
theorem dd_asc {L : List Int} (hs : ∀ i, i + 1 < L.length → gI L i ≤ gI L (i + 1)) : ∀ k, k ≤ L.length → (dd L k).Pairwise (· < ·) ∧ (∀ x ∈ dd L k, x ≤ gI L (k - 1))
  | 0, _ => ⟨List.Pairwise.nil, fun x h => by simp [dd] at h⟩
  | k + 1, hk => by
    obtain ⟨a, b⟩ := dd_asc hs k (by omega)
    have st : k ≠ 0 → gI L (k - 1) ≤ gI L k := fun h => by have := hs (k - 1) (by omega); rwa [show k - 1 + 1 = k by omega] at this
    rw [Nat.add_sub_cancel]
    unfold dd
    by_cases z : k = 0 ∨ gI L k ≠ gI L (k - 1)
    · rw [if_pos z]
      rcases Nat.eq_zero_or_pos k with z0 | z0
      · subst z0; simp [dd]
      · have lt : gI L (k - 1) < gI L k := by
          have := st (by omega)
          rcases z with z | z
          · omega
          · omega
        refine ⟨List.pairwise_append.2 ⟨a, by simp, fun x hx y hy => ?_⟩, fun x hx => ?_⟩
        · rw [List.mem_singleton.1 hy]; have := b x hx; omega
        · rcases List.mem_append.1 hx with y | y
          · have := b x y; omega
          · rw [List.mem_singleton.1 y]; omega
    · rw [if_neg z]
      rw [not_or] at z
      refine ⟨a, fun x hx => ?_⟩
      have := b x hx
      have := st z.1
      omega
theorem dd_mem {L : List Int} {x : Int} : ∀ k, k ≤ L.length → x ∈ L.take k → x ∈ dd L k
  | 0, _, h => by simp at h
  | k + 1, hk, h => by
    rw [take_succ' (by omega)] at h
    unfold dd
    by_cases z : k = 0 ∨ gI L k ≠ gI L (k - 1)
    · rw [if_pos z]
      rcases List.mem_append.1 h with y | y
      · exact List.mem_append.2 (.inl (dd_mem k (by omega) y))
      · exact List.mem_append.2 (.inr y)
    · rw [if_neg z]
      rw [not_or] at z
      rcases List.mem_append.1 h with y | y
      · exact dd_mem k (by omega) y
      · refine dd_mem k (by omega) ?_
        rw [List.mem_singleton.1 y]
        have e : gI L k = gI L (k - 1) := Decidable.of_not_not z.2
        rw [e, show L.take k = L.take (k - 1 + 1) by rw [show k - 1 + 1 = k by omega], take_succ' (by omega)]
        simp
theorem ntS_asc (l : List P4) : ∀ i, i + 1 < (ntS l).length → gI (ntS l) i ≤ gI (ntS l) (i + 1) := by
  intro i hi
  have p : (ntS l).Pairwise fun a b => decide (a ≤ b) = true := by
    unfold ntS srt
    exact List.pairwise_mergeSort (fun a b c h1 h2 => by simp at *; omega) (fun a b => by simp; omega) _
  have := List.pairwise_iff_getElem.1 p i (i + 1) (by omega) hi (by omega)
  rw [gI_eq (by omega), gI_eq hi]
  simpa using this
end U
end Go.Abs
/- Notes, signature, whether strings are singled out. -/
namespace Go.Abs
namespace U
set_option maxRecDepth 100000
set_option maxHeartbeats 0
set_option linter.unusedSimpArgs false
theorem c52 {d lim : Nat} {h : Heap} {v : Value} {l : List P4} (s : Sl4 h v l) (hl : chkTs l = 0 → l.length ≤ 12) :
    E.call (d + 9) lim 52 [v] h = some (.tuple #[if chkTs l = 0 then ntV l h.length else .slice none 0 0, i64 (chkTs l)], h ++ if chkTs l = 0 then ntB l else []) := by
  have k59 := fun lim => c59 (d := d + 4) (lim := lim) (Sl_freeze.2 s)
  refine call_pure fn52 rfl (by simp [ef52]) ?_
  by_cases q0 : chkTs l = 0
  case neg => simp [ef52, k59, q0]
  have k85 := fun lim => c85 (D := d) (lim := lim) (Sl_freeze.2 s) (hl q0)
  have cp := cI_plain (ddz (ntS l))
  unfold ntV ntB at *
  by_cases z : l.length = 0
  · have e := List.eq_nil_of_length_eq_zero z
    simp only [if_pos z] at k85
    simp [ef52, k59, q0, k85, e]
    rw [show chkTs [] = 0 by unfold chkTs; rw [if_neg (by decide), fstE_ge (by decide)]]; simp
  · have e : ¬ l = [] := fun y => z (by rw [y]; rfl)
    simp only [if_neg z] at k85
    simp [ef52, k59, q0, k85, e, cp]
def sgE (l : List P4) (n : Int) : Int := if chkTs l = 0 then (if within n 0 87 = true then (if sgA l n = [] then 6 else 0) else 2) else chkTs l
theorem c53 {d lim : Nat} {h : Heap} {v : Value} {l : List P4} {n : Int} (s : Sl4 h v l) (hl : l.length ≤ 1000) :
    E.call (d + 5) lim 53 [v, i64 n] h = some (.tuple #[if sgE l n = 0 then vS h.length (sgA l n).length else .slice none 0 0, i64 (sgE l n)], h ++ if sgE l n = 0 then [some ⟨cI (sgA l n), true⟩] else []) := by
  have k59 := fun lim => c59 (d := d) (lim := lim) (Sl_freeze.2 s)
  have k86 := fun lim => c86 (d := d + 3) (lim := lim) (n := n) (Sl_freeze.2 s) hl
  refine call_pure fn53 rfl (by simp [ef53]) ?_
  unfold sgE
  by_cases q0 : chkTs l = 0
  case neg => simp [ef53, k59, q0]
  by_cases q1 : within n 0 87 = true
  case neg => simp [ef53, k59, q0, c78, q1]
  have cp := cI_plain (sgA l n)
  by_cases q2 : sgA l n = []
  · rw [q2] at k86
    simp [ef53, k59, q0, c78, q1, q2, k86, lV, lB]
  · simp [ef53, k59, q0, c78, q1, q2, k86, lV, lB, cp]
def sinV (l : List P4) : Value := if chkTs l = 0 then (match tw1 (sgA l) (ntD l) 0 with
  | some p => .tuple #[.bool false, .agg #[i64 p.1, i64 p.2], i64 0]
  | none => .tuple #[.bool true, .agg #[i64 0, i64 0], i64 0]) else .tuple #[.bool false, .agg #[i64 0, i64 0], i64 (chkTs l)]
theorem c54 {d lim : Nat} {h : Heap} {v : Value} {l : List P4} (s : Sl4 h v l) (hl : chkTs l = 0 → l.length ≤ 12) : E.call (d + 10) lim 54 [v] h = some (sinV l, h) := by
  have k59 := fun (L : Heap) lim => c59 (d := d + 5) (lim := lim) ((Sl_freeze.2 s).app L)
  refine call1 fn54 rfl (by simp [ef54]) ?_
  unfold sinV
  by_cases q0 : chkTs l = 0
  case neg => simp [ef54, k59, q0]
  have k87 := fun (L : Heap) lim => c87 (d := d) (lim := lim) ((Sl_freeze.2 s).app L) (hl q0)
  generalize tw1 (sgA l) (ntD l) 0 = T at *
  rcases T with _ | ⟨x, y⟩
  · simp only [twV] at k87
    simp [ef54, k59, q0, k87]
  · simp only [twV] at k87
    simp [ef54, k59, q0, k87]
end U
end Go.Abs
