/- Chapter 7: tests: their partials, their check. -/
import Derived.Test.YtllhkifkiabkbaaGreatDoorAbsHUAM
set_option linter.unusedSimpArgs false
set_option linter.unusedVariables false
/- Chapter 7: tests: their partials, their check. -/
namespace Go.Abs
namespace H.U
set_option maxRecDepth 100000
set_option maxHeartbeats 0
theorem wrapL {n : Int} (h1 : -9223372036854775808 ≤ n) (h2 : n < 9223372036854775808) : IntKind.wrap .i64 n = n := wrap_eq (by omega) (by omega)
/-- The exponents of a partial, and whether they are all. -/
def facX : Nat → P3
  | 1 => (0, 0, 0)
  | 2 => (12, 0, 0)
  | 3 => (0, 12, 0)
  | 4 => (24, 0, 0)
  | 5 => (0, 0, 12)
  | 6 => (12, 12, 0)
  | 7 => (0, 0, 0)
  | 8 => (36, 0, 0)
  | 9 => (0, 24, 0)
  | 10 => (12, 0, 12)
  | 11 => (0, 0, 0)
  | 12 => (24, 12, 0)
  | 13 => (0, 0, 0)
  | 14 => (12, 0, 0)
  | 15 => (0, 12, 12)
  | 16 => (48, 0, 0)
  | _ => (0, 0, 0)
def facB (n : Nat) : Bool := !(n == 7 || n == 11 || n == 13 || n == 14)
theorem part_cases {n : Nat} (h : 1 ≤ n ∧ n ≤ 16) : n = 1 ∨ n = 2 ∨ n = 3 ∨ n = 4 ∨ n = 5 ∨ n = 6 ∨ n = 7 ∨ n = 8 ∨ n = 9 ∨ n = 10 ∨ n = 11 ∨ n = 12 ∨ n = 13 ∨ n = 14 ∨ n = 15 ∨ n = 16 := by omega
theorem c146_1 {d lim : Nat} {h : Heap} : E.call (d + 1) lim 146 [i64 1] h = some (.tuple #[v3 (0, 0, 0), .bool true], h) := by
  refine call1 fn146 rfl (by simp [ef146]) ?_
  simp [ef146, wrapL, qmod, qdiv, wpC_unroll, wpI_step, E_fuel', St.tidy]
theorem c146_2 {d lim : Nat} {h : Heap} : E.call (d + 1) lim 146 [i64 2] h = some (.tuple #[v3 (12, 0, 0), .bool true], h) := by
  refine call1 fn146 rfl (by simp [ef146]) ?_
  simp [ef146, wrapL, qmod, qdiv, wpC_unroll, wpI_step, E_fuel', St.tidy]
theorem c146_3 {d lim : Nat} {h : Heap} : E.call (d + 1) lim 146 [i64 3] h = some (.tuple #[v3 (0, 12, 0), .bool true], h) := by
  refine call1 fn146 rfl (by simp [ef146]) ?_
  simp [ef146, wrapL, qmod, qdiv, wpC_unroll, wpI_step, E_fuel', St.tidy]
theorem c146_4 {d lim : Nat} {h : Heap} : E.call (d + 1) lim 146 [i64 4] h = some (.tuple #[v3 (24, 0, 0), .bool true], h) := by
  refine call1 fn146 rfl (by simp [ef146]) ?_
  simp [ef146, wrapL, qmod, qdiv, wpC_unroll, wpI_step, E_fuel', St.tidy]
theorem c146_5 {d lim : Nat} {h : Heap} : E.call (d + 1) lim 146 [i64 5] h = some (.tuple #[v3 (0, 0, 12), .bool true], h) := by
  refine call1 fn146 rfl (by simp [ef146]) ?_
  simp [ef146, wrapL, qmod, qdiv, wpC_unroll, wpI_step, E_fuel', St.tidy]
theorem c146_6 {d lim : Nat} {h : Heap} : E.call (d + 1) lim 146 [i64 6] h = some (.tuple #[v3 (12, 12, 0), .bool true], h) := by
  refine call1 fn146 rfl (by simp [ef146]) ?_
  simp [ef146, wrapL, qmod, qdiv, wpC_unroll, wpI_step, E_fuel', St.tidy]
theorem c146_7 {d lim : Nat} {h : Heap} : E.call (d + 1) lim 146 [i64 7] h = some (.tuple #[v3 (0, 0, 0), .bool false], h) := by
  refine call1 fn146 rfl (by simp [ef146]) ?_
  simp [ef146, wrapL, qmod, qdiv, wpC_unroll, wpI_step, E_fuel', St.tidy]
theorem c146_8 {d lim : Nat} {h : Heap} : E.call (d + 1) lim 146 [i64 8] h = some (.tuple #[v3 (36, 0, 0), .bool true], h) := by
  refine call1 fn146 rfl (by simp [ef146]) ?_
  simp [ef146, wrapL, qmod, qdiv, wpC_unroll, wpI_step, E_fuel', St.tidy]
theorem c146_9 {d lim : Nat} {h : Heap} : E.call (d + 1) lim 146 [i64 9] h = some (.tuple #[v3 (0, 24, 0), .bool true], h) := by
  refine call1 fn146 rfl (by simp [ef146]) ?_
  simp [ef146, wrapL, qmod, qdiv, wpC_unroll, wpI_step, E_fuel', St.tidy]
theorem c146_10 {d lim : Nat} {h : Heap} : E.call (d + 1) lim 146 [i64 10] h = some (.tuple #[v3 (12, 0, 12), .bool true], h) := by
  refine call1 fn146 rfl (by simp [ef146]) ?_
  simp [ef146, wrapL, qmod, qdiv, wpC_unroll, wpI_step, E_fuel', St.tidy]
theorem c146_11 {d lim : Nat} {h : Heap} : E.call (d + 1) lim 146 [i64 11] h = some (.tuple #[v3 (0, 0, 0), .bool false], h) := by
  refine call1 fn146 rfl (by simp [ef146]) ?_
  simp [ef146, wrapL, qmod, qdiv, wpC_unroll, wpI_step, E_fuel', St.tidy]
theorem c146_12 {d lim : Nat} {h : Heap} : E.call (d + 1) lim 146 [i64 12] h = some (.tuple #[v3 (24, 12, 0), .bool true], h) := by
  refine call1 fn146 rfl (by simp [ef146]) ?_
  simp [ef146, wrapL, qmod, qdiv, wpC_unroll, wpI_step, E_fuel', St.tidy]
theorem c146_13 {d lim : Nat} {h : Heap} : E.call (d + 1) lim 146 [i64 13] h = some (.tuple #[v3 (0, 0, 0), .bool false], h) := by
  refine call1 fn146 rfl (by simp [ef146]) ?_
  simp [ef146, wrapL, qmod, qdiv, wpC_unroll, wpI_step, E_fuel', St.tidy]
theorem c146_14 {d lim : Nat} {h : Heap} : E.call (d + 1) lim 146 [i64 14] h = some (.tuple #[v3 (12, 0, 0), .bool false], h) := by
  refine call1 fn146 rfl (by simp [ef146]) ?_
  simp [ef146, wrapL, qmod, qdiv, wpC_unroll, wpI_step, E_fuel', St.tidy]
theorem c146_15 {d lim : Nat} {h : Heap} : E.call (d + 1) lim 146 [i64 15] h = some (.tuple #[v3 (0, 12, 12), .bool true], h) := by
  refine call1 fn146 rfl (by simp [ef146]) ?_
  simp [ef146, wrapL, qmod, qdiv, wpC_unroll, wpI_step, E_fuel', St.tidy]
theorem c146_16 {d lim : Nat} {h : Heap} : E.call (d + 1) lim 146 [i64 16] h = some (.tuple #[v3 (48, 0, 0), .bool true], h) := by
  refine call1 fn146 rfl (by simp [ef146]) ?_
  simp [ef146, wrapL, qmod, qdiv, wpC_unroll, wpI_step, E_fuel', St.tidy]
theorem c146 {d lim : Nat} {h : Heap} {n : Nat} (hn : 1 ≤ n ∧ n ≤ 16) : E.call (d + 1) lim 146 [i64 n] h = some (.tuple #[v3 (facX n), .bool (facB n)], h) := by
  rcases part_cases hn with rfl | rfl | rfl | rfl | rfl | rfl | rfl | rfl | rfl | rfl | rfl | rfl | rfl | rfl | rfl | rfl
  · exact c146_1
  · exact c146_2
  · exact c146_3
  · exact c146_4
  · exact c146_5
  · exact c146_6
  · exact c146_7
  · exact c146_8
  · exact c146_9
  · exact c146_10
  · exact c146_11
  · exact c146_12
  · exact c146_13
  · exact c146_14
  · exact c146_15
  · exact c146_16
theorem c148_1 {d lim : Nat} {h : Heap} : E.call (d + 1) lim 148 [i64 1] h = some (.tuple #[v3 (0, 0, 0), .bool true], h) := by
  refine call1 fn148 rfl (by simp [ef148]) ?_
  simp [ef148, wrapL, qmod, qdiv, wpC_unroll, wpI_step, E_fuel', St.tidy]
theorem c148_2 {d lim : Nat} {h : Heap} : E.call (d + 1) lim 148 [i64 2] h = some (.tuple #[v3 (12, 0, 0), .bool true], h) := by
  refine call1 fn148 rfl (by simp [ef148]) ?_
  simp [ef148, wrapL, qmod, qdiv, wpC_unroll, wpI_step, E_fuel', St.tidy]
theorem c148_3 {d lim : Nat} {h : Heap} : E.call (d + 1) lim 148 [i64 3] h = some (.tuple #[v3 (0, 12, 0), .bool true], h) := by
  refine call1 fn148 rfl (by simp [ef148]) ?_
  simp [ef148, wrapL, qmod, qdiv, wpC_unroll, wpI_step, E_fuel', St.tidy]
theorem c148_4 {d lim : Nat} {h : Heap} : E.call (d + 1) lim 148 [i64 4] h = some (.tuple #[v3 (24, 0, 0), .bool true], h) := by
  refine call1 fn148 rfl (by simp [ef148]) ?_
  simp [ef148, wrapL, qmod, qdiv, wpC_unroll, wpI_step, E_fuel', St.tidy]
theorem c148_5 {d lim : Nat} {h : Heap} : E.call (d + 1) lim 148 [i64 5] h = some (.tuple #[v3 (0, 0, 12), .bool true], h) := by
  refine call1 fn148 rfl (by simp [ef148]) ?_
  simp [ef148, wrapL, qmod, qdiv, wpC_unroll, wpI_step, E_fuel', St.tidy]
theorem c148_6 {d lim : Nat} {h : Heap} : E.call (d + 1) lim 148 [i64 6] h = some (.tuple #[v3 (12, 12, 0), .bool true], h) := by
  refine call1 fn148 rfl (by simp [ef148]) ?_
  simp [ef148, wrapL, qmod, qdiv, wpC_unroll, wpI_step, E_fuel', St.tidy]
theorem c148_7 {d lim : Nat} {h : Heap} : E.call (d + 1) lim 148 [i64 7] h = some (.tuple #[v3 (0, 0, 0), .bool false], h) := by
  refine call1 fn148 rfl (by simp [ef148]) ?_
  simp [ef148, wrapL, qmod, qdiv, wpC_unroll, wpI_step, E_fuel', St.tidy]
theorem c148_8 {d lim : Nat} {h : Heap} : E.call (d + 1) lim 148 [i64 8] h = some (.tuple #[v3 (36, 0, 0), .bool true], h) := by
  refine call1 fn148 rfl (by simp [ef148]) ?_
  simp [ef148, wrapL, qmod, qdiv, wpC_unroll, wpI_step, E_fuel', St.tidy]
theorem c148_9 {d lim : Nat} {h : Heap} : E.call (d + 1) lim 148 [i64 9] h = some (.tuple #[v3 (0, 24, 0), .bool true], h) := by
  refine call1 fn148 rfl (by simp [ef148]) ?_
  simp [ef148, wrapL, qmod, qdiv, wpC_unroll, wpI_step, E_fuel', St.tidy]
theorem c148_10 {d lim : Nat} {h : Heap} : E.call (d + 1) lim 148 [i64 10] h = some (.tuple #[v3 (12, 0, 12), .bool true], h) := by
  refine call1 fn148 rfl (by simp [ef148]) ?_
  simp [ef148, wrapL, qmod, qdiv, wpC_unroll, wpI_step, E_fuel', St.tidy]
theorem c148_11 {d lim : Nat} {h : Heap} : E.call (d + 1) lim 148 [i64 11] h = some (.tuple #[v3 (0, 0, 0), .bool false], h) := by
  refine call1 fn148 rfl (by simp [ef148]) ?_
  simp [ef148, wrapL, qmod, qdiv, wpC_unroll, wpI_step, E_fuel', St.tidy]
theorem c148_12 {d lim : Nat} {h : Heap} : E.call (d + 1) lim 148 [i64 12] h = some (.tuple #[v3 (24, 12, 0), .bool true], h) := by
  refine call1 fn148 rfl (by simp [ef148]) ?_
  simp [ef148, wrapL, qmod, qdiv, wpC_unroll, wpI_step, E_fuel', St.tidy]
theorem c148_13 {d lim : Nat} {h : Heap} : E.call (d + 1) lim 148 [i64 13] h = some (.tuple #[v3 (0, 0, 0), .bool false], h) := by
  refine call1 fn148 rfl (by simp [ef148]) ?_
  simp [ef148, wrapL, qmod, qdiv, wpC_unroll, wpI_step, E_fuel', St.tidy]
theorem c148_14 {d lim : Nat} {h : Heap} : E.call (d + 1) lim 148 [i64 14] h = some (.tuple #[v3 (12, 0, 0), .bool false], h) := by
  refine call1 fn148 rfl (by simp [ef148]) ?_
  simp [ef148, wrapL, qmod, qdiv, wpC_unroll, wpI_step, E_fuel', St.tidy]
theorem c148_15 {d lim : Nat} {h : Heap} : E.call (d + 1) lim 148 [i64 15] h = some (.tuple #[v3 (0, 12, 12), .bool true], h) := by
  refine call1 fn148 rfl (by simp [ef148]) ?_
  simp [ef148, wrapL, qmod, qdiv, wpC_unroll, wpI_step, E_fuel', St.tidy]
theorem c148_16 {d lim : Nat} {h : Heap} : E.call (d + 1) lim 148 [i64 16] h = some (.tuple #[v3 (48, 0, 0), .bool true], h) := by
  refine call1 fn148 rfl (by simp [ef148]) ?_
  simp [ef148, wrapL, qmod, qdiv, wpC_unroll, wpI_step, E_fuel', St.tidy]
theorem c148 {d lim : Nat} {h : Heap} {n : Nat} (hn : 1 ≤ n ∧ n ≤ 16) : E.call (d + 1) lim 148 [i64 n] h = some (.tuple #[v3 (facX n), .bool (facB n)], h) := by
  rcases part_cases hn with rfl | rfl | rfl | rfl | rfl | rfl | rfl | rfl | rfl | rfl | rfl | rfl | rfl | rfl | rfl | rfl
  · exact c148_1
  · exact c148_2
  · exact c148_3
  · exact c148_4
  · exact c148_5
  · exact c148_6
  · exact c148_7
  · exact c148_8
  · exact c148_9
  · exact c148_10
  · exact c148_11
  · exact c148_12
  · exact c148_13
  · exact c148_14
  · exact c148_15
  · exact c148_16
/-- The check of a test. -/
def chkX (n m p q : Int) : Int :=
  if within n 0 87 = true ∧ within m 0 87 = true ∧ within p 1 16 = true ∧ within q 1 16 = true then
    (if m ≤ n then 9 else if facB p.toNat = true ∧ facB q.toNat = true then 0 else 15) else 2
theorem part_nat {n : Int} (h : within n 1 16 = true) : ∃ m : Nat, n = m ∧ (1 ≤ m ∧ m ≤ 16) := by
  unfold within at h
  simp at h
  exact ⟨n.toNat, by omega, by omega⟩
theorem c144 {d lim : Nat} {h : Heap} {a : Int} : E.call (d + 1) lim 144 [i64 a] h = some (.bool (within a 0 87), h) := by
  refine call1 fn144 rfl (by simp [ef144]) ?_
  unfold within
  by_cases q : 0 ≤ a <;> simp [ef144, q]
theorem c145 {d lim : Nat} {h : Heap} {a : Int} : E.call (d + 1) lim 145 [i64 a] h = some (.bool (within a 1 16), h) := by
  refine call1 fn145 rfl (by simp [ef145]) ?_
  unfold within
  by_cases q : 1 ≤ a <;> simp [ef145, q]
abbrev v4 (n m p q : Int) : Value := .agg #[i64 n, i64 m, i64 p, i64 q]
theorem c97 {d lim : Nat} {h : Heap} {n m p q : Int} : E.call (d + 3) lim 97 [v4 n m p q] h = some (i64 (chkX n m p q), h) := by
  refine call1 fn97 rfl (by simp [ef97]) ?_
  by_cases hn : within n 0 87 = true
  · by_cases hm : within m 0 87 = true
    · by_cases hp : within p 1 16 = true
      · by_cases hq : within q 1 16 = true
        · by_cases hl : m ≤ n
          · simp [ef97, c144, c145, hn, hm, hp, hq, hl, chkX]
          · obtain ⟨x, rfl, hx⟩ := part_nat hp
            obtain ⟨y, rfl, hy⟩ := part_nat hq
            have k1 := fun lim hh => @c146 (d + 1) lim hh x hx
            have k2 := fun lim hh => @c146 (d + 1) lim hh y hy
            generalize facX x = X at *
            generalize facX y = Y at *
            obtain ⟨x1, x2, x3⟩ := X
            obtain ⟨y1, y2, y3⟩ := Y
            by_cases fx : facB x = true
            · by_cases fy : facB y = true
              · simp [ef97, c144, c145, hn, hm, hp, hq, hl, chkX, k1, k2, fx, fy, wpC_unroll, wpI_step, E_fuel', St.tidy, wrapL]
              · simp [ef97, c144, c145, hn, hm, hp, hq, hl, chkX, k1, k2, fx, fy, wpC_unroll, wpI_step, E_fuel', St.tidy, wrapL]
            · simp [ef97, c144, c145, hn, hm, hp, hq, hl, chkX, k1, k2, fx, wpC_unroll, wpI_step, E_fuel', St.tidy, wrapL]
        · simp [ef97, c144, c145, hn, hm, hp, hq, chkX]
      · simp [ef97, c144, c145, hn, hm, hp, chkX]
    · simp [ef97, c144, c145, hn, hm, chkX]
  · simp [ef97, c144, c145, hn, chkX]
theorem c98 {d lim : Nat} {h : Heap} {n m p q : Int} : E.call (d + 3) lim 98 [v4 n m p q] h = some (i64 (chkX n m p q), h) := by
  refine call1 fn98 rfl (by simp [ef98]) ?_
  by_cases hn : within n 0 87 = true
  · by_cases hm : within m 0 87 = true
    · by_cases hp : within p 1 16 = true
      · by_cases hq : within q 1 16 = true
        · by_cases hl : m ≤ n
          · simp [ef98, c147, c41, hn, hm, hp, hq, hl, chkX]
          · obtain ⟨x, rfl, hx⟩ := part_nat hp
            obtain ⟨y, rfl, hy⟩ := part_nat hq
            have k1 := fun lim hh => @c148 (d + 1) lim hh x hx
            have k2 := fun lim hh => @c148 (d + 1) lim hh y hy
            generalize facX x = X at *
            generalize facX y = Y at *
            obtain ⟨x1, x2, x3⟩ := X
            obtain ⟨y1, y2, y3⟩ := Y
            by_cases fx : facB x = true
            · by_cases fy : facB y = true
              · simp [ef98, c147, c41, hn, hm, hp, hq, hl, chkX, k1, k2, fx, fy]
              · simp [ef98, c147, c41, hn, hm, hp, hq, hl, chkX, k1, k2, fx, fy]
            · simp [ef98, c147, c41, hn, hm, hp, hq, hl, chkX, k1, k2, fx]
        · simp [ef98, c147, c41, hn, hm, hp, hq, chkX]
      · simp [ef98, c147, c41, hn, hm, hp, chkX]
    · simp [ef98, c147, c41, hn, hm, chkX]
  · simp [ef98, c147, c41, hn, chkX]
end H.U
end Go.Abs
/- Chapter 7: lists of tests. -/
namespace Go.Abs
theorem Sl.sub {es : Nat} {h : Heap} {b o n : Nat} {cs : List Value} (s : Sl es h (.slice (some ⟨b, o, none⟩) n es) n cs) {a c : Nat} (hb : b < h.length) (ha : a ≤ c) (hc : c ≤ n) :
    Sl es h (.slice (some ⟨b, o + a * es, none⟩) (c - a) es) (c - a) ((cs.drop (a * es)).take ((c - a) * es)) := by
  have hz := s.size
  have h1 : (c - a) * es + a * es ≤ n * es := by rw [← Nat.add_mul]; exact Nat.mul_le_mul_right _ (by omega)
  refine ⟨rfl, by rw [List.length_take, List.length_drop, hz]; omega, fun _ => rfl, .inr ⟨_, _, _, _, rfl, hb⟩, fun k hk => ?_⟩
  have := s.cell (a * es + k) (by omega)
  simp only [slB_some, slO_some] at this ⊢
  rw [Nat.add_assoc, this, List.getElem?_take, if_pos hk, List.getElem?_drop]
theorem cS_app {α : Type} (f : α → List Value) (l m : List α) : cS f (l ++ m) = cS f l ++ cS f m := by simp [cS]
theorem cS_take {α : Type} {f : α → List Value} {es : Nat} (hf : ∀ a, (f a).length = es) (l : List α) {i : Nat} (hi : i ≤ l.length) : (cS f l).take (i * es) = cS f (l.take i) := by
  have e : cS f l = cS f (l.take i) ++ cS f (l.drop i) := by rw [← cS_app, List.take_append_drop]
  have hl : (cS f (l.take i)).length = i * es := by rw [cS_len hf, List.length_take, Nat.min_eq_left hi]
  rw [e, List.take_append_of_le_length (by omega), List.take_of_length_le (by omega)]
theorem cS_drop {α : Type} {f : α → List Value} {es : Nat} (hf : ∀ a, (f a).length = es) (l : List α) {i : Nat} (hi : i ≤ l.length) : (cS f l).drop (i * es) = cS f (l.drop i) := by
  have e : cS f l = cS f (l.take i) ++ cS f (l.drop i) := by rw [← cS_app, List.take_append_drop]
  have hl : (cS f (l.take i)).length = i * es := by rw [cS_len hf, List.length_take, Nat.min_eq_left hi]
  rw [e, List.drop_append_of_le_length (by omega), List.drop_of_length_le (by omega), List.nil_append]
/-- A part of a slice of structs. -/
theorem Sl.subS {α : Type} {f : α → List Value} {es : Nat} (hf : ∀ a, (f a).length = es) {h : Heap} {b o n : Nat} {l : List α} (s : Sl es h (.slice (some ⟨b, o, none⟩) n es) n (cS f l)) (hn : n = l.length) {a c : Nat} (hb : b < h.length) (ha : a ≤ c) (hc : c ≤ n) :
    Sl es h (.slice (some ⟨b, o + a * es, none⟩) (c - a) es) ((l.drop a).take (c - a)).length (cS f ((l.drop a).take (c - a))) := by
  have := s.sub hb ha hc
  rw [cS_drop hf l (by omega), cS_take hf _ (by rw [List.length_drop]; omega)] at this
  rw [show ((l.drop a).take (c - a)).length = c - a by rw [List.length_take, List.length_drop]; omega]
  exact this
namespace H.U
set_option maxRecDepth 100000
/-- Tests. -/
abbrev P4 := Int × Int × Int × Int
def at4 (l : List P4) (i : Nat) : P4 := (l[i]?).getD (0, 0, 0, 0)
theorem at4_get {l : List P4} {i : Nat} (h : i < l.length) : l[i] = at4 l i := by unfold at4; rw [List.getElem?_eq_getElem h]; rfl
def enc4 (x : P4) : List Value := [i64 x.1, i64 x.2.1, i64 x.2.2.1, i64 x.2.2.2]
theorem c4_len (l : List P4) : (cS enc4 l).length = l.length * 4 := cS_len (f := enc4) (es := 4) (fun _ => rfl) l
theorem c4_part {l : List P4} {i : Nat} (h : i < l.length) : ((cS enc4 l).drop (i * 4)).take 4 = [i64 (at4 l i).1, i64 (at4 l i).2.1, i64 (at4 l i).2.2.1, i64 (at4 l i).2.2.2] := by
  rw [cS_part (f := enc4) (es := 4) (fun _ => rfl) l i h, at4_get h]; rfl
abbrev Sl4 (h : Heap) (v : Value) (l : List P4) : Prop := Sl 4 h v l.length (cS enc4 l)
theorem c4_plain (l : List P4) : (cS enc4 l).all plainV = true := by simp [cS, List.all_flatMap, enc4, plainV]
theorem at4_take {l : List P4} {i k : Nat} (h : k < i) : at4 (l.take i) k = at4 l k := by unfold at4; rw [List.getElem?_take, if_pos h]
def eq4 (x y : P4) : Bool := x.1 == y.1 && (x.2.1 == y.2.1 && (x.2.2.1 == y.2.2.1 && x.2.2.2 == y.2.2.2))
theorem eq4_iff {x y : P4} : eq4 x y = true ↔ x = y := by
  obtain ⟨a, b, c, e⟩ := x
  obtain ⟨a', b', c', e'⟩ := y
  simp [eq4]
def has4 (l : List P4) (x : P4) : Bool := decide (fstI (fun k => eq4 x (at4 l k)) l.length 0 < l.length)
theorem has4_iff {l : List P4} {x : P4} : has4 l x = true ↔ ∃ k, k < l.length ∧ at4 l k = x := by
  obtain ⟨a1, a2, a3, a4⟩ := fstI_spec (p := fun k => eq4 x (at4 l k)) (n := l.length) _ 0 rfl (by omega)
  unfold has4
  rw [decide_eq_true_eq]
  constructor
  · intro h; exact ⟨_, h, (eq4_iff.1 (a3 h)).symm⟩
  · rintro ⟨k, hk, e⟩
    rcases Nat.lt_or_ge (fstI (fun k => eq4 x (at4 l k)) l.length 0) l.length with z | z
    · exact z
    · have := a4 k (by omega) (by omega)
      rw [eq4_iff.2 e.symm] at this; cases this
/-- The error of a test among others. -/
def tErr (l : List P4) (i : Nat) : Int := if chkX (at4 l i).1 (at4 l i).2.1 (at4 l i).2.2.1 (at4 l i).2.2.2 = 0 then (if has4 (l.take i) (at4 l i) = true then 5 else 0) else chkX (at4 l i).1 (at4 l i).2.1 (at4 l i).2.2.1 (at4 l i).2.2.2
def chkTs (l : List P4) : Int := if 60 < l.length then 8 else fstE (tErr l) l.length 0
end H.U
end Go.Abs
/- Chapter 7: the reference's check of tests; copies of tests. -/
namespace Go.Abs
namespace H.U
set_option maxRecDepth 100000
theorem has4_fst {l : List P4} {i : Nat} {x : P4} (hi : i ≤ l.length) : has4 (l.take i) x = decide (fstI (fun k => eq4 (at4 l k) x) i 0 < i) := by
  have hl : (l.take i).length = i := by rw [List.length_take]; omega
  rw [Bool.eq_iff_iff, has4_iff, decide_eq_true_eq, hl]
  obtain ⟨a1, a2, a3, a4⟩ := fstI_spec (p := fun k => eq4 (at4 l k) x) (n := i) _ 0 rfl (by omega)
  constructor
  · rintro ⟨k, hk, e⟩
    rw [at4_take hk] at e
    rcases Nat.lt_or_ge (fstI (fun k => eq4 (at4 l k) x) i 0) i with z | z
    · exact z
    · have := a4 k (by omega) (by omega)
      rw [eq4_iff.2 e] at this; cases this
  · intro h
    exact ⟨_, h, by rw [at4_take h]; exact eq4_iff.1 (a3 h)⟩
theorem c62 {d lim : Nat} {h : Heap} {v : Value} {l : List P4} (s : Sl4 h v l) : E.call (d + 4) lim 62 [v] h = some (i64 (chkTs l), h) := by
  have r := s.rules2
  refine call1 fn62 rfl (by simp [ef62]) ?_
  unfold chkTs
  by_cases hl : 60 < l.length
  · have hli : (60 : Int) < l.length := by omega
    simp [ef62, r, hl, hli, Int.not_le.2 hli]
  have hli : (l.length : Int) ≤ 60 := by omega
  rw [if_neg hl]
  generalize hI : fstE (tErr l) l.length 0 = I
  simp [ef62, r, Nat.not_lt.1 hl, hl, hli, Int.not_lt.2 hli]
  refine wpC_loop (fun z st => ∃ i : Nat, z = l.length - i ∧ i ≤ l.length ∧ fstE (tErr l) l.length i = I ∧ st = ⟨[(0, v), (3, i64 (i : Int))], h.freeze⟩) l.length (by show l.length < 2 ^ 64; omega) ?_ ?_
  · simp [St.tidy, r]
    exact ⟨0, by omega, by omega, hI, rfl⟩
  · rintro z hz _ ⟨i, rfl, hi, hc, rfl⟩
    by_cases hlt : i < l.length
    · have hlti : (i : Int) < l.length := by omega
      have w1' := w1 (i := i) (by omega)
      have p4 := c4_part hlt
      have k4 : i * 4 + 4 ≤ l.length * 4 := by omega
      rw [fstE_lt hlt] at hc
      have k88 := fun lim H => c98 (d := d) (lim := lim) (h := H) (n := (at4 l i).1) (m := (at4 l i).2.1) (p := (at4 l i).2.2.1) (q := (at4 l i).2.2.2)
      generalize hX : chkX (at4 l i).1 (at4 l i).2.1 (at4 l i).2.2.1 (at4 l i).2.2.2 = X at *
      by_cases e1 : X = 0
      case neg =>
        rw [show tErr l i = X by simp only [tErr, hX]; rw [if_neg e1], if_neg e1] at hc
        subst hc
        simp [hlti, hlt, Nat.not_le.2 hlt, r, p4, k4, k88, e1]
      have e2 : tErr l i = if fstI (fun k => eq4 (at4 l k) (at4 l i)) i 0 < i then 5 else 0 := by
        simp only [tErr, hX]; rw [if_pos e1, has4_fst (by omega)]
        simp only [decide_eq_true_eq]
      rw [e2] at hc
      generalize hJ : fstI (fun k => eq4 (at4 l k) (at4 l i)) i 0 = J at *
      simp [hlti, hlt, Nat.not_le.2 hlt, r, p4, k4, k88, e1]
      refine wpC_loop (fun z st => ∃ j : Nat, z = i - j ∧ j ≤ i ∧ fstI (fun k => eq4 (at4 l k) (at4 l i)) i j = J ∧ st = ⟨[(0, v), (3, i64 (i : Int)), (5, i64 (j : Int))], h.freeze⟩) i (by show i < 2 ^ 64; omega) ?_ ?_
      · simp [St.tidy, r]
        exact ⟨0, by omega, by omega, hJ, rfl⟩
      · rintro z hz _ ⟨j, rfl, hj, hc2, rfl⟩
        by_cases hjt : j < i
        · have hjti : (j : Int) < i := by omega
          have wj := w1 (i := j) (by omega)
          have hjl : j < l.length := by omega
          have hjli : (j : Int) < l.length := by omega
          have q4 := c4_part hjl
          have kj : j * 4 + 4 ≤ l.length * 4 := by omega
          rw [fstI_lt hjt] at hc2
          by_cases e : eq4 (at4 l j) (at4 l i) = true
          · rw [if_pos e] at hc2
            subst hc2
            rw [if_pos hjt, if_neg (by omega)] at hc
            subst hc
            unfold eq4 at e
            simp [hlti, hlt, Nat.not_le.2 hlt, hjti, hjt, Nat.not_le.2 hjt, hjl, hjli, Nat.not_le.2 hjl, r, p4, k4, q4, kj, E.eqCells, e]
          · rw [if_neg e] at hc2
            unfold eq4 at e
            have e := Bool.eq_false_iff.2 e
            simp [hlti, hlt, Nat.not_le.2 hlt, hjti, hjt, Nat.not_le.2 hjt, hjl, hjli, Nat.not_le.2 hjl, r, p4, k4, q4, kj, E.eqCells, e, wj, St.tidy]
            exact ⟨i - (j + 1), by omega, j + 1, by omega, by omega, hc2, by omega⟩
        · obtain rfl : j = i := by omega
          rw [fstI_ge (by omega)] at hc2
          rw [← hc2, if_neg (Nat.lt_irrefl _), if_pos rfl] at hc
          simp [w1', St.tidy, r]
          exact ⟨l.length - (j + 1), by omega, j + 1, by omega, by omega, hc, by omega⟩
    · obtain rfl : i = l.length := by omega
      rw [fstE_ge (by omega)] at hc
      subst hc
      simp [r]
/-- Few tests. -/
def fewB (n most : Int) : Bool := decide (n ≤ most) || (decide (60 < n) && decide (n ≤ 63))
theorem c15 {d lim : Nat} {h : Heap} {v : Value} {l : List P4} {m : Int} (s : Sl4 h v l) : E.call (d + 1) lim 15 [v, i64 m] h = some (.bool (fewB l.length m), h) := by
  have r := s.rules2
  refine call1 fn15 rfl (by simp [ef15]) ?_
  unfold fewB
  simp [ef15, r]
  grind
end H.U
end Go.Abs
/- Chapter 7: soundings. -/
namespace Go.Abs
namespace H.U
set_option maxRecDepth 100000
set_option maxHeartbeats 0
end H.U
end Go.Abs
/- Chapter 7: what is heard: the reference. -/
namespace Go.Abs
namespace H.U
set_option maxRecDepth 100000
set_option maxHeartbeats 0
def fndS (s : List P3) (n : Int) : Nat := fstI (fun k => decide ((at3 s k).1 = n)) s.length 0
def sndV (s : List P3) (n : Int) : P2 := if fndS s n < s.length then ((at3 s (fndS s n)).2.1, (at3 s (fndS s n)).2.2) else (0, 0)
/-- Good tests. -/
structure TOk (l : List P4) : Prop where
  len : l.length ≤ 60
  chk : ∀ i, i < l.length → chkX (at4 l i).1 (at4 l i).2.1 (at4 l i).2.2.1 (at4 l i).2.2.2 = 0
  one : ∀ i, i < l.length → ∀ k, k < i → at4 l k ≠ at4 l i
theorem TOk.of {l : List P4} (h : chkTs l = 0) : TOk l := by
  unfold chkTs at h
  by_cases q : 60 < l.length
  · rw [if_pos q] at h; cases h
  rw [if_neg q, fstE_all _ 0 rfl] at h
  have key : ∀ i, i < l.length → chkX (at4 l i).1 (at4 l i).2.1 (at4 l i).2.2.1 (at4 l i).2.2.2 = 0 ∧ ¬ has4 (l.take i) (at4 l i) = true := fun i hi => by
    have := h i (by omega) hi
    unfold tErr at this
    by_cases z : chkX (at4 l i).1 (at4 l i).2.1 (at4 l i).2.2.1 (at4 l i).2.2.2 = 0
    · rw [if_pos z] at this
      refine ⟨z, fun y => ?_⟩
      rw [if_pos y] at this; cases this
    · rw [if_neg z] at this; exact absurd this z
  refine ⟨by omega, fun i hi => (key i hi).1, fun i hi k hk e => (key i hi).2 ?_⟩
  rw [has4_iff]
  exact ⟨k, by rw [List.length_take]; omega, by rw [at4_take hk]; exact e⟩
/-- Counts. -/
abbrev P6 := P4 × P2
def enc6 (x : P6) : List Value := enc4 x.1 ++ enc2 x.2
def hrd (s : List P3) (l : List P4) (i : Nat) : P6 :=
  (at4 l i, ((at4 l i).2.2.2 * (sndV s (at4 l i).2.1).1 - (at4 l i).2.2.1 * (sndV s (at4 l i).1).2, (at4 l i).2.2.2 * (sndV s (at4 l i).2.1).2 - (at4 l i).2.2.1 * (sndV s (at4 l i).1).1))
def hL (s : List P3) (l : List P4) (k : Nat) : List P6 := (List.range k).map (hrd s l)
theorem c6_plain (l : List P6) : (cS enc6 l).all plainV = true := by simp [cS, List.all_flatMap, enc6, enc4, enc2, plainV]
theorem c6_one (l : List P6) : (cS enc6 l).all Value.oneCell' = true := by simp [cS, List.all_flatMap, enc6, enc4, enc2, Value.oneCell']
end H.U
end Go.Abs
