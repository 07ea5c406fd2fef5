/- The reference's digits, to the base 10000. -/
import Derived.Test.YtjalhpdmdiimoaaDoorAbsNB6
set_option linter.unusedSimpArgs false
set_option linter.unusedVariables false
namespace Go.Abs
def ofF : Nat → Nat → List Nat
  | 0, _ => []
  | f + 1, n => if n = 0 then [] else n % 10000 :: ofF f (n / 10000)
theorem ofF_zero (f : Nat) : ofF f 0 = [] := by cases f <;> simp [ofF]
theorem ofF_pos {f n : Nat} (hf : n ≤ f) (h : 0 < n) : ofF f n = n % 10000 :: ofF (f - 1) (n / 10000) := by
  cases f with
  | zero => omega
  | succ f => simp [ofF, Nat.pos_iff_ne_zero.1 h]
theorem ofF_len : ∀ (f n : Nat), (ofF f n).length ≤ f
  | 0, _ => by simp [ofF]
  | f + 1, n => by
    unfold ofF; split
    · simp
    · have := ofF_len f (n / 10000); simp; omega
theorem ofF_val : ∀ (f n : Nat), n ≤ f → val 10000 (ofF f n) = n
  | 0, n, h => by have : n = 0 := by omega
                  subst this; rfl
  | f + 1, n, h => by
    unfold ofF; split
    · rename_i e; subst e; rfl
    · simp only [val]; rw [ofF_val f (n / 10000) (by omega)]; omega
theorem ofF_dig : ∀ (f n : Nat), digB 10000 (ofF f n)
  | 0, _ => by intro x hx; simp [ofF] at hx
  | f + 1, n => by
    unfold ofF; split
    · intro x hx; simp at hx
    · intro x hx
      simp only [List.mem_cons] at hx
      rcases hx with rfl | hx
      · omega
      · exact ofF_dig f _ x hx
theorem ofF_topped : ∀ (f n : Nat), n ≤ f → topped (ofF f n)
  | 0, n, h => by intro q; simp [ofF] at q
  | f + 1, n, h => by
    intro q
    by_cases e : n = 0
    · simp [ofF, e] at q
    · have hh : ofF (f + 1) n = n % 10000 :: ofF f (n / 10000) := by simp [ofF, e]
      by_cases z : n / 10000 = 0
      · simp only [hh, z, ofF_zero]; simp; omega
      · have hne : ofF f (n / 10000) ≠ [] := by
          cases f with
          | zero => omega
          | succ f => simp [ofF]; omega
        simp only [hh]; rw [List.getLast_cons hne]
        exact ofF_topped f (n / 10000) (by omega) hne
theorem SlW_own {h : Heap} {b : Nat} {l : List Nat} {rw : Bool} (hb : b < h.length) (e : h.get b = some ⟨cW l, rw⟩) : SlW h (.slice (some ⟨b, 0, none⟩) l.length 1) l :=
  ⟨rfl, by simp, fun _ => rfl, .inr ⟨b, 0, l.length, 1, rfl, hb⟩, fun k hk => by simp only [slB_some, slO_some, Nat.zero_add]; rw [cell_get e]⟩
namespace N
set_option maxRecDepth 100000
set_option maxHeartbeats 0
theorem c89z {d lim : Nat} {h : Heap} : E.call (d + 1) lim 89 [i64 0] h = some (.slice none 0 0, h) := by
  refine call1 fn89 rfl (by simp [ef89]) ?_
  simp [ef89]
  refine wpC_loop (fun q st => q = 0 ∧ st = ⟨[(0, i64 0), (3, .slice none 0 0)], h.freeze⟩) 0 (by show 0 < 2 ^ 64; decide) ?_ ?_
  · simp [St.tidy]
  · rintro q0 hq _ ⟨rfl, rfl⟩
    simp
theorem c89 {d lim : Nat} {h : Heap} {n : Nat} (h0 : 0 < n) (hn : n < 9223372036854775808) :
    E.call (d + 1) lim 89 [i64 n] h = some (.slice (some ⟨h.length, 0, none⟩) (ofF n n).length 1, h ++ [some ⟨cW (ofF n n), true⟩]) := by
  refine call_pure fn89 rfl (by simp [ef89]) ?_
  simp [ef89]
  have ow : ∀ q : Nat, q < 9223372036854775808 → IntKind.wrap .i64 (qdiv (q : Int) 10000) = ((q / 10000 : Nat) : Int) := fun q hq => by
    have : qdiv (q : Int) 10000 = ((q / 10000 : Nat) : Int) := by unfold qdiv; rw [Int.tdiv_eq_ediv_of_nonneg (by omega)]; omega
    rw [this, wrap_eq (by omega) (by omega)]
  have om : ∀ q : Nat, qmod (q : Int) 10000 = ((q % 10000 : Nat) : Int) := fun q => by
    unfold qmod; rw [Int.tmod_eq_emod_of_nonneg (by omega)]; omega
  have pw : ∀ (q k : Nat), 0 < q → q * 10000 ^ k < 9223372036854775808 → k < 5 := fun q k hq hk => by
    rcases Nat.lt_or_ge k 5 with z | z
    · exact z
    · have h1 : 10000 ^ 5 ≤ 10000 ^ k := Nat.pow_le_pow_right (by decide) z
      have h2 : 1 * 10000 ^ k ≤ q * 10000 ^ k := Nat.mul_le_mul_right _ hq
      have h3 : (9223372036854775808 : Nat) < 10000 ^ 5 := by decide
      omega
  have pn : ∀ (q k : Nat), q * 10000 ^ k < 9223372036854775808 → q / 10000 * 10000 ^ (k + 1) < 9223372036854775808 := fun q k hk => by
    have : q / 10000 * 10000 ^ (k + 1) = q / 10000 * 10000 * 10000 ^ k := by rw [Nat.pow_succ, Nat.mul_assoc, Nat.mul_comm (10000 ^ k)]
    have h2 : q / 10000 * 10000 * 10000 ^ k ≤ q * 10000 ^ k := Nat.mul_le_mul_right _ (by omega)
    omega
  refine wpC_loop (fun q st => q < 9223372036854775808 ∧ ((q = n ∧ st = ⟨[(0, i64 q), (3, .slice none 0 0)], h.freeze⟩) ∨
    (∃ f out, q ≤ f ∧ out ++ ofF f q = ofF n n ∧ out.length < 20 ∧ q * 10000 ^ out.length < 9223372036854775808 ∧
      st = ⟨[(0, i64 q), (3, .slice (some ⟨h.length, 0, none⟩) out.length 1)], h.freeze ++ [some ⟨cW out, true⟩]⟩))) n (by show n < 2 ^ 64; omega) ?_ ?_
  · simp [St.tidy]; exact hn
  · rintro q hq _ ⟨hqn, ⟨rfl, rfl⟩ | ⟨f, out, hf, hp, hlen, hpw, rfl⟩⟩
    · have hn' : (0 : Int) < (q : Int) := by omega
      have a3 : 1 ≤ maxLen := by decide
      simp [h0, hn', ow q hqn, om, E.append, E.added, a3, St.tidy]
      refine ⟨q / 10000, by omega, by omega, q - 1, by omega, [q % 10000], ?_, by simp, ?_, by simp, by simp [cW]⟩
      · rw [ofF_pos (Nat.le_refl q) h0]; rfl
      · have := pn q 0 (by simpa using hqn); simpa using this
    · by_cases hz : q = 0
      · subst hz
        rw [ofF_zero, List.append_nil] at hp
        subst hp
        simp [St.tidy]
      · have hqp : 0 < q := by omega
        have hn' : (0 : Int) < (q : Int) := by omega
        simp [hqp, hn', ow q hqn, om, E.append, E.added, St.tidy]
        have l5 := pw q out.length hqp hpw
        have hmx : out.length + 1 ≤ maxLen := Nat.le_trans (by omega : out.length + 1 ≤ 5) (by decide)
        refine ⟨⟨by omega, hmx⟩, q / 10000, by omega, by omega, f - 1, by omega, out ++ [q % 10000], ?_, by simp; omega, ?_, by simp, by simp [cW]⟩
        · rw [← hp, ofF_pos hf hqp]; simp
        · have := pn q _ hpw; simpa using this
end N
end Go.Abs
