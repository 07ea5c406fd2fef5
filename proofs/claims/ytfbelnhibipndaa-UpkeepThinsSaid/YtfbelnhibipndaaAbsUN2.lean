/- Thinning: plain. -/
import Derived.Test.YtfbelnhibipndaaAbsUN1
set_option linter.unusedSimpArgs false
set_option linter.unusedVariables false
namespace Go.Abs
namespace U
set_option maxRecDepth 100000
theorem at4_ofK {l : List P4} {S : List Int} : ∀ k i, i < k → at4 (ofK l S k) i = at4 l (gI S i).toNat
  | 0, i, h => by omega
  | k + 1, i, h => by
    have len := ofK_len l S k
    unfold at4 at *
    rw [ofK]
    by_cases z : i < k
    · rw [List.getElem?_append_left (by omega)]
      exact at4_ofK (l := l) (S := S) k i z
    · obtain rfl : i = k := by omega
      rw [List.getElem?_append_right (by omega), len, Nat.sub_self]; rfl
/-- Numbers of tests, ascending. -/
structure SOk (l : List P4) (S : List Int) : Prop where
  rng : ∀ x ∈ S, 0 ≤ x ∧ x < l.length
  asc : S.Pairwise (· < ·)
theorem SOk.at {l : List P4} {S : List Int} (o : SOk l S) : ∀ i, i < S.length → 0 ≤ gI S i ∧ gI S i < l.length := fun i hi => o.rng _ (gI_mem hi)
theorem SOk.lt {l : List P4} {S : List Int} (o : SOk l S) {i j : Nat} (h : i < j) (hj : j < S.length) : gI S i < gI S j := by
  rw [gI_eq (by omega), gI_eq hj]
  exact List.pairwise_iff_getElem.1 o.asc i j (by omega) hj h
theorem asc_len : ∀ (S : List Int) (a b : Int), S.Pairwise (· < ·) → (∀ x ∈ S, a ≤ x ∧ x < b) → a ≤ b → (S.length : Int) ≤ b - a
  | [], a, b, _, _, h => by simp; omega
  | x :: S, a, b, hp, hr, h => by
    rw [List.pairwise_cons] at hp
    have hx := hr x (by simp)
    have := asc_len S (x + 1) b hp.2 (fun y hy => ⟨by have := hp.1 y hy; omega, (hr y (by simp [hy])).2⟩) (by omega)
    simp only [List.length_cons]
    omega
theorem SOk.len {l : List P4} {S : List Int} (o : SOk l S) : S.length ≤ l.length := by
  have := asc_len S 0 l.length o.asc o.rng (by omega)
  omega
/-- Some of good tests are good. -/
theorem TOk.sub {l : List P4} {S : List Int} (O : TOk l) (o : SOk l S) : TOk (ofA l S) := by
  have hl : (ofA l S).length = S.length := ofK_len l S _
  have sl := o.len
  have ol := O.len
  have e : ∀ i, i < S.length → at4 (ofA l S) i = at4 l (gI S i).toNat := fun i hi => at4_ofK _ i hi
  refine ⟨by omega, fun i hi => ?_, fun i hi k hk => ?_⟩
  · rw [e i (by omega)]
    have := o.at i (by omega)
    exact O.chk _ (by omega)
  · rw [e i (by omega), e k (by omega)]
    have a := o.at i (by omega)
    have b := o.at k (by omega)
    have c := o.lt hk (by omega)
    exact O.one _ (by omega) _ (by omega)
theorem chkTs_0 {l : List P4} (O : TOk l) : chkTs l = 0 := by
  unfold chkTs
  have := O.len
  rw [if_neg (by omega), fstE_all _ 0 rfl]
  intro i _ hi
  unfold tErr
  rw [if_pos (O.chk i hi), if_neg]
  rw [has4_iff]
  rintro ⟨k, hk, e⟩
  have hk' : k < i := by rw [List.length_take] at hk; omega
  rw [at4_take hk'] at e
  exact O.one i hi k hk' e
def iL : Nat → List Int
  | 0 => []
  | k + 1 => iL k ++ [(k : Int)]
theorem iL_len : ∀ k, (iL k).length = k
  | 0 => rfl
  | k + 1 => by rw [iL, List.length_append, iL_len k]; rfl
theorem mem_iL {x : Int} : ∀ k, x ∈ iL k ↔ 0 ≤ x ∧ x < k
  | 0 => by simp only [iL, List.not_mem_nil, false_iff]; omega
  | k + 1 => by
    rw [iL, List.mem_append, mem_iL k, List.mem_singleton]
    omega
theorem iL_asc : ∀ k, (iL k).Pairwise (· < ·)
  | 0 => List.Pairwise.nil
  | k + 1 => by
    rw [iL, List.pairwise_append]
    refine ⟨iL_asc k, by simp, fun x hx y hy => ?_⟩
    have := (mem_iL k).1 hx
    rw [List.mem_singleton.1 hy]; omega
theorem SOk.iL (l : List P4) : SOk l (iL l.length) := ⟨fun x hx => (mem_iL _).1 hx, iL_asc _⟩
/-- Whether tests do as well without one. -/
def thin (l : List P4) (S : List Int) : Bool := (tw1 (sgA (ofA l S)) (ntD (ofA l S)) 0).isNone && decide (ntD (ofA l S) = ntD l)
end U
end Go.Abs
