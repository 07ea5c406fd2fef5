/- Triples of dots. -/
import Derived.Test.YtjalhpdmdiimoaaDoorAbsNL
import Derived.Test.YtjalhpdmdiimoaaDoorAbsNF3
import Derived.Test.YtjalhpdmdiimoaaDoorAbsWpM
set_option linter.unusedSimpArgs false
set_option linter.unusedVariables false
namespace Go.Abs.N
open Go Go.Abs
set_option maxRecDepth 100000
set_option maxHeartbeats 0
/-- Dots in order. -/
structure DotsOk (l : D2) : Prop where
  n3 : 3 ≤ l.length
  n60 : l.length ≤ 60
  bx : ∀ i, i < l.length → -10000 ≤ dx l i ∧ dx l i ≤ 10000
  by_ : ∀ i, i < l.length → -10000 ≤ dy l i ∧ dy l i ≤ 10000
  up : ∀ i j, i < j → j < l.length → dx l i < dx l j
theorem dotsL_ok {l : D2} : ∀ (k i : Nat), l.length - i = k → dotsL l i = 0 → (∀ j, i ≤ j → j < l.length → (-10000 ≤ dx l j ∧ dx l j ≤ 10000) ∧ (-10000 ≤ dy l j ∧ dy l j ≤ 10000) ∧ (0 < j → dx l (j - 1) < dx l j))
  | 0, i, hk, _ => fun j hj hl => by omega
  | k + 1, i, hk, h => by
    unfold dotsL at h
    rw [if_pos (by omega)] at h
    split at h
    · cases h
    · rename_i h1
      split at h
      · cases h
      · rename_i h2
        have ih := dotsL_ok k (i + 1) (by omega) h
        intro j hj hl
        rcases Nat.lt_or_ge i j with q | q
        · exact ih j q hl
        · have : j = i := by omega
          subst this
          simp [within] at h1
          refine ⟨by omega, by omega, fun h0 => ?_⟩
          simp [h0] at h2; omega
theorem dots_ok {l : D2} (h : dotsV l = 0) : DotsOk l := by
  unfold dotsV at h
  split at h
  · rename_i hw
    simp [within] at hw
    have k := dotsL_ok _ 0 rfl h
    refine ⟨by omega, by omega, fun i hi => (k i (by omega) hi).1, fun i hi => (k i (by omega) hi).2.1, fun i j hij hj => ?_⟩
    obtain ⟨m, rfl⟩ : ∃ m, j = i + 1 + m := ⟨j - i - 1, by omega⟩
    clear hij
    induction m with
    | zero => have := (k (i + 1) (by omega) hj).2.2 (by omega); simpa using this
    | succ m ih =>
      have h1 := ih (by omega)
      have := (k (i + 1 + (m + 1)) (by omega) hj).2.2 (by omega)
      rw [show i + 1 + (m + 1) - 1 = i + 1 + m by omega] at this
      omega
  · cases h
def wid (l : D2) (i k : Nat) : Int := dx l k - dx l i
def bent (l : D2) (i j k : Nat) : Int := (dy l i - dy l j) * wid l i k + (dy l k - dy l i) * (dx l j - dx l i)
theorem wid_b {l : D2} (D : DotsOk l) {i k : Nat} (h : i < k) (hk : k < l.length) : 1 ≤ wid l i k ∧ wid l i k ≤ 20000 := by
  have := D.up i k h hk; have := D.bx i (by omega); have := D.bx k hk; unfold wid; omega
theorem mul_b {a b A B : Int} (ha : -A ≤ a ∧ a ≤ A) (hb : -B ≤ b ∧ b ≤ B) (hA : 0 ≤ A) (hB : 0 ≤ B) : -(A * B) ≤ a * b ∧ a * b ≤ A * B := by
  have q : (a * b).natAbs ≤ A.toNat * B.toNat := by rw [Int.natAbs_mul]; exact Nat.mul_le_mul (by omega) (by omega)
  have e : ((A.toNat * B.toNat : Nat) : Int) = A * B := by rw [Int.natCast_mul]; congr 1 <;> omega
  omega
theorem bent_b {l : D2} (D : DotsOk l) {i j k : Nat} (h : i < j) (h' : j < k) (hk : k < l.length) :
    (-400000000 ≤ (dy l i - dy l j) * wid l i k ∧ (dy l i - dy l j) * wid l i k ≤ 400000000) ∧ (-400000000 ≤ (dy l k - dy l i) * (dx l j - dx l i) ∧ (dy l k - dy l i) * (dx l j - dx l i) ≤ 400000000) := by
  have w1 := wid_b D (show i < k by omega) hk
  have w2 := wid_b D h (show j < l.length by omega)
  have y1 := D.by_ i (by omega); have y2 := D.by_ j (by omega); have y3 := D.by_ k hk
  unfold wid at w2
  have a := mul_b (a := dy l i - dy l j) (b := wid l i k) (A := 20000) (B := 20000) (by omega) (by omega) (by omega) (by omega)
  have b := mul_b (a := dy l k - dy l i) (b := dx l j - dx l i) (A := 20000) (B := 20000) (by omega) (by omega) (by omega) (by omega)
  omega
abbrev trV (l : D2) (i j k : Nat) : Value := .agg #[i64 i, i64 j, i64 k, i64 (bent l i j k), i64 (wid l i k)]
theorem c92 {d lim : Nat} {h : Heap} {v : Value} {l : D2} (s : SlD h v l) (D : DotsOk l) {i j k : Nat} (hij : i < j) (hjk : j < k) (hk : k < l.length) : E.call (d + 1) lim 92 [v, i64 i, i64 j, i64 k] h = some (trV l i j k, h) := by
  refine call1 fn92 rfl (by simp [ef92]) ?_
  have hn := D.n3
  have r := s.rules2
  have hb := s.lt (by omega)
  have hne : ¬ List.length h = slB v := by omega
  have hne1 : ∀ m, ¬ List.length h + m = slB v := by intro m; omega
  have h1 : i < l.length := by omega
  have h2 : j < l.length := by omega
  have k1 : i * 2 + 2 ≤ l.length * 2 := by omega
  have k2 : j * 2 + 2 ≤ l.length * 2 := by omega
  have k3 : k * 2 + 2 ≤ l.length * 2 := by omega
  have p1 := cD_p h1; have p2 := cD_p h2; have p3 := cD_p hk
  have w1 := wid_b D (show i < k by omega) hk
  have w2 := wid_b D hij h2
  have b := bent_b D hij hjk hk
  have y1 := D.by_ i (by omega); have y2 := D.by_ j (by omega); have y3 := D.by_ k hk
  simp [ef92, r, hne, hne1, h1, h2, hk, k1, k2, k3, p1, p2, p3]
  unfold bent wid at *
  have e1 : IntKind.wrap .i64 (dy l i - dy l j) = dy l i - dy l j := wrap_eq (by omega) (by omega)
  have e2 : IntKind.wrap .i64 (dx l k - dx l i) = dx l k - dx l i := wrap_eq (by omega) (by omega)
  have e3 : IntKind.wrap .i64 (dy l k - dy l i) = dy l k - dy l i := wrap_eq (by omega) (by omega)
  have e4 : IntKind.wrap .i64 (dx l j - dx l i) = dx l j - dx l i := wrap_eq (by omega) (by omega)
  rw [e1, e2, e3, e4, wrap_eq (n := (dy l i - dy l j) * (dx l k - dx l i)) (by omega) (by omega), wrap_eq (n := (dy l k - dy l i) * (dx l j - dx l i)) (by omega) (by omega), wrap_eq (by omega) (by omega)]
  exact ⟨rfl, rfl⟩
/-- How far a triple is bent. -/
def sz (l : D2) (i j k : Nat) : Int := max (bent l i j k) (-bent l i j k)
theorem sz_b {l : D2} (D : DotsOk l) {i j k : Nat} (h : i < j) (h' : j < k) (hk : k < l.length) : 0 ≤ sz l i j k ∧ sz l i j k ≤ 800000000 ∧ (-800000000 ≤ bent l i j k ∧ bent l i j k ≤ 800000000) := by
  have := bent_b D h h' hk; unfold sz bent; omega
theorem c95 {d lim : Nat} {h : Heap} {l : D2} (D : DotsOk l) {i j k : Nat} (hij : i < j) (hjk : j < k) (hk : k < l.length) : E.call (d + 1) lim 95 [trV l i j k] h = some (i64 (sz l i j k), h) := by
  refine call1 fn95 rfl (by simp [ef95]) ?_
  have b := sz_b D hij hjk hk
  simp [ef95, sz]
  rw [wrap_eq (n := -bent l i j k) (by omega) (by omega)]
theorem c93 {d lim : Nat} {h : Heap} {l : D2} (D : DotsOk l) {i j k i' j' k' : Nat} (hij : i < j) (hjk : j < k) (hk : k < l.length) (hij' : i' < j') (hjk' : j' < k') (hk' : k' < l.length) :
    E.call (d + 2) lim 93 [trV l i j k, trV l i' j' k'] h = some (.bool (decide (sz l i j k * wid l i' k' < sz l i' j' k' * wid l i k)), h) := by
  refine call1 fn93 rfl (by simp [ef93]) ?_
  have b := sz_b D hij hjk hk
  have b' := sz_b D hij' hjk' hk'
  have w1 := wid_b D (show i < k by omega) hk
  have w2 := wid_b D (show i' < k' by omega) hk'
  have m1 := mul_b (a := sz l i j k) (b := wid l i' k') (A := 800000000) (B := 20000) (by omega) (by omega) (by omega) (by omega)
  have m2 := mul_b (a := sz l i' j' k') (b := wid l i k) (A := 800000000) (B := 20000) (by omega) (by omega) (by omega) (by omega)
  have e1 : IntKind.wrap .i64 (sz l i j k * wid l i' k') = sz l i j k * wid l i' k' := wrap_eq (by omega) (by omega)
  have e2 : IntKind.wrap .i64 (sz l i' j' k' * wid l i k) = sz l i' j' k' * wid l i k := wrap_eq (by omega) (by omega)
  simp [ef93, c95 D hij hjk hk, c95 D hij' hjk' hk', e1, e2]
end Go.Abs.N
