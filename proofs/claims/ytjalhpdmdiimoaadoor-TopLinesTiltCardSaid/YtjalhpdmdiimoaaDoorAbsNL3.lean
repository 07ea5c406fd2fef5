/- The best line: the program's search. -/
import Derived.Test.YtjalhpdmdiimoaaDoorAbsNL2
set_option linter.unusedSimpArgs false
set_option linter.unusedVariables false
namespace Go.Abs.N
open Go Go.Abs
set_option maxRecDepth 100000
set_option maxHeartbeats 0
abbrev T3 := Nat × Nat × Nat
def upT (bt : T3 → T3 → Bool) (b t : T3) : T3 := if bt b t = true then t else b
section
variable {σ : Type}
def foldK (up : σ → T3 → σ) (n : Nat) (b : σ) (i j k : Nat) : σ := if k < n then foldK up n (up b (i, j, k)) i j (k + 1) else b
termination_by n - k
def foldJ (up : σ → T3 → σ) (n : Nat) (b : σ) (i j : Nat) : σ := if j < n then foldJ up n (foldK up n b i j (j + 1)) i (j + 1) else b
termination_by n - j
def foldI (up : σ → T3 → σ) (n : Nat) (b : σ) (i : Nat) : σ := if i < n then foldI up n (foldJ up n b i (i + 1)) (i + 1) else b
termination_by n - i
variable {up : σ → T3 → σ} {n : Nat} {b : σ} {i j k : Nat}
theorem foldK_lt (h : k < n) : foldK up n b i j k = foldK up n (up b (i, j, k)) i j (k + 1) := by conv => lhs; unfold foldK; rw [if_pos h]
theorem foldK_ge (h : ¬ k < n) : foldK up n b i j k = b := by unfold foldK; rw [if_neg h]
theorem foldJ_lt (h : j < n) : foldJ up n b i j = foldJ up n (foldK up n b i j (j + 1)) i (j + 1) := by conv => lhs; unfold foldJ; rw [if_pos h]
theorem foldJ_ge (h : ¬ j < n) : foldJ up n b i j = b := by unfold foldJ; rw [if_neg h]
theorem foldI_lt (h : i < n) : foldI up n b i = foldI up n (foldJ up n b i (i + 1)) (i + 1) := by conv => lhs; unfold foldI; rw [if_pos h]
theorem foldI_ge (h : ¬ i < n) : foldI up n b i = b := by unfold foldI; rw [if_neg h]
end
def okT (n : Nat) (b : T3) : Prop := b.1 < b.2.1 ∧ b.2.1 < b.2.2 ∧ b.2.2 < n
def cmpP (l : D2) (b t : T3) : Bool := decide (sz l b.1 b.2.1 b.2.2 * wid l t.1 t.2.2 < sz l t.1 t.2.1 t.2.2 * wid l b.1 b.2.2)
def bestP (l : D2) : T3 := foldI (upT (cmpP l)) l.length (0, 1, 2) 0
theorem c94 {d lim : Nat} {h : Heap} {n m : Int} (hn : R64 n) (hm : R64 m) (h0 : 0 < m) : E.call (d + 2) lim 94 [i64 n, i64 m] h = some (fr (lowN n m) (lowD n m), h) := by
  have g := gcdL_ne hn hm (by omega)
  refine call1 fn94 rfl (by simp [ef94]) ?_
  simp [ef94, c120 hm, g, lowN, lowD, lowG, show ¬ m < 0 by omega]
/-- Where the line starts, twice the width times. -/
def stN (l : D2) (i j k : Nat) : Int := 2 * wid l i k * dy l i - 2 * (dy l k - dy l i) * dx l i - bent l i j k
abbrev lineV (l : D2) (b : T3) : Value := .agg #[i64 (lowN (stN l b.1 b.2.1 b.2.2) (2 * wid l b.1 b.2.2)), i64 (lowD (stN l b.1 b.2.1 b.2.2) (2 * wid l b.1 b.2.2)), i64 (lowN (dy l b.2.2 - dy l b.1) (wid l b.1 b.2.2)), i64 (lowD (dy l b.2.2 - dy l b.1) (wid l b.1 b.2.2)),
  i64 (lowN (sz l b.1 b.2.1 b.2.2) (2 * wid l b.1 b.2.2)), i64 (lowD (sz l b.1 b.2.1 b.2.2) (2 * wid l b.1 b.2.2)), i64 b.1, i64 b.2.1, i64 b.2.2]
abbrev Z9 : List Value := [i64 0, i64 0, i64 0, i64 0, i64 0, i64 0, i64 0, i64 0, i64 0]
abbrev bB (l : D2) (b : T3) : List Value := [i64 b.1, i64 b.2.1, i64 b.2.2, i64 (bent l b.1 b.2.1 b.2.2), i64 (wid l b.1 b.2.2)]
theorem c25 {d lim : Nat} {h : Heap} {v : Value} {l : D2} (s : SlD h v l) (hd : dotsV l = 0) : E.call (d + 3) lim 25 [v] h = some (.tuple #[lineV l (bestP l), i64 0], h) := by
  have D := dots_ok hd
  have hn := D.n3
  have hm := D.n60
  obtain ⟨bk, of, rfl⟩ : ∃ b o, v = .slice (some ⟨b, o, none⟩) l.length 2 := ⟨_, _, s.addr (by omega)⟩
  have hb := s.lt (by omega)
  have r := s.rules2
  simp only [slB_some, slO_some] at r hb
  refine call1 fn25 rfl (by simp [ef25]) ?_
  have t0 : ∀ lim hh, SlD hh (.slice (some ⟨bk, of, none⟩) l.length 2) l → E.call (d + 2) lim 92 [.slice (some ⟨bk, of, none⟩) l.length 2, i64 0, i64 1, i64 2] hh = some (trV l 0 1 2, hh) := fun lim hh ss => c92 ss D (i := 0) (j := 1) (k := 2) (by omega) (by omega) (by omega)
  simp [ef25, r, c91 (l := l), s, hd, t0]
  refine wpC_loop (fun m st => ∃ (i : Nat) (b : T3), m = l.length - i ∧ i ≤ l.length ∧ okT l.length b ∧ foldI (upT (cmpP l)) l.length b i = bestP l ∧
    st = ⟨[(0, .slice (some ⟨bk, of, none⟩) l.length 2), (2, .pointer (some ⟨h.length, 0, none⟩)), (5, .pointer (some ⟨h.length + 1, 0, none⟩)), (21, i64 l.length), (22, i64 i)], h.freeze ++ [some ⟨Z9, true⟩, some ⟨bB l b, true⟩]⟩) l.length (by show l.length < 2 ^ 64; omega) ?_ ?_
  · simp [St.tidy, hb]
    exact ⟨0, by simp, by omega, 0, 1, 2, ⟨by simp, by simp, by simp; omega⟩, by simp [bestP], by simp⟩
  · rintro m0 hm0 _ ⟨i, b, rfl, hi, hok, hf, rfl⟩
    by_cases hlt : i < l.length
    · have w1 := wrapN1 (n := i) (by omega)
      rw [foldI_lt hlt] at hf
      simp [hlt, w1]
      refine wpC_loop (fun m st => ∃ (j : Nat) (b' : T3), m = l.length - j ∧ i < j ∧ j ≤ l.length ∧ okT l.length b' ∧ foldJ (upT (cmpP l)) l.length b' i j = foldJ (upT (cmpP l)) l.length b i (i + 1) ∧
        st = ⟨[(0, .slice (some ⟨bk, of, none⟩) l.length 2), (2, .pointer (some ⟨h.length, 0, none⟩)), (5, .pointer (some ⟨h.length + 1, 0, none⟩)), (6, i64 i), (7, i64 j), (21, i64 l.length), (22, i64 i)], h.freeze ++ [some ⟨Z9, true⟩, some ⟨bB l b', true⟩]⟩) (l.length - (i + 1)) ?_ ?_ ?_
      · show l.length - (i + 1) < 2 ^ 64; omega
      · simp [St.tidy, hb]
        exact ⟨i + 1, rfl, by omega, by omega, b.1, b.2.1, b.2.2, hok, rfl, by omega, rfl, rfl, rfl, rfl, rfl⟩
      · rintro m1 hm1 _ ⟨j, b', rfl, hij, hj, hok', hf', rfl⟩
        by_cases hlt' : j < l.length
        · have w2 := wrapN1 (n := j) (by omega)
          rw [foldJ_lt hlt'] at hf'
          simp [hlt', Nat.not_le.2 hlt', w2]
          refine wpC_loop (fun m st => ∃ (k : Nat) (b2 : T3), m = l.length - k ∧ j < k ∧ k ≤ l.length ∧ okT l.length b2 ∧ foldK (upT (cmpP l)) l.length b2 i j k = foldK (upT (cmpP l)) l.length b' i j (j + 1) ∧
            st = ⟨[(0, .slice (some ⟨bk, of, none⟩) l.length 2), (2, .pointer (some ⟨h.length, 0, none⟩)), (5, .pointer (some ⟨h.length + 1, 0, none⟩)), (6, i64 i), (7, i64 j), (8, i64 k), (21, i64 l.length), (22, i64 i)], h.freeze ++ [some ⟨Z9, true⟩, some ⟨bB l b2, true⟩]⟩) (l.length - (j + 1)) ?_ ?_ ?_
          · show l.length - (j + 1) < 2 ^ 64; omega
          · simp [St.tidy, hb]
            exact ⟨j + 1, rfl, by omega, by omega, b'.1, b'.2.1, b'.2.2, hok', rfl, by omega, rfl, rfl, rfl, rfl, rfl⟩
          · rintro m2 hm2 _ ⟨k, b2, rfl, hjk, hk, hok2, hf2, rfl⟩
            by_cases hlt2 : k < l.length
            · have w3 := wrapN1 (n := k) (by omega)
              rw [foldK_lt hlt2] at hf2
              have t1 : ∀ lim hh, SlD hh (.slice (some ⟨bk, of, none⟩) l.length 2) l → E.call (d + 2) lim 92 [.slice (some ⟨bk, of, none⟩) l.length 2, i64 i, i64 j, i64 k] hh = some (trV l i j k, hh) := fun lim hh ss => c92 ss D hij hjk hlt2
              have t2 := fun lim hh => @c93 d lim hh l D b2.1 b2.2.1 b2.2.2 i j k hok2.1 hok2.2.1 hok2.2.2 hij hjk hlt2
              simp [St.tidy, hlt2, Nat.not_le.2 hlt2, w3, t1, t2, s, hb]
              refine ⟨fun hc => ⟨l.length - (k + 1), by omega, k + 1, rfl, by omega, by omega, i, j, k, ⟨hij, hjk, hlt2⟩, ?_, by omega, rfl, rfl, rfl, rfl, rfl⟩, fun hc => ⟨l.length - (k + 1), by omega, k + 1, rfl, by omega, by omega, b2.1, b2.2.1, b2.2.2, hok2, ?_, by omega, rfl, rfl, rfl, rfl, rfl⟩⟩
              · rw [upT, if_pos (by simpa [cmpP] using hc)] at hf2; exact hf2
              · rw [upT, if_neg (by simpa [cmpP] using hc)] at hf2; exact hf2
            · have : k = l.length := by omega
              subst this
              rw [foldK_ge (show ¬ l.length < l.length by omega)] at hf2
              simp [St.tidy, hb, w2]
              exact ⟨l.length - (j + 1), by omega, j + 1, rfl, by omega, by omega, b2.1, b2.2.1, b2.2.2, hok2, by rw [← hf2] at hf'; exact hf', by omega, rfl, rfl, rfl, rfl, rfl⟩
        · have : j = l.length := by omega
          subst this
          rw [foldJ_ge (show ¬ l.length < l.length by omega)] at hf'
          simp [St.tidy, hb, w1]
          exact ⟨l.length - (i + 1), by omega, i + 1, rfl, by omega, b'.1, b'.2.1, b'.2.2, hok', by rw [← hf'] at hf; exact hf, by omega, rfl, rfl, rfl, rfl, rfl⟩
    · have : i = l.length := by omega
      subst this
      rw [foldI_ge (show ¬ l.length < l.length by omega)] at hf
      rw [← hf]
      obtain ⟨i, j, k⟩ := b
      obtain ⟨hij, hjk, hk⟩ := hok
      simp only at hij hjk hk
      have h1 : i < l.length := by omega
      have k1 : i * 2 + 2 ≤ l.length * 2 := by omega
      have k3 : k * 2 + 2 ≤ l.length * 2 := by omega
      have p1 := cD_p h1; have p3 := cD_p hk
      have hne : ¬ List.length h = bk := by omega
      have hne1 : ∀ m, ¬ List.length h + m = bk := by intro m; omega
      have w1 := wid_b D (show i < k by omega) hk
      have y1 := D.by_ i h1; have y3 := D.by_ k hk; have x1 := D.bx i h1
      have sb := sz_b D hij hjk hk
      have m1 := mul_b (a := 2 * wid l i k) (b := dy l i) (A := 40000) (B := 10000) (by omega) (by omega) (by omega) (by omega)
      have m2 := mul_b (a := 2 * (dy l k - dy l i)) (b := dx l i) (A := 40000) (B := 10000) (by omega) (by omega) (by omega) (by omega)
      have e1 : IntKind.wrap .i64 (2 * wid l i k) = 2 * wid l i k := wrap_eq (by omega) (by omega)
      have e2 : IntKind.wrap .i64 (dy l k - dy l i) = dy l k - dy l i := wrap_eq (by omega) (by omega)
      have e3 : IntKind.wrap .i64 (2 * (dy l k - dy l i)) = 2 * (dy l k - dy l i) := wrap_eq (by omega) (by omega)
      have e4 : IntKind.wrap .i64 (2 * wid l i k * dy l i) = 2 * wid l i k * dy l i := wrap_eq (by omega) (by omega)
      have e5 : IntKind.wrap .i64 (2 * (dy l k - dy l i) * dx l i) = 2 * (dy l k - dy l i) * dx l i := wrap_eq (by omega) (by omega)
      have e6 : IntKind.wrap .i64 (2 * wid l i k * dy l i - 2 * (dy l k - dy l i) * dx l i) = 2 * wid l i k * dy l i - 2 * (dy l k - dy l i) * dx l i := wrap_eq (by omega) (by omega)
      have e7 : IntKind.wrap .i64 (2 * wid l i k * dy l i - 2 * (dy l k - dy l i) * dx l i - bent l i j k) = stN l i j k := wrap_eq (by omega) (by omega)
      have sb2 : -2000000000 ≤ stN l i j k ∧ stN l i j k ≤ 2000000000 := by unfold stN; omega
      have c1 := fun lim hh => @c94 d lim hh (stN l i j k) (2 * wid l i k) ⟨by omega, by omega⟩ ⟨by omega, by omega⟩ (by omega)
      have c2 := fun lim hh => @c94 d lim hh (dy l k - dy l i) (wid l i k) ⟨by omega, by omega⟩ ⟨by omega, by omega⟩ (by omega)
      have c3 := fun lim hh => @c94 d lim hh (sz l i j k) (2 * wid l i k) ⟨by omega, by omega⟩ ⟨by omega, by omega⟩ (by omega)
      have c4 := fun lim hh => @c95 (d + 1) lim hh l D i j k hij hjk hk
      simp [r, hb, h1, hk, k1, k3, p1, p3, hne, hne1, e1, e2, e3, e4, e5, e6, e7, c1, c2, c3, c4]
theorem c25b {d lim : Nat} {h : Heap} {v : Value} {l : D2} (s : SlD h v l) (hd : dotsV l ≠ 0) : E.call (d + 3) lim 25 [v] h = some (.tuple #[.agg #[i64 0, i64 0, i64 0, i64 0, i64 0, i64 0, i64 0, i64 0, i64 0], i64 (dotsV l)], h) := by
  have r := s.rules2
  refine call1 fn25 rfl (by simp [ef25]) ?_
  simp [ef25, r, c91 (l := l), s, hd]
end Go.Abs.N
