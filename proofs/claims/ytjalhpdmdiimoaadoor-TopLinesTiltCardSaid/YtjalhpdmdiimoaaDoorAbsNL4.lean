/- The best line: the reference's search. -/
import Derived.Test.YtjalhpdmdiimoaaDoorAbsNL3
import Derived.Test.YtjalhpdmdiimoaaDoorAbsNF4
set_option linter.unusedSimpArgs false
set_option linter.unusedVariables false
namespace Go.Abs.N
open Go Go.Abs
set_option maxRecDepth 100000
set_option maxHeartbeats 0
def eN (l : D2) : Option T3 → Int
  | none => -1
  | some b => lowN (sz l b.1 b.2.1 b.2.2) (2 * wid l b.1 b.2.2)
def eD (l : D2) : Option T3 → Int
  | none => 1
  | some b => lowD (sz l b.1 b.2.1 b.2.2) (2 * wid l b.1 b.2.2)
def aN (l : D2) : Option T3 → Int
  | none => 0
  | some b => lowN (stN l b.1 b.2.1 b.2.2) (2 * wid l b.1 b.2.2)
def aD (l : D2) : Option T3 → Int
  | none => 0
  | some b => lowD (stN l b.1 b.2.1 b.2.2) (2 * wid l b.1 b.2.2)
def pN (l : D2) : Option T3 → Int
  | none => 0
  | some b => lowN (dy l b.2.2 - dy l b.1) (wid l b.1 b.2.2)
def pD (l : D2) : Option T3 → Int
  | none => 0
  | some b => lowD (dy l b.2.2 - dy l b.1) (wid l b.1 b.2.2)
def q1 : Option T3 → Int
  | none => 0
  | some b => b.1
def q2 : Option T3 → Int
  | none => 0
  | some b => b.2.1
def q3 : Option T3 → Int
  | none => 0
  | some b => b.2.2
abbrev rB (l : D2) (o : Option T3) : List Value := [i64 (aN l o), i64 (aD l o), i64 (pN l o), i64 (pD l o), i64 (eN l o), i64 (eD l o), i64 (q1 o), i64 (q2 o), i64 (q3 o)]
def btR (l : D2) (o : Option T3) (t : T3) : Bool := decide (0 < cmpV (IntKind.wrap .i64 (eN l (some t) * eD l o)) (IntKind.wrap .i64 (eN l o * eD l (some t))))
def upR (l : D2) (o : Option T3) (t : T3) : Option T3 := if btR l o t = true then some t else o
def bestR (l : D2) : Option T3 := foldI (upR l) l.length none 0
theorem c56 {d lim : Nat} {h : Heap} {v : Value} {l : D2} (s : SlD h v l) (D : DotsOk l) : E.call (d + 4) lim 56 [v] h = some (.agg (rB l (bestR l)).toArray, h) := by
  have hn := D.n3
  have hm := D.n60
  obtain ⟨bk, of, rfl⟩ : ∃ b o, v = .slice (some ⟨b, o, none⟩) l.length 2 := ⟨_, _, s.addr (by omega)⟩
  have hb := s.lt (by omega)
  have r := s.rules2
  simp only [slB_some, slO_some] at r hb
  refine call1 fn56 rfl (by simp [ef56]) ?_
  simp [ef56, r]
  refine wpC_loop (fun m st => ∃ (i : Nat) (b : Option T3), m = l.length - i ∧ i ≤ l.length ∧ foldI (upR l) l.length b i = bestR l ∧
    st = ⟨[(0, .slice (some ⟨bk, of, none⟩) l.length 2), (2, .pointer (some ⟨h.length, 0, none⟩)), (3, .pointer (some ⟨h.length + 1, 0, none⟩)), (4, i64 i)], h.freeze ++ [some ⟨Z9, true⟩, some ⟨rB l b, true⟩]⟩) l.length (by show l.length < 2 ^ 64; omega) ?_ ?_
  · simp [St.tidy, hb]
    exact ⟨0, by simp, by omega, none, rfl, by simp [aN, aD, pN, pD, eN, eD, q1, q2, q3]⟩
  · rintro m0 hm0 _ ⟨i, b, rfl, hi, hf, rfl⟩
    by_cases hlt : i < l.length
    · have w1 := wrapN1 (n := i) (by omega)
      rw [foldI_lt hlt] at hf
      simp [hlt, Nat.not_le.2 hlt, w1]
      refine wpC_loop (fun m st => ∃ (j : Nat) (b' : Option T3), m = l.length - j ∧ i < j ∧ j ≤ l.length ∧ foldJ (upR l) l.length b' i j = foldJ (upR l) l.length b i (i + 1) ∧
        st = ⟨[(0, .slice (some ⟨bk, of, none⟩) l.length 2), (2, .pointer (some ⟨h.length, 0, none⟩)), (3, .pointer (some ⟨h.length + 1, 0, none⟩)), (4, i64 i), (5, i64 j)], h.freeze ++ [some ⟨Z9, true⟩, some ⟨rB l b', true⟩]⟩) (l.length - (i + 1)) ?_ ?_ ?_
      · show l.length - (i + 1) < 2 ^ 64; omega
      · simp [St.tidy, hb]
        exact ⟨i + 1, rfl, by omega, by omega, b, rfl, by omega, rfl, rfl, rfl, rfl, rfl, rfl, rfl, rfl, rfl⟩
      · rintro m1 hm1 _ ⟨j, b', rfl, hij, hj, hf', rfl⟩
        by_cases hlt' : j < l.length
        · have w2 := wrapN1 (n := j) (by omega)
          rw [foldJ_lt hlt'] at hf'
          simp [hlt', Nat.not_le.2 hlt', w2]
          refine wpC_loop (fun m st => ∃ (k : Nat) (b2 : Option T3), m = l.length - k ∧ j < k ∧ k ≤ l.length ∧ foldK (upR l) l.length b2 i j k = foldK (upR l) l.length b' i j (j + 1) ∧
            st = ⟨[(0, .slice (some ⟨bk, of, none⟩) l.length 2), (2, .pointer (some ⟨h.length, 0, none⟩)), (3, .pointer (some ⟨h.length + 1, 0, none⟩)), (4, i64 i), (5, i64 j), (6, i64 k)], h.freeze ++ [some ⟨Z9, true⟩, some ⟨rB l b2, true⟩]⟩) (l.length - (j + 1)) ?_ ?_ ?_
          · show l.length - (j + 1) < 2 ^ 64; omega
          · simp [St.tidy, hb]
            exact ⟨j + 1, rfl, by omega, by omega, b', rfl, by omega, rfl, rfl, rfl, rfl, rfl, rfl, rfl, rfl, rfl⟩
          · rintro m2 hm2 _ ⟨k, b2, rfl, hjk, hk, hf2, rfl⟩
            by_cases hlt2 : k < l.length
            · have w3 := wrapN1 (n := k) (by omega)
              rw [foldK_lt hlt2] at hf2
              have k1 : i * 2 + 2 ≤ l.length * 2 := by omega
              have k2 : j * 2 + 2 ≤ l.length * 2 := by omega
              have k3 : k * 2 + 2 ≤ l.length * 2 := by omega
              have p1 := cD_p hlt; have p2 := cD_p hlt'; have p3 := cD_p hlt2
              have hne : ¬ List.length h = bk := by omega
              have hne1 : ∀ m, ¬ List.length h + m = bk := by intro m; omega
              have g1 := wid_b D (show i < k by omega) hlt2
              have g2 := wid_b D hij hlt'
              have y1 := D.by_ i hlt; have y2 := D.by_ j hlt'; have y3 := D.by_ k hlt2; have x1 := D.bx i hlt
              have sb := sz_b D hij hjk hlt2
              have bb := bent_b D hij hjk hlt2
              have m1 := mul_b (a := 2 * dy l i) (b := wid l i k) (A := 20000) (B := 20000) (by omega) (by omega) (by omega) (by omega)
              have m2 := mul_b (a := 2 * (dy l k - dy l i)) (b := dx l i) (A := 40000) (B := 10000) (by omega) (by omega) (by omega) (by omega)
              have m3 : (dy l j - dy l i) * wid l i k = -((dy l i - dy l j) * wid l i k) := by rw [← Int.neg_mul]; congr 1; omega
              have m4 : 2 * dy l i * wid l i k = 2 * wid l i k * dy l i := by rw [Int.mul_right_comm]
              have e0 : IntKind.wrap .i64 (dx l k - dx l i) = wid l i k := wrap_eq (by unfold wid at g1; omega) (by unfold wid at g1; omega)
              have e1 : IntKind.wrap .i64 (dy l j - dy l i) = dy l j - dy l i := wrap_eq (by omega) (by omega)
              have e2 : IntKind.wrap .i64 (dy l k - dy l i) = dy l k - dy l i := wrap_eq (by omega) (by omega)
              have e3 : IntKind.wrap .i64 (dx l j - dx l i) = dx l j - dx l i := wrap_eq (by unfold wid at g2; omega) (by unfold wid at g2; omega)
              have e4 : IntKind.wrap .i64 ((dy l j - dy l i) * wid l i k) = -((dy l i - dy l j) * wid l i k) := by rw [m3]; exact wrap_eq (by omega) (by omega)
              have e5 : IntKind.wrap .i64 ((dy l k - dy l i) * (dx l j - dx l i)) = (dy l k - dy l i) * (dx l j - dx l i) := wrap_eq (by omega) (by omega)
              have e6 : IntKind.wrap .i64 (-((dy l i - dy l j) * wid l i k) - (dy l k - dy l i) * (dx l j - dx l i)) = -bent l i j k := by rw [wrap_eq (by omega) (by omega)]; unfold bent; omega
              have e7 : absV (-bent l i j k) = sz l i j k := by
                unfold absV sz
                split
                · rw [wrap_eq (by omega) (by omega)]; omega
                · omega
              have e8 : IntKind.wrap .i64 (2 * wid l i k) = 2 * wid l i k := wrap_eq (by omega) (by omega)
              have e9 : IntKind.wrap .i64 (2 * dy l i) = 2 * dy l i := wrap_eq (by omega) (by omega)
              have e10 : IntKind.wrap .i64 (2 * dy l i * wid l i k) = 2 * dy l i * wid l i k := wrap_eq (by omega) (by omega)
              have e11 : IntKind.wrap .i64 (2 * dy l i * wid l i k + -bent l i j k) = 2 * dy l i * wid l i k + -bent l i j k := wrap_eq (by omega) (by omega)
              have e12 : IntKind.wrap .i64 (2 * (dy l k - dy l i)) = 2 * (dy l k - dy l i) := wrap_eq (by omega) (by omega)
              have e13 : IntKind.wrap .i64 (2 * (dy l k - dy l i) * dx l i) = 2 * (dy l k - dy l i) * dx l i := wrap_eq (by omega) (by omega)
              have e14 : IntKind.wrap .i64 (2 * dy l i * wid l i k + -bent l i j k - 2 * (dy l k - dy l i) * dx l i) = stN l i j k := by rw [wrap_eq (by omega) (by omega)]; unfold stN; omega
              have sb2 : -2000000000 ≤ stN l i j k ∧ stN l i j k ≤ 2000000000 := by unfold stN; omega
              have c1 : ∀ lim hh, E.call (d + 3) lim 114 [.int .i64 (sz l i j k), .int .i64 (2 * wid l i k)] hh = some (fr (eN l (some (i, j, k))) (eD l (some (i, j, k))), hh) := fun lim hh => c114 ⟨by omega, by omega⟩ ⟨by omega, by omega⟩ (by omega)
              have c2 : ∀ lim hh, E.call (d + 3) lim 114 [.int .i64 (dy l k - dy l i), .int .i64 (wid l i k)] hh = some (fr (pN l (some (i, j, k))) (pD l (some (i, j, k))), hh) := fun lim hh => c114 ⟨by omega, by omega⟩ ⟨by omega, by omega⟩ (by omega)
              have c3 : ∀ lim hh, E.call (d + 3) lim 114 [.int .i64 (stN l i j k), .int .i64 (2 * wid l i k)] hh = some (fr (aN l (some (i, j, k))) (aD l (some (i, j, k))), hh) := fun lim hh => c114 ⟨by omega, by omega⟩ ⟨by omega, by omega⟩ (by omega)
              simp [St.tidy, hlt, hlt', hlt2, Nat.not_le.2 hlt2, w3, r, s, hb, k1, k2, k3, p1, p2, p3, hne, hne1, e0, e1, e2, e3, e4, e5, e6, e7, e8, e9, e10, e11, e12, e13, e14, c26, c69, c1, c2, c3]
              refine ⟨fun hc => ⟨l.length - (k + 1), by omega, k + 1, rfl, by omega, by omega, some (i, j, k), ?_, by omega, rfl, rfl, rfl, rfl, rfl, rfl, rfl, rfl, rfl⟩, fun hc => ⟨l.length - (k + 1), by omega, k + 1, rfl, by omega, by omega, b2, ?_, by omega, rfl, rfl, rfl, rfl, rfl, rfl, rfl, rfl, rfl⟩⟩
              · rw [upR, if_pos (by simpa [btR] using hc)] at hf2; exact hf2
              · rw [upR, if_neg (by simpa [btR] using hc)] at hf2; exact hf2
            · have : k = l.length := by omega
              subst this
              rw [foldK_ge (show ¬ l.length < l.length by omega)] at hf2
              simp [St.tidy, hb, w2]
              exact ⟨l.length - (j + 1), by omega, j + 1, rfl, by omega, by omega, b2, by rw [← hf2] at hf'; exact hf', by omega, rfl, rfl, rfl, rfl, rfl, rfl, rfl, rfl, rfl⟩
        · have : j = l.length := by omega
          subst this
          rw [foldJ_ge (show ¬ l.length < l.length by omega)] at hf'
          simp [St.tidy, hb, w1]
          exact ⟨l.length - (i + 1), by omega, i + 1, rfl, by omega, b', by rw [← hf'] at hf; exact hf, by omega, rfl, rfl, rfl, rfl, rfl, rfl, rfl, rfl, rfl⟩
    · have : i = l.length := by omega
      subst this
      rw [foldI_ge (show ¬ l.length < l.length by omega)] at hf
      rw [← hf]
      simp [hb]
end Go.Abs.N
