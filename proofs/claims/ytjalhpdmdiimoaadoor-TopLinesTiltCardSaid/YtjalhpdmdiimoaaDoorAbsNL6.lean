/- The law NumberBest: no line is better. -/
import Derived.Test.YtjalhpdmdiimoaaDoorAbsNL5
set_option linter.unusedSimpArgs false
set_option linter.unusedVariables false
namespace Go.Abs.N
open Go Go.Abs
set_option maxRecDepth 100000
set_option maxHeartbeats 0
/-- A heap in which the examples are so. -/
structure AwOk (h : Heap) : Prop where
  a0 : ∀ lim, E.call 20 lim 18 [] h.freeze = some (.bool true, h.freeze)
  a1 : ∀ lim x, E.call 20 lim 18 [] (h.freeze ++ [x]) = some (.bool true, h.freeze ++ [x])
  a2 : ∀ lim x y, E.call 20 lim 18 [] (h.freeze ++ [x, y]) = some (.bool true, h.freeze ++ [x, y])
theorem awOk1 {b : Option Blk} (hf : Heap.freeze ([primesB] ++ [b]) = [primesB] ++ [b]) : AwOk ([primesB] ++ [b]) := by
  refine ⟨?_, ?_, ?_⟩ <;> rw [hf]
  · exact fun lim => awake1 lim b
  · exact fun lim x => awake2 lim b x
  · exact fun lim x y => awake3 lim b x y
theorem one_of {bs : List (Option Blk)} {cts : List (Bool × List CT)} (k : ∀ n, ctBlocks (cts.flatMap (·.2)) = some n → bs.length = n) (h : ctBlocks (cts.flatMap (·.2)) = some 1) : ∃ b, bs = [b] := by
  have := k 1 h
  match bs, this with
  | [b], _ => exact ⟨b, rfl⟩
/-- A slice of dots. -/
theorem arg_dots {d : Nat} {h : Heap} {u : Value} (a : ArgV (d + 1) h (false, [.sl [ctI, ctI]]) u) : ∃ l : D2, SlD h u l ∧ l.length ≤ maxLen := by
  obtain ⟨n, cs, s, hn, k⟩ : Typ (d + 1) h (.sl [ctI, ctI]) u := a.2 0 _ _ rfl rfl
  have hs : cs.length = n * 2 := s.size
  let l : D2 := (List.range n).map fun i => ((match cs[i * 2]? with | some (Value.int _ x) => x | _ => (0 : Int)), (match cs[i * 2 + 1]? with | some (Value.int _ x) => x | _ => (0 : Int)))
  have hl : l.length = n := by simp [l]
  have hcs : cs = cD l := by
    apply List.ext_getElem?
    intro m
    rcases Nat.lt_or_ge m (n * 2) with q | q
    · have hi : m / 2 < n := by omega
      rcases Nat.mod_two_eq_zero_or_one m with r | r
      · have e : m = m / 2 * 2 := by omega
        have h0 := List.getElem?_eq_getElem (show m / 2 * 2 < cs.length by omega)
        obtain ⟨x, hx, _⟩ := typ_int (k (m / 2) 0 _ _ hi rfl h0)
        have hx' : cs[m / 2 * 2]? = some (.int .i64 x) := by rw [h0, hx]
        rw [e, hx', cD_x (by omega)]
        simp [dx, l, hi, hx']
      · have e : m = m / 2 * 2 + 1 := by omega
        have h0 := List.getElem?_eq_getElem (show m / 2 * 2 + 1 < cs.length by omega)
        obtain ⟨x, hx, _⟩ := typ_int (k (m / 2) 1 _ _ hi rfl h0)
        have hx' : cs[m / 2 * 2 + 1]? = some (.int .i64 x) := by rw [h0, hx]
        rw [e, hx', cD_y (by omega)]
        simp [dy, l, hi, hx']
    · rw [List.getElem?_eq_none (by omega), List.getElem?_eq_none (by rw [cD_len]; omega)]
  refine ⟨l, ?_, by omega⟩
  unfold SlD
  rw [hl, ← hcs]; exact s
/-- How far a line misses a dot. -/
def miss (l : D2) (s m : Int) (i : Nat) : Int := dy l i - s - m * dx l i
theorem miss_b {l : D2} (D : DotsOk l) {s m : Int} (hs : -20000 ≤ s ∧ s ≤ 20000) (hm : -20000 ≤ m ∧ m ≤ 20000) {i : Nat} (hi : i < l.length) : (-200030000 ≤ miss l s m i ∧ miss l s m i ≤ 200030000) ∧ -200000000 ≤ m * dx l i ∧ m * dx l i ≤ 200000000 := by
  have x := D.bx i hi; have y := D.by_ i hi
  have := mul_b (a := m) (b := dx l i) (A := 20000) (B := 10000) (by omega) (by omega) (by omega) (by omega)
  unfold miss; omega
theorem bent_miss (l : D2) (s m : Int) (i j k : Nat) : bent l i j k = miss l s m i * (dx l k - dx l j) - miss l s m j * (dx l k - dx l i) + miss l s m k * (dx l j - dx l i) := by
  unfold bent miss wid
  grind
theorem bent_le {l : D2} (D : DotsOk l) {s m W : Int} {i j k : Nat} (h : i < j) (h' : j < k) (hk : k < l.length) (hW : ∀ n, n < l.length → -W ≤ miss l s m n ∧ miss l s m n ≤ W) : sz l i j k ≤ W * (2 * wid l i k) := by
  have a := D.up i j h (by omega)
  have b := D.up j k h' hk
  have e := bent_miss l s m i j k
  have h1 := hW i (by omega); have h2 := hW j (by omega); have h3 := hW k hk
  have p1 := Int.mul_le_mul_of_nonneg_right h1.2 (show 0 ≤ dx l k - dx l j by omega)
  have p2 := Int.mul_le_mul_of_nonneg_right h1.1 (show 0 ≤ dx l k - dx l j by omega)
  have p3 := Int.mul_le_mul_of_nonneg_right h2.2 (show 0 ≤ dx l k - dx l i by omega)
  have p4 := Int.mul_le_mul_of_nonneg_right h2.1 (show 0 ≤ dx l k - dx l i by omega)
  have p5 := Int.mul_le_mul_of_nonneg_right h3.2 (show 0 ≤ dx l j - dx l i by omega)
  have p6 := Int.mul_le_mul_of_nonneg_right h3.1 (show 0 ≤ dx l j - dx l i by omega)
  have q : W * (2 * wid l i k) = W * (dx l k - dx l j) + W * (dx l k - dx l i) + W * (dx l j - dx l i) := by unfold wid; grind
  have n1 : -W * (dx l k - dx l j) = -(W * (dx l k - dx l j)) := Int.neg_mul _ _
  have n2 : -W * (dx l k - dx l i) = -(W * (dx l k - dx l i)) := Int.neg_mul _ _
  have n3 : -W * (dx l j - dx l i) = -(W * (dx l j - dx l i)) := Int.neg_mul _ _
  unfold sz
  omega
abbrev lineB (l : D2) (b : T3) : List Value := [i64 (lowN (stN l b.1 b.2.1 b.2.2) (2 * wid l b.1 b.2.2)), i64 (lowD (stN l b.1 b.2.1 b.2.2) (2 * wid l b.1 b.2.2)), i64 (lowN (dy l b.2.2 - dy l b.1) (wid l b.1 b.2.2)), i64 (lowD (dy l b.2.2 - dy l b.1) (wid l b.1 b.2.2)),
  i64 (lowN (sz l b.1 b.2.1 b.2.2) (2 * wid l b.1 b.2.2)), i64 (lowD (sz l b.1 b.2.1 b.2.2) (2 * wid l b.1 b.2.2)), i64 b.1, i64 b.2.1, i64 b.2.2]
theorem law4 (lim : Nat) {h : Heap} {v : Value} {l : D2} (A : AwOk h) (sl : SlD h v l) {s m : Int} (hmx : l.length ≤ maxLen) : E.call 21 lim 4 [v, i64 s, i64 m] h = some (.bool true, h) := by
  refine call1 fn4 rfl (by simp [ef4]) ?_
  have r := sl.rules2
  have a0 := A.a0
  by_cases h12 : (12 : Int) < l.length
  · simp [ef4, a0, r, h12, Int.not_le.2 h12]
  by_cases hd : dotsV l = 0
  · by_cases ws : within s (-20000) 20000 = true
    · by_cases wm : within m (-20000) 20000 = true
      · have D := dots_ok hd
        have hn := D.n3
        have hm60 := D.n60
        obtain ⟨bk, of, rfl⟩ : ∃ b o, v = .slice (some ⟨b, o, none⟩) l.length 2 := ⟨_, _, sl.addr (by omega)⟩
        have hb := sl.lt (by omega)
        simp only [slB_some, slO_some] at r hb
        obtain ⟨hbs, ok⟩ := best_same D
        have hs : -20000 ≤ s ∧ s ≤ 20000 := by simpa [within] using ws
        have hm : -20000 ≤ m ∧ m ≤ 20000 := by simpa [within] using wm
        obtain ⟨g, hg, g1, g2, g3, g4, g5, g6⟩ := e_spec (i := (bestP l).1) (j := (bestP l).2.1) (k := (bestP l).2.2) D ok.1 ok.2.1 ok.2.2
        have c1 : ∀ lim hh, SlD hh (.slice (some ⟨bk, of, none⟩) l.length 2) l → E.call 20 lim 25 [.slice (some ⟨bk, of, none⟩) l.length 2] hh = some (.tuple #[lineV l (bestP l), i64 0], hh) := fun lim hh ss => c25 ss hd
        have w1 : within (lowD (sz l (bestP l).1 (bestP l).2.1 (bestP l).2.2) (2 * wid l (bestP l).1 (bestP l).2.2)) 1 40000 = true := by
          have q3 := g3; have q4 := g4
          simp only [eD] at q3 q4
          simp [within]; omega
        have w2 : within (lowN (sz l (bestP l).1 (bestP l).2.1 (bestP l).2.2) (2 * wid l (bestP l).1 (bestP l).2.2)) 0 1000000000 = true := by
          have q3 := g5; have q4 := g6
          simp only [eN] at q3 q4
          simp [within]; omega
        simp [ef4, a0, r, sl, h12, hd, ws, wm, c24 (l := l), c22, c1, w1, w2]
        intro _
        refine wpC_loop (fun q st => ∃ (i : Nat) (W : Int), q = l.length - i ∧ i ≤ l.length ∧ (0 ≤ W ∧ W ≤ 200030000) ∧ (∀ k, k < i → -W ≤ miss l s m k ∧ miss l s m k ≤ W) ∧
          st = ⟨[(0, .slice (some ⟨bk, of, none⟩) l.length 2), (1, i64 s), (2, i64 m), (7, .pointer (some ⟨h.length, 0, none⟩)), (9, i64 W), (10, i64 i)], h.freeze ++ [some ⟨lineB l (bestP l), true⟩]⟩) l.length (by show l.length < 2 ^ 64; omega) ?_ ?_
        · simp [St.tidy, hb]
          exact ⟨0, by simp, by omega, 0, by omega, by intro k hk; omega, rfl, rfl⟩
        · rintro q0 hq _ ⟨i, W, rfl, hi, hW, hall, rfl⟩
          by_cases hlt : i < l.length
          · have u1 := wrapN1 (n := i) (by omega)
            have hx := cD_x hlt; have hy := cD_y hlt
            have k1 : i * 2 < l.length * 2 := by omega
            have k2 : i * 2 + 1 < l.length * 2 := by omega
            have mb := miss_b D hs hm hlt
            have xb := D.bx i hlt; have yb := D.by_ i hlt
            have e1 : IntKind.wrap .i64 (dy l i - s) = dy l i - s := wrap_eq (by omega) (by omega)
            have e2 : IntKind.wrap .i64 (m * dx l i) = m * dx l i := wrap_eq (by omega) (by omega)
            have e3 : IntKind.wrap .i64 (dy l i - s - m * dx l i) = miss l s m i := wrap_eq (by omega) (by omega)
            have e4 : absV (miss l s m i) = max (miss l s m i) (-miss l s m i) := by
              unfold absV; split
              · rw [wrap_eq (by omega) (by omega)]; omega
              · omega
            simp [St.tidy, hlt, Nat.not_le.2 hlt, u1, r, hb, hx, hy, k1, k2, e1, e2, e3, c26, e4]
            refine ⟨l.length - (i + 1), by omega, i + 1, rfl, by omega, max W (max (miss l s m i) (-miss l s m i)), by omega, fun k hk => ?_, by omega, by omega⟩
            rcases Nat.lt_or_ge k i with q | q
            · have := hall k q; omega
            · have : k = i := by omega
              subst this; omega
          · have : i = l.length := by omega
            subst this
            have key := bent_le D ok.1 ok.2.1 ok.2.2 hall
            have hge : eN l (some (bestP l)) ≤ W * eD l (some (bestP l)) := by
              rw [g1, g2] at key
              have e : W * (g * eD l (some ((bestP l).1, (bestP l).2.1, (bestP l).2.2))) = g * (W * eD l (some ((bestP l).1, (bestP l).2.1, (bestP l).2.2))) := by rw [Int.mul_left_comm]
              rw [e] at key
              exact Int.le_of_mul_le_mul_left key hg
            have mw := mul_b (a := W) (b := eD l (some (bestP l))) (A := 200030000) (B := 40000) (by omega) ⟨Int.le_trans (by omega) (Int.le_of_lt g3), g4⟩ (by omega) (by omega)
            have e5 : IntKind.wrap .i64 (W * eD l (some (bestP l))) = W * eD l (some (bestP l)) := wrap_eq (by omega) (by omega)
            simp only [eN, eD] at e5 hge
            simp [hb, e5, hge]
      · simp at wm
        simp [ef4, a0, r, sl, h12, hd, ws, wm, c24 (l := l), c22]
    · simp at ws
      simp [ef4, a0, r, sl, h12, hd, ws, c24 (l := l), c22]
  · simp [ef4, a0, r, sl, h12, hd, c24 (l := l)]
theorem numberBest_law : ∀ (bs : List (Option Blk)) us, Heap.freeze ([primesB] ++ bs) = [primesB] ++ bs → (∀ n, ctBlocks (([(false, [.sl [ctI, ctI]]), (false, [ctI]), (false, [ctI])] : List (Bool × List CT)).flatMap (·.2)) = some n → bs.length = n) →
    ArgsV 6 ([primesB] ++ bs) [(false, [.sl [ctI, ctI]]), (false, [ctI]), (false, [ctI])] us → ∃ h', E.call 21 (([primesB] : Heap) ++ bs).length 4 us ([primesB] ++ bs) = some (.bool true, h') := by
  intro bs us hf k a
  obtain ⟨b, rfl⟩ := one_of k rfl
  obtain ⟨u, v, w, rfl, a1, a2, a3⟩ := args3 a
  obtain ⟨l, sl, hl⟩ := arg_dots (d := 5) a1
  obtain ⟨x, rfl, _⟩ := arg_int a2
  obtain ⟨y, rfl, _⟩ := arg_int a3
  exact ⟨_, law4 _ (awOk1 hf) sl hl⟩
end Go.Abs.N
