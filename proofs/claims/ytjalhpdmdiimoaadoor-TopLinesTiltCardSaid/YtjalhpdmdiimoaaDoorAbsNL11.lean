/- The law TopLinesTilt. -/
import Derived.Test.YtjalhpdmdiimoaaDoorAbsNL10
import Derived.Test.YtjalhpdmdiimoaaDoorAbsNL6
import Derived.Test.YtjalhpdmdiimoaaDoorAbsNT2
set_option linter.unusedSimpArgs false
set_option linter.unusedVariables false
namespace Go.Abs.N
open Go Go.Abs
set_option maxRecDepth 100000
set_option maxHeartbeats 0
theorem cD_snoc (l : D2) (p : Int × Int) : cD l ++ [.int .i64 p.1, .int .i64 p.2] = cD (l ++ [p]) := by simp [cD, cS, encD]
theorem take_snoc {α : Type} {l : List α} {i : Nat} (h : i < l.length) : l.take (i + 1) = l.take i ++ [l[i]] := by simp
theorem dxy {l : D2} {i : Nat} (h : i < l.length) : l[i] = (dx l i, dy l i) := by simp [dx, dy, h]
theorem more_snoc {l : D2} {s m : Int} {i : Nat} (h : i < l.length) : cD (moreD (l.take i) s m) ++ [.int .i64 (dx l i), .int .i64 (dy l i + s + m * dx l i)] = cD (moreD (l.take (i + 1)) s m) := by
  rw [take_snoc h]
  have : moreD (l.take i ++ [l[i]]) s m = moreD (l.take i) s m ++ [(dx l i, dy l i + s + m * dx l i)] := by rw [dxy h]; simp [moreD]
  rw [this, ← cD_snoc]
theorem down_snoc {l : D2} {i : Nat} (h : i < l.length) : cD (downD (l.take i)) ++ [.int .i64 (dx l i), .int .i64 (-dy l i)] = cD (downD (l.take (i + 1))) := by
  rw [take_snoc h]
  have : downD (l.take i ++ [l[i]]) = downD (l.take i) ++ [(dx l i, -dy l i)] := by rw [dxy h]; simp [downD]
  rw [this, ← cD_snoc]
/-- A slice of dots that was made by the function itself. -/
theorem SlD_own {h : Heap} {b : Nat} {l : D2} {rw : Bool} (hb : b < h.length) (e : h.get b = some ⟨cD l, rw⟩) : SlD h (.slice (some ⟨b, 0, none⟩) l.length 2) l :=
  ⟨rfl, cD_len l, fun _ => rfl, .inr ⟨b, 0, l.length, 2, rfl, hb⟩, fun k hk => by simp only [slB_some, slO_some, Nat.zero_add]; rw [cell_get e]⟩
theorem plain_cD (l : D2) : (cD l).all plainV = true := by
  rw [List.all_eq_true]
  intro x hx
  simp only [cD, cS, List.mem_flatMap, encD] at hx
  obtain ⟨p, _, hp⟩ := hx
  simp at hp
  rcases hp with rfl | rfl <;> rfl
theorem law14 (lim : Nat) {h : Heap} {v : Value} {l : D2} (hc : ∀ lim, E.call 20 lim 59 [] h.freeze = some (.bool true, h.freeze)) (sl : SlD h v l) {s m : Int} : E.call 21 lim 14 [v, i64 s, i64 m] h = some (.bool true, h) := by
  refine call1 fn14 rfl (by simp [ef14]) ?_
  have r := sl.rules2
  by_cases h12 : (12 : Int) < l.length
  · simp [ef14, hc, r, h12, Int.not_le.2 h12]
  by_cases hd : dotsV l = 0
  · by_cases ws : within s (-1000) 1000 = true
    · by_cases wm : within m (-3) 3 = true
      · have D := dots_ok hd
        have hn := D.n3
        obtain ⟨bk, of, rfl⟩ : ∃ b o, v = .slice (some ⟨b, o, none⟩) l.length 2 := ⟨_, _, sl.addr (by omega)⟩
        have hb := sl.lt (by omega)
        simp only [slB_some, slO_some] at r hb
        have hs : -1000 ≤ s ∧ s ≤ 1000 := by simpa [within] using ws
        have hm : -3 ≤ m ∧ m ≤ 3 := by simpa [within] using wm
        simp [ef14, hc, r, sl, h12, hd, ws, wm, c24 (l := l), c22]
        intro _
        refine wpC_loop (fun q st => ∃ i : Nat, q = l.length - i ∧ i ≤ l.length ∧ (∀ n, n < i → (-1000 ≤ dx l n ∧ dx l n ≤ 1000) ∧ (-1000 ≤ dy l n ∧ dy l n ≤ 1000)) ∧
          ((i = 0 ∧ st = ⟨[(0, .slice (some ⟨bk, of, none⟩) l.length 2), (1, i64 s), (2, i64 m), (7, .slice none 0 0), (8, .slice none 0 0), (9, i64 i)], h.freeze⟩) ∨
           (0 < i ∧ st = ⟨[(0, .slice (some ⟨bk, of, none⟩) l.length 2), (1, i64 s), (2, i64 m), (7, .slice (some ⟨h.length, 0, none⟩) i 2), (8, .slice (some ⟨h.length + 1, 0, none⟩) i 2), (9, i64 i)],
            h.freeze ++ [some ⟨cD (moreD (l.take i) s m), true⟩, some ⟨cD (downD (l.take i)), true⟩]⟩))) l.length (by show l.length < 2 ^ 64; have := D.n60; omega) ?_ ?_
        · simp [St.tidy, hb]
          exact ⟨0, by simp, by omega, by intro n hn; omega, rfl, rfl⟩
        · rintro q0 hq _ ⟨i, rfl, hi, hall, hst⟩
          by_cases hlt : i < l.length
          · have u1 := wrapN1 (n := i) (by have := D.n60; omega)
            have hx := cD_x hlt; have hy := cD_y hlt
            have k1 : i * 2 < l.length * 2 := by omega
            have k2 : i * 2 + 1 < l.length * 2 := by omega
            by_cases wx : within (dx l i) (-1000) 1000 = true
            · by_cases wy : within (dy l i) (-1000) 1000 = true
              · have bx : -1000 ≤ dx l i ∧ dx l i ≤ 1000 := by simpa [within] using wx
                have by_ : -1000 ≤ dy l i ∧ dy l i ≤ 1000 := by simpa [within] using wy
                have mb := mul_b (a := m) (b := dx l i) (A := 3) (B := 1000) (by omega) (by omega) (by omega) (by omega)
                have e1 : IntKind.wrap .i64 (dy l i + s) = dy l i + s := wrap_eq (by omega) (by omega)
                have e2 : IntKind.wrap .i64 (m * dx l i) = m * dx l i := wrap_eq (by omega) (by omega)
                have e3 : IntKind.wrap .i64 (dy l i + s + m * dx l i) = dy l i + s + m * dx l i := wrap_eq (by omega) (by omega)
                have e4 : IntKind.wrap .i64 (-dy l i) = -dy l i := wrap_eq (by omega) (by omega)
                have hmx : 1 ≤ maxLen := by decide
                have hmx2 : i + 1 ≤ maxLen := Nat.le_trans (by have := D.n60; omega : i + 1 ≤ 61) (by decide)
                have h16 : (i + 1) * 16 ≤ 140737488355328 := by have := D.n60; omega
                rcases hst with ⟨i0, rfl⟩ | ⟨i0, rfl⟩
                · subst i0
                  have hx0 : h.cell bk of = some (i64 (dx l 0)) := by
                    have := r.2.2.1 0 (by omega)
                    rw [Nat.add_zero] at this
                    rw [this]; simpa using hx
                  have hy0 : (cD l)[1]? = some (i64 (dy l 0)) := by simpa using hy
                  have k3 : 1 < l.length * 2 := by omega
                  have hl0 : ¬ l = [] := by intro e; rw [e] at hlt; simp at hlt
                  have ms : [i64 (dx l 0), i64 (dy l 0 + s + m * dx l 0)] = cD (moreD (l.take 1) s m) := by
                    have := more_snoc (s := s) (m := m) hlt
                    simpa [moreD, cD, cS] using this
                  have ds : [i64 (dx l 0), i64 (-dy l 0)] = cD (downD (l.take 1)) := by
                    have := down_snoc hlt
                    simpa [downD, cD, cS] using this
                  simp [hl0, hx0, hy0, k3, St.tidy, r, hb, k1, c22, wx, wy, e1, e2, e3, e4, E.append, E.added, hmx]
                  refine fun _ => ⟨by omega, l.length - 1, by omega, 1, rfl, by omega, fun n hn => ?_, by omega, ⟨rfl, rfl⟩, ms, ds⟩
                  have : n = 0 := by omega
                  subst this; exact ⟨bx, by_⟩
                · have ms := more_snoc (s := s) (m := m) hlt
                  have ds := down_snoc hlt
                  have lm : (cD (moreD (l.take i) s m)).length = i * 2 := by rw [cD_len]; simp [moreD]; omega
                  have ld : (cD (downD (l.take i))).length = i * 2 := by rw [cD_len]; simp [downD]; omega
                  simp [St.tidy, hlt, Nat.not_le.2 hlt, u1, r, hb, hx, hy, k1, k2, c22, wx, wy, e1, e2, e3, e4, E.append, E.added, hmx, hmx2, h16, lm, ld, ms, ds, plain_cD]
                  refine ⟨l.length - (i + 1), by omega, i + 1, rfl, by omega, fun n hn => ?_, by omega, ⟨rfl, by omega⟩, rfl, rfl⟩
                  rcases Nat.lt_or_ge n i with z | z
                  · exact hall n z
                  · have : n = i := by omega
                    subst this; exact ⟨bx, by_⟩
              · simp only [Bool.not_eq_true] at wy
                rcases hst with ⟨i0, rfl⟩ | ⟨i0, rfl⟩
                · subst i0
                  have hx0 : h.cell bk of = some (i64 (dx l 0)) := by
                    have := r.2.2.1 0 (by omega)
                    rw [Nat.add_zero] at this
                    rw [this]; simpa using hx
                  have hy0 : (cD l)[1]? = some (i64 (dy l 0)) := by simpa using hy
                  have k3 : 1 < l.length * 2 := by omega
                  have hl0 : ¬ l = [] := by intro e; rw [e] at hlt; simp at hlt
                  simp [hl0, hx0, hy0, k3, r, hb, k1, c22, wx, wy]
                · simp [hlt, Nat.not_le.2 hlt, r, hb, hx, hy, k1, k2, c22, wx, wy]
            · simp only [Bool.not_eq_true] at wx
              rcases hst with ⟨i0, rfl⟩ | ⟨i0, rfl⟩
              · subst i0
                have hx0 : h.cell bk of = some (i64 (dx l 0)) := by
                  have := r.2.2.1 0 (by omega)
                  rw [Nat.add_zero] at this
                  rw [this]; simpa using hx
                have hy0 : (cD l)[1]? = some (i64 (dy l 0)) := by simpa using hy
                have k3 : 1 < l.length * 2 := by omega
                have hl0 : ¬ l = [] := by intro e; rw [e] at hlt; simp at hlt
                simp [hl0, hx0, hy0, k3, r, hb, k1, c22, wx]
              · simp [hlt, Nat.not_le.2 hlt, r, hb, hx, hy, k1, k2, c22, wx]
          · have : i = l.length := by omega
            subst this
            rcases hst with ⟨i0, rfl⟩ | ⟨i0, rfl⟩
            · omega
            · have hX := fun n (z : n < l.length) => (hall n z).1
              have hY := fun n (z : n < l.length) => (hall n z).2
              have dm := more_ok (s := s) (m := m) D hX hY hs hm
              have dd := down_ok D
              have Dm := dots_ok dm
              obtain ⟨_, ok⟩ := best_same D
              rcases hbp : bestP l with ⟨i0, j0, k0⟩
              rw [hbp] at ok
              obtain ⟨o1, o2, o3⟩ := ok
              simp only at o1 o2 o3
              have lenm : (moreD l s m).length = l.length := more_len
              have lend : (downD l).length = l.length := down_len
              have wb := wid_b D (show i0 < k0 by omega) o3
              have st := stN_b D o1 o2 o3
              have st2 := stN_b Dm o1 o2 (by rw [lenm]; exact o3)
              have y1 := D.by_ i0 (by omega); have y3 := D.by_ k0 o3
              have z1 := Dm.by_ i0 (by rw [lenm]; omega); have z3 := Dm.by_ k0 (by rw [lenm]; exact o3)
              have ep : dy (moreD l s m) k0 - dy (moreD l s m) i0 = dy l k0 - dy l i0 + wid l i0 k0 * m := by
                rw [more_y o3, more_y (by omega)]; unfold wid; grind
              have eq' : dy (downD l) k0 - dy (downD l) i0 = -(dy l k0 - dy l i0) := by rw [down_y o3, down_y (by omega)]; omega
              have q1 := more_st (s := s) (m := m) o1 o2 o3
              have q2 := down_st o1 o2 o3
              have q3 := more_wid (s := s) (m := m) (show i0 < k0 by omega) o3
              have q4 := down_wid (show i0 < k0 by omega) o3
              have q5 := more_sz (s := s) (m := m) o1 o2 o3
              have q6 := down_sz o1 o2 o3
              obtain ⟨n1, n2, n3⟩ := add_low (n := stN l i0 j0 k0) (m := 2 * wid l i0 k0) (s := s) (by omega) (by omega) hs (by rw [← q1]; omega)
              obtain ⟨n4, n5, n6⟩ := add_low (n := dy l k0 - dy l i0) (m := wid l i0 k0) (s := m) (by omega) (by omega) (by omega) (by rw [← ep]; omega)
              obtain ⟨n7, n8, n9⟩ := neg_low (n := stN l i0 j0 k0) (m := 2 * wid l i0 k0) (by omega) (by omega)
              obtain ⟨n10, n11, n12⟩ := neg_low (n := dy l k0 - dy l i0) (m := wid l i0 k0) (by omega) (by omega)
              have r1 : R64 1 := ⟨by omega, by omega⟩
              have cL : ∀ lim hh, SlD hh (.slice (some ⟨bk, of, none⟩) l.length 2) l → E.call 20 lim 25 [.slice (some ⟨bk, of, none⟩) l.length 2] hh = some (.tuple #[lineV l (i0, j0, k0), i64 0], hh) := fun lim hh ss => by rw [← hbp]; exact c25 ss hd
              have cM : ∀ lim L, E.call 20 lim 25 [.slice (some ⟨h.length, 0, none⟩) l.length 2] (h.freeze ++ some ⟨cD (moreD l s m), true⟩ :: L) = some (.tuple #[.agg #[i64 (lowN (stN l i0 j0 k0 + 2 * wid l i0 k0 * s) (2 * wid l i0 k0)), i64 (lowD (stN l i0 j0 k0 + 2 * wid l i0 k0 * s) (2 * wid l i0 k0)),
                  i64 (lowN (dy l k0 - dy l i0 + wid l i0 k0 * m) (wid l i0 k0)), i64 (lowD (dy l k0 - dy l i0 + wid l i0 k0 * m) (wid l i0 k0)), i64 (lowN (sz l i0 j0 k0) (2 * wid l i0 k0)), i64 (lowD (sz l i0 j0 k0) (2 * wid l i0 k0)), i64 i0, i64 j0, i64 k0], i64 0], h.freeze ++ some ⟨cD (moreD l s m), true⟩ :: L) := fun lim L => by
                have ss : SlD (h.freeze ++ some ⟨cD (moreD l s m), true⟩ :: L) (.slice (some ⟨h.length, 0, none⟩) (moreD l s m).length 2) (moreD l s m) := SlD_own (rw := true) (by simp) (by rw [hget_base0 (by simp)]; rfl)
                have := c25 (d := 17) (lim := lim) ss dm
                rw [more_best D, hbp] at this
                simp only [lineV, q1, q3, q5, ep, lenm] at this
                exact this
              have cN : ∀ lim A L, E.call 20 lim 25 [.slice (some ⟨h.length + 1, 0, none⟩) l.length 2] (h.freeze ++ A :: some ⟨cD (downD l), true⟩ :: L) = some (.tuple #[.agg #[i64 (lowN (-stN l i0 j0 k0) (2 * wid l i0 k0)), i64 (lowD (-stN l i0 j0 k0) (2 * wid l i0 k0)),
                  i64 (lowN (-(dy l k0 - dy l i0)) (wid l i0 k0)), i64 (lowD (-(dy l k0 - dy l i0)) (wid l i0 k0)), i64 (lowN (sz l i0 j0 k0) (2 * wid l i0 k0)), i64 (lowD (sz l i0 j0 k0) (2 * wid l i0 k0)), i64 i0, i64 j0, i64 k0], i64 0], h.freeze ++ A :: some ⟨cD (downD l), true⟩ :: L) := fun lim A L => by
                have ss : SlD (h.freeze ++ A :: some ⟨cD (downD l), true⟩ :: L) (.slice (some ⟨h.length + 1, 0, none⟩) (downD l).length 2) (downD l) := SlD_own (rw := true) (by simp) (by rw [hget_base (by simp)]; rfl)
                have := c25 (d := 17) (lim := lim) ss dd
                rw [down_best D, hbp] at this
                simp only [lineV, q2, q4, q6, eq', lend] at this
                exact this
              have kA := fun lim hh => @c60 16 lim hh (lowN (stN l i0 j0 k0) (2 * wid l i0 k0)) (lowD (stN l i0 j0 k0) (2 * wid l i0 k0)) s 1 (R64_lowD _ _) r1
              have kB := fun lim hh => @c60 16 lim hh (lowN (dy l k0 - dy l i0) (wid l i0 k0)) (lowD (dy l k0 - dy l i0) (wid l i0 k0)) m 1 (R64_lowD _ _) r1
              have kC := fun lim hh => @c61 16 lim hh (lowN (stN l i0 j0 k0) (2 * wid l i0 k0)) (lowD (stN l i0 j0 k0) (2 * wid l i0 k0)) (-1) 1 (R64_lowD _ _) r1
              have kD := fun lim hh => @c61 16 lim hh (lowN (dy l k0 - dy l i0) (wid l i0 k0)) (lowD (dy l k0 - dy l i0) (wid l i0 k0)) (-1) 1 (R64_lowD _ _) r1
              rw [n1, n2, n3] at kA
              rw [n4, n5, n6] at kB
              rw [n7, n8, n9] at kC
              rw [n10, n11, n12] at kD
              simp [hb, sl, cL, cM, cN, kA, kB, kC, kD]
      · simp only [Bool.not_eq_true] at wm
        simp [ef14, hc, r, sl, h12, hd, ws, wm, c24 (l := l), c22]
    · simp only [Bool.not_eq_true] at ws
      simp [ef14, hc, r, sl, h12, hd, ws, c24 (l := l), c22]
  · simp [ef14, hc, r, sl, h12, hd, c24 (l := l)]
theorem topLinesTilt_law : ∀ (bs : List (Option Blk)) us, Heap.freeze ([primesB] ++ bs) = [primesB] ++ bs → (∀ n, ctBlocks (([(false, [.sl [ctI, ctI]]), (false, [ctI]), (false, [ctI])] : List (Bool × List CT)).flatMap (·.2)) = some n → bs.length = n) →
    ArgsV 6 ([primesB] ++ bs) [(false, [.sl [ctI, ctI]]), (false, [ctI]), (false, [ctI])] us → ∃ h', E.call 21 (([primesB] : Heap) ++ bs).length 14 us ([primesB] ++ bs) = some (.bool true, h') := by
  intro bs us hf k a
  obtain ⟨b, rfl⟩ := one_of k rfl
  obtain ⟨u, v, w, rfl, a1, a2, a3⟩ := args3 a
  obtain ⟨l, sl, hl⟩ := arg_dots (d := 5) a1
  obtain ⟨x, rfl, _⟩ := arg_int a2
  obtain ⟨y, rfl, _⟩ := arg_int a3
  refine ⟨_, law14 _ (fun lim => ?_) sl⟩
  rw [hf]; exact counts1 lim b
end Go.Abs.N
