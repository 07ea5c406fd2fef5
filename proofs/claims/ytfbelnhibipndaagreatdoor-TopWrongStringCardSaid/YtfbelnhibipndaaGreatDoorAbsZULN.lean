/- Sorting: the scan for what is sorted; partition. -/
import Derived.Test.YtfbelnhibipndaaGreatDoorAbsZULM
set_option linter.unusedSimpArgs false
set_option linter.unusedVariables false
/- Sorting: the scan for what is sorted; partition. -/
namespace Go.Abs
namespace Z.U
set_option maxRecDepth 100000
set_option maxHeartbeats 0
open Go.Sort (ltInt swp scanSorted partialIns partialInsertionSort scanUp scanDown partLoop partition partEqLoop partitionEqual)
theorem scS_go {e i : Nat} {d : Array Int} (h : i < e) (h2 : ltInt d[i]! d[i - 1]! = false) : scanSorted ltInt d e i = scanSorted ltInt d e (i + 1) := by
  rw [scanSorted, if_pos (by simp [h, h2])]
theorem scS_stop {e i : Nat} {d : Array Int} (h : ¬ (i < e ∧ ltInt d[i]! d[i - 1]! = false)) : scanSorted ltInt d e i = i := by
  rw [scanSorted, if_neg (by simpa using h)]
theorem c195 {D lim : Nat} {h : Heap} {b : Nat} (hb : b < h.length) {a e : Nat} {d : Array Int} (hae : a < e) (he : e ≤ d.size) (hs : d.size ≤ 49) :
    E.call (D + 3) lim 195 [vS b d.size, i64 (a : Int), i64 (e : Int)] (sH h b d.toList) = some (.bool (partialInsertionSort ltInt d a e).2, sH h b (partialInsertionSort ltInt d a e).1.toList) := by
  have key : ∃ v h', E.call (D + 3) lim 195 [vS b d.size, i64 (a : Int), i64 (e : Int)] (sH h b d.toList) = some (v, h') ∧ v = .bool (partialInsertionSort ltInt d a e).2 ∧ h' = sH h b (partialInsertionSort ltInt d a e).1.toList := by
    refine call_trunc (Q := fun v h' => v = .bool (partialInsertionSort ltInt d a e).2 ∧ h' = sH h b (partialInsertionSort ltInt d a e).1.toList) fn195 rfl (by simp [ef195]) ?_
    have pe : partialInsertionSort ltInt d a e = (d, decide (scanSorted ltInt d e (a + 1) = e)) := by
      unfold partialInsertionSort partialIns
      simp only []
      by_cases z : scanSorted ltInt d e (a + 1) = e
      · rw [if_pos z, decide_eq_true z]
      · rw [if_neg z, if_pos (by omega), decide_eq_false z]
    rw [pe]
    generalize hR : scanSorted ltInt d e (a + 1) = R
    generalize hn : d.size = n at *
    have wa := w1 (i := a) (by omega)
    obtain ⟨l, hl⟩ : ∃ l, l = e - a := ⟨_, rfl⟩
    have el : IntKind.wrap .i64 ((e : Int) - (a : Int)) = (l : Int) := by rw [wrap_eq (by omega) (by omega)]; omega
    have l50 : (l : Int) < 50 := by omega
    have tk := sH_take (h := h) (b := b) d.toList
    simp [ef195, wa]
    refine wpC_loop (fun q st => q = 0 ∧ st = ⟨[(0, vS b n), (1, i64 (a : Int)), (2, i64 (e : Int)), (7, i64 ((a : Int) + 1)), (8, i64 0)], sH h b d.toList⟩) 0 (by show 0 < 2 ^ 64; omega) ?_ ?_
    · simp [St.tidy, hb, sH_take]
    · rintro q hq _ ⟨rfl, rfl⟩
      simp
      refine wpC_loop (fun q st => ∃ i : Nat, q = e - i ∧ i ≤ e ∧ a + 1 ≤ i ∧ scanSorted ltInt d e i = R ∧ st = ⟨[(0, vS b n), (1, i64 (a : Int)), (2, i64 (e : Int)), (7, i64 (i : Int)), (8, i64 0)], sH h b d.toList⟩) (e - (a + 1)) (by show e - (a + 1) < 2 ^ 64; omega) ?_ ?_
      · simp [St.tidy, hb, sH_take]
        exact ⟨a + 1, rfl, by omega, by omega, hR, rfl⟩
      · rintro q hq _ ⟨i, rfl, hi, hai, hR', rfl⟩
        by_cases lt : i < e
        · have lti : (i : Int) < e := by omega
          obtain ⟨p1, p2, p3, p4, p5, p6⟩ := ix (d := d) (k := i) (by omega)
          obtain ⟨q1, q2, q3, q4, q5, q6⟩ := ix (d := d) (k := i - 1) (by omega)
          rw [hn] at p1 p4 p5 q1 q4 q5
          have w1' := w1 (i := i) (by omega)
          have wm := wm1 (i := i) (by omega) (by omega)
          have cl := cI_len' d
          by_cases z : ltInt d[i]! d[i - 1]! = true
          · rw [scS_stop (fun y => by rw [z] at y; cases y.2)] at hR'
            subst hR'
            have ne : ¬ i = e := by omega
            have nei : ¬ (i : Int) = e := by omega
            simp [lt, lti, p1, p2, p3, p4, p5, q1, q2, q3, q4, q5, w1', wm, c159, z, sH_cell hb, St.tidy, hb, sH_take, ne, nei, el, l50]
          · have z' : ltInt d[i]! d[i - 1]! = false := by simpa using z
            rw [scS_go lt z'] at hR'
            simp [lt, lti, p1, p2, p3, p4, p5, q1, q2, q3, q4, q5, w1', wm, c159, z', sH_cell hb, St.tidy, hb, sH_take]
            exact ⟨e - (i + 1), by omega, i + 1, by omega, by omega, by omega, hR', by omega⟩
        · have lti : ¬ (i : Int) < e := by omega
          obtain rfl : i = e := by omega
          rw [scS_stop (fun y => lt y.1)] at hR'
          subst hR'
          simp [sH_take]
  obtain ⟨v, h', e1, rfl, rfl⟩ := key
  exact e1
theorem sU_go {p : Int → Bool} {d : Array Int} {i j : Nat} (h : i ≤ j) (h2 : p d[i]! = true) : scanUp p d j i = scanUp p d j (i + 1) := by rw [scanUp, if_pos (by simp [h, h2])]
theorem sU_stop {p : Int → Bool} {d : Array Int} {i j : Nat} (h : ¬ (i ≤ j ∧ p d[i]! = true)) : scanUp p d j i = i := by rw [scanUp, if_neg (by simpa using h)]
theorem sD_go {p : Int → Bool} {d : Array Int} {i j : Nat} (hi : 1 ≤ i) (h : i ≤ j) (h2 : p d[j]! = true) : scanDown p d i j = scanDown p d i (j - 1) := by
  obtain ⟨k, rfl⟩ : ∃ k, j = k + 1 := ⟨j - 1, by omega⟩
  rw [scanDown, if_pos (by simp [h, h2])]; rfl
theorem sD_stop {p : Int → Bool} {d : Array Int} {i j : Nat} (h : ¬ (i ≤ j ∧ p d[j]! = true)) : scanDown p d i j = j := by
  cases j with
  | zero => rfl
  | succ k => rw [scanDown, if_neg (by simpa using h)]
/-- Where a scan stops. -/
def scR (S r : Nat) (A B C : Prop) : Prop := S = r ∧ A ∧ B ∧ C
def scR2 (S r : Nat × Array Int) (A B C : Prop) : Prop := S = r ∧ A ∧ B ∧ C
theorem pL_stop {a i j r t : Nat} {d : Array Int} (h1 : scanUp (fun x => ltInt x d[a]!) d j i = r) (h2 : scanDown (fun x => !ltInt x d[a]!) d r j = t) (h : t < r) : partLoop ltInt a i j d = (t, d) := by
  rw [partLoop]; simp only [h1, h2]; rw [if_pos h]
theorem pL_go {a i j r t : Nat} {d : Array Int} (h1 : scanUp (fun x => ltInt x d[a]!) d j i = r) (h2 : scanDown (fun x => !ltInt x d[a]!) d r j = t) (h : ¬ t < r) (hg : (t - 1) + 1 - (r + 1) < j + 1 - i) : partLoop ltInt a i j d = partLoop ltInt a (r + 1) (t - 1) (swp d r t) := by
  rw [partLoop]; simp only [h1, h2]; rw [if_neg h, dif_pos hg]
theorem pE_stop {a i j r t : Nat} {d : Array Int} (h1 : scanUp (fun x => !ltInt d[a]! x) d j i = r) (h2 : scanDown (fun x => ltInt d[a]! x) d r j = t) (h : t < r) : partEqLoop ltInt a i j d = (r, d) := by
  rw [partEqLoop]; simp only [h1, h2]; rw [if_pos h]
theorem pE_go {a i j r t : Nat} {d : Array Int} (h1 : scanUp (fun x => !ltInt d[a]! x) d j i = r) (h2 : scanDown (fun x => ltInt d[a]! x) d r j = t) (h : ¬ t < r) (hg : (t - 1) + 1 - (r + 1) < j + 1 - i) : partEqLoop ltInt a i j d = partEqLoop ltInt a (r + 1) (t - 1) (swp d r t) := by
  rw [partEqLoop]; simp only [h1, h2]; rw [if_neg h, dif_pos hg]
end Z.U
end Go.Abs
/- Sorting: partition. -/
namespace Go.Abs
namespace Z.U
set_option maxRecDepth 100000
set_option maxHeartbeats 0
set_option linter.unusedSimpArgs false
open Go.Sort (ltInt swp scanUp scanDown partLoop partition)
theorem c197 {D lim : Nat} {h : Heap} {b : Nat} (hb : b < h.length) {a e p : Nat} {d : Array Int} (hap : a ≤ p) (hpe : p < e) (he : e ≤ d.size) (hs : d.size ≤ 49) :
    E.call (D + 3) lim 197 [vS b d.size, i64 (a : Int), i64 (e : Int), i64 (p : Int)] (sH h b d.toList) = some (.tuple #[i64 ((partition ltInt d a e p).1 : Int), .bool (partition ltInt d a e p).2.1], sH h b (partition ltInt d a e p).2.2.toList) := by
  have key : ∃ v h', E.call (D + 3) lim 197 [vS b d.size, i64 (a : Int), i64 (e : Int), i64 (p : Int)] (sH h b d.toList) = some (v, h') ∧ v = .tuple #[i64 ((partition ltInt d a e p).1 : Int), .bool (partition ltInt d a e p).2.1] ∧ h' = sH h b (partition ltInt d a e p).2.2.toList := by
    refine call_trunc (Q := fun v h' => v = .tuple #[i64 ((partition ltInt d a e p).1 : Int), .bool (partition ltInt d a e p).2.1] ∧ h' = sH h b (partition ltInt d a e p).2.2.toList) fn197 rfl (by simp [ef197]) ?_
    generalize hP : partition ltInt d a e p = P
    unfold partition at hP
    generalize hn : d.size = n at *
    obtain ⟨P1, P2, P3⟩ := P
    obtain ⟨x1, x2, x3, x4, x5, x6⟩ := ix (d := d) (k := a) (by omega)
    obtain ⟨y1, y2, y3, y4, y5, y6⟩ := ix (d := d) (k := p) (by omega)
    rw [hn] at x1 x4 x5 y1 y4 y5
    have cl := cI_len' d
    rw [hn] at cl
    have sw := swp_list (d := d) a p
    have nx : noAddr (i64 d[a]!) = true := rfl
    have ny : noAddr (i64 d[p]!) = true := rfl
    have wa := w1 (i := a) (by omega)
    have we := wm1 (i := e) (by omega) (by omega)
    obtain ⟨d1, hd1'⟩ : ∃ x, x = swp d a p := ⟨_, rfl⟩
    have hd1 : d1.size = n := by rw [hd1', swp_size', hn]
    simp only [← hd1'] at hP
    rw [← hd1'] at sw
    obtain ⟨i0, hi0⟩ : ∃ x, x = a + 1 := ⟨_, rfl⟩
    obtain ⟨j0, hj0⟩ : ∃ x, x = e - 1 := ⟨_, rfl⟩
    have wa' : IntKind.wrap .i64 ((a : Int) + 1) = (i0 : Int) := by rw [wa, hi0]
    have we' : IntKind.wrap .i64 ((e : Int) - 1) = (j0 : Int) := by rw [we, hj0]
    rw [← hi0, ← hj0] at hP
    have F0 : True := trivial
    have F1 : True := trivial
    have FI : True := trivial
    have FJ : True := trivial
    simp [ef197, x1, x2, x3, x4, x5, y1, y2, y3, y4, y5, sH_get hb, sH_cell hb, sH_put, cl, cI_set, sw, nx, ny, wa', we']
    refine ⟨by omega, ?_⟩
    refine wpC_mono (Q := fun ex st => ex = .exit 0 ∧ ∃ zr : Nat, scR (scanUp (fun x => ltInt x d1[a]!) d1 j0 i0) zr (i0 ≤ zr) (zr ≤ j0 + 1) (zr ≤ j0 → ltInt d1[zr]! d1[a]! = false) ∧ st.h = sH h b d1.toList ∧ st.f.get 0 = some (vS b n) ∧ st.f.get 1 = some (i64 (a : Int)) ∧ st.f.get 10 = some (i64 (zr : Int)) ∧ st.f.get 11 = some (i64 (j0 : Int))) ?_ ?_
    · refine wpC_loop (fun q st => ∃ i : Nat, q = j0 + 1 - i ∧ i0 ≤ i ∧ i ≤ j0 + 1 ∧ scanUp (fun x => ltInt x d1[a]!) d1 j0 i = scanUp (fun x => ltInt x d1[a]!) d1 j0 i0 ∧ st = ⟨[(0, vS b n), (1, i64 (a : Int)), (10, i64 (i : Int)), (11, i64 (j0 : Int))], sH h b d1.toList⟩) (j0 + 1 - i0) (by show (j0 + 1 - i0) < 2 ^ 64; omega) ?_ ?_
      · simp [St.tidy, hb, sH_take, F0, F1, FI, FJ]
        exact ⟨i0, by omega, by omega, by omega, rfl, by simp⟩
      · rintro q hq _ ⟨i, rfl, hv1, hv2, hS, rfl⟩
        by_cases le : i ≤ j0
        · have lei : (i : Int) ≤ j0 := by omega
          obtain ⟨p1, p2, p3, p4, p5, p6⟩ := ix (d := d1) (k := i) (by omega)
          obtain ⟨q1, q2, q3, q4, q5, q6⟩ := ix (d := d1) (k := a) (by omega)
          rw [hd1] at p1 p4 p5 q1 q4 q5
          have w1' := w1 (i := i) (by omega)
          by_cases z : ltInt d1[i]! d1[a]! = true
          · rw [sU_go le (by simp [z])] at hS
            simp [le, lei, p1, p2, p3, p4, p5, q1, q2, q3, q4, q5, w1', c159, z, sH_cell hb, St.tidy, hb, sH_take]
            exact ⟨j0 + 1 - (i + 1), by omega, i + 1, by omega, by omega, by omega, hS, by omega⟩
          · have z : ltInt d1[i]! d1[a]! = false := by simpa using z
            rw [sU_stop (by simp [le, z])] at hS
            simp [le, lei, p1, p2, p3, p4, p5, q1, q2, q3, q4, q5, c159, z, sH_cell hb]
            exact ⟨i, ⟨hS.symm, by omega, by omega, fun _ => by simpa using z⟩, rfl⟩
        · have lei : ¬ (i : Int) ≤ j0 := by omega
          rw [sU_stop (fun y => le y.1)] at hS
          simp [le, lei]
          exact ⟨i, ⟨hS.symm, by omega, by omega, fun y => absurd y le⟩, rfl⟩
    · rintro _ ⟨f, hh⟩ ⟨rfl, r, ⟨hr, hr1, hr2, hr3⟩, rfl, F0, F1, FI, FJ⟩
      simp only at F0 F1 FI FJ
      rw [hr] at hP
      simp
      refine wpC_mono (Q := fun ex st => ex = .exit 2 ∧ ∃ zr : Nat, scR (scanDown (fun x => !ltInt x d1[a]!) d1 r j0) zr (zr ≤ j0) (r ≤ zr + 1) (r ≤ zr → ltInt d1[zr]! d1[a]! = true) ∧ st.h = sH h b d1.toList ∧ st.f.get 0 = some (vS b n) ∧ st.f.get 1 = some (i64 (a : Int)) ∧ st.f.get 10 = some (i64 (r : Int)) ∧ st.f.get 11 = some (i64 (zr : Int))) ?_ ?_
      · refine wpC_loop (fun q st => ∃ j : Nat, q = j + 1 - r ∧ j ≤ j0 ∧ r ≤ j + 1 ∧ scanDown (fun x => !ltInt x d1[a]!) d1 r j = scanDown (fun x => !ltInt x d1[a]!) d1 r j0 ∧ st = ⟨[(0, vS b n), (1, i64 (a : Int)), (10, i64 (r : Int)), (11, i64 (j : Int))], sH h b d1.toList⟩) (j0 + 1 - r) (by show (j0 + 1 - r) < 2 ^ 64; omega) ?_ ?_
        · simp [St.tidy, hb, sH_take, F0, F1, FI, FJ]
          exact ⟨j0, by omega, by omega, by omega, rfl, by simp⟩
        · rintro q hq _ ⟨j, rfl, hv1, hv2, hS, rfl⟩
          by_cases le : r ≤ j
          · have lei : (r : Int) ≤ j := by omega
            obtain ⟨p1, p2, p3, p4, p5, p6⟩ := ix (d := d1) (k := j) (by omega)
            obtain ⟨q1, q2, q3, q4, q5, q6⟩ := ix (d := d1) (k := a) (by omega)
            rw [hd1] at p1 p4 p5 q1 q4 q5
            have w1' := wm1 (i := j) (by omega) (by omega)
            by_cases z : ltInt d1[j]! d1[a]! = true
            · rw [sD_stop (by simp [le, z])] at hS
              simp [le, lei, p1, p2, p3, p4, p5, q1, q2, q3, q4, q5, c159, z, sH_cell hb]
              exact ⟨j, ⟨hS.symm, by omega, by omega, fun _ => by simpa using z⟩, rfl⟩
            · have z : ltInt d1[j]! d1[a]! = false := by simpa using z
              rw [sD_go (by omega) le (by simp [z])] at hS
              simp [le, lei, p1, p2, p3, p4, p5, q1, q2, q3, q4, q5, w1', c159, z, sH_cell hb, St.tidy, hb, sH_take]
              exact ⟨j - 1 + 1 - r, by omega, j - 1, by omega, by omega, by omega, hS, by omega⟩
          · have lei : ¬ (r : Int) ≤ j := by omega
            rw [sD_stop (fun y => le y.1)] at hS
            simp [le, lei]
            exact ⟨j, ⟨hS.symm, by omega, by omega, fun y => absurd y le⟩, rfl⟩
      · rintro _ ⟨f2, hh2⟩ ⟨rfl, t, ⟨ht, ht1, ht2, ht3⟩, rfl, F0, F1, FI, FJ⟩
        simp only at F0 F1 FI FJ
        rw [ht] at hP
        have cl := cI_len' d1
        rw [hd1] at cl
        by_cases gt : t < r
        · rw [if_pos gt] at hP
          have gti : (t : Int) < r := by omega
          obtain ⟨u1, u2, u3, u4, u5, u6⟩ := ix (d := d1) (k := a) (by omega)
          obtain ⟨v1, v2, v3, v4, v5, v6⟩ := ix (d := d1) (k := t) (by omega)
          rw [hd1] at u1 u4 u5 v1 v4 v5
          have sw := swp_list (d := d1) t a
          have nx : noAddr (i64 d1[a]!) = true := rfl
          have ny : noAddr (i64 d1[t]!) = true := rfl
          cases hP
          simp [F0, F1, FI, FJ, gt, gti, u1, u2, u3, u4, u5, v1, v2, v3, v4, v5, sH_get hb, sH_cell hb, sH_put, cl, cI_set, sw, nx, ny, sH_take]
          omega
        · rw [if_neg gt] at hP
          have gti : ¬ (t : Int) < r := by omega
          have rt : r < t := by
            rcases Nat.lt_or_eq_of_le (show r ≤ t by omega) with z | z
            · exact z
            · have a1 := hr3 (by omega); have a2 := ht3 (by omega); rw [← z, a1] at a2; cases a2
          obtain ⟨u1, u2, u3, u4, u5, u6⟩ := ix (d := d1) (k := r) (by omega)
          obtain ⟨v1, v2, v3, v4, v5, v6⟩ := ix (d := d1) (k := t) (by omega)
          rw [hd1] at u1 u4 u5 v1 v4 v5
          have sw := swp_list (d := d1) r t
          have nx : noAddr (i64 d1[r]!) = true := rfl
          have ny : noAddr (i64 d1[t]!) = true := rfl
          have wr := w1 (i := r) (by omega)
          have wt := wm1 (i := t) (by omega) (by omega)
          obtain ⟨d2, hd2'⟩ : ∃ x, x = swp d1 r t := ⟨_, rfl⟩
          have hd2 : d2.size = n := by rw [hd2', swp_size', hd1]
          rw [← hd2'] at sw hP
          obtain ⟨i1, hi1⟩ : ∃ x, x = r + 1 := ⟨_, rfl⟩
          obtain ⟨j1, hj1⟩ : ∃ x, x = t - 1 := ⟨_, rfl⟩
          have wr' : IntKind.wrap .i64 ((r : Int) + 1) = (i1 : Int) := by rw [wr, hi1]
          have wt' : IntKind.wrap .i64 ((t : Int) - 1) = (j1 : Int) := by rw [wt, hj1]
          rw [← hi1, ← hj1] at hP
          generalize hR : partLoop ltInt a i1 j1 d2 = R at hP
          simp [F0, F1, FI, FJ, gt, gti, Nat.not_lt.1 gt, Int.not_lt.1 gti, u1, u2, u3, u4, u5, v1, v2, v3, v4, v5, sH_get hb, sH_cell hb, sH_put, cl, cI_set, sw, nx, ny, wr', wt']
          refine ⟨by omega, ?_⟩
          refine wpC_mono (Q := fun ex st => ex = .exit 4 ∧ ∃ (zr : Nat) (zd : Array Int), scR2 R (zr, zd) (zr < n) (a < zr + 1) (zd.size = n) ∧ st.h = sH h b zd.toList ∧ st.f.get 0 = some (vS b n) ∧ st.f.get 1 = some (i64 (a : Int)) ∧ st.f.get 11 = some (i64 (zr : Int))) ?_ ?_
          · refine wpC_loop (fun q st => ∃ (iu jd : Nat) (d3 : Array Int), q = jd + 1 - iu ∧ a + 1 ≤ iu ∧ iu ≤ jd + 1 ∧ jd < n ∧ d3.size = n ∧ partLoop ltInt a iu jd d3 = R ∧ st = ⟨[(0, vS b n), (1, i64 (a : Int)), (10, i64 (iu : Int)), (11, i64 (jd : Int))], sH h b d3.toList⟩) (j1 + 1 - i1) (by show j1 + 1 - i1 < 2 ^ 64; omega) ?_ ?_
            · simp [St.tidy, hb, sH_take, F0, F1]
              exact ⟨i1, j1, rfl, by omega, by omega, by omega, d2, hd2, hR, ⟨rfl, rfl⟩, rfl⟩
            · rintro q hq _ ⟨iu, jd, d3, rfl, hu1, hu2, hu3, hd3, hRR, rfl⟩
              clear F0 F1 FI FJ
              have F0 : True := trivial
              have F1 : True := trivial
              have FI : True := trivial
              have FJ : True := trivial
              simp
              refine wpC_mono (Q := fun ex st => ex = .exit 6 ∧ ∃ zr : Nat, scR (scanUp (fun x => ltInt x d3[a]!) d3 jd iu) zr (iu ≤ zr) (zr ≤ jd + 1) (zr ≤ jd → ltInt d3[zr]! d3[a]! = false) ∧ st.h = sH h b d3.toList ∧ st.f.get 0 = some (vS b n) ∧ st.f.get 1 = some (i64 (a : Int)) ∧ st.f.get 10 = some (i64 (zr : Int)) ∧ st.f.get 11 = some (i64 (jd : Int))) ?_ ?_
              · refine wpC_loop (fun q st => ∃ i : Nat, q = jd + 1 - i ∧ iu ≤ i ∧ i ≤ jd + 1 ∧ scanUp (fun x => ltInt x d3[a]!) d3 jd i = scanUp (fun x => ltInt x d3[a]!) d3 jd iu ∧ st = ⟨[(0, vS b n), (1, i64 (a : Int)), (10, i64 (i : Int)), (11, i64 (jd : Int))], sH h b d3.toList⟩) (jd + 1 - iu) (by show (jd + 1 - iu) < 2 ^ 64; omega) ?_ ?_
                · simp [St.tidy, hb, sH_take, F0, F1, FI, FJ]
                  exact ⟨iu, by omega, by omega, by omega, rfl, by simp⟩
                · rintro q hq _ ⟨i, rfl, hv1, hv2, hS, rfl⟩
                  by_cases le : i ≤ jd
                  · have lei : (i : Int) ≤ jd := by omega
                    obtain ⟨p1, p2, p3, p4, p5, p6⟩ := ix (d := d3) (k := i) (by omega)
                    obtain ⟨q1, q2, q3, q4, q5, q6⟩ := ix (d := d3) (k := a) (by omega)
                    rw [hd3] at p1 p4 p5 q1 q4 q5
                    have w1' := w1 (i := i) (by omega)
                    by_cases z : ltInt d3[i]! d3[a]! = true
                    · rw [sU_go le (by simp [z])] at hS
                      simp [le, lei, p1, p2, p3, p4, p5, q1, q2, q3, q4, q5, w1', c159, z, sH_cell hb, St.tidy, hb, sH_take]
                      exact ⟨jd + 1 - (i + 1), by omega, i + 1, by omega, by omega, by omega, hS, by omega⟩
                    · have z : ltInt d3[i]! d3[a]! = false := by simpa using z
                      rw [sU_stop (by simp [le, z])] at hS
                      simp [le, lei, p1, p2, p3, p4, p5, q1, q2, q3, q4, q5, c159, z, sH_cell hb]
                      exact ⟨i, ⟨hS.symm, by omega, by omega, fun _ => by simpa using z⟩, rfl⟩
                  · have lei : ¬ (i : Int) ≤ jd := by omega
                    rw [sU_stop (fun y => le y.1)] at hS
                    simp [le, lei]
                    exact ⟨i, ⟨hS.symm, by omega, by omega, fun y => absurd y le⟩, rfl⟩
              · rintro _ ⟨f3, hh3⟩ ⟨rfl, r3, ⟨hr3', hr31, hr32, hr33⟩, rfl, F0, F1, FI, FJ⟩
                simp only at F0 F1 FI FJ
                simp
                refine wpC_mono (Q := fun ex st => ex = .exit 8 ∧ ∃ zr : Nat, scR (scanDown (fun x => !ltInt x d3[a]!) d3 r3 jd) zr (zr ≤ jd) (r3 ≤ zr + 1) (r3 ≤ zr → ltInt d3[zr]! d3[a]! = true) ∧ st.h = sH h b d3.toList ∧ st.f.get 0 = some (vS b n) ∧ st.f.get 1 = some (i64 (a : Int)) ∧ st.f.get 10 = some (i64 (r3 : Int)) ∧ st.f.get 11 = some (i64 (zr : Int))) ?_ ?_
                · refine wpC_loop (fun q st => ∃ j : Nat, q = j + 1 - r3 ∧ j ≤ jd ∧ r3 ≤ j + 1 ∧ scanDown (fun x => !ltInt x d3[a]!) d3 r3 j = scanDown (fun x => !ltInt x d3[a]!) d3 r3 jd ∧ st = ⟨[(0, vS b n), (1, i64 (a : Int)), (10, i64 (r3 : Int)), (11, i64 (j : Int))], sH h b d3.toList⟩) (jd + 1 - r3) (by show (jd + 1 - r3) < 2 ^ 64; omega) ?_ ?_
                  · simp [St.tidy, hb, sH_take, F0, F1, FI, FJ]
                    exact ⟨jd, by omega, by omega, by omega, rfl, by simp⟩
                  · rintro q hq _ ⟨j, rfl, hv1, hv2, hS, rfl⟩
                    by_cases le : r3 ≤ j
                    · have lei : (r3 : Int) ≤ j := by omega
                      obtain ⟨p1, p2, p3, p4, p5, p6⟩ := ix (d := d3) (k := j) (by omega)
                      obtain ⟨q1, q2, q3, q4, q5, q6⟩ := ix (d := d3) (k := a) (by omega)
                      rw [hd3] at p1 p4 p5 q1 q4 q5
                      have w1' := wm1 (i := j) (by omega) (by omega)
                      by_cases z : ltInt d3[j]! d3[a]! = true
                      · rw [sD_stop (by simp [le, z])] at hS
                        simp [le, lei, p1, p2, p3, p4, p5, q1, q2, q3, q4, q5, c159, z, sH_cell hb]
                        exact ⟨j, ⟨hS.symm, by omega, by omega, fun _ => by simpa using z⟩, rfl⟩
                      · have z : ltInt d3[j]! d3[a]! = false := by simpa using z
                        rw [sD_go (by omega) le (by simp [z])] at hS
                        simp [le, lei, p1, p2, p3, p4, p5, q1, q2, q3, q4, q5, w1', c159, z, sH_cell hb, St.tidy, hb, sH_take]
                        exact ⟨j - 1 + 1 - r3, by omega, j - 1, by omega, by omega, by omega, hS, by omega⟩
                    · have lei : ¬ (r3 : Int) ≤ j := by omega
                      rw [sD_stop (fun y => le y.1)] at hS
                      simp [le, lei]
                      exact ⟨j, ⟨hS.symm, by omega, by omega, fun y => absurd y le⟩, rfl⟩
                · rintro _ ⟨f4, hh4⟩ ⟨rfl, t3, ⟨ht3', ht31, ht32, ht33⟩, rfl, F0, F1, FI, FJ⟩
                  simp only at F0 F1 FI FJ
                  have cl := cI_len' d3
                  rw [hd3] at cl
                  by_cases gt : t3 < r3
                  · have gti : (t3 : Int) < r3 := by omega
                    rw [pL_stop hr3' ht3' gt] at hRR
                    simp [F0, F1, FI, FJ, gt, gti]
                    exact ⟨t3, d3, ⟨hRR.symm, by omega, by omega, hd3⟩, rfl, rfl⟩
                  · have gti : ¬ (t3 : Int) < r3 := by omega
                    have rt : r3 < t3 := by
                      rcases Nat.lt_or_eq_of_le (show r3 ≤ t3 by omega) with z | z
                      · exact z
                      · have a1 := hr33 (by omega); have a2 := ht33 (by omega); rw [← z, a1] at a2; cases a2
                    rw [pL_go hr3' ht3' gt (by omega)] at hRR
                    obtain ⟨u1, u2, u3, u4, u5, u6⟩ := ix (d := d3) (k := r3) (by omega)
                    obtain ⟨v1, v2, v3, v4, v5, v6⟩ := ix (d := d3) (k := t3) (by omega)
                    rw [hd3] at u1 u4 u5 v1 v4 v5
                    have sw := swp_list (d := d3) r3 t3
                    have nx : noAddr (i64 d3[r3]!) = true := rfl
                    have ny : noAddr (i64 d3[t3]!) = true := rfl
                    have wr := w1 (i := r3) (by omega)
                    have wt := wm1 (i := t3) (by omega) (by omega)
                    simp [F0, F1, FI, FJ, gt, gti, Nat.not_lt.1 gt, Int.not_lt.1 gti, u1, u2, u3, u4, u5, v1, v2, v3, v4, v5, sH_get hb, sH_cell hb, sH_put, cl, cI_set, sw, nx, ny, wr, wt, St.tidy, hb, sH_take]
                    exact ⟨by omega, t3 - 1 + 1 - (r3 + 1), by omega, r3 + 1, t3 - 1, rfl, by omega, by omega, by omega, swp d3 r3 t3, by rw [swp_size', hd3], hRR, ⟨by omega, rfl⟩, rfl⟩
          · rintro _ ⟨f3, hh3⟩ ⟨rfl, r3, d3, ⟨hRR, hr1, hr2, hd3⟩, rfl, F0, F1, FJ⟩
            simp only at F0 F1 FJ
            rw [hRR] at hP
            have cl := cI_len' d3
            rw [hd3] at cl
            obtain ⟨u1, u2, u3, u4, u5, u6⟩ := ix (d := d3) (k := a) (by omega)
            obtain ⟨v1, v2, v3, v4, v5, v6⟩ := ix (d := d3) (k := r3) (by omega)
            rw [hd3] at u1 u4 u5 v1 v4 v5
            have sw := swp_list (d := d3) r3 a
            have nx : noAddr (i64 d3[a]!) = true := rfl
            have ny : noAddr (i64 d3[r3]!) = true := rfl
            cases hP
            simp [F0, F1, FJ, u1, u2, u3, u4, u5, v1, v2, v3, v4, v5, sH_get hb, sH_cell hb, sH_put, cl, cI_set, sw, nx, ny, sH_take]
            omega
  obtain ⟨v, h', e1, rfl, rfl⟩ := key
  exact e1
end Z.U
end Go.Abs
/- Sorting: what is equal to the pivot is parted off. -/
namespace Go.Abs
namespace Z.U
set_option maxRecDepth 100000
set_option maxHeartbeats 0
set_option linter.unusedSimpArgs false
open Go.Sort (ltInt swp scanUp scanDown partEqLoop partitionEqual)
theorem c196 {D lim : Nat} {h : Heap} {b : Nat} (hb : b < h.length) {a e p : Nat} {d : Array Int} (hap : a ≤ p) (hpe : p < e) (he : e ≤ d.size) (hs : d.size ≤ 49) :
    E.call (D + 3) lim 196 [vS b d.size, i64 (a : Int), i64 (e : Int), i64 (p : Int)] (sH h b d.toList) = some (i64 ((partitionEqual ltInt d a e p).1 : Int), sH h b (partitionEqual ltInt d a e p).2.toList) := by
  have key : ∃ v h', E.call (D + 3) lim 196 [vS b d.size, i64 (a : Int), i64 (e : Int), i64 (p : Int)] (sH h b d.toList) = some (v, h') ∧ v = i64 ((partitionEqual ltInt d a e p).1 : Int) ∧ h' = sH h b (partitionEqual ltInt d a e p).2.toList := by
    refine call_trunc (Q := fun v h' => v = i64 ((partitionEqual ltInt d a e p).1 : Int) ∧ h' = sH h b (partitionEqual ltInt d a e p).2.toList) fn196 rfl (by simp [ef196]) ?_
    unfold partitionEqual
    generalize hn : d.size = n at *
    obtain ⟨x1, x2, x3, x4, x5, x6⟩ := ix (d := d) (k := a) (by omega)
    obtain ⟨y1, y2, y3, y4, y5, y6⟩ := ix (d := d) (k := p) (by omega)
    rw [hn] at x1 x4 x5 y1 y4 y5
    have cl := cI_len' d
    rw [hn] at cl
    have sw := swp_list (d := d) a p
    have nx : noAddr (i64 d[a]!) = true := rfl
    have ny : noAddr (i64 d[p]!) = true := rfl
    have wa := w1 (i := a) (by omega)
    have we := wm1 (i := e) (by omega) (by omega)
    obtain ⟨d2, hd2'⟩ : ∃ x, x = swp d a p := ⟨_, rfl⟩
    have hd2 : d2.size = n := by rw [hd2', swp_size', hn]
    rw [← hd2'] at sw
    obtain ⟨i1, hi1⟩ : ∃ x, x = a + 1 := ⟨_, rfl⟩
    obtain ⟨j1, hj1⟩ : ∃ x, x = e - 1 := ⟨_, rfl⟩
    have wa' : IntKind.wrap .i64 ((a : Int) + 1) = (i1 : Int) := by rw [wa, hi1]
    have we' : IntKind.wrap .i64 ((e : Int) - 1) = (j1 : Int) := by rw [we, hj1]
    rw [← hi1, ← hj1, ← hd2']
    generalize hR : partEqLoop ltInt a i1 j1 d2 = R
    simp [ef196, x1, x2, x3, x4, x5, y1, y2, y3, y4, y5, sH_get hb, sH_cell hb, sH_put, cl, cI_set, sw, nx, ny, wa', we']
    refine ⟨by omega, ?_⟩
    refine wpC_mono (Q := fun ex st => ex = .exit 0 ∧ ∃ (zr : Nat) (zd : Array Int), scR2 R (zr, zd) True True (zd.size = n) ∧ st.h = sH h b zd.toList ∧ st.f.get 9 = some (i64 (zr : Int))) ?_ ?_
    · refine wpC_loop (fun q st => ∃ (iu jd : Nat) (d3 : Array Int), q = jd + 1 - iu ∧ a + 1 ≤ iu ∧ iu ≤ jd + 1 ∧ jd < n ∧ d3.size = n ∧ partEqLoop ltInt a iu jd d3 = R ∧ st = ⟨[(0, vS b n), (1, i64 (a : Int)), (9, i64 (iu : Int)), (10, i64 (jd : Int))], sH h b d3.toList⟩) (j1 + 1 - i1) (by show j1 + 1 - i1 < 2 ^ 64; omega) ?_ ?_
      · simp [St.tidy, hb, sH_take]
        exact ⟨i1, j1, rfl, by omega, by omega, by omega, d2, hd2, hR, ⟨rfl, rfl⟩, rfl⟩
      · rintro q hq _ ⟨iu, jd, d3, rfl, hu1, hu2, hu3, hd3, hRR, rfl⟩
        have F0 : True := trivial
        have F1 : True := trivial
        have FI : True := trivial
        have FJ : True := trivial
        simp
        refine wpC_mono (Q := fun ex st => ex = .exit 2 ∧ ∃ zr : Nat, scR (scanUp (fun x => !ltInt d3[a]! x) d3 jd iu) zr (iu ≤ zr) (zr ≤ jd + 1) (zr ≤ jd → ltInt d3[a]! d3[zr]! = true) ∧ st.h = sH h b d3.toList ∧ st.f.get 0 = some (vS b n) ∧ st.f.get 1 = some (i64 (a : Int)) ∧ st.f.get 9 = some (i64 (zr : Int)) ∧ st.f.get 10 = some (i64 (jd : Int))) ?_ ?_
        · refine wpC_loop (fun q st => ∃ i : Nat, q = jd + 1 - i ∧ iu ≤ i ∧ i ≤ jd + 1 ∧ scanUp (fun x => !ltInt d3[a]! x) d3 jd i = scanUp (fun x => !ltInt d3[a]! x) d3 jd iu ∧ st = ⟨[(0, vS b n), (1, i64 (a : Int)), (9, i64 (i : Int)), (10, i64 (jd : Int))], sH h b d3.toList⟩) (jd + 1 - iu) (by show (jd + 1 - iu) < 2 ^ 64; omega) ?_ ?_
          · simp [St.tidy, hb, sH_take, F0, F1, FI, FJ]
            exact ⟨iu, by omega, by omega, by omega, rfl, by simp⟩
          · rintro q hq _ ⟨i, rfl, hv1, hv2, hS, rfl⟩
            by_cases le : i ≤ jd
            · have lei : (i : Int) ≤ jd := by omega
              obtain ⟨p1, p2, p3, p4, p5, p6⟩ := ix (d := d3) (k := i) (by omega)
              obtain ⟨q1, q2, q3, q4, q5, q6⟩ := ix (d := d3) (k := a) (by omega)
              rw [hd3] at p1 p4 p5 q1 q4 q5
              have w1' := w1 (i := i) (by omega)
              by_cases z : ltInt d3[a]! d3[i]! = true
              · rw [sU_stop (by simp [le, z])] at hS
                simp [le, lei, p1, p2, p3, p4, p5, q1, q2, q3, q4, q5, c159, z, sH_cell hb]
                exact ⟨i, ⟨hS.symm, by omega, by omega, fun _ => by simpa using z⟩, rfl⟩
              · have z : ltInt d3[a]! d3[i]! = false := by simpa using z
                rw [sU_go le (by simp [z])] at hS
                simp [le, lei, p1, p2, p3, p4, p5, q1, q2, q3, q4, q5, w1', c159, z, sH_cell hb, St.tidy, hb, sH_take]
                exact ⟨jd + 1 - (i + 1), by omega, i + 1, by omega, by omega, by omega, hS, by omega⟩
            · have lei : ¬ (i : Int) ≤ jd := by omega
              rw [sU_stop (fun y => le y.1)] at hS
              simp [le, lei]
              exact ⟨i, ⟨hS.symm, by omega, by omega, fun y => absurd y le⟩, rfl⟩
        · rintro _ ⟨f3, hh3⟩ ⟨rfl, r3, ⟨hr3', hr31, hr32, hr33⟩, rfl, F0, F1, FI, FJ⟩
          simp only at F0 F1 FI FJ
          simp
          refine wpC_mono (Q := fun ex st => ex = .exit 4 ∧ ∃ zr : Nat, scR (scanDown (fun x => ltInt d3[a]! x) d3 r3 jd) zr (zr ≤ jd) (r3 ≤ zr + 1) (r3 ≤ zr → ltInt d3[a]! d3[zr]! = false) ∧ st.h = sH h b d3.toList ∧ st.f.get 0 = some (vS b n) ∧ st.f.get 1 = some (i64 (a : Int)) ∧ st.f.get 9 = some (i64 (r3 : Int)) ∧ st.f.get 10 = some (i64 (zr : Int))) ?_ ?_
          · refine wpC_loop (fun q st => ∃ j : Nat, q = j + 1 - r3 ∧ j ≤ jd ∧ r3 ≤ j + 1 ∧ scanDown (fun x => ltInt d3[a]! x) d3 r3 j = scanDown (fun x => ltInt d3[a]! x) d3 r3 jd ∧ st = ⟨[(0, vS b n), (1, i64 (a : Int)), (9, i64 (r3 : Int)), (10, i64 (j : Int))], sH h b d3.toList⟩) (jd + 1 - r3) (by show (jd + 1 - r3) < 2 ^ 64; omega) ?_ ?_
            · simp [St.tidy, hb, sH_take, F0, F1, FI, FJ]
              exact ⟨jd, by omega, by omega, by omega, rfl, by simp⟩
            · rintro q hq _ ⟨j, rfl, hv1, hv2, hS, rfl⟩
              by_cases le : r3 ≤ j
              · have lei : (r3 : Int) ≤ j := by omega
                obtain ⟨p1, p2, p3, p4, p5, p6⟩ := ix (d := d3) (k := j) (by omega)
                obtain ⟨q1, q2, q3, q4, q5, q6⟩ := ix (d := d3) (k := a) (by omega)
                rw [hd3] at p1 p4 p5 q1 q4 q5
                have w1' := wm1 (i := j) (by omega) (by omega)
                by_cases z : ltInt d3[a]! d3[j]! = true
                · rw [sD_go (by omega) le (by simp [z])] at hS
                  simp [le, lei, p1, p2, p3, p4, p5, q1, q2, q3, q4, q5, w1', c159, z, sH_cell hb, St.tidy, hb, sH_take]
                  exact ⟨j - 1 + 1 - r3, by omega, j - 1, by omega, by omega, by omega, hS, by omega⟩
                · have z : ltInt d3[a]! d3[j]! = false := by simpa using z
                  rw [sD_stop (by simp [le, z])] at hS
                  simp [le, lei, p1, p2, p3, p4, p5, q1, q2, q3, q4, q5, c159, z, sH_cell hb]
                  exact ⟨j, ⟨hS.symm, by omega, by omega, fun _ => by simpa using z⟩, rfl⟩
              · have lei : ¬ (r3 : Int) ≤ j := by omega
                rw [sD_stop (fun y => le y.1)] at hS
                simp [le, lei]
                exact ⟨j, ⟨hS.symm, by omega, by omega, fun y => absurd y le⟩, rfl⟩
          · rintro _ ⟨f4, hh4⟩ ⟨rfl, t3, ⟨ht3', ht31, ht32, ht33⟩, rfl, F0, F1, FI, FJ⟩
            simp only at F0 F1 FI FJ
            have cl := cI_len' d3
            rw [hd3] at cl
            by_cases gt : t3 < r3
            · have gti : (t3 : Int) < r3 := by omega
              rw [pE_stop hr3' ht3' gt] at hRR
              simp [F0, F1, FI, FJ, gt, gti]
              exact ⟨r3, d3, ⟨hRR.symm, trivial, trivial, hd3⟩, rfl, rfl⟩
            · have gti : ¬ (t3 : Int) < r3 := by omega
              have rt : r3 < t3 := by
                rcases Nat.lt_or_eq_of_le (show r3 ≤ t3 by omega) with z | z
                · exact z
                · have a1 := hr33 (by omega); have a2 := ht33 (by omega); rw [← z, a1] at a2; cases a2
              rw [pE_go hr3' ht3' gt (by omega)] at hRR
              obtain ⟨u1, u2, u3, u4, u5, u6⟩ := ix (d := d3) (k := r3) (by omega)
              obtain ⟨v1, v2, v3, v4, v5, v6⟩ := ix (d := d3) (k := t3) (by omega)
              rw [hd3] at u1 u4 u5 v1 v4 v5
              have sw := swp_list (d := d3) r3 t3
              have nx : noAddr (i64 d3[r3]!) = true := rfl
              have ny : noAddr (i64 d3[t3]!) = true := rfl
              have wr := w1 (i := r3) (by omega)
              have wt := wm1 (i := t3) (by omega) (by omega)
              simp [F0, F1, FI, FJ, gt, gti, Nat.not_lt.1 gt, Int.not_lt.1 gti, u1, u2, u3, u4, u5, v1, v2, v3, v4, v5, sH_get hb, sH_cell hb, sH_put, cl, cI_set, sw, nx, ny, wr, wt, St.tidy, hb, sH_take]
              exact ⟨by omega, t3 - 1 + 1 - (r3 + 1), by omega, r3 + 1, t3 - 1, rfl, by omega, by omega, by omega, swp d3 r3 t3, by rw [swp_size', hd3], hRR, ⟨by omega, rfl⟩, rfl⟩
    · rintro _ ⟨f3, hh3⟩ ⟨rfl, r3, d3, ⟨hRR, hr1, hr2, hd3⟩, rfl, FI⟩
      simp only at FI
      subst hRR
      simp [FI, sH_take]
  obtain ⟨v, h', e1, rfl, rfl⟩ := key
  exact e1
end Z.U
end Go.Abs
