/- Sorting: the row of numbers in its block; less; insertion. -/
import Derived.Test.YtfbelnhibipndaaGreatDoorAbsZUKN
import Derived.Sort.AssemblyPlain
set_option linter.unusedSimpArgs false
set_option linter.unusedVariables false
/- Sorting: the row of numbers in its block; less; insertion. -/
namespace Go.Abs
namespace Z.U
set_option maxRecDepth 100000
set_option maxHeartbeats 0
open Go.Sort (ltInt swp insInner insOuter insertionSort)
theorem hput_put {h : Heap} {b : Nat} (x y : Option Blk) : (h.put b x).put b y = h.put b y := by unfold Heap.put; rw [List.set_set]
/-- A heap with a row of numbers in one block. -/
def sH (h : Heap) (b : Nat) (l : List Int) : Heap := h.put b (some ⟨cI l, true⟩)
section
variable {h : Heap} {b : Nat}
@[simp] theorem sH_len (l : List Int) : List.length (sH h b l) = List.length h := Heap.length_put _ _ _
theorem sH_get (hb : b < h.length) (l : List Int) : (sH h b l).get b = some ⟨cI l, true⟩ := Heap.get_put_eq _ hb
theorem sH_put (l : List Int) (cs : List Int) : (sH h b l).put b (some ⟨cI cs, true⟩) = sH h b cs := by unfold sH; rw [hput_put]
theorem sH_cell (hb : b < h.length) (l : List Int) (o : Nat) : (sH h b l).cell b o = (cI l)[o]? := cell_get (sH_get hb l)
theorem sH_take (l : List Int) : List.take h.length (sH h b l) = sH h b l := List.take_of_length_le (by simp)
theorem cI_len' (d : Array Int) : (cI d.toList).length = d.size := by simp [cI]
end
theorem arr_get {d : Array Int} {k : Nat} (hk : k < d.size) : d.toList[k]? = some d[k]! := by
  rw [Array.getElem?_toList, Array.getElem?_eq_getElem hk, getElem!_pos d k hk]
/-- What simp wants to know of a place in a row. -/
theorem ix {d : Array Int} {k : Nat} (hk : k < d.size) : (k : Int) < (d.size : Int) ∧ (cI d.toList)[k]? = some (i64 d[k]!) ∧ (∀ hh, (cI d.toList)[k]'hh = i64 d[k]!) ∧ k + 1 ≤ d.size ∧ k < d.size ∧ d.toList[k]? = some d[k]! := by
  have e : (cI d.toList)[k]? = some (i64 d[k]!) := by rw [cI_get, arr_get hk]; rfl
  refine ⟨by omega, e, fun hh => ?_, by omega, hk, arr_get hk⟩
  rw [List.getElem?_eq_getElem hh] at e
  exact Option.some.inj e
theorem swp_list {d : Array Int} (i j : Nat) : (d.toList.set i d[j]!).set j d[i]! = (swp d i j).toList := by simp [swp]
theorem swp_size' {d : Array Int} (i j : Nat) : (swp d i j).size = d.size := by simp [swp]
theorem c159 {d lim : Nat} {h : Heap} {x y : Int} : E.call (d + 2) lim 159 [i64 x, i64 y] h = some (.bool (ltInt x y), h) := by
  refine call1 fn159 rfl (by simp [ef159]) ?_
  simp [ef159, c200, ltInt]
abbrev vS (b n : Nat) : Value := .slice (some ⟨b, 0, none⟩) n 1
theorem insOuter_lt {a b i : Nat} {d : Array Int} (h : i < b) : insOuter ltInt a b i d = insOuter ltInt a b (i + 1) (insInner ltInt a i d) := by rw [insOuter, if_pos h]
theorem insOuter_ge {a b i : Nat} {d : Array Int} (h : ¬ i < b) : insOuter ltInt a b i d = d := by rw [insOuter, if_neg h]
theorem c190 {D lim : Nat} {h : Heap} {b : Nat} (hb : b < h.length) {a e : Nat} {d : Array Int} (hae : a ≤ e) (he : e ≤ d.size) (hs : d.size ≤ 1000) :
    E.call (D + 3) lim 190 [vS b d.size, i64 (a : Int), i64 (e : Int)] (sH h b d.toList) = some (.tuple #[], sH h b (insertionSort ltInt d a e).toList) := by
  have key : ∃ v h', E.call (D + 3) lim 190 [vS b d.size, i64 (a : Int), i64 (e : Int)] (sH h b d.toList) = some (v, h') ∧ v = .tuple #[] ∧ h' = sH h b (insertionSort ltInt d a e).toList := by
    refine call_trunc (Q := fun v h' => v = .tuple #[] ∧ h' = sH h b (insertionSort ltInt d a e).toList) fn190 rfl (by simp [ef190]) ?_
    have wa := w1 (i := a) (by omega)
    unfold insertionSort
    generalize hR : insOuter ltInt a e (a + 1) d = R
    generalize hn : d.size = n at *
    simp [ef190, wa]
    refine wpC_loop (fun q st => ∃ (i : Nat) (d' : Array Int), q = e + 1 - i ∧ i ≤ e + 1 ∧ a + 1 ≤ i ∧ d'.size = n ∧ insOuter ltInt a e i d' = R ∧ st = ⟨[(0, vS b n), (1, i64 (a : Int)), (2, i64 (e : Int)), (6, i64 (i : Int))], sH h b d'.toList⟩) (e + 1 - (a + 1)) (by show e + 1 - (a + 1) < 2 ^ 64; omega) ?_ ?_
    · simp [St.tidy, hb, sH_take]
      exact ⟨a + 1, by omega, by omega, by omega, d, hn, hR, by omega, rfl⟩
    · rintro q hq _ ⟨i, d', rfl, hi, hai, hd', hR', rfl⟩
      by_cases hlt : i < e
      · have hlti : (i : Int) < e := by omega
        rw [insOuter_lt hlt] at hR'
        simp [hlti, hlt]
        refine wpC_loop (fun q st => ∃ (j : Nat) (d2 : Array Int), j = q ∧ j ≤ i ∧ d2.size = n ∧ insInner ltInt a j d2 = insInner ltInt a i d' ∧ st = ⟨[(0, vS b n), (1, i64 (a : Int)), (2, i64 (e : Int)), (6, i64 (i : Int)), (7, i64 (j : Int))], sH h b d2.toList⟩) i (by show i < 2 ^ 64; omega) ?_ ?_
        · simp [St.tidy, hb, sH_take]
          exact ⟨d', hd', rfl, rfl⟩
        · rintro q hq _ ⟨j, d2, rfl, hj, hd2, hI, rfl⟩
          have fin : insInner ltInt a j d2 = d2 → ∃ (i' : Nat) (x : Array Int), e + 1 - i' < e + 1 - i ∧ i' ≤ e + 1 ∧ a + 1 ≤ i' ∧ x.size = n ∧ insOuter ltInt a e i' x = R ∧ i' = i + 1 ∧ x = d2 := fun z => by
            rw [z] at hI
            exact ⟨i + 1, d2, by omega, by omega, by omega, hd2, by rw [hI]; exact hR', rfl, rfl⟩
          have w1' := w1 (i := i) (by omega)
          by_cases ja : a < j
          · have jai : (a : Int) < (j : Int) := by omega
            have un : insInner ltInt a j d2 = if ltInt d2[j]! d2[j - 1]! = true then insInner ltInt a (j - 1) (swp d2 j (j - 1)) else d2 := by
              obtain ⟨k, rfl⟩ : ∃ k, j = k + 1 := ⟨j - 1, by omega⟩
              rw [insInner]
              simp only [decide_eq_true ja, Bool.true_and, gt_iff_lt, Nat.add_sub_cancel]
            rw [un] at hI fin
            obtain ⟨p1, p2, p3, p4, p5, p6⟩ := ix (d := d2) (k := j) (by omega)
            obtain ⟨q1, q2, q3, q4, q5, q6⟩ := ix (d := d2) (k := j - 1) (by omega)
            rw [hd2] at p1 p4 p5 q1 q4 q5
            have wm := wm1 (i := j) (by omega) (by omega)
            have cl := cI_len' d2
            have sw := swp_list (d := d2) j (j - 1)
            have nx : noAddr (i64 d2[j - 1]!) = true := rfl
            have ny : noAddr (i64 d2[j]!) = true := rfl
            rw [hd2] at cl
            by_cases lt : ltInt d2[j]! d2[j - 1]! = true
            · rw [if_pos lt] at hI
              simp [jai, ja, p1, p2, p3, p4, p5, q1, q2, q3, q4, q5, wm, c159, lt, sH_get hb, sH_cell hb, sH_put, cl, cI_set, St.tidy, hb, sH_take, sw, nx, ny]
              exact ⟨by omega, j - 1, by omega, by omega, swp d2 j (j - 1), by rw [swp_size', hd2], hI, by omega, rfl⟩
            · obtain ⟨i', x, f1, f2, f3, f4, f5, f6, f7⟩ := fin (by rw [if_neg lt])
              simp [jai, ja, p1, p2, p3, p4, p5, q1, q2, q3, q4, q5, wm, c159, lt, sH_get hb, sH_cell hb, cl, St.tidy, hb, sH_take, w1']
              exact ⟨_, f1, i', rfl, f2, f3, x, f4, f5, by omega, by rw [f7]⟩
          · have jai : ¬ (a : Int) < j := by omega
            have st : insInner ltInt a j d2 = d2 := by
              cases j with
              | zero => rfl
              | succ k => rw [insInner, if_neg (by simp; omega)]
            obtain ⟨i', x, f1, f2, f3, f4, f5, f6, f7⟩ := fin st
            simp [jai, ja, St.tidy, hb, sH_take, w1']
            exact ⟨_, f1, i', rfl, f2, f3, x, f4, f5, by omega, by rw [f7]⟩
      · have hlti : ¬ (i : Int) < e := by omega
        rw [insOuter_ge hlt] at hR'
        subst hR'
        simp [hlti, hlt, sH_take]
  obtain ⟨v, h', e1, rfl, rfl⟩ := key
  exact e1
end Z.U
end Go.Abs
/- Sorting: heaps. -/
namespace Go.Abs
namespace Z.U
set_option maxRecDepth 100000
set_option maxHeartbeats 0
open Go.Sort (ltInt swp siftDown heapBuild heapPop heapSort)
theorem sift_stop {hi f r : Nat} {d : Array Int} (h : hi ≤ 2 * r + 1) : siftDown ltInt hi f r d = d := by rw [siftDown, dif_pos h]
theorem sift_go {hi f r c x : Nat} {d : Array Int} (h : ¬ hi ≤ 2 * r + 1) (hc : c = if 2 * r + 2 < hi ∧ ltInt d[f + (2 * r + 1)]! d[f + (2 * r + 2)]! = true then 2 * r + 2 else 2 * r + 1) (hx : x = f + c) :
    siftDown ltInt hi f r d = if ltInt d[f + r]! d[x]! = true then siftDown ltInt hi f c (swp d (f + r) x) else d := by
  rw [siftDown, dif_neg h]
  subst hx
  by_cases q : 2 * r + 2 < hi ∧ ltInt d[f + (2 * r + 1)]! d[f + (2 * r + 2)]! = true
  · rw [if_pos q] at hc
    subst hc
    have q' : (decide (2 * r + 1 + 1 < hi) && ltInt d[f + (2 * r + 1)]! d[f + (2 * r + 1) + 1]!) = true := by
      rw [Bool.and_eq_true, decide_eq_true_eq]; exact q
    rw [if_pos q']
    by_cases z : ltInt d[f + r]! d[f + (2 * r + 2)]! = true
    · rw [if_neg (by simp [z]), dif_pos q.1, if_pos z]
    · rw [if_pos (by simp [z]), if_neg z]
  · rw [if_neg q] at hc
    subst hc
    have q' : ¬ (decide (2 * r + 1 + 1 < hi) && ltInt d[f + (2 * r + 1)]! d[f + (2 * r + 1) + 1]!) = true := by
      rw [Bool.and_eq_true, decide_eq_true_eq]; exact q
    rw [if_neg q']
    by_cases z : ltInt d[f + r]! d[f + (2 * r + 1)]! = true
    · rw [if_neg (by simp [z]), if_pos z]
    · rw [if_pos (by simp [z]), if_neg z]
theorem c223 {D lim : Nat} {h : Heap} {b : Nat} (hb : b < h.length) {r hi f : Nat} {d : Array Int} (he : f + hi ≤ d.size) (hr : r ≤ 1000) (hs : d.size ≤ 1000) :
    E.call (D + 3) lim 223 [vS b d.size, i64 (r : Int), i64 (hi : Int), i64 (f : Int)] (sH h b d.toList) = some (.tuple #[], sH h b (siftDown ltInt hi f r d).toList) := by
  have key : ∃ v h', E.call (D + 3) lim 223 [vS b d.size, i64 (r : Int), i64 (hi : Int), i64 (f : Int)] (sH h b d.toList) = some (v, h') ∧ v = .tuple #[] ∧ h' = sH h b (siftDown ltInt hi f r d).toList := by
    refine call_trunc (Q := fun v h' => v = .tuple #[] ∧ h' = sH h b (siftDown ltInt hi f r d).toList) fn223 rfl (by simp [ef223]) ?_
    generalize hR : siftDown ltInt hi f r d = R
    generalize hn : d.size = n at *
    simp [ef223]
    refine wpC_loop (fun q st => ∃ (i : Nat) (d' : Array Int), q = 1000 - i ∧ i ≤ 1000 ∧ d'.size = n ∧ siftDown ltInt hi f i d' = R ∧ st = ⟨[(0, vS b n), (2, i64 (hi : Int)), (3, i64 (f : Int)), (8, i64 (i : Int))], sH h b d'.toList⟩) (1000 - r) (by show 1000 - r < 2 ^ 64; omega) ?_ ?_
    · simp [St.tidy, hb, sH_take]
      exact ⟨r, rfl, hr, d, hn, hR, rfl, rfl⟩
    · rintro q hq _ ⟨i, d', rfl, hi', hd', hR', rfl⟩
      obtain ⟨c, hc⟩ : ∃ c, c = 2 * i + 1 := ⟨_, rfl⟩
      have e1 : IntKind.wrap .i64 (2 * (i : Int)) = 2 * (i : Int) := wrap_eq (by omega) (by omega)
      have e2 : IntKind.wrap .i64 (2 * (i : Int) + 1) = (c : Int) := by rw [wrap_eq (by omega) (by omega)]; omega
      by_cases st : hi ≤ c
      · rw [sift_stop (by omega)] at hR'
        subst hR'
        have sti : (hi : Int) ≤ c := by omega
        simp [e1, e2, st, sti, sH_take]
      have sti : ¬ (hi : Int) ≤ c := by omega
      obtain ⟨c1, hc1⟩ : ∃ c1, c1 = c + 1 := ⟨_, rfl⟩
      obtain ⟨fr, hfr⟩ : ∃ x, x = f + i := ⟨_, rfl⟩
      obtain ⟨fc, hfc⟩ : ∃ x, x = f + c := ⟨_, rfl⟩
      obtain ⟨fd, hfd⟩ : ∃ x, x = f + c1 := ⟨_, rfl⟩
      have e3 : IntKind.wrap .i64 ((c : Int) + 1) = (c1 : Int) := by rw [wrap_eq (by omega) (by omega)]; omega
      have e4 : IntKind.wrap .i64 ((f : Int) + (i : Int)) = (fr : Int) := by rw [wrap_eq (by omega) (by omega)]; omega
      have e5 : IntKind.wrap .i64 ((f : Int) + (c : Int)) = (fc : Int) := by rw [wrap_eq (by omega) (by omega)]; omega
      have e6 : IntKind.wrap .i64 ((f : Int) + (c1 : Int)) = (fd : Int) := by rw [wrap_eq (by omega) (by omega)]; omega
      have e7 : IntKind.wrap .i64 ((fc : Int) + 1) = (fd : Int) := by rw [wrap_eq (by omega) (by omega)]; omega
      obtain ⟨p1, p2, p3, p4, p5, p6⟩ := ix (d := d') (k := fr) (by omega)
      obtain ⟨q1, q2, q3, q4, q5, q6⟩ := ix (d := d') (k := fc) (by omega)
      rw [hd'] at p1 p4 p5 q1 q4 q5
      have cl := cI_len' d'
      rw [hd'] at cl
      have nr : noAddr (i64 d'[fr]!) = true := rfl
      have nc : noAddr (i64 d'[fc]!) = true := rfl
      have nd : noAddr (i64 d'[fd]!) = true := rfl
      have swc := swp_list (d := d') fr fc
      have swd := swp_list (d := d') fr fd
      by_cases g : c1 < hi
      · have gi : (c1 : Int) < hi := by omega
        obtain ⟨s1, s2, s3, s4, s5, s6⟩ := ix (d := d') (k := fd) (by omega)
        rw [hd'] at s1 s4 s5
        by_cases l1 : ltInt d'[fc]! d'[fd]! = true
        · have un := sift_go (hi := hi) (f := f) (r := i) (c := c1) (x := fd) (d := d') (by omega) (by rw [if_pos ⟨by omega, by rw [← show fc = f + (2 * i + 1) by omega, ← show fd = f + (2 * i + 2) by omega]; exact l1⟩]; omega) hfd
          rw [← hfr] at un
          rw [un] at hR'
          by_cases l2 : ltInt d'[fr]! d'[fd]! = true
          · rw [if_pos l2] at hR'
            simp [e1, e2, e3, e4, e5, e6, e7, st, sti, Int.not_le.1 sti, Nat.not_le.1 st, g, gi, p1, p2, p3, p4, p5, q1, q2, q3, q4, q5, s1, s2, s3, s4, s5, c159, l1, l2, sH_get hb, sH_cell hb, sH_put, cl, cI_set, St.tidy, hb, sH_take, swd, nr, nd]
            exact ⟨by omega, 1000 - c1, by omega, c1, by omega, by omega, swp d' fr fd, by rw [swp_size', hd'], hR', by omega, rfl⟩
          · rw [if_neg l2] at hR'
            subst hR'
            simp [e1, e2, e3, e4, e5, e6, e7, st, sti, Int.not_le.1 sti, Nat.not_le.1 st, g, gi, p1, p2, p3, p4, p5, q1, q2, q3, q4, q5, s1, s2, s3, s4, s5, c159, l1, l2, sH_get hb, sH_cell hb, cl, sH_take]
        · have un := sift_go (hi := hi) (f := f) (r := i) (c := c) (x := fc) (d := d') (by omega) (by rw [if_neg (fun z => l1 (by rw [show fc = f + (2 * i + 1) by omega, show fd = f + (2 * i + 2) by omega]; exact z.2))]; omega) hfc
          rw [← hfr] at un
          rw [un] at hR'
          by_cases l2 : ltInt d'[fr]! d'[fc]! = true
          · rw [if_pos l2] at hR'
            simp [e1, e2, e3, e4, e5, e6, e7, st, sti, Int.not_le.1 sti, Nat.not_le.1 st, g, gi, p1, p2, p3, p4, p5, q1, q2, q3, q4, q5, s1, s2, s3, s4, s5, c159, l1, l2, sH_get hb, sH_cell hb, sH_put, cl, cI_set, St.tidy, hb, sH_take, swc, nr, nc]
            exact ⟨by omega, 1000 - c, by omega, c, by omega, by omega, swp d' fr fc, by rw [swp_size', hd'], hR', by omega, rfl⟩
          · rw [if_neg l2] at hR'
            subst hR'
            simp [e1, e2, e3, e4, e5, e6, e7, st, sti, Int.not_le.1 sti, Nat.not_le.1 st, g, gi, p1, p2, p3, p4, p5, q1, q2, q3, q4, q5, s1, s2, s3, s4, s5, c159, l1, l2, sH_get hb, sH_cell hb, cl, sH_take]
      · have gi : ¬ (c1 : Int) < hi := by omega
        have un := sift_go (hi := hi) (f := f) (r := i) (c := c) (x := fc) (d := d') (by omega) (by rw [if_neg (fun z => g (by omega))]; omega) hfc
        rw [← hfr] at un
        rw [un] at hR'
        by_cases l2 : ltInt d'[fr]! d'[fc]! = true
        · rw [if_pos l2] at hR'
          simp [e1, e2, e3, e4, e5, e6, e7, st, sti, Int.not_le.1 sti, Nat.not_le.1 st, g, gi, p1, p2, p3, p4, p5, q1, q2, q3, q4, q5, c159, l2, sH_get hb, sH_cell hb, sH_put, cl, cI_set, St.tidy, hb, sH_take, swc, nr, nc]
          exact ⟨by omega, 1000 - c, by omega, c, by omega, by omega, swp d' fr fc, by rw [swp_size', hd'], hR', by omega, rfl⟩
        · rw [if_neg l2] at hR'
          subst hR'
          simp [e1, e2, e3, e4, e5, e6, e7, st, sti, Int.not_le.1 sti, Nat.not_le.1 st, g, gi, p1, p2, p3, p4, p5, q1, q2, q3, q4, q5, c159, l2, sH_get hb, sH_cell hb, cl, sH_take]
  obtain ⟨v, h', e1, rfl, rfl⟩ := key
  exact e1
theorem sift_size {hi f : Nat} : ∀ (k r : Nat) (d : Array Int), hi - r ≤ k → (siftDown ltInt hi f r d).size = d.size
  | 0, r, d, h => by rw [sift_stop (by omega)]
  | k + 1, r, d, h => by
    by_cases st : hi ≤ 2 * r + 1
    · rw [sift_stop st]
    · obtain ⟨c, hc⟩ : ∃ c, c = if 2 * r + 2 < hi ∧ ltInt d[f + (2 * r + 1)]! d[f + (2 * r + 2)]! = true then 2 * r + 2 else 2 * r + 1 := ⟨_, rfl⟩
      have hc2 : r < c := by rw [hc]; split <;> omega
      rw [sift_go st hc rfl]
      split
      · rw [sift_size k _ _ (by omega), swp_size']
      · rfl
theorem heapBuild_size {hi f : Nat} : ∀ (k : Nat) (d : Array Int), (heapBuild ltInt hi f k d).size = d.size
  | 0, d => rfl
  | k + 1, d => by rw [heapBuild, heapBuild_size k, sift_size _ _ _ (Nat.le_refl _)]
theorem c191 {D lim : Nat} {h : Heap} {b : Nat} (hb : b < h.length) {a e : Nat} {d : Array Int} (hae : a < e) (he : e ≤ d.size) (hs : d.size ≤ 1000) :
    E.call (D + 4) lim 191 [vS b d.size, i64 (a : Int), i64 (e : Int)] (sH h b d.toList) = some (.tuple #[], sH h b (heapSort ltInt d a e).toList) := by
  have key : ∃ v h', E.call (D + 4) lim 191 [vS b d.size, i64 (a : Int), i64 (e : Int)] (sH h b d.toList) = some (v, h') ∧ v = .tuple #[] ∧ h' = sH h b (heapSort ltInt d a e).toList := by
    refine call_trunc (Q := fun v h' => v = .tuple #[] ∧ h' = sH h b (heapSort ltInt d a e).toList) fn191 rfl (by simp [ef191]) ?_
    obtain ⟨H, hH⟩ : ∃ H, H = e - a := ⟨_, rfl⟩
    obtain ⟨K, hK⟩ : ∃ K, K = (H - 1) / 2 := ⟨_, rfl⟩
    have e1 : IntKind.wrap .i64 ((e : Int) - (a : Int)) = (H : Int) := by rw [wrap_eq (by omega) (by omega)]; omega
    have e2 : IntKind.wrap .i64 ((H : Int) - 1) = (H : Int) - 1 := wrap_eq (by omega) (by omega)
    have e3 : IntKind.wrap .i64 (qdiv ((H : Int) - 1) 2) = (K : Int) := by rw [qdiv_nn (by omega), wrap_eq (by omega) (by omega)]; omega
    unfold heapSort
    rw [← hH, ← hK]
    generalize hB : heapBuild ltInt H a (K + 1) d = B
    generalize hR : heapPop ltInt a H B = R
    have hBs : B.size = d.size := by rw [← hB, heapBuild_size]
    generalize hn : d.size = n at *
    simp [ef191, e1, e2, e3]
    refine wpC_loop (fun q st => ∃ (k : Nat) (d' : Array Int), k = q ∧ k ≤ K + 1 ∧ d'.size = n ∧ heapBuild ltInt H a k d' = B ∧ st = ⟨[(0, vS b n), (6, i64 (a : Int)), (7, i64 0), (8, i64 (H : Int)), (9, i64 ((k : Int) - 1))], sH h b d'.toList⟩) (K + 1) (by show K + 1 < 2 ^ 64; omega) ?_ ?_
    · simp [St.tidy, hb, sH_take]
      exact ⟨d, hn, hB, rfl⟩
    · rintro q hq _ ⟨k, d', rfl, hk, hd', hB', rfl⟩
      cases k with
      | succ k =>
        have w1 : IntKind.wrap .i64 ((k : Int) - 1) = (k : Int) - 1 := wrap_eq (by omega) (by omega)
        have k136 := fun lim => c223 (D := D) (lim := lim) hb (r := k) (hi := H) (f := a) (d := d') (by omega) (by omega) (by omega)
        rw [hd'] at k136
        have k0 : (0 : Int) ≤ k := by omega
        have ss := sift_size (hi := H) (f := a) _ k d' (Nat.le_refl _)
        simp [k136, k0, w1, St.tidy, hb, sH_take]
        exact ⟨k, by omega, by omega, _, by rw [ss, hd'], hB', rfl, rfl⟩
      | zero =>
        rw [heapBuild] at hB'
        subst hB'
        simp [e2]
        refine wpC_loop (fun q st => ∃ (k : Nat) (d2 : Array Int), k = q ∧ k ≤ H ∧ d2.size = n ∧ heapPop ltInt a k d2 = R ∧ st = ⟨[(0, vS b n), (6, i64 (a : Int)), (7, i64 0), (10, i64 ((k : Int) - 1))], sH h b d2.toList⟩) H (by show H < 2 ^ 64; omega) ?_ ?_
        · simp [St.tidy, hb, sH_take]
          exact ⟨d', hBs, hR, rfl⟩
        · rintro q hq _ ⟨k, d2, rfl, hk2, hd2, hR', rfl⟩
          cases k with
          | succ k =>
            obtain ⟨ak, hak⟩ : ∃ x, x = a + k := ⟨_, rfl⟩
            have w1 : IntKind.wrap .i64 ((k : Int) - 1) = (k : Int) - 1 := wrap_eq (by omega) (by omega)
            have w2 : IntKind.wrap .i64 ((a : Int) + (k : Int)) = (ak : Int) := by rw [wrap_eq (by omega) (by omega)]; omega
            obtain ⟨p1, p2, p3, p4, p5, p6⟩ := ix (d := d2) (k := a) (by omega)
            obtain ⟨q1, q2, q3, q4, q5, q6⟩ := ix (d := d2) (k := ak) (by omega)
            rw [hd2] at p1 p4 p5 q1 q4 q5
            have cl := cI_len' d2
            rw [hd2] at cl
            have sw := swp_list (d := d2) a ak
            have nr : noAddr (i64 d2[a]!) = true := rfl
            have nc : noAddr (i64 d2[ak]!) = true := rfl
            have hsw : (swp d2 a ak).size = n := by rw [swp_size', hd2]
            have k136 := fun lim => c223 (D := D) (lim := lim) hb (r := 0) (hi := k) (f := a) (d := swp d2 a ak) (by omega) (by omega) (by omega)
            rw [hsw] at k136
            simp only [Int.ofNat_zero, Int.cast_ofNat_Int] at k136
            have k0 : (0 : Int) ≤ k := by omega
            have ss := sift_size (hi := k) (f := a) _ 0 (swp d2 a ak) (Nat.le_refl _)
            rw [heapPop, ← hak] at hR'
            simp [k136, k0, w1, w2, p1, p2, p3, p4, p5, q1, q2, q3, q4, q5, sH_get hb, sH_cell hb, sH_put, cl, cI_set, sw, nr, nc, St.tidy, hb, sH_take]
            exact ⟨by omega, k, by omega, by omega, _, by rw [ss, hsw], hR', rfl, rfl⟩
          | zero =>
            rw [heapPop] at hR'
            subst hR'
            simp [sH_take]
  obtain ⟨v, h', e1, rfl, rfl⟩ := key
  exact e1
end Z.U
end Go.Abs
/- Sorting: reversal, the pivot. -/
namespace Go.Abs
namespace Z.U
set_option maxRecDepth 100000
set_option maxHeartbeats 0
open Go.Sort (ltInt swp reverseLoop reverseRange order2 median choosePivot Hint)
theorem rev_lt {i j : Nat} {d : Array Int} (h : i < j) : reverseLoop i j d = reverseLoop (i + 1) (j - 1) (swp d i j) := by rw [reverseLoop, if_pos h]
theorem rev_ge {i j : Nat} {d : Array Int} (h : ¬ i < j) : reverseLoop i j d = d := by rw [reverseLoop, if_neg h]
theorem c194 {D lim : Nat} {h : Heap} {b : Nat} (hb : b < h.length) {a e : Nat} {d : Array Int} (hae : a < e) (he : e ≤ d.size) (hs : d.size ≤ 1000) :
    E.call (D + 1) lim 194 [vS b d.size, i64 (a : Int), i64 (e : Int)] (sH h b d.toList) = some (.tuple #[], sH h b (reverseRange d a e).toList) := by
  have key : ∃ v h', E.call (D + 1) lim 194 [vS b d.size, i64 (a : Int), i64 (e : Int)] (sH h b d.toList) = some (v, h') ∧ v = .tuple #[] ∧ h' = sH h b (reverseRange d a e).toList := by
    refine call_trunc (Q := fun v h' => v = .tuple #[] ∧ h' = sH h b (reverseRange d a e).toList) fn194 rfl (by simp [ef194]) ?_
    have wm := wm1 (i := e) (by omega) (by omega)
    unfold reverseRange
    generalize hR : reverseLoop a (e - 1) d = R
    generalize hn : d.size = n at *
    simp [ef194, wm]
    refine wpC_loop (fun q st => ∃ (i j : Nat) (d' : Array Int), q = 1000 - i ∧ i ≤ 1000 ∧ j < n ∧ d'.size = n ∧ reverseLoop i j d' = R ∧ st = ⟨[(0, vS b n), (6, i64 (i : Int)), (7, i64 (j : Int))], sH h b d'.toList⟩) (1000 - a) (by show 1000 - a < 2 ^ 64; omega) ?_ ?_
    · simp [St.tidy, hb, sH_take]
      exact ⟨a, rfl, by omega, e - 1, by omega, d, hn, hR, ⟨rfl, rfl⟩, rfl⟩
    · rintro q hq _ ⟨i, j, d', rfl, hi, hj, hd', hR', rfl⟩
      by_cases lt : i < j
      · have lti : (i : Int) < j := by omega
        rw [rev_lt lt] at hR'
        obtain ⟨p1, p2, p3, p4, p5, p6⟩ := ix (d := d') (k := i) (by omega)
        obtain ⟨q1, q2, q3, q4, q5, q6⟩ := ix (d := d') (k := j) (by omega)
        rw [hd'] at p1 p4 p5 q1 q4 q5
        have cl := cI_len' d'
        rw [hd'] at cl
        have w1' := w1 (i := i) (by omega)
        have wm' := wm1 (i := j) (by omega) (by omega)
        have sw := swp_list (d := d') i j
        have nr : noAddr (i64 d'[i]!) = true := rfl
        have nc : noAddr (i64 d'[j]!) = true := rfl
        simp [lt, lti, p1, p2, p3, p4, p5, q1, q2, q3, q4, q5, w1', wm', sH_get hb, sH_cell hb, sH_put, cl, cI_set, sw, nr, nc, St.tidy, hb, sH_take]
        exact ⟨by omega, 1000 - (i + 1), by omega, i + 1, by omega, by omega, j - 1, by omega, swp d' i j, by rw [swp_size', hd'], hR', ⟨by omega, rfl⟩, rfl⟩
      · have lti : ¬ (i : Int) < j := by omega
        rw [rev_ge lt] at hR'
        subst hR'
        simp [lt, lti, sH_take]
  obtain ⟨v, h', e1, rfl, rfl⟩ := key
  exact e1
abbrev pB (b : Nat) : Value := .pointer (some ⟨b, 0, none⟩)
theorem c241 {D lim : Nat} {G : Heap} {b p : Nat} {rw_ : Bool} (hp : p < G.length) {x y s : Nat} {d : Array Int} (hb : ∀ s, (sH G p [s]).get b = some ⟨cI d.toList, rw_⟩) (hx : x < d.size) (hy : y < d.size) (hs : s ≤ 1000) :
    E.call (D + 3) lim 241 [vS b d.size, i64 (x : Int), i64 (y : Int), pB p] (sH G p [(s : Int)]) = some (.tuple #[i64 ((order2 ltInt d x y s).1 : Int), i64 ((order2 ltInt d x y s).2.1 : Int)], sH G p [((order2 ltInt d x y s).2.2 : Int)]) := by
  have key : ∃ v h', E.call (D + 3) lim 241 [vS b d.size, i64 (x : Int), i64 (y : Int), pB p] (sH G p [(s : Int)]) = some (v, h') ∧ v = .tuple #[i64 ((order2 ltInt d x y s).1 : Int), i64 ((order2 ltInt d x y s).2.1 : Int)] ∧ h' = sH G p [((order2 ltInt d x y s).2.2 : Int)] := by
    refine call_trunc (Q := fun v h' => v = .tuple #[i64 ((order2 ltInt d x y s).1 : Int), i64 ((order2 ltInt d x y s).2.1 : Int)] ∧ h' = sH G p [((order2 ltInt d x y s).2.2 : Int)]) fn241 rfl (by simp [ef241]) ?_
    obtain ⟨p1, p2, p3, p4, p5, p6⟩ := ix (d := d) (k := x) hx
    obtain ⟨q1, q2, q3, q4, q5, q6⟩ := ix (d := d) (k := y) hy
    have ck := fun o => cell_get (o := o) (hb s)
    have sk := fun o => sH_cell (h := G) (b := p) hp [(s : Int)] o
    have gk := sH_get (h := G) (b := p) hp [(s : Int)]
    have ws : IntKind.wrap .i64 ((s : Int) + 1) = (s : Int) + 1 := wrap_eq (by omega) (by omega)
    have pk := sH_put (h := G) (b := p) [(s : Int)] [(s : Int) + 1]
    have tk := sH_take (h := G) (b := p)
    have sk0 : (sH G p [(s : Int)]).cell p 0 = some (i64 s) := by rw [sk]; rfl
    have zs : (cI [(s : Int)]).set 0 (i64 ((s : Int) + 1)) = cI [(s : Int) + 1] := rfl
    have zl : (cI [(s : Int)]).length = 1 := rfl
    have nz : noAddr (i64 ((s : Int) + 1)) = true := rfl
    have cl := cI_len' d
    unfold order2
    generalize hn : d.size = n at *
    by_cases lt : ltInt d[y]! d[x]! = true
    · simp [ef241, p1, p2, p3, p4, p5, q1, q2, q3, q4, q5, ck, sk0, gk, ws, pk, tk, zs, zl, nz, c159, lt]
    · simp [ef241, p1, p2, p3, p4, p5, q1, q2, q3, q4, q5, ck, c159, lt, tk]
  obtain ⟨v, h', e1, rfl, rfl⟩ := key
  exact e1
theorem order2_bd {x y s n : Nat} {d : Array Int} (hx : x < n) (hy : y < n) : (order2 ltInt d x y s).1 < n ∧ (order2 ltInt d x y s).2.1 < n ∧ (order2 ltInt d x y s).2.2 ≤ s + 1 := by
  unfold order2
  split
  · exact ⟨hy, hx, Nat.le_refl _⟩
  · exact ⟨hx, hy, by show s ≤ s + 1; omega⟩
theorem c227 {D lim : Nat} {G : Heap} {b p : Nat} {rw_ : Bool} (hp : p < G.length) {x y z s : Nat} {d : Array Int} (hb : ∀ s, (sH G p [s]).get b = some ⟨cI d.toList, rw_⟩) (hx : x < d.size) (hy : y < d.size) (hz : z < d.size) (hs : s ≤ 100) :
    E.call (D + 4) lim 227 [vS b d.size, i64 (x : Int), i64 (y : Int), i64 (z : Int), pB p] (sH G p [(s : Int)]) = some (i64 ((median ltInt d x y z s).1 : Int), sH G p [((median ltInt d x y z s).2 : Int)]) := by
  have key : ∃ v h', E.call (D + 4) lim 227 [vS b d.size, i64 (x : Int), i64 (y : Int), i64 (z : Int), pB p] (sH G p [(s : Int)]) = some (v, h') ∧ v = i64 ((median ltInt d x y z s).1 : Int) ∧ h' = sH G p [((median ltInt d x y z s).2 : Int)] := by
    refine call_trunc (Q := fun v h' => v = i64 ((median ltInt d x y z s).1 : Int) ∧ h' = sH G p [((median ltInt d x y z s).2 : Int)]) fn227 rfl (by simp [ef227]) ?_
    have tk := sH_take (h := G) (b := p)
    unfold median
    simp only []
    have k1 := fun lim => c241 (D := D) (lim := lim) hp (x := x) (y := y) (s := s) hb hx hy (by omega)
    obtain ⟨a1, a2, a3⟩ := order2_bd (s := s) (d := d) hx hy
    generalize order2 ltInt d x y s = r1 at *
    obtain ⟨u1, u2, u3⟩ := r1
    simp only at a1 a2 a3 k1 ⊢
    have k2 := fun lim => c241 (D := D) (lim := lim) hp (x := u2) (y := z) (s := u3) hb a2 hz (by omega)
    obtain ⟨b1, b2, b3⟩ := order2_bd (s := u3) (d := d) a2 hz
    generalize order2 ltInt d u2 z u3 = r2 at *
    obtain ⟨w1, w2, w3⟩ := r2
    simp only at b1 b2 b3 k2 ⊢
    have k3 := fun lim => c241 (D := D) (lim := lim) hp (x := u1) (y := w1) (s := w3) hb a1 b1 (by omega)
    generalize order2 ltInt d u1 w1 w3 = r3 at *
    obtain ⟨o1, o2, o3⟩ := r3
    simp only at k3 ⊢
    simp [ef227, k1, k2, k3, tk]
  obtain ⟨v, h', e1, rfl, rfl⟩ := key
  exact e1
def hintN : Hint → Int
  | .unknown => 0
  | .increasing => 1
  | .decreasing => 2
theorem sH_app {h : Heap} {b : Nat} (l : List Int) (L : Heap) (hb : b < h.length) : sH h b l ++ L = sH (h ++ L) b l := by
  unfold sH Heap.put
  rw [List.set_append_left _ _ hb]
theorem sH_push {h : Heap} {b : Nat} (l : List Int) (k : Blk) : (sH h b l).push k = sH h b l ++ [some k] := rfl
theorem c193 {D lim : Nat} {h : Heap} {b : Nat} (hb : b < h.length) {a e : Nat} {d : Array Int} (hae : a < e) (he : e ≤ d.size) (hs : d.size ≤ 49) :
    E.call (D + 5) lim 193 [vS b d.size, i64 (a : Int), i64 (e : Int)] (sH h b d.toList) = some (.tuple #[i64 ((choosePivot ltInt d a e).1 : Int), i64 (hintN (choosePivot ltInt d a e).2)], sH h b d.toList) := by
  have key : ∃ v h', E.call (D + 5) lim 193 [vS b d.size, i64 (a : Int), i64 (e : Int)] (sH h b d.toList) = some (v, h') ∧ v = .tuple #[i64 ((choosePivot ltInt d a e).1 : Int), i64 (hintN (choosePivot ltInt d a e).2)] ∧ h' = sH h b d.toList := by
    refine call_trunc (Q := fun v h' => v = .tuple #[i64 ((choosePivot ltInt d a e).1 : Int), i64 (hintN (choosePivot ltInt d a e).2)] ∧ h' = sH h b d.toList) fn193 rfl (by simp [ef193]) ?_
    obtain ⟨l, hl⟩ : ∃ l, l = e - a := ⟨_, rfl⟩
    obtain ⟨m, hm⟩ : ∃ m, m = l / 4 := ⟨_, rfl⟩
    obtain ⟨i, hi⟩ : ∃ i, i = a + m * 1 := ⟨_, rfl⟩
    obtain ⟨j, hj⟩ : ∃ i, i = a + m * 2 := ⟨_, rfl⟩
    obtain ⟨k, hk⟩ : ∃ i, i = a + m * 3 := ⟨_, rfl⟩
    have e1 : IntKind.wrap .i64 ((e : Int) - (a : Int)) = (l : Int) := by rw [wrap_eq (by omega) (by omega)]; omega
    have e2 : IntKind.wrap .i64 (qdiv (l : Int) 4) = (m : Int) := by rw [qdiv_nn (by omega), wrap_eq (by omega) (by omega)]; omega
    have e3 : IntKind.wrap .i64 ((m : Int) * 1) = (m : Int) * 1 := wrap_eq (by omega) (by omega)
    have e3' : IntKind.wrap .i64 (m : Int) = (m : Int) := wrap_eq (by omega) (by omega)
    have e4 : IntKind.wrap .i64 ((m : Int) * 2) = (m : Int) * 2 := wrap_eq (by omega) (by omega)
    have e5 : IntKind.wrap .i64 ((m : Int) * 3) = (m : Int) * 3 := wrap_eq (by omega) (by omega)
    have e6 : IntKind.wrap .i64 ((a : Int) + (m : Int)) = (i : Int) := by rw [wrap_eq (by omega) (by omega)]; omega
    have e7 : IntKind.wrap .i64 ((a : Int) + (m : Int) * 2) = (j : Int) := by rw [wrap_eq (by omega) (by omega)]; omega
    have e8 : IntKind.wrap .i64 ((a : Int) + (m : Int) * 3) = (k : Int) := by rw [wrap_eq (by omega) (by omega)]; omega
    have cp : choosePivot ltInt d a e = if 8 ≤ l then ((median ltInt d i j k 0).1, if (median ltInt d i j k 0).2 = 0 then .increasing else if (median ltInt d i j k 0).2 = 12 then .decreasing else .unknown) else (j, .increasing) := by
      unfold choosePivot
      simp only [← hl, ← hm, ← hi, ← hj, ← hk, ge_iff_le]
      by_cases z : 8 ≤ l
      · rw [if_pos z, if_pos z, if_neg (by omega)]
      · rw [if_neg z, if_neg z, if_pos rfl]
    rw [cp]
    have i50 : ¬ (50 : Int) ≤ l := by omega
    have tk : List.take h.length (sH h b d.toList) = sH h b d.toList := sH_take _
    by_cases z : 8 ≤ l
    · rw [if_pos z]
      have zi : (8 : Int) ≤ l := by omega
      have es : ∀ s : Int, sH (sH h b d.toList ++ [some ⟨[i64 0], true⟩]) h.length [s] = sH h b d.toList ++ [some ⟨[i64 s], true⟩] := fun s => by
        show Heap.put (sH h b d.toList ++ [some ⟨[i64 0], true⟩]) h.length _ = _
        rw [hput_base0 (by simp)]; rfl
      have gb : ∀ s : Int, (sH (sH h b d.toList ++ [some ⟨[i64 0], true⟩]) h.length [s]).get b = some ⟨cI d.toList, true⟩ := fun s => by
        rw [es, get_app (by simpa using hb), sH_get hb]
      have k140 := fun lim => c227 (D := D) (lim := lim) (G := sH h b d.toList ++ [some ⟨[i64 0], true⟩]) (b := b) (p := h.length) (by simp) (x := i) (y := j) (z := k) (s := 0) (d := d) gb (by omega) (by omega) (by omega) (by omega)
      simp only [es] at k140
      generalize median ltInt d i j k 0 = r at *
      obtain ⟨r1, r2⟩ := r
      simp only at k140 ⊢
      simp only [Int.ofNat_zero, Int.cast_ofNat_Int] at k140
      by_cases z0 : r2 = 0
      · subst z0
        simp [ef193, e1, e2, e3, e3', e4, e5, e6, e7, e8, z, zi, i50, Int.not_le.1 i50, k140, tk, sH_push, hintN]
      · by_cases z12 : r2 = 12
        · subst z12
          simp [ef193, e1, e2, e3, e3', e4, e5, e6, e7, e8, z, zi, i50, Int.not_le.1 i50, k140, tk, sH_push, hintN]
        · have z12i : ¬ (r2 : Int) = 12 := by omega
          simp [ef193, e1, e2, e3, e3', e4, e5, e6, e7, e8, z, zi, i50, Int.not_le.1 i50, k140, tk, sH_push, hintN, z0, z12, z12i]
    · rw [if_neg z]
      have zi : ¬ (8 : Int) ≤ l := by omega
      simp [ef193, e1, e2, e3, e3', e4, e5, e6, e7, e8, z, zi, Int.not_le.1 zi, tk, sH_push, hintN]
  obtain ⟨v, h', e1, rfl, rfl⟩ := key
  exact e1
end Z.U
end Go.Abs
