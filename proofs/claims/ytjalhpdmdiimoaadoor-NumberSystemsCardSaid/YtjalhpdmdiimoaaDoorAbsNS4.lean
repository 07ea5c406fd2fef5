/- Systems of differences: in place: reversed; one round. -/
import Derived.Test.YtjalhpdmdiimoaaDoorAbsNS3
import Derived.Test.YtjalhpdmdiimoaaDoorAbsNS2
set_option linter.unusedSimpArgs false
set_option linter.unusedVariables false
namespace Go.Abs
namespace N
set_option maxRecDepth 100000
set_option maxHeartbeats 0
abbrev i6 (n : Int) : Value := .int .i64 n
theorem E_fuel' : E.fuel = 18446744073709551616 := rfl
theorem hput_put (h : Heap) (b : Nat) (x y : Option Blk) : (h.put b x).put b y = h.put b y := by simp [Heap.put]
theorem hput_self {h : Heap} {b : Nat} {k : Blk} (e : h.get b = some k) : h.put b (some k) = h := by
  unfold Heap.get at e
  unfold Heap.put
  rcases q : h[b]? with _ | o
  · simp [q] at e
  · simp [q] at e
    subst e
    have hb : b < h.length := by
      rcases Nat.lt_or_ge b h.length with z | z
      · exact z
      · rw [List.getElem?_eq_none z] at q; cases q
    rw [List.getElem?_eq_getElem hb] at q
    have := Option.some.inj q
    rw [← this]; exact List.set_getElem_self hb
/-- Some of the outer numbers are exchanged. -/
def RevI (l r : List Int) (i : Nat) : Prop := r.length = l.length ∧ ∀ k, k < l.length → r[k]? = if k < i ∨ l.length - i ≤ k then l[l.length - 1 - k]? else l[k]?
theorem RevI.zero (l : List Int) : RevI l l 0 := ⟨rfl, fun k hk => by rw [if_neg (by omega)]⟩
theorem RevI.next {l r : List Int} {i : Nat} (h : RevI l r i) (hi : i < l.length - 1 - i) : ∃ a b, r[i]? = some a ∧ r[l.length - 1 - i]? = some b ∧ RevI l ((r.set i b).set (l.length - 1 - i) a) (i + 1) := by
  obtain ⟨h1, h2⟩ := h
  have e1 := h2 i (by omega)
  have e2 := h2 (l.length - 1 - i) (by omega)
  rw [if_neg (by omega)] at e1 e2
  refine ⟨l[i]'(by omega), l[l.length - 1 - i]'(by omega), by rw [e1, List.getElem?_eq_getElem], by rw [e2, List.getElem?_eq_getElem], by simp [h1], fun k hk => ?_⟩
  rw [List.getElem?_set, List.getElem?_set, List.length_set, h1]
  by_cases q1 : l.length - 1 - i = k
  · rw [if_pos q1, if_pos (by omega), if_pos (by omega)]
    have : l.length - 1 - k = i := by omega
    rw [this, List.getElem?_eq_getElem]
  · rw [if_neg q1]
    by_cases q2 : i = k
    · rw [if_pos q2, if_pos (by omega), if_pos (by omega)]
      subst q2
      rw [List.getElem?_eq_getElem]
    · rw [if_neg q2, h2 k hk]
      by_cases q3 : k < i ∨ l.length - i ≤ k
      · rw [if_pos q3, if_pos (by omega)]
      · rw [if_neg q3, if_neg (by omega)]
theorem RevI.done {l r : List Int} {i : Nat} (h : RevI l r i) (hi : ¬ i + 1 < l.length - i) : r = l.reverse := by
  obtain ⟨h1, h2⟩ := h
  apply List.ext_getElem?
  intro k
  by_cases hk : k < l.length
  · rw [h2 k hk, List.getElem?_reverse hk]
    split
    · rfl
    · congr 1; omega
  · rw [List.getElem?_eq_none (by omega), List.getElem?_eq_none (by simp; omega)]
theorem cI_set (l : List Int) (i : Nat) (x : Int) : (cI l).set i (i6 x) = cI (l.set i x) := by simp [cI, List.map_set]
theorem cI_getq {l : List Int} {i : Nat} {x : Int} (h : l[i]? = some x) : (cI l)[i]? = some (i6 x) := by simp [cI, h]
theorem c98 {d lim : Nat} {h : Heap} {b : Nat} {l : List Int} (hb : h.get b = some ⟨cI l, true⟩) (hl : l.length ≤ 1000) (h0 : 0 < l.length) :
    E.call (d + 1) lim 98 [.slice (some ⟨b, 0, none⟩) l.length 1] h = some (.tuple #[], h.put b (some ⟨cI l.reverse, true⟩)) := by
  have hbl := Heap.get_lt hb
  have key : ∃ v h', E.call (d + 1) lim 98 [.slice (some ⟨b, 0, none⟩) l.length 1] h = some (v, h') ∧ v = .tuple #[] ∧ h' = h.put b (some ⟨cI l.reverse, true⟩) := by
    refine call_trunc (Q := fun v h' => v = .tuple #[] ∧ h' = h.put b (some ⟨cI l.reverse, true⟩)) fn98 rfl (by simp [ef98]) ?_
    have wm : IntKind.wrap .i64 ((l.length : Int) - 1) = ((l.length - 1 : Nat) : Int) := by rw [wrap_eq (by omega) (by omega)]; omega
    simp [ef98, wm]
    refine wpC_loop (fun m st => ∃ (i : Nat) (j : Int) (r : List Int), m = l.length - i ∧ i + i ≤ l.length ∧ j = (l.length : Int) - 1 - i ∧ RevI l r i ∧ st = ⟨[(0, .slice (some ⟨b, 0, none⟩) l.length 1), (2, i6 i), (3, i6 j)], h.put b (some ⟨cI r, true⟩)⟩) l.length (by show l.length < 2 ^ 64; omega) ?_ ?_
    · simp [St.tidy, hbl]
      exact ⟨0, by omega, by omega, l, RevI.zero l, ⟨by omega, by omega⟩, (hput_self hb).symm⟩
    · rintro m hm _ ⟨i, j, r, rfl, hi, hj, hr, rfl⟩
      have tk : ∀ y, List.take h.length (h.put b y) = h.put b y := fun y => List.take_of_length_le (by rw [Heap.length_put]; omega)
      by_cases hlt : (i : Int) < j
      · obtain ⟨x, y, ex, ey, nx⟩ := hr.next (by omega)
        have ej : j = ((l.length - 1 - i : Nat) : Int) := by omega
        have gq : ∀ c, Heap.get (h.put b (some ⟨c, true⟩)) b = some ⟨c, true⟩ := fun c => Heap.get_put_eq _ hbl
        have g2 := gq (cI r)
        have ny : noAddr (i6 y) = true := rfl
        have nx' : noAddr (i6 x) = true := rfl
        have ka : i + 1 ≤ l.length := by omega
        have kb : l.length - 1 - i + 1 ≤ l.length := by omega
        have cx := cI_getq ex
        have cy := cI_getq ey
        have w1' := w1n (i := i) (by omega)
        have wj : IntKind.wrap .i64 (j - 1) = (l.length : Int) - 1 - ((i + 1 : Nat) : Int) := by rw [wrap_eq (by omega) (by omega)]; omega
        have rl := hr.1
        have cl : (cI r).length = l.length := by simp [cI, rl]
        have cl2 : (cI (r.set i y)).length = l.length := by simp [cI, rl]
        have ck := fun o => cell_get (o := o) g2
        have i1 : (i : Int) < l.length := by omega
        have j0 : 0 ≤ j := by omega
        have j1 : j < l.length := by omega
        have jt : j.toNat = l.length - 1 - i := by omega
        simp [hlt, St.tidy, hbl, g2, ck, cx, cy, i1, j0, j1, jt, cl, cl2, gq, ny, nx', ka, kb, w1', wj, hput_put, cI_set, tk]
        exact ⟨l.length - (i + 1), by omega, i + 1, by omega, by omega, _, nx, by omega, rfl⟩
      · have e := hr.done (by omega)
        subst e
        simp [hlt, tk]
  obtain ⟨v, h', e, rfl, rfl⟩ := key
  exact e
def iB (b : Bd) : B3i := ((b.1 : Int), (b.2.1 : Int), b.2.2)
def lowV : Option Nat → Int
  | none => -1
  | some v => (v : Int)
def cN (l : List Nat) : List Value := l.map fun k : Nat => .int .i64 (k : Int)
theorem cN_set (l : List Nat) (i x : Nat) : (cN l).set i (.int .i64 (x : Int)) = cN (l.set i x) := by simp [cN, List.map_set]
theorem cI_setx (l : List Int) (i : Nat) (x : Int) : (cI l).set i (.int .i64 x) = cI (l.set i x) := by simp [cI, List.map_set]
theorem cI_gx {x : List Int} {v : Nat} (h : v < x.length) : (cI x)[v]? = some (.int .i64 (gx x v)) := by
  simp [cI, gx, List.getD_eq_getElem?_getD, List.getElem?_eq_getElem h]
theorem cN_gb {x : List Nat} {v : Nat} (h : v < x.length) : (cN x)[v]? = some (.int .i64 ((gb x v : Nat) : Int)) := by
  simp [cN, gb, List.getD_eq_getElem?_getD, List.getElem?_eq_getElem h]
theorem atB_iB {l : List Bd} {i : Nat} (h : i < l.length) : atB (l.map iB) i = iB l[i] := by
  unfold atB; rw [List.getElem?_map, List.getElem?_eq_getElem h]; rfl
/-- How far the numbers went down. -/
def BxR (n c : Nat) (x : List Int) : Prop := ∀ v, v < n → -1000000000 * (c : Int) ≤ gx x v ∧ gx x v ≤ 0
theorem step_ok {n : Nat} {l : List Bd} (G : Good n l) {s : RS} {i c : Nat} (hi : i < l.length) (hx : s.x.length = n) (hb : s.by_.length = n) (h : BxR n c s.x) :
    (stepR s i l[i]).x.length = n ∧ (stepR s i l[i]).by_.length = n ∧ BxR n (c + 1) (stepR s i l[i]).x := by
  obtain ⟨g1, g2, g3, g4⟩ := G.rng i hi
  unfold stepR
  split
  · refine ⟨by simp [hx], by simp [hb], fun v hv => ?_⟩
    have a := h v hv
    have b := h _ g1
    have c := h _ g2
    simp only
    rw [gx_set (by omega)]
    split <;> constructor <;> omega
  · exact ⟨hx, hb, fun v hv => by have := h v hv; constructor <;> omega⟩
theorem relF_ok {n : Nat} {l : List Bd} (G : Good n l) {x : List Int} {b : List Nat} {c : Nat} (hx : x.length = n) (hb : b.length = n) (h : BxR n c x) : ∀ i, i ≤ l.length →
    (relF l ⟨x, b, none⟩ i).x.length = n ∧ (relF l ⟨x, b, none⟩ i).by_.length = n ∧ BxR n (c + i) (relF l ⟨x, b, none⟩ i).x
  | 0, _ => ⟨hx, hb, h⟩
  | i + 1, hi => by
    obtain ⟨a1, a2, a3⟩ := relF_ok G hx hb h i (by omega)
    have e : relF l ⟨x, b, none⟩ (i + 1) = stepR (relF l ⟨x, b, none⟩ i) i l[i] := by simp [relF, List.getElem?_eq_getElem (show i < l.length from hi)]
    rw [e]
    exact step_ok G hi a1 a2 a3
theorem c97 {d lim : Nat} {h : Heap} {v : Value} {bx bb n c : Nat} {l : List Bd} {x : List Int} {b : List Nat} (hx : h.get bx = some ⟨cI x, true⟩) (hb : h.get bb = some ⟨cN b, true⟩) (hne : bx ≠ bb)
    (s : ∀ X Y, SlB3 ((h.put bx X).put bb Y) v (l.map iB)) (G : Good n l) (lx : x.length = n) (lb : b.length = n) (B : BxR n c x) (hc : c ≤ 100000) (hl : l.length ≤ 1000) (hn : n ≤ 1000) :
    E.call (d + 1) lim 97 [v, .slice (some ⟨bx, 0, none⟩) n 1, .slice (some ⟨bb, 0, none⟩) n 1] h =
      some (.int .i64 (lowV (relax l x b).low), (h.put bx (some ⟨cI (relax l x b).x, true⟩)).put bb (some ⟨cN (relax l x b).by_, true⟩)) := by
  have hxl := Heap.get_lt hx
  have hbl := Heap.get_lt hb
  have r := fun X Y => (s X Y).rules2
  have ml : (l.map iB).length = l.length := by simp
  rw [ml] at r
  have e0 : (h.put bx (some ⟨cI x, true⟩)).put bb (some ⟨cN b, true⟩) = h := by
    rw [hput_self hx, hput_self hb]
  have key : ∃ u h', E.call (d + 1) lim 97 [v, .slice (some ⟨bx, 0, none⟩) n 1, .slice (some ⟨bb, 0, none⟩) n 1] h = some (u, h') ∧ u = .int .i64 (lowV (relax l x b).low) ∧ h' = (h.put bx (some ⟨cI (relax l x b).x, true⟩)).put bb (some ⟨cN (relax l x b).by_, true⟩) := by
    refine call_trunc (Q := fun u h' => u = .int .i64 (lowV (relax l x b).low) ∧ h' = (h.put bx (some ⟨cI (relax l x b).x, true⟩)).put bb (some ⟨cN (relax l x b).by_, true⟩)) fn97 rfl (by simp [ef97]) ?_
    conv => rw [← e0]
    have r0 := r (some ⟨cI x, true⟩) (some ⟨cN b, true⟩)
    have gX : ∀ (X : List Value) (Y : Option Blk) L, Heap.get (((h.put bx (some ⟨X, true⟩)).put bb Y) ++ L) bx = some ⟨X, true⟩ := fun X Y L => by
      rw [Heap.get_append_lt (by simp; exact hxl), Heap.get_put_ne _ hne.symm, Heap.get_put_eq _ hxl]
    have gB : ∀ (X : Option Blk) (Y : List Value) L, Heap.get (((h.put bx X).put bb (some ⟨Y, true⟩)) ++ L) bb = some ⟨Y, true⟩ := fun X Y L => by
      rw [Heap.get_append_lt (by simp; exact hbl), Heap.get_put_eq _ (by simp; exact hbl)]
    have cX0 : ∀ (X : List Value) (Y : Option Blk) o, Heap.cell ((h.put bx (some ⟨X, true⟩)).put bb Y) bx o = X[o]? := fun X Y o => by
      have := gX X Y []; rw [List.append_nil] at this; rw [cell_get this]
    have cB0 : ∀ (X : Option Blk) (Y : List Value) o, Heap.cell ((h.put bx X).put bb (some ⟨Y, true⟩)) bb o = Y[o]? := fun X Y o => by
      have := gB X Y []; rw [List.append_nil] at this; rw [cell_get this]
    have pX : ∀ (X Y : Option Blk) L Z, Heap.put (((h.put bx X).put bb Y) ++ L) bx Z = ((h.put bx Z).put bb Y) ++ L := fun X Y L Z => by
      unfold Heap.put
      rw [List.set_append_left _ _ (by simp; exact hxl), List.set_comm _ _ hne.symm, List.set_set]
    have pB : ∀ (X Y : Option Blk) L Z, Heap.put (((h.put bx X).put bb Y) ++ L) bb Z = ((h.put bx X).put bb Z) ++ L := fun X Y L Z => by
      unfold Heap.put
      rw [List.set_append_left _ _ (by simp; exact hbl), List.set_set]
    have tk : ∀ X Y L, List.take h.length (((h.put bx X).put bb Y) ++ L) = (h.put bx X).put bb Y := fun X Y L => by
      rw [List.take_append_of_le_length (by simp), List.take_of_length_le (by simp)]
    have tk0 : ∀ X Y, List.take h.length ((h.put bx X).put bb Y) = (h.put bx X).put bb Y := fun X Y => List.take_of_length_le (by simp)
    have pX0 : ∀ (X Y : Option Blk) Z, Heap.put ((h.put bx X).put bb Y) bx Z = (h.put bx Z).put bb Y := fun X Y Z => by
      have := pX X Y [] Z; rw [List.append_nil, List.append_nil] at this; exact this
    have pB0 : ∀ (X Y : Option Blk) Z, Heap.put ((h.put bx X).put bb Y) bb Z = (h.put bx X).put bb Z := fun X Y Z => by
      have := pB X Y [] Z; rw [List.append_nil, List.append_nil] at this; exact this
    have pH : ∀ X Y k, Heap.push ((h.put bx X).put bb Y) k = ((h.put bx X).put bb Y) ++ [some k] := fun X Y k => rfl
    have s0 := s (some ⟨cI x, true⟩) (some ⟨cN b, true⟩)
    rcases Nat.eq_zero_or_pos l.length with hz | hz
    · have el : l = [] := List.eq_nil_of_length_eq_zero hz
      subst el
      rcases s0.low with rfl | ⟨bv, o', m', t', rfl, hbv⟩
      · simp [ef97, wpC_unroll, wpI_step, E_fuel', St.tidy, relax, relF, lowV, tk0, pX0, pB0, hxl, hbl]
      · obtain rfl : m' = 0 := by
          have := s0.len
          simpa using this
        have hbv' : bv < h.length := by simpa using hbv
        simp [ef97, wpC_unroll, wpI_step, E_fuel', St.tidy, relax, relF, lowV, tk0, pX0, pB0, hxl, hbl, hbv']
    obtain ⟨bv, o', rfl⟩ : ∃ bv o', v = .slice (some ⟨bv, o', none⟩) l.length 3 := ⟨_, _, by have := s0.addr (by rw [ml]; omega); rw [ml] at this; exact this⟩
    have hbv : bv < h.length := by have := s0.lt (by rw [ml]; omega); simpa using this
    simp only [slB_some, slO_some] at r r0
    simp [ef97, r0]
    refine wpC_loop (fun q st => ∃ (i : Nat) (X : List Int) (Bb : List Nat) (lw : Option Nat), q = l.length - i ∧ i ≤ l.length ∧ relF l ⟨x, b, none⟩ i = ⟨X, Bb, lw⟩ ∧
      st = ⟨[(1, .slice (some ⟨bx, 0, none⟩) n 1), (2, .slice (some ⟨bb, 0, none⟩) n 1), (7, i6 (lowV lw)), (11, .slice (some ⟨bv, o', none⟩) l.length 3), (12, i6 (l.length : Int)), (13, i6 (i : Int))], (h.put bx (some ⟨cI X, true⟩)).put bb (some ⟨cN Bb, true⟩)⟩) l.length (by show l.length < 2 ^ 64; omega) ?_ ?_
    · simp [St.tidy, hxl, hbl, hbv, r0]
      exact ⟨0, by omega, by omega, x, b, none, rfl, ⟨rfl, rfl⟩, tk0 _ _⟩
    · rintro q hq _ ⟨i, X, Bb, lw, rfl, hi, hs, rfl⟩
      obtain ⟨o1, o2, o3⟩ := relF_ok G lx lb B i hi
      rw [hs] at o1 o2 o3
      simp only at o1 o2 o3
      have r1 := r (some ⟨cI X, true⟩) (some ⟨cN Bb, true⟩)
      by_cases hlt : i < l.length
      · have hm : i < (l.map iB).length := by rw [ml]; exact hlt
        have p1 := cB_part hm
        rw [atB_iB hlt] at p1
        obtain ⟨g1, g2, g3, g4⟩ := G.rng i hlt
        have nx : relF l ⟨x, b, none⟩ (i + 1) = stepR ⟨X, Bb, lw⟩ i l[i] := by simp [relF, hs, List.getElem?_eq_getElem hlt]
        unfold stepR at nx
        have w1' := w1n (i := i) (by omega)
        have k1 : i * 3 + 3 ≤ l.length * 3 := by omega
        have h4 : (i : Int) < l.length := by omega
        have cm := cB_len (l.map iB)
        rw [ml] at cm
        generalize l[i] = e at *
        obtain ⟨f, t, m⟩ := e
        simp only [iB] at p1 nx g1 g2 g3 g4
        have cf := cI_gx (x := X) (v := f) (by omega)
        have ct := cI_gx (x := X) (v := t) (by omega)
        have bf := o3 f g1
        have bt := o3 t g2
        have wm : IntKind.wrap .i64 (gx X f + m) = gx X f + m := by rw [wrap_eq (by omega) (by omega)]
        have cfv : ∀ hh, (cI X)[f]'hh = .int .i64 (gx X f) := fun hh => by have := List.getElem?_eq_getElem hh; rw [cf] at this; exact (Option.some.inj this).symm
        have ctv : ∀ hh, (cI X)[t]'hh = .int .i64 (gx X t) := fun hh => by have := List.getElem?_eq_getElem hh; rw [ct] at this; exact (Option.some.inj this).symm
        have f0 : (f : Int) < n := by omega
        have t0 : (t : Int) < n := by omega
        have lX : (cI X).length = n := by simp [cI, o1]
        have lB : (cN Bb).length = n := by simp [cN, o2]
        have ka : t + 1 ≤ n := by omega
        have sx := cI_setx X t (gx X f + m)
        have sb := cN_set Bb t i
        by_cases q1 : gx X f + m < gx X t
        · rw [if_pos q1] at nx
          simp [hlt, h4, r1, k1, p1, cX0, cB0, cfv, ctv, gX, gB, pX, pB, pX0, pB0, pH, hbv, wm, f0, t0, g1, g2, q1, hxl, hbl, lX, lB, ka, sx, sb, w1', St.tidy, tk, tk0, hne]
          exact ⟨.inr rfl, by omega, .inr rfl, l.length - (i + 1), by omega, i + 1, by omega, by omega, _, _, _, nx, ⟨rfl, by omega⟩, rfl⟩
        · rw [if_neg q1] at nx
          simp [hlt, h4, r1, k1, p1, cX0, cB0, cfv, ctv, gX, gB, pX, pB, pX0, pB0, pH, hbv, wm, f0, t0, g1, g2, q1, hxl, hbl, lX, lB, w1', St.tidy, tk, tk0]
          exact ⟨l.length - (i + 1), by omega, i + 1, by omega, by omega, _, _, _, nx, ⟨rfl, by omega⟩, rfl⟩
      · obtain rfl : i = l.length := by omega
        have e : relax l x b = ⟨X, Bb, lw⟩ := hs
        rw [e]
        simp [r1, tk0, pX0, pB0]
  obtain ⟨u, h', e, rfl, rfl⟩ := key
  exact e
end N
end Go.Abs
