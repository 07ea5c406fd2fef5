/- Systems of differences: lists compared; ways round checked. -/
import Derived.Test.YtjalhpdmdiimoaaDoorAbsNS6
set_option linter.unusedSimpArgs false
set_option linter.unusedVariables false
namespace Go.Abs
namespace N
set_option maxRecDepth 100000
set_option maxHeartbeats 0
abbrev SlI' (h : Heap) (v : Value) (l : List Int) : Prop := Sl 1 h v l.length (cI l)
theorem SlI'_own {h : Heap} {b n : Nat} {l : List Int} {rw : Bool} (e : h.get b = some ⟨cI l, rw⟩) (hn : n = l.length) : SlI' h (.slice (some ⟨b, 0, none⟩) n 1) l := by
  subst hn
  exact ⟨by simp, by simp [cI], fun _ => rfl, .inr ⟨b, 0, l.length, 1, rfl, Heap.get_lt e⟩, fun k hk => by simp only [slB_some, slO_some, Nat.zero_add]; rw [cell_get e]⟩
theorem c38 {d lim : Nat} {h : Heap} {v w : Value} {l : List Int} (s : SlI' h v l) (t : SlI' h w l) (hl : l.length ≤ 1000) : E.call (d + 1) lim 38 [v, w] h = some (.bool true, h) := by
  have r := s.rules2
  have r' := t.rules2
  refine call1 fn38 rfl (by simp [ef38]) ?_
  simp [ef38, r, r']
  refine wpC_loop (fun q st => ∃ i : Nat, q = l.length - i ∧ i ≤ l.length ∧ st = ⟨[(0, v), (1, w), (5, i6 (i : Int))], h.freeze⟩) l.length (by show l.length < 2 ^ 64; omega) ?_ ?_
  · simp [St.tidy, r, r']
    exact ⟨0, by omega, by omega, rfl⟩
  · rintro q hq _ ⟨i, rfl, hi, rfl⟩
    by_cases hlt : i < l.length
    · have w1' := w1n (i := i) (by omega)
      have h4 : (i : Int) < l.length := by omega
      have cv : ∀ hh, (cI l)[i]'hh = .int .i64 l[i] := fun hh => by simp [cI]
      simp [hlt, h4, r, r', cv, w1', St.tidy]
      exact ⟨l.length - (i + 1), by omega, i + 1, by omega, by omega, by omega⟩
    · obtain rfl : i = l.length := by omega
      simp [r, r']
theorem one_cI (l : List Int) : (cI l).all Value.oneCell' = true := by simp [cI, Value.oneCell']
theorem c41 {d lim : Nat} {h : Heap} {b p : Nat} {l : List Int} (hb : h.get b = some ⟨cI l, true⟩) (hp : p = l.length) (h1 : 1 ≤ p) (h2 : p ≤ 60) :
    E.call (d + 1) lim 41 [.slice (some ⟨b, 0, none⟩) p 1] h = some (.slice (some ⟨h.length, 0, none⟩) p 1, h ++ [some ⟨cI l, true⟩]) := by
  have hbl := Heap.get_lt hb
  have g : h.freeze.get b = some ⟨cI l, false⟩ := hget_freeze (k := ⟨cI l, true⟩) hb
  have g' : ∀ L, Heap.get (h.freeze ++ L) b = some ⟨cI l, false⟩ := fun L => by rw [Heap.get_append_lt (by simpa using hbl)]; exact g
  have m1 : p * 8 ≤ 140737488355328 := by omega
  have m2 : p ≤ 9223372036854775807 := by omega
  have one := one_cI l
  have tk : List.take p (cI l) = cI l := List.take_of_length_le (by simp [cI, hp])
  have lc : (cI l).length = p := by simp [cI, hp]
  have n0 : p ≠ 0 := by omega
  refine call_pure fn41 rfl (by simp [ef41]) ?_
  simp [ef41, E.append, E.added, maxLen, hbl, g, g', lc, n0, tk, one, m1, m2]
/-- What a check of a way round wants. -/
structure Way (n : Nat) (l : List Bd) (r : List Int) (f : Nat → Nat) : Prop where
  p1 : 1 ≤ r.length
  pn : r.length ≤ 60
  at_ : ∀ i, i < r.length → r[i]? = some ((f i : Nat) : Int)
  lt : ∀ i, i < r.length → f i < l.length
/-- The bound with some number. -/
def bdA (l : List Bd) (i : Nat) : Bd := l[i]?.getD (0, 0, 0)
theorem bdA_get {l : List Bd} {i : Nat} (h : i < l.length) : l[i] = bdA l i := by unfold bdA; rw [List.getElem?_eq_getElem h]; rfl
/-- The sum of the first bounds of a list of numbers. -/
def sumF (l : List Bd) (f : Nat → Nat) : Nat → Int
  | 0 => 0
  | k + 1 => sumF l f k + (bdA l (f k)).2.2
theorem sumF_bd {n : Nat} {l : List Bd} (G : Good n l) {r : List Int} {f : Nat → Nat} (Wy : Way n l r f) : ∀ k : Nat, k ≤ r.length → -1000000000 * (k : Int) ≤ sumF l f k ∧ sumF l f k ≤ 1000000000 * (k : Int)
  | 0, _ => by simp [sumF]
  | k + 1, hk => by
    have a := sumF_bd G Wy k (by omega)
    have b := G.rng (f k) (Wy.lt k (by omega))
    rw [bdA_get (Wy.lt k (by omega))] at b
    simp only [sumF]; omega
def prevI (p i : Nat) : Nat := if i = 0 then p - 1 else i - 1
theorem c99 {d lim : Nat} {h : Heap} {p i : Nat} (h1 : 1 ≤ p) (h2 : p ≤ 60) (hi : i < p) : E.call (d + 1) lim 99 [i6 ((i : Int) - 1), i6 (p : Int)] h = some (i6 ((prevI p i : Nat) : Int), h) := by
  refine call1 fn99 rfl (by simp [ef99]) ?_
  have p0 : p ≠ 0 := by omega
  have p0' : ¬ ((p : Int) = 0) := by omega
  rcases Nat.eq_zero_or_pos i with z | z
  · subst z
    rcases Nat.lt_or_ge 1 p with q | q
    · have e : qmod (-1) (p : Int) = -1 := by
        unfold qmod
        rw [show (-1 : Int) = -(1 : Int) from rfl, Int.neg_tmod, Int.tmod_eq_emod_of_nonneg (by omega), Int.emod_eq_of_lt (by omega) (by omega)]
      have w : IntKind.wrap .i64 (-1 + (p : Int)) = ((p - 1 : Nat) : Int) := by rw [wrap_eq (by omega) (by omega)]; omega
      simp [ef99, e, w, p0, p0', prevI]
    · obtain rfl : p = 1 := by omega
      have e : qmod (-1) 1 = 0 := by decide
      simp [ef99, e, prevI]
  · have e : qmod ((i : Int) - 1) (p : Int) = ((i - 1 : Nat) : Int) := by
      unfold qmod
      rw [show (i : Int) - 1 = ((i - 1 : Nat) : Int) by omega, Int.tmod_eq_emod_of_nonneg (by omega), Int.emod_eq_of_lt (by omega) (by omega)]
    have nn : ¬ (((i - 1 : Nat) : Int) < 0) := by omega
    have z0 : i ≠ 0 := by omega
    generalize hii : i - 1 = i' at *
    simp [ef99, e, p0, p0', nn, Int.not_lt.1 nn, prevI, z0]
    rw [hii]
theorem c39 {d lim : Nat} {h : Heap} {v w : Value} {n : Nat} {l : List Bd} {r : List Int} {f : Nat → Nat} (s : SlB3 h v (l.map iB)) (t : SlI' h w r) (G : Good n l) (Wy : Way n l r f) (hl : l.length ≤ 210)
    (hc : ∀ i, i < r.length → (bdA l (f i)).1 = (bdA l (f (prevI r.length i))).2.1) (hs : sumF l f r.length < 0) :
    E.call (d + 2) lim 39 [v, w] h = some (.tuple #[i6 (sumF l f r.length), i6 0], h) := by
  have ml : (l.map iB).length = l.length := by simp
  have rv := s.rules2
  have rw' := t.rules2
  rw [ml] at rv
  have p1 := Wy.p1
  have pn := Wy.pn
  have wp : within (r.length : Int) 1 60 = true := by simp [within]; omega
  have l1 : 1 ≤ l.length := by have := Wy.lt 0 (by omega); omega
  have wl : IntKind.wrap .i64 ((l.length : Int) - 1) = (l.length : Int) - 1 := by rw [wrap_eq (by omega) (by omega)]
  refine call1 fn39 rfl (by simp [ef39]) ?_
  simp [ef39, rv, rw', c22, wp]
  refine wpC_loop (fun q st => ∃ i : Nat, q = r.length - i ∧ i ≤ r.length ∧ st = ⟨[(0, v), (1, w), (6, i6 (i : Int))], h.freeze⟩) r.length (by show r.length < 2 ^ 64; omega) ?_ ?_
  · simp [St.tidy, rv, rw']
    exact ⟨0, by omega, by omega, rfl⟩
  · rintro q hq _ ⟨i, rfl, hi, rfl⟩
    by_cases hlt : i < r.length
    · have w1' := w1n (i := i) (by omega)
      have h4 : (i : Int) < r.length := by omega
      have a := Wy.at_ i hlt
      have b := Wy.lt i hlt
      have cv : ∀ hh, (cI r)[i]'hh = .int .i64 ((f i : Nat) : Int) := fun hh => by
        rw [List.getElem?_eq_getElem hlt] at a
        simp [cI, Option.some.inj a]
      have wi : within ((f i : Nat) : Int) 0 ((l.length : Int) - 1) = true := by simp [within]; omega
      simp [hlt, h4, rv, rw', cv, c22, wl, wi, w1', St.tidy]
      exact ⟨⟨r.length - (i + 1), by omega, i + 1, by omega, by omega, by omega⟩, fun z => absurd z (by omega)⟩
    · obtain rfl : i = r.length := by omega
      simp [rw']
      refine wpC_loop (fun q st => ∃ i : Nat, q = r.length - i ∧ i ≤ r.length ∧ st = ⟨[(0, v), (1, w), (7, i6 (sumF l f i)), (8, i6 (i : Int))], h.freeze⟩) r.length (by show r.length < 2 ^ 64; omega) ?_ ?_
      · simp [St.tidy, rv, rw']
        exact ⟨0, by omega, by omega, rfl, rfl⟩
      · rintro q hq _ ⟨i, rfl, hi, rfl⟩
        by_cases hlt : i < r.length
        · have w1' := w1n (i := i) (by omega)
          have h4 : (i : Int) < r.length := by omega
          have wm : IntKind.wrap .i64 ((i : Int) - 1) = (i : Int) - 1 := by rw [wrap_eq (by omega) (by omega)]
          have k99 := fun lim hh => c99 (d := d) (lim := lim) (h := hh) p1 pn hlt
          have hpi : prevI r.length i < r.length := by unfold prevI; split <;> omega
          have a := Wy.at_ i hlt
          have b := Wy.lt i hlt
          have a' := Wy.at_ _ hpi
          have b' := Wy.lt _ hpi
          have cv : ∀ hh, (cI r)[i]'hh = .int .i64 ((f i : Nat) : Int) := fun hh => by
            rw [List.getElem?_eq_getElem hlt] at a
            simp [cI, Option.some.inj a]
          have cv' : ∀ hh, (cI r)[prevI r.length i]'hh = .int .i64 ((f (prevI r.length i) : Nat) : Int) := fun hh => by
            rw [List.getElem?_eq_getElem hpi] at a'
            simp [cI, Option.some.inj a']
          have e0 := cB_0 (show f i < (l.map iB).length by rw [ml]; exact b)
          have e2 := cB_2 (show f i < (l.map iB).length by rw [ml]; exact b)
          have e1 := cB_1 (show f (prevI r.length i) < (l.map iB).length by rw [ml]; exact b')
          rw [atB_iB b, bdA_get b] at e0 e2
          rw [atB_iB b', bdA_get b'] at e1
          simp only [iB] at e0 e1 e2
          rw [hc i hlt] at e0
          have sb := sumF_bd G Wy (i + 1) hlt
          have ws : IntKind.wrap .i64 (sumF l f i + (bdA l (f i)).2.2) = sumF l f (i + 1) := by
            rw [wrap_eq (by simp only [sumF] at sb; omega) (by simp only [sumF] at sb; omega)]; rfl
          have k0 : f i * 3 < l.length * 3 := by omega
          have k2 : f i * 3 + 2 < l.length * 3 := by omega
          have k1 : f (prevI r.length i) * 3 + 1 < l.length * 3 := by omega
          have i1 : ((f i : Nat) : Int) < l.length := by omega
          have i2 : ((f (prevI r.length i) : Nat) : Int) < l.length := by omega
          have i3 : ((prevI r.length i : Nat) : Int) < r.length := by omega
          generalize bdA l (f (prevI r.length i)) = B1 at *
          generalize f (prevI r.length i) = f1 at *
          generalize hpv : prevI r.length i = j at *
          generalize bdA l (f i) = B2 at *
          generalize hfi : f i = f2 at *
          generalize hS : sumF l f i = S1 at *
          generalize hS2 : sumF l f (i + 1) = S2 at *
          simp [hlt, h4, rv, rw', cv, cv', wm, k99, e0, e1, e2, k0, k1, k2, i1, i2, i3, b, b', hpi, ws, w1', St.tidy]
          exact ⟨⟨r.length - (i + 1), by omega, i + 1, by omega, by omega, hS2.symm, by omega⟩, fun z => absurd z (by omega)⟩
        · obtain rfl : i = r.length := by omega
          generalize sumF l f r.length = S at *
          have nn : ¬ (0 ≤ S) := by omega
          simp [rw', hs, nn]
theorem c40 {d lim : Nat} {h : Heap} {v w : Value} {n : Nat} {l : List Bd} {r : List Int} {f : Nat → Nat} (s : SlB3 h v (l.map iB)) (t : SlI' h w r) (G : Good n l) (Wy : Way n l r f) (hl : l.length ≤ 210) (he : chkS n (l.map iB) = 0)
    (hc : ∀ i, i < r.length → (bdA l (f i)).1 = (bdA l (f (prevI r.length i))).2.1) (hs : sumF l f r.length < 0) :
    E.call (d + 3) lim 40 [i6 (n : Int), v, w] h = some (.tuple #[i6 (sumF l f r.length), i6 0], h) := by
  have ml : (l.map iB).length = l.length := by simp
  have rv := s.rules2
  have rw' := t.rules2
  rw [ml] at rv
  have p1 := Wy.p1
  have pn := Wy.pn
  have wp : within (r.length : Int) 1 60 = true := by simp [within]; omega
  have l1 : 1 ≤ l.length := by have := Wy.lt 0 (by omega); omega
  have wl : IntKind.wrap .i64 ((l.length : Int) - 1) = (l.length : Int) - 1 := by rw [wrap_eq (by omega) (by omega)]
  have k36 := fun lim => c36 (d := d) (lim := lim) (n := (n : Int)) (Sl_freeze.2 s)
  have wr : IntKind.wrap .i64 ((r.length : Int) - 1) = ((r.length - 1 : Nat) : Int) := by rw [wrap_eq (by omega) (by omega)]; omega
  have il : r.length - 1 < r.length := by omega
  have il' : ((r.length - 1 : Nat) : Int) < r.length := by omega
  have al := Wy.at_ _ il
  have cvl : ∀ hh, (cI r)[r.length - 1]'hh = .int .i64 ((f (r.length - 1) : Nat) : Int) := fun hh => by
    rw [List.getElem?_eq_getElem il] at al
    simp [cI, Option.some.inj al]
  refine call1 fn40 rfl (by simp [ef40]) ?_
  simp [ef40, k36, he, rv, rw', c77, wp]
  refine wpC_loop (fun q st => ∃ i : Nat, q = r.length - i ∧ i ≤ r.length ∧ st = ⟨[(1, v), (2, w), (25, w), (26, i6 (r.length : Int)), (27, i6 (i : Int))], h.freeze⟩) r.length (by show r.length < 2 ^ 64; omega) ?_ ?_
  · simp [St.tidy, rv, rw']
    exact ⟨0, by omega, by omega, rfl⟩
  · rintro q hq _ ⟨i, rfl, hi, rfl⟩
    by_cases hlt : i < r.length
    · have w1' := w1n (i := i) (by omega)
      have h4 : (i : Int) < r.length := by omega
      have a := Wy.at_ i hlt
      have b := Wy.lt i hlt
      have cv : ∀ hh, (cI r)[i]'hh = .int .i64 ((f i : Nat) : Int) := fun hh => by
        rw [List.getElem?_eq_getElem hlt] at a
        simp [cI, Option.some.inj a]
      have wi : within ((f i : Nat) : Int) 0 ((l.length : Int) - 1) = true := by simp [within]; omega
      simp [hlt, h4, rv, rw', cv, c77, wl, wi, w1', St.tidy]
      exact ⟨r.length - (i + 1), by omega, i + 1, by omega, by omega, by omega⟩
    · obtain rfl : i = r.length := by omega
      simp [rw', wr, cvl, il, il']
      refine wpC_loop (fun q st => ∃ i : Nat, q = r.length - i ∧ i ≤ r.length ∧ st = ⟨[(1, v), (11, i6 (sumF l f i)), (12, i6 ((f (prevI r.length i) : Nat) : Int)), (44, w), (45, i6 (r.length : Int)), (46, i6 (i : Int))], h.freeze⟩) r.length (by show r.length < 2 ^ 64; omega) ?_ ?_
      · simp [St.tidy, rv, rw']
        exact ⟨0, by omega, by omega, rfl, rfl, rfl⟩
      · rintro q hq _ ⟨i, rfl, hi, rfl⟩
        by_cases hlt : i < r.length
        · have w1' := w1n (i := i) (by omega)
          have h4 : (i : Int) < r.length := by omega
          have hpi : prevI r.length i < r.length := by unfold prevI; split <;> omega
          have a := Wy.at_ i hlt
          have b := Wy.lt i hlt
          have b' := Wy.lt _ hpi
          have cv : ∀ hh, (cI r)[i]'hh = .int .i64 ((f i : Nat) : Int) := fun hh => by
            rw [List.getElem?_eq_getElem hlt] at a
            simp [cI, Option.some.inj a]
          have e0 := cB_0 (show f i < (l.map iB).length by rw [ml]; exact b)
          have e2 := cB_2 (show f i < (l.map iB).length by rw [ml]; exact b)
          have e1 := cB_1 (show f (prevI r.length i) < (l.map iB).length by rw [ml]; exact b')
          rw [atB_iB b, bdA_get b] at e0 e2
          rw [atB_iB b', bdA_get b'] at e1
          simp only [iB] at e0 e1 e2
          rw [hc i hlt] at e0
          have sb := sumF_bd G Wy (i + 1) hlt
          have ws : IntKind.wrap .i64 (sumF l f i + (bdA l (f i)).2.2) = sumF l f (i + 1) := by
            rw [wrap_eq (by simp only [sumF] at sb; omega) (by simp only [sumF] at sb; omega)]; rfl
          have k0 : f i * 3 < l.length * 3 := by omega
          have k2 : f i * 3 + 2 < l.length * 3 := by omega
          have k1 : f (prevI r.length i) * 3 + 1 < l.length * 3 := by omega
          have i1 : ((f i : Nat) : Int) < l.length := by omega
          have i2 : ((f (prevI r.length i) : Nat) : Int) < l.length := by omega
          have hnx : f (prevI r.length (i + 1)) = f i := by simp [prevI]
          generalize bdA l (f (prevI r.length i)) = B1 at *
          generalize f (prevI r.length i) = f1 at *
          generalize bdA l (f i) = B2 at *
          generalize hfi : f i = f2 at *
          generalize hS : sumF l f i = S1 at *
          generalize hS2 : sumF l f (i + 1) = S2 at *
          simp [hlt, h4, rv, rw', cv, e0, e1, e2, k0, k1, k2, i1, i2, b, b', ws, w1', St.tidy]
          exact ⟨r.length - (i + 1), by omega, i + 1, by omega, by omega, hS2.symm, by rw [hnx], by omega⟩
        · obtain rfl : i = r.length := by omega
          generalize sumF l f r.length = S at *
          have nn : ¬ (0 ≤ S) := by omega
          simp [rw', hs, nn]
end N
end Go.Abs
