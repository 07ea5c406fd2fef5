--
import Derived.Test.YtoloaempiiedgaaDoorAbsREM
import Derived.Test.YtoloaempiiedgaaDoorAbsRZ4
import Derived.Test.YtoloaempiiedgaaDoorAbsWpO
set_option linter.unusedSimpArgs false
set_option linter.unusedVariables false
namespace Go.Abs
namespace R
set_option maxRecDepth 100000
set_option maxHeartbeats 0
def cBl (l : List Bool) : List Value := l.map .bool
@[simp] theorem cBl_len (l : List Bool) : (cBl l).length = l.length := by simp [cBl]
abbrev SlB (h : Heap) (v : Value) (l : List Bool) : Prop := Sl 1 h v l.length (cBl l)
def fil {α : Type} (z : α) (l : List α) (k : Nat) : List α := l.take k ++ List.replicate (l.length - k) z
theorem fil_len {α : Type} {z : α} {l : List α} {k : Nat} (h : k ≤ l.length) : (fil z l k).length = l.length := by simp [fil]; omega
theorem fil_0 {α : Type} {z : α} {l : List α} : fil z l 0 = List.replicate l.length z := by simp [fil]
theorem fil_all {α : Type} {z : α} {l : List α} : fil z l l.length = l := by simp [fil]
theorem fil_step {α : Type} {z : α} {l : List α} {k : Nat} (h : k < l.length) : (fil z l k).set k l[k] = fil z l (k + 1) := by
 unfold fil
 apply List.ext_getElem?
 intro j
 rw [List.getElem?_set]
 simp only [List.length_append, List.length_take, List.length_replicate, List.getElem?_append, List.getElem?_take, List.getElem?_replicate]
 grind
theorem fil_same {α : Type} {z : α} {l : List α} {k : Nat} (h : k < l.length) (e : l[k] = z) : fil z l (k + 1) = fil z l k := by
 rw [← fil_step h, e]
 unfold fil
 apply List.ext_getElem?
 intro j
 rw [List.getElem?_set]
 simp only [List.length_append, List.length_take, List.length_replicate, List.getElem?_append, List.getElem?_take, List.getElem?_replicate]
 grind
theorem cR_set {l : List XR} {k : Nat} (h : k < l.length) (x : XR) : ((cS encR l).set (k * 2) (i64 x.1)).set (k * 2 + 1) (i64 x.2) = cS encR (l.set k x) := by
 have hf : ∀ x : XR, (encR x).length = 2 := fun _ => rfl
 apply List.ext_getElem?
 intro m
 rw [List.getElem?_set, List.getElem?_set, List.length_set]
 rcases Nat.lt_or_ge m (l.length * 2) with z | z
 ·have hi : m / 2 < l.length := by omega
  have hj : m % 2 < 2 := by omega
  have e : m = m / 2 * 2 + m % 2 := by omega
  generalize m / 2 = i at *
  generalize m % 2 = j at *
  subst e
  have hi' : i < (l.set k x).length := by simpa using hi
  rw [cS_get hf l i j hi hj, cS_get hf _ i j hi' hj, List.getElem_set, cR_len]
  have : j = 0 ∨ j = 1 := by omega
  rcases this with rfl | rfl
  ·by_cases q : k = i
   ·subst q; rw [if_neg (by omega), if_pos (by omega), if_pos (by omega), if_pos rfl]; rfl
   ·rw [if_neg (by omega), if_neg (by omega), if_neg q]
  ·by_cases q : k = i
   ·subst q; rw [if_pos (by omega), if_pos (by omega), if_pos rfl]; rfl
   ·rw [if_neg (by omega), if_neg (by omega), if_neg q]
 ·rw [List.getElem?_eq_none (by rw [cR_len]; omega), List.getElem?_eq_none (by rw [cR_len, List.length_set]; omega), cR_len]
  rw [if_neg (by omega), if_neg (by omega)]
theorem zeros_R (m : Nat) : zeros [i64 0, i64 0] m = cS encR (List.replicate m ((0, 0) : XR)) := by
 simp [zeros, cS, List.flatMap, encR]
theorem zeros_B (m : Nat) : zeros [.bool false] m = cBl (List.replicate m false) := by simp [zeros, cBl]
theorem cBl_set {l : List Bool} {k : Nat} {x : Bool} : (cBl l).set k (.bool x) = cBl (l.set k x) := by simp [cBl, List.map_set]
noncomputable def alR (wl : List Wi) (t : Int) (u : Un) (L : Lm) (G : List Int) : List Bool := G.map (alB wl t u L)
noncomputable def plX (wl : List Wi) (t : Int) (u : Un) (c : Int) : XR := if sErr wl (cor u c).sd = 0 then ten wl t (cor u c) else (0, 0)
noncomputable def plR (wl : List Wi) (t : Int) (u : Un) (G : List Int) : List XR := G.map (plX wl t u)
@[simp] theorem alR_len (wl : List Wi) (t : Int) (u : Un) (L : Lm) (G : List Int) : (alR wl t u L G).length = G.length := by simp [alR]
@[simp] theorem plR_len (wl : List Wi) (t : Int) (u : Un) (G : List Int) : (plR wl t u G).length = G.length := by simp [plR]
structure GD (h : Heap) (b n : Nat) (A : Nat → List Bool) (P : Nat → List XR) (jp : Int) : Prop where
 ex : ∃ (av pv : Value) (rw : Bool) (as ps : Nat → Value), h.get b = some ⟨[av, pv, i64 jp], rw⟩ ∧ Sl 1 h av n ((List.range n).map as) ∧ Sl 1 h pv n ((List.range n).map ps) ∧ (∀ i, i < n → SlB h (as i) (A i)) ∧ (∀ i, i < n → SlR h (ps i) (P i))
theorem GD.app {h : Heap} {b n : Nat} {A : Nat → List Bool} {P : Nat → List XR} {jp : Int} (g : GD h b n A P jp) (M : List (Option Blk)) : GD (h ++ M) b n A P jp := by
 obtain ⟨av, pv, rw, as, ps, e, x1, x2, x3, x4⟩ := g.ex
 exact ⟨av, pv, rw, as, ps, hget_append e, x1.app M, x2.app M, fun i hi => (x3 i hi).app M, fun i hi => (x4 i hi).app M⟩
theorem GD.frz {h : Heap} {b n : Nat} {A : Nat → List Bool} {P : Nat → List XR} {jp : Int} (g : GD h b n A P jp) : GD h.freeze b n A P jp := by
 obtain ⟨av, pv, rw, as, ps, e, x1, x2, x3, x4⟩ := g.ex
 exact ⟨av, pv, false, as, ps, hget_freeze e, Sl_freeze.2 x1, Sl_freeze.2 x2, fun i hi => Sl_freeze.2 (x3 i hi), fun i hi => Sl_freeze.2 (x4 i hi)⟩
structure GI (base i : Nat) (L : List (Option Blk)) (t : Int) (v w : Value) (X : Lm) (A : Nat → List Bool) (P : Nat → List XR) (as ps : Nat → Value) (av pv : Value) (ba bp : Nat) : Prop where
 e0 : L[0]? = some (some ⟨[i64 t, v, w], true⟩)
 e1 : L[1]? = some (some ⟨[i64 X.lo, i64 X.hi, i64 X.sh, i64 X.jp], true⟩)
 e2 : L[2]? = some (some ⟨[av, pv, i64 X.jp], true⟩)
 oa : OutS base L ba av ((List.range i).map as)
 op : OutS base L bp pv ((List.range i).map ps)
 ba3 : 3 ≤ ba
 bp3 : 3 ≤ bp
 ne : ba ≠ bp
 ra : ∀ j, j < i → ∃ c, 3 ≤ c ∧ c ≠ ba ∧ c ≠ bp ∧ as j = .slice (some ⟨base + c, 0, none⟩) (A j).length 1 ∧ L[c]? = some (some ⟨cBl (A j), true⟩)
 rp : ∀ j, j < i → ∃ c, 3 ≤ c ∧ c ≠ ba ∧ c ≠ bp ∧ ps j = .slice (some ⟨base + c, 0, none⟩) (P j).length 2 ∧ L[c]? = some (some ⟨cS encR (P j), true⟩)
theorem GI.len {base i : Nat} {L : List (Option Blk)} {t : Int} {v w : Value} {X : Lm} {A : Nat → List Bool} {P : Nat → List XR} {as ps : Nat → Value} {av pv : Value} {ba bp : Nat} (g : GI base i L t v w X A P as ps av pv ba bp) : 3 ≤ L.length := lget_lt g.e2
theorem Sl_one1 {h : Heap} {b n : Nat} {cs : List Value} {rw : Bool} (e : h.get b = some ⟨cs, rw⟩) (hn : n = cs.length) : Sl 1 h (.slice (some ⟨b, 0, none⟩) n 1) n cs := by
 have hb := Heap.get_lt e
 refine ⟨rfl, by rw [hn]; omega, fun _ => rfl, .inr ⟨b, 0, n, 1, rfl, hb⟩, fun k hk => ?_⟩
 rw [cell_get (by simpa using e)]
 simp
theorem _root_.Go.Abs.OutS.sl {H : Heap} {L : List (Option Blk)} {b n : Nat} {v : Value} {cs : List Value} (h : OutS H.length L b v cs) (hn : n = cs.length) : Sl 1 (H ++ L) v n cs := by
 unfold OutS at h
 split at h
 ·rename_i e
  subst e; subst h
  obtain rfl : n = 0 := by simpa using hn
  exact ⟨rfl, rfl, fun q => absurd rfl q, .inl rfl, fun k hk => by omega⟩
 ·obtain ⟨rfl, e⟩ := h
  rw [← hn]
  exact Sl_one1 (rw := true) (by rw [hget_base rfl, e]; rfl) hn
theorem GI.gd {H : Heap} {i b : Nat} {L : List (Option Blk)} {t : Int} {v w : Value} {X : Lm} {A : Nat → List Bool} {P : Nat → List XR} {as ps : Nat → Value} {av pv : Value} {ba bp : Nat} (g : GI H.length i L t v w X A P as ps av pv ba bp) (hb : b = H.length + 2) : GD (H ++ L) b i A P X.jp := by
 refine ⟨av, pv, true, as, ps, by rw [hb, hget_base rfl, g.e2]; rfl, g.oa.sl (by simp), g.op.sl (by simp), fun j hj => ?_, fun j hj => ?_⟩
 ·obtain ⟨c, _, _, _, e, q⟩ := g.ra j hj
  rw [e]
  exact Sl_one1 (rw := true) (by rw [hget_base rfl, q]; rfl) (by simp)
 ·obtain ⟨c, _, _, _, e, q⟩ := g.rp j hj
  rw [e]
  exact Sl_own (f := encR) (es := 2) (rw := true) (fun _ => rfl) (by rw [hget_base rfl, q]; rfl) rfl
end R
end Go.Abs
namespace Go.Abs
namespace R
set_option maxRecDepth 100000
set_option maxHeartbeats 0
abbrev pB (n : Nat) : Value := .pointer (some ⟨n, 0, none⟩)
def bx (l : List Bool) (k : Nat) : Bool := l.getD k false
theorem cBl_bx {l : List Bool} {k : Nat} (h : k < l.length) : (cBl l)[k]? = some (.bool (bx l k)) := by simp [cBl, bx, h]
theorem cBl_bxe {l : List Bool} {k : Nat} (hh : k < (cBl l).length) : (cBl l)[k]'hh = .bool (bx l k) := by
 have h : k < l.length := by simpa using hh
 simp [cBl, bx, h]
theorem as_get {n i : Nat} (f : Nat → Value) (h : i < n) : ((List.range n).map f)[i]? = some (f i) := by rw [List.getElem?_map, List.getElem?_range h]; rfl
def togB (A : Nat → List Bool) (P : Nat → List XR) (jp : Int) (i a b : Nat) : Bool := bx (A i) a && bx (A (i + 1)) b && decide (jmp (atR (P i) a) (atR (P (i + 1)) b) ≤ jp)
def gapV (a b : Int) : Int := max (IntKind.wrap .i64 (a - b)) (IntKind.wrap .i64 (b - a))
theorem c39 {d lim : Nat} {h : Heap} {a b : Int} : E.call (d + 1) lim 39 [i64 a, i64 b] h = some (i64 (gapV a b), h) := by
 refine call1 fn39 rfl (by simp [ef39]) ?_
 simp [ef39, gapV]
theorem c38 {d lim b n i x y m : Nat} {h : Heap} {A : Nat → List Bool} {P : Nat → List XR} {jp : Int} (g : GD h b n A P jp) (hn : n ≤ 1000) (hi : i + 1 < n) (ha : ∀ i, i < n → (A i).length = m) (hp : ∀ i, i < n → (P i).length = m) (hx : x < m) (hy : y < m) :
  E.call (d + 2) lim 38 [pB b, i64 (i : Int), i64 (x : Int), i64 (y : Int)] h = some (.bool (togB A P jp i x y), h) := by
 obtain ⟨av, pv, rw', as, ps, e, sa, sp, ra, rp⟩ := g.ex
 have ck := fun o => cell_get (o := o) e
 have r1 := sa.rules2
 have r2 := sp.rules2
 have i1 : i < n := by omega
 have r3 := (ra i i1).rules2
 have r4 := (ra (i + 1) hi).rules2
 have r5 := (rp i i1).rules2
 have r6 := (rp (i + 1) hi).rules2
 have a1 := as_get as i1
 have a2 := as_get as hi
 have p1 := as_get ps i1
 have p2 := as_get ps hi
 have w1' := w1 (i := i) (by omega)
 simp only [W] at w1'
 have li : (i : Int) < n := by omega
 have li2 : ((i + 1 : Nat) : Int) < n := by omega
 have li3 : (i : Int) + 1 < n := by omega
 have z3 : (0 : Int) ≤ (i : Int) + 1 := by omega
 have lx : (x : Int) < m := by omega
 have ly : (y : Int) < m := by omega
 rw [ha i i1] at r3
 rw [ha _ hi] at r4
 rw [hp i i1] at r5
 rw [hp _ hi] at r6
 have b1 := cBl_bx (l := A i) (k := x) (by rw [ha i i1]; exact hx)
 have b2 := cBl_bx (l := A (i + 1)) (k := y) (by rw [ha _ hi]; exact hy)
 have q1 := cR_part (l := P i) (i := x) (by rw [hp i i1]; exact hx)
 have q2 := cR_part (l := P (i + 1)) (i := y) (by rw [hp _ hi]; exact hy)
 have kx : x * 2 + 2 ≤ m * 2 := by omega
 have ky : y * 2 + 2 ≤ m * 2 := by omega
 have k75 := fun lim H => c49 (d := d) (lim := lim) (h := H) (p := atR (P i) x) (q := atR (P (i + 1)) y)
 refine call1 fn38 rfl (by simp [ef38]) ?_
 unfold togB
 rcases h1 : bx (A i) x with _ | _
 ·simp [ef38, ck, r1, r2, r3, i1, a1, li, lx, b1, h1, hx]
 ·rw [h1] at b1
  rcases h2 : bx (A (i + 1)) y with _ | _
  ·rw [h2] at b2
   simp [ef38, ck, r1, r2, r3, r4, i1, hi, a1, a2, li, li2, li3, z3, lx, ly, b1, b2, h1, h2, hx, hy, w1']
  ·rw [h2] at b2
   simp [ef38, ck, r1, r2, r3, r4, r5, r6, i1, hi, a1, a2, p1, p2, li, li2, li3, z3, lx, ly, b1, b2, h1, h2, hx, hy, w1', q1, q2, kx, ky, k75]
def lsB (A : List Bool) (l : List Int) (k : Nat) (best : Int) : Int := if bx A k = true ∧ gx l k < 1000000 ∧ (best < 0 ∨ gx l k < gx l best.toNat) then k else best
def lsI (A : List Bool) (l : List Int) : Nat → Int
 | 0 => -1
 | k + 1 => lsB A l k (lsI A l k)
theorem lsI_bd (A : List Bool) (l : List Int) : ∀ k, -1 ≤ lsI A l k ∧ lsI A l k < k
 | 0 => ⟨by simp [lsI], by simp [lsI]⟩
 | k + 1 => by
  have := lsI_bd A l k
  unfold lsI lsB
  split <;> omega
theorem c37 {d lim b n i : Nat} {h : Heap} {A : Nat → List Bool} {P : Nat → List XR} {jp : Int} {v : Value} {l : List Int} (g : GD h b n A P jp) (s : SlI' h v l) (hi : i < n) (ha : (A i).length = l.length) (hl : l.length ≤ 1000) :
  E.call (d + 1) lim 37 [pB b, i64 (i : Int), v] h = some (i64 (lsI (A i) l l.length), h) := by
 obtain ⟨av, pv, rw', as, ps, e, sa, sp, ra, rp⟩ := g.ex
 have ck := fun o => cell_get (o := o) e
 have hb := Heap.get_lt e
 have r := s.rules2
 have so := s.own
 have r1 := sa.rules2
 have r3 := (ra i hi).rules2
 rw [ha] at r3
 have a1 := as_get as hi
 have li : (i : Int) < n := by omega
 refine call1 fn37 rfl (by simp [ef37]) ?_
 simp [ef37, r]
 refine wpC_loop (fun q st => ∃ k : Nat, q = l.length - k ∧ k ≤ l.length ∧ st = ⟨[(0, pB b), (1, i64 (i : Int)), (2, v), (7, i64 (lsI (A i) l k)), (10, v), (11, i64 (l.length : Int)), (12, i64 (k : Int))], h.freeze⟩) l.length (by show l.length < 2 ^ 64; omega) ?_ ?_
 ·simp [St.tidy, r, so, hb]
  exact ⟨0, by omega, by omega, rfl, rfl⟩
 ·rintro q hq _ ⟨k, rfl, hk, rfl⟩
  by_cases lt : k < l.length
  ·have lti : (k : Int) < l.length := by omega
   have w1' := w1 (i := k) (by omega)
   simp only [W] at w1'
   have b1 := cBl_bx (l := A i) (k := k) (by omega)
   have c1 := cI_gx lt
   have bd := lsI_bd (A i) l k
   have e1 : lsI (A i) l (k + 1) = lsB (A i) l k (lsI (A i) l k) := rfl
   have q0 : ∀ hh, (cI l)[k]'hh = i64 (gx l k) := fun hh => by simp [cI, gx, List.getD_eq_getElem?_getD, List.getElem?_eq_getElem lt]
   generalize lsI (A i) l k = B at *
   unfold lsB at e1
   rcases h1 : bx (A i) k with _ | _
   ·rw [h1] at b1 e1
    simp at e1
    simp [lt, lti, Nat.not_le.2 lt, r, r1, r3, ck, a1, li, hi, b1, q0, c1, w1', St.tidy, so, hb, e1]
    exact ⟨l.length - (k + 1), by omega, k + 1, rfl, by omega, by rw [e1], by omega⟩
   ·rw [h1] at b1 e1
    by_cases h2 : gx l k < 1000000
    ·by_cases h3 : B < 0
     ·simp [h2, h3] at e1
      simp [lt, lti, Nat.not_le.2 lt, r, r1, r3, ck, a1, li, hi, b1, q0, c1, w1', St.tidy, so, hb, e1, h2, h3]
      exact ⟨l.length - (k + 1), by omega, k + 1, rfl, by omega, by rw [e1], by omega⟩
     ·obtain ⟨B', rfl⟩ := Int.eq_ofNat_of_zero_le (show 0 ≤ B by omega)
      have bl : B' < l.length := by omega
      have bli : (B' : Int) < l.length := by omega
      have nB : ¬ (B' : Int) < 0 := by omega
      have qb : ∀ hh, (cI l)[B']'hh = i64 (gx l B') := fun hh => by simp [cI, gx, List.getD_eq_getElem?_getD, List.getElem?_eq_getElem bl]
      have cb := cI_gx bl
      simp only [Int.ofNat_eq_natCast, Int.toNat_natCast] at e1
      by_cases h4 : gx l k < gx l B'
      ·simp [h2, h4, nB] at e1
       simp [lt, lti, Nat.not_le.2 lt, r, r1, r3, ck, a1, li, hi, b1, q0, c1, w1', St.tidy, so, hb, e1, h2, h3, h4, bl, bli, qb, cb]
       exact ⟨l.length - (k + 1), by omega, k + 1, rfl, by omega, by rw [e1], by omega⟩
      ·simp [h2, h4, nB] at e1
       simp [lt, lti, Nat.not_le.2 lt, r, r1, r3, ck, a1, li, hi, b1, q0, c1, w1', St.tidy, so, hb, e1, h2, h3, h4, bl, bli, qb, cb]
       exact ⟨l.length - (k + 1), by omega, k + 1, rfl, by omega, by rw [e1], by omega⟩
    ·simp [h2] at e1
     simp [lt, lti, Nat.not_le.2 lt, r, r1, r3, ck, a1, li, hi, b1, q0, c1, w1', St.tidy, so, hb, e1, h2, Int.not_lt.1 h2]
     exact ⟨l.length - (k + 1), by omega, k + 1, rfl, by omega, by rw [e1], by omega⟩
  ·obtain rfl : k = l.length := by omega
   simp [r]
theorem c78 {d lim b : Nat} {h : Heap} {i : Int} (hb : b < h.length) : E.call (d + 1) lim 78 [pB b, i64 i] h = some (.func (.func 113) #[] #[pB h.length, pB (h.length + 1)], h ++ [some ⟨[pB b], true⟩, some ⟨[i64 i], true⟩]) := by
 refine call_pure fn78 rfl (by simp [ef78]) ?_
 simp [ef78, hb]
def prs (m : Nat) : List (Nat × Nat) := (List.range m).flatMap fun a => (List.range m).map fun b => (a, b)
theorem sum_const (m : Nat) : ∀ l : List Nat, (l.map fun _ => m).sum = l.length * m
 | [] => by simp
 | a :: r => by rw [List.map_cons, List.sum_cons, sum_const m r, List.length_cons, Nat.add_mul]; omega
theorem prs_len (m : Nat) : (prs m).length = m * m := by simp [prs, List.length_flatMap, sum_const]
theorem prs_get {m a b : Nat} (ha : a < m) (hb : b < m) : (prs m)[a * m + b]? = some (a, b) := by
 have key : ∀ k : Nat, ∀ a, a < k → ((List.range k).flatMap fun a => (List.range m).map fun b => (a, b))[a * m + b]? = some (a, b) := by
  intro k
  induction k with
  | zero => intro a h; omega
  | succ k ih =>
   intro a h
   rw [List.range_succ, List.flatMap_append]
   have ll : ((List.range k).flatMap fun a => (List.range m).map fun b => (a, b)).length = k * m := by simp [List.length_flatMap, sum_const]
   by_cases q : a < k
   ·rw [List.getElem?_append_left (by rw [ll]; have : (a + 1) * m ≤ k * m := Nat.mul_le_mul_right _ q; rw [Nat.add_mul] at this; omega)]
    exact ih a q
   ·obtain rfl : a = k := by omega
    rw [List.getElem?_append_right (by rw [ll]; omega), ll]
    simp [hb]
 exact key m a ha
theorem prs_drop {m a b : Nat} (ha : a < m) (hb : b < m) : (prs m).drop (a * m + b) = (a, b) :: (prs m).drop (a * m + b + 1) := by
 have h := prs_get ha hb
 obtain ⟨hl, e⟩ := List.getElem?_eq_some_iff.1 h
 rw [List.drop_eq_getElem_cons hl, e]
theorem prs_end (m : Nat) : (prs m).drop (m * m) = [] := List.drop_eq_nil_of_le (by rw [prs_len]; omega)
def runP {σ : Type} (tog : Nat → Nat → Bool) (ok : σ → Nat → Nat → Bool) (step : σ → Nat → Nat → σ) : List (Nat × Nat) → σ → σ
 | [], s => s
 | (a, b) :: r, s => if tog a b = true then (if ok s a b = true then runP tog ok step r (step s a b) else step s a b) else runP tog ok step r s
theorem c113 {σ : Type} {d lim r b1 b2 b n i m N : Nat} {A : Nat → List Bool} {P : Nat → List XR} {jp : Int} {F : σ → Heap} {ok : σ → Nat → Nat → Bool} {step : σ → Nat → Nat → σ} {s0 : σ} {Inv : σ → Prop} (hN : ∀ s, (F s).length = N) (hr : r < N)
  (g1 : ∀ s, Inv s → ∃ rw, (F s).get b1 = some ⟨[pB b], rw⟩) (g2 : ∀ s, Inv s → ∃ rw, (F s).get b2 = some ⟨[i64 (i : Int)], rw⟩) (g : ∀ s, Inv s → GD (F s) b n A P jp) (hn : n ≤ 1000) (hi : i + 1 < n) (ha : ∀ i, i < n → (A i).length = m) (hp : ∀ i, i < n → (P i).length = m) (hm : m ≤ 1000)
  (h0 : Inv s0) (hInv : ∀ s x y, x < m → y < m → togB A P jp i x y = true → Inv s → Inv (step s x y))
  (hround : ∀ s x y, x < m → y < m → togB A P jp i x y = true → Inv s → EProg.roundOf E (E.call (d + 2)) N r [i64 (x : Int), i64 (y : Int)] (F s) = some (.bool (ok s x y), F (step s x y))) :
  E.call (d + 3) lim 113 [yieldVal r, pB b1, pB b2] (F s0) = some (.tuple #[], F (runP (togB A P jp i) ok step (prs m) s0)) := by
 obtain ⟨R, hR⟩ : ∃ R, R = runP (togB A P jp i) ok step (prs m) s0 := ⟨_, rfl⟩
 rw [← hR]
 have lb1 : b1 < N := by obtain ⟨_, e⟩ := g1 s0 h0; rw [← hN s0]; exact Heap.get_lt e
 have lb2 : b2 < N := by obtain ⟨_, e⟩ := g2 s0 h0; rw [← hN s0]; exact Heap.get_lt e
 have tk : ∀ s, List.take N (F s) = F s := fun s => by rw [← hN s]; exact List.take_length
 have key : ∃ v h', E.call (d + 3) lim 113 [yieldVal r, pB b1, pB b2] (F s0) = some (v, h') ∧ v = .tuple #[] ∧ h' = F R := by
  refine call_trunc (Q := fun v h' => v = .tuple #[] ∧ h' = F R) fn113 rfl (by simp [ef113]) ?_
  have i1 : i < n := by omega
  have w1' := w1 (i := i) (by omega)
  simp only [W] at w1'
  have li : (i : Int) < n := by omega
  have li3 : (i : Int) + 1 < n := by omega
  have z3 : (0 : Int) ≤ (i : Int) + 1 := by omega
  rw [hN s0]
  have S0 : ∀ s, Inv s → ∃ (av : Value) (as : Nat → Value), (∀ o, Heap.cell (F s) b1 o = [pB b][o]?) ∧ (∀ o, Heap.cell (F s) b2 o = [i64 (i : Int)][o]?) ∧ Heap.cell (F s) b 0 = some av ∧ (slN av = some n ∧ (∀ (k : IntKind) (i : Int), 0 ≤ i → i < n → slAt 1 av (.int k i) = some (.pointer (some ⟨slB av, slO av + i.toNat * 1, none⟩)))) ∧
    Heap.cell (F s) (slB av) (slO av + i) = some (as i) ∧ Heap.cell (F s) (slB av) (slO av + (i + 1)) = some (as (i + 1)) ∧ slN (as i) = some m ∧ slN (as (i + 1)) = some m := by
   intro s hs
   obtain ⟨_, e1⟩ := g1 s hs
   obtain ⟨_, e2⟩ := g2 s hs
   obtain ⟨av, pv, rw', as, ps, e, sa, sp, ra, rp⟩ := (g s hs).ex
   have r1 := sa.rules2
   refine ⟨av, as, fun o => cell_get e1, fun o => cell_get e2, by rw [cell_get e]; rfl, ⟨r1.1, r1.2.1⟩, ?_, ?_, ?_, ?_⟩
   ·rw [r1.2.2.1 i (by omega), as_get as i1]
   ·rw [r1.2.2.1 (i + 1) (by omega), as_get as hi]
   ·have := (ra i i1).len; rwa [ha i i1] at this
   ·have := (ra (i + 1) hi).len; rwa [ha _ hi] at this
  obtain ⟨av, as, c1, c2, c3, c4, c5, c6, c7, c8⟩ := S0 s0 h0
  simp [ef113, c1, c2, c3, c4, c5, c7, li]
  refine wpC_loop (fun q st => ∃ (a : Nat) (s : σ), q = m - a ∧ a ≤ m ∧ Inv s ∧ runP (togB A P jp i) ok step ((prs m).drop (a * m)) s = R ∧ st = ⟨[(0, yieldVal r), (1, pB b1), (2, pB b2), (13, i64 (m : Int)), (14, i64 (a : Int))], F s⟩) m (by show m < 2 ^ 64; omega) ?_ ?_
  ·simp [St.tidy, hr, lb1, lb2, tk]
   exact ⟨0, by omega, by omega, s0, h0, by simp [hR], rfl, rfl⟩
  ·rintro q hq _ ⟨a, s, rfl, hA, hs, hc, rfl⟩
   by_cases lt : a < m
   ·have lti : (a : Int) < m := by omega
    have wa := w1 (i := a) (by omega)
    simp only [W] at wa
    obtain ⟨av, as, c1, c2, c3, c4, c5, c6, c7, c8⟩ := S0 s hs
    simp [c1, c2, c3, c4, c5, c6, c7, c8, li, li3, z3, w1', lt, lti, Nat.not_le.2 lt]
    refine wpC_loop (fun q st => ∃ (c : Nat) (s : σ), q = m - c ∧ c ≤ m ∧ Inv s ∧ runP (togB A P jp i) ok step ((prs m).drop (a * m + c)) s = R ∧ st = ⟨[(0, yieldVal r), (1, pB b1), (2, pB b2), (4, i64 (a : Int)), (13, i64 (m : Int)), (14, i64 (a : Int)), (25, i64 (m : Int)), (26, i64 (c : Int))], F s⟩) m (by show m < 2 ^ 64; omega) ?_ ?_
    ·simp [St.tidy, hr, lb1, lb2, tk]
     exact ⟨0, by omega, by omega, s, hs, by simpa using hc, rfl, rfl⟩
    ·rintro q hq _ ⟨c, s, rfl, hC, hs, hc, rfl⟩
     by_cases lt2 : c < m
     ·have lti2 : (c : Int) < m := by omega
      have wc := w1 (i := c) (by omega)
      simp only [W] at wc
      obtain ⟨av, as, c1, c2, c3, c4, c5, c6, c7, c8⟩ := S0 s hs
      have k46 := fun lim => c38 (d := d) (lim := lim) (x := a) (y := c) (g s hs) hn hi ha hp lt lt2
      rw [prs_drop lt lt2] at hc
      unfold runP at hc
      rcases h1 : togB A P jp i a c with _ | _
      ·rw [h1] at hc k46
       simp only [Bool.false_eq_true, if_false] at hc
       simp [c1, c2, k46, lt2, lti2, Nat.not_le.2 lt2, wc, St.tidy, hr, lb1, lb2, tk]
       exact ⟨m - (c + 1), by omega, c + 1, by omega, by omega, s, hs, hc, rfl, rfl⟩
      ·rw [h1] at hc k46
       rw [if_pos rfl] at hc
       have rd := hround s a c lt lt2 h1 hs
       rcases h2 : ok s a c with _ | _
       ·rw [h2] at hc rd
        simp only [Bool.false_eq_true, if_false] at hc
        subst hc
        simp [c1, c2, k46, lt2, lti2, Nat.not_le.2 lt2, wc, St.tidy, hr, lb1, lb2, tk, rd]
       ·rw [h2] at hc rd
        rw [if_pos rfl] at hc
        simp [c1, c2, k46, lt2, lti2, Nat.not_le.2 lt2, wc, St.tidy, hr, lb1, lb2, tk, rd]
        exact ⟨m - (c + 1), by omega, c + 1, by omega, by omega, step s a c, hInv s a c lt lt2 h1 hs, hc, rfl, rfl⟩
     ·obtain rfl : c = m := by omega
      simp [wa, St.tidy, hr, lb1, lb2, tk]
      exact ⟨c - (a + 1), by omega, a + 1, by omega, by omega, s, hs, by rw [Nat.add_mul, Nat.one_mul]; exact hc, rfl, rfl⟩
   ·obtain rfl : a = m := by omega
    rw [prs_end] at hc
    subst hc
    simp [runP, tk]
 obtain ⟨_, _, e, rfl, rfl⟩ := key
 exact e
end R
end Go.Abs
namespace Go.Abs
namespace R
set_option maxRecDepth 100000
set_option maxHeartbeats 0
def updV (vs : Nat → Value) (i : Nat) (v : Value) : Nat → Value := fun j => if j = i then v else vs j
theorem updV_map (vs : Nat → Value) (i : Nat) (v : Value) : (List.range (i + 1)).map (updV vs i v) = (List.range i).map vs ++ [v] := by
 rw [List.range_succ, List.map_append]
 congr 1
 ·apply List.map_congr_left
  intro j hj
  unfold updV
  rw [if_neg (by have := List.mem_range.1 hj; omega)]
 ·simp [updV]
theorem lgetE {L : List (Option Blk)} {i : Nat} {x : Option Blk} (h : L[i]? = some x) (hh : i < L.length) : L[i]'hh = x := Option.some.inj ((List.getElem?_eq_getElem hh).symm.trans h)
theorem ggE_0 {G : List Int} (h : ggE G = 0) : 0 < G.length ∧ G.length ≤ 20 := by
 unfold ggE at h
 by_cases a : G.length = 0
 ·rw [if_pos a] at h; exact absurd h (by decide)
 ·rw [if_neg a] at h
  by_cases b : 20 < G.length
  ·rw [if_pos b] at h; exact absurd h (by decide)
  ·omega
structure I29i (H : Heap) (gv w : Value) (l0 n i m : Nat) (L0 : List (Option Blk)) (u : Un) (fl fh : Int) (A : List Bool) (P : List XR) (q : Nat) (st : St) : Prop where
 ex : ∃ (k : Nat) (M : List (Option Blk)), q = m - k ∧ k ≤ m ∧ (∀ j, j < l0 → M[j]? = L0[j]?) ∧ M[l0]? = some (some ⟨encN u, true⟩) ∧ M[l0 + 1]? = some (some ⟨[i64 fl, i64 fh], true⟩) ∧
  M[l0 + 2]? = some (some ⟨cBl (fil false A k), true⟩) ∧ M[l0 + 3]? = some (some ⟨cS encR (fil (0, 0) P k), true⟩) ∧
  st = ⟨[(2, gv), (3, pB H.length), (4, pB (H.length + 1)), (12, pB (H.length + 2)), (14, pB (H.length + l0)), (15, pB (H.length + (l0 + 1))), (16, .slice (some ⟨H.length + (l0 + 2), 0, none⟩) m 1), (17, .slice (some ⟨H.length + (l0 + 3), 0, none⟩) m 2), (45, w), (46, i64 (n : Int)), (47, i64 (i : Int)), (61, gv), (62, i64 (m : Int)), (63, i64 (k : Int))], H ++ M⟩
structure I29 (H : Heap) (gv w : Value) (n : Nat) (t : Int) (v : Value) (X : Lm) (A : Nat → List Bool) (P : Nat → List XR) (q : Nat) (st : St) : Prop where
 ex : ∃ (i : Nat) (L : List (Option Blk)) (as ps : Nat → Value) (av pv : Value) (ba bp : Nat), q = n - i ∧ i ≤ n ∧ GI H.length i L t v w X A P as ps av pv ba bp ∧
  st = ⟨[(2, gv), (3, pB H.length), (4, pB (H.length + 1)), (12, pB (H.length + 2)), (45, w), (46, i64 (n : Int)), (47, i64 (i : Int))], H ++ L⟩
theorem c35 {d lim : Nat} {H : Heap} {v w gv : Value} {wl : List Wi} {l : List Un} {t : Int} {X : Lm} {G : List Int} (sp : Pr H) (s : SlW H v wl) (q : SlN H w l) (p : SlI' H gv G) (hwl : wl.length ≤ 1000) (hnm : Nms wl) (hlim : lim ≤ H.length) :
  ∃ pv K, E.call (d + 9) lim 35 [stV t v w, lmV X, gv] H = some (.tuple #[pv, i64 (erA t wl l X G)], H ++ K) ∧ (erA t wl l X G ≠ 0 → pv = .pointer none) ∧
   (erA t wl l X G = 0 → ∃ b, pv = pB b ∧ GD (H ++ K) b l.length (fun i => alR wl t (atN l i) X G) (fun i => plR wl t (atN l i) G) X.jp) := by
 have key : ∃ r H', E.call (d + 9) lim 35 [stV t v w, lmV X, gv] H = some (r, H') ∧ ∃ pv K, r = .tuple #[pv, i64 (erA t wl l X G)] ∧ H' = H ++ K ∧ (erA t wl l X G ≠ 0 → pv = .pointer none) ∧
   (erA t wl l X G = 0 → ∃ b, pv = pB b ∧ GD (H ++ K) b l.length (fun i => alR wl t (atN l i) X G) (fun i => plR wl t (atN l i) G) X.jp) := by
  have k55 := fun (M : Heap) lim => c40 (d := d) (lim := lim) (t := t) (sp.app M) (s.app M) (q.app M) hwl hnm
  have k56 := fun lim hh => c46 (d := d + 6) (lim := lim) (h := hh) (L := X)
  have k57 := fun (M : Heap) lim => c41 (d := d + 6) (lim := lim) (p.app M)
  have hp : ∀ b, Heap.push H b = H ++ [some b] := fun _ => rfl
  refine full_ex fn35 rfl (by simp [ef35]) ?_
  by_cases q1 : (stE t wl l).2 = 0
  ·by_cases q2 : lmE X = 0
   ·by_cases q3 : ggE G = 0
    ·have er : erA t wl l X G = 0 := by unfold erA; rw [if_neg (by simpa using q1), if_neg (by simpa using q2), q3]
     rw [er]
     have O := StOk.of q1
     have few := O.few
     have rw' := q.rules2
     have rg := p.rules2
     have rs := s.rules2
     have gl : G.length ≤ 20 := (ggE_0 q3).2
     have w8 := O.w
     have g1 : (G.length : Int) ≤ 140737488355328 := by omega
     have g2 : 16 * (G.length : Int) ≤ 140737488355328 := by omega
     have g3 : (G.length : Int) ≤ 9223372036854775807 := by omega
     have g0 : (0 : Int) ≤ G.length := by omega
     have glim : ∀ k, lim ≤ H.length + k := fun k => by omega
     simp [ef35, hp, k55, k56, k57, q1, q2, q3, rw']
     refine wpC_loop (fun y st => I29 H gv w l.length t v X (fun i => alR wl t (atN l i) X G) (fun i => plR wl t (atN l i) G) y st) l.length (by show l.length < 2 ^ 64; omega) ?_ ?_
     ·simp [St.tidy]
      exact ⟨⟨0, _, fun _ => undef, fun _ => undef, .slice none 0 0, .slice none 0 0, 3, 4, by omega, by omega, ⟨rfl, rfl, rfl, OutS.nil, OutS.nil, by omega, by omega, by omega, fun j hj => by omega, fun j hj => by omega⟩, rfl⟩⟩
     ·rintro y hy _ ⟨i, L, as, ps, av, pv, ba, bp, rfl, hi, g, rfl⟩
      have ll := g.len
      have L0 : 0 < L.length := by omega
      have L1 : 1 < L.length := by omega
      have L2 : 2 < L.length := by omega
      have E0 := g.e0
      have E1 := g.e1
      have E2 := g.e2
      by_cases lt : i < l.length
      ·have lti : (i : Int) < l.length := by omega
       have w1' := w1 (i := i) (by omega)
       simp only [W] at w1'
       have U := O.u i lt
       have k58 := fun (M : Heap) lim => c75 (d := d + 2) (lim := lim) (t := t) (v := v) (sp.app M) (q.app M) O lt
       have pN := cN_part lt
       have k10 : i * 10 + 10 ≤ l.length * 10 := by omega
       obtain ⟨u, hu⟩ : ∃ u, u = atN l i := ⟨_, rfl⟩
       simp only [← hu] at U k58 pN
       simp only [encN] at pN
       simp [lt, lti, Nat.not_le.2 lt, rw', rg, pN, k10, k58, E0, E1, E2, lgetE E0, lgetE E1, lgetE E2, L0, L1, L2, lget_left, lget_right, lget_right0, lset_left, lset_right, lset_right0, g0, g1, g2, g3, zeros_R, zeros_B, maxLen, glim]
       have fl0 : fil false (alR wl t u X G) 0 = List.replicate G.length false := by rw [fil_0, alR_len]
       have fp0 : fil (0, 0) (plR wl t u G) 0 = List.replicate G.length ((0, 0) : XR) := by rw [fil_0, plR_len]
       refine wpC_loop (fun y st => I29i H gv w L.length l.length i G.length L u (fL u t) (fH u t) (alR wl t u X G) (plR wl t u G) y st) G.length (by show G.length < 2 ^ 64; omega) ?_ ?_
       ·simp [St.tidy]
        refine ⟨0, _, by omega, by omega, fun j hj => lget_left hj, by rw [lget_right0 rfl]; rfl, by rw [lget_right rfl]; rfl, by rw [lget_right rfl, fl0]; rfl, by rw [lget_right rfl, fp0]; rfl, rfl⟩
       ·rintro y hy _ ⟨k, M, rfl, hk, hold, eU, eF, eA, eP, rfl⟩
        have mU := lget_lt eU
        have mF := lget_lt eF
        have mA := lget_lt eA
        have mP := lget_lt eP
        have M0 : 0 < M.length := by omega
        have M1 : 1 < M.length := by omega
        have M2 : 2 < M.length := by omega
        have H0 := (hold 0 L0).trans E0
        have H1 := (hold 1 L1).trans E1
        have H2 := (hold 2 L2).trans E2
        by_cases lt2 : k < G.length
        ·have lti2 : (k : Int) < G.length := by omega
         have wk := w1 (i := k) (by omega)
         simp only [W] at wk
         have c1 := cI_gx lt2
         have Uf : FOk (fL u t) (fH u t) := by rw [hu]; exact (O.u i lt).f
         obtain ⟨c, hc⟩ : ∃ c, c = gx G k := ⟨_, rfl⟩
         rw [← hc] at c1
         have ka : k < (alR wl t u X G).length := by simpa using lt2
         have kp : k < (plR wl t u G).length := by simpa using lt2
         have gk : G[k] = c := by rw [hc]; simp [gx, lt2]
         have q0 : ∀ hh, (cI G)[k]'hh = i64 c := fun hh => by simp [cI, gk]
         have ra : (alR wl t u X G)[k] = alB wl t u X c := by simp [alR, gk]
         have rp : (plR wl t u G)[k] = plX wl t u c := by simp [plR, gk]
         have k59 := fun (M : Heap) lim => c76 (d := d + 4) (lim := lim) (s := (cor u c).sd) (s.app M) hwl hnm
         simp only [chkD, if_pos w8] at k59
         by_cases z : sErr wl (cor u c).sd = 0
         ·have Sx : SdOk wl (cor u c).sd := SdOk.of (by unfold chkD; rw [w8]; simpa using z)
          have k60 := fun (M : Heap) lim => c77 (d := d + 3) (lim := lim) (s.app M) Sx Uf
          have k61 := fun lim hh => c48 (d := d + 4) (lim := lim) (h := hh) (u := cor u c) (t := t) (L := X) Sx (show FOk (fL (cor u c) t) (fH (cor u c) t) from Uf)
          have ea : alB wl t u X c = kpB wl t (cor u c) X := by unfold alB; rw [z]; simp
          have ep : plX wl t u c = ten wl t (cor u c) := by unfold plX; rw [if_pos z]
          rw [z] at k59
          simp only [soV, sdV] at k59 k60 k61
          have e1 : fL (cor u c) t = fL u t := rfl
          have e2 : fH (cor u c) t = fH u t := rfl
          rw [e1, e2] at k61
          have fs1 := fil_step (z := false) ka
          have fs2 := fil_step (z := ((0, 0) : XR)) kp
          rw [ra, ea] at fs1
          rw [rp, ep] at fs2
          have cr := cR_set (l := fil (0, 0) (plR wl t u G) k) (k := k) (by rw [fil_len (by omega)]; exact kp) (ten wl t (cor u c))
          rw [fs2] at cr
          have cl1 : (cBl (fil false (alR wl t u X G) k)).length = G.length := by rw [cBl_len, fil_len (by omega), alR_len]
          have cl2 : (cS encR (fil (0, 0) (plR wl t u G) k)).length = G.length * 2 := by rw [cR_len, fil_len (by omega), plR_len]
          have k2 : k * 2 + 2 ≤ G.length * 2 := by omega
          unfold ten at cr
          rw [e1, e2] at cr
          have cl0 : (fil false (alR wl t u X G) k).length = G.length := by rw [fil_len (by omega), alR_len]
          have k1 : k + 1 ≤ G.length := by omega
          have nl : ¬ L.length + 1 = M.length := by omega
          simp only [cor] at k59 k60 k61 cr fs1
          simp [lt2, lti2, Nat.not_le.2 lt2, rg, c1, q0, wk, eU, eF, eA, eP, lgetE eU, lgetE eF, lgetE eA, lgetE eP, lgetE H0, lgetE H1, lgetE H2, mU, mF, mA, mP, M0, M1, M2, H0, H1, H2, lget_left, lget_right, lget_right0, lset_left, lset_right, lset_right0, encN, rs, glim, k59, k60, k61, cl0, cl1, cl2, k1, k2, nl, cBl_set, fs1, cr, St.tidy]
          refine ⟨G.length - (k + 1), by omega, ⟨k + 1, _, rfl, by omega, fun j hj => ?_, ?_, ?_, ?_, ?_, rfl⟩⟩
          ·rw [lget_left (by simp; omega), List.getElem?_set_ne (by omega), List.getElem?_set_ne (by omega)]; exact hold j hj
          ·rw [lget_left (by simp; omega), List.getElem?_set_ne (by omega), List.getElem?_set_ne (by omega)]; exact eU
          ·rw [lget_left (by simp; omega), List.getElem?_set_ne (by omega), List.getElem?_set_ne (by omega)]; exact eF
          ·rw [lget_left (by simp; omega), List.getElem?_set_ne (by omega), List.getElem?_set_self (by omega)]
          ·rw [lget_left (by simp; omega), List.getElem?_set_self (by simp; omega)]
         ·have ea : alB wl t u X c = false := by unfold alB; simp [z]
          have ep : plX wl t u c = (0, 0) := by unfold plX; rw [if_neg z]
          simp only [sdV, cor] at k59 z
          simp [lt2, lti2, Nat.not_le.2 lt2, rg, c1, q0, wk, eU, eF, eA, eP, lgetE eU, lgetE eF, lgetE eA, lgetE eP, lgetE H0, lgetE H1, lgetE H2, mU, mF, mA, mP, M0, M1, M2, H0, H1, H2, lget_left, lget_right, lget_right0, lset_left, lset_right, lset_right0, encN, rs, glim, k59, z, St.tidy]
          have fs1 := fil_same (z := false) ka (by rw [ra, ea])
          have fs2 := fil_same (z := ((0, 0) : XR)) kp (by rw [rp, ep])
          refine ⟨G.length - (k + 1), by omega, ⟨k + 1, _, rfl, by omega, fun j hj => ?_, ?_, ?_, ?_, ?_, rfl⟩⟩
          ·rw [lget_left (by omega)]; exact hold j hj
          ·rw [lget_left (by omega)]; exact eU
          ·rw [lget_left (by omega)]; exact eF
          ·rw [lget_left (by omega), fs1]; exact eA
          ·rw [lget_left (by omega), fs2]; exact eP
        ·obtain rfl : k = G.length := by omega
         have fa := fil_all (z := false) (l := alR wl t u X G)
         rw [alR_len] at fa
         have fp := fil_all (z := ((0, 0) : XR)) (l := plR wl t u G)
         rw [plR_len] at fp
         rw [fa] at eA
         rw [fp] at eP
         have ba3 := g.ba3
         have bp3 := g.bp3
         have ne := g.ne
         have oa : OutS H.length M ba av ((List.range i).map as) := g.oa.keep fun e => hold ba (g.oa.lt e)
         obtain ⟨xa, hxa⟩ : ∃ xa, xa = Value.slice (some ⟨H.length + (L.length + 2), 0, none⟩) G.length 1 := ⟨_, rfl⟩
         obtain ⟨xp, hxp⟩ : ∃ xp, xp = Value.slice (some ⟨H.length + (L.length + 3), 0, none⟩) G.length 2 := ⟨_, rfl⟩
         obtain ⟨o, o1, o2, o3, o4, o5⟩ := oa.appendT (bytes := 24) (x := xa) (by rw [hxa]; rfl) (by simp; omega) (by simp; omega)
         obtain ⟨M', hM'⟩ : ∃ M', M' = outM M ba ((List.range i).map as) ++ [some (Blk.mk [xa] true), some (Blk.mk ((List.range i).map as ++ [xa]) true)] := ⟨_, rfl⟩
         rw [← hM'] at o3
         have l1 : M'.length = M.length + 2 := by rw [hM']; simp
         have G1 : ∀ j, j < M.length → ((List.range i).map as ≠ [] → j ≠ ba) → M'[j]? = M[j]? := fun j hj hb => by
          rw [hM', lget_left (by simpa using hj)]
          by_cases z : (List.range i).map as = []
          ·rw [z, outM_nil]
          ·exact outM_ne (hb z)
         have op : OutS H.length M' bp pv ((List.range i).map ps) := (g.op.keep fun e => hold bp (g.op.lt e)).keep fun e => G1 bp (by have := g.op.lt e; omega) fun _ => ne.symm
         obtain ⟨o', p1, p2, p3, p4, p5⟩ := op.appendT (bytes := 24) (x := xp) (by rw [hxp]; rfl) (by simp; omega) (by simp; omega)
         obtain ⟨M2', hM2'⟩ : ∃ M2', M2' = outM M' bp ((List.range i).map ps) ++ [some (Blk.mk [xp] true), some (Blk.mk ((List.range i).map ps ++ [xp]) true)] := ⟨_, rfl⟩
         rw [← hM2'] at p3
         have l2 : M2'.length = M.length + 4 := by rw [hM2']; simp [l1]
         have G2 : ∀ j, j < M'.length → ((List.range i).map ps ≠ [] → j ≠ bp) → M2'[j]? = M'[j]? := fun j hj hb => by
          rw [hM2', lget_left (by simpa using hj)]
          by_cases z : (List.range i).map ps = []
          ·rw [z, outM_nil]
          ·exact outM_ne (hb z)
         have h12 : M'[2]? = some (some ⟨[av, pv, i64 X.jp], true⟩) := by rw [G1 2 M2 fun _ => by omega]; exact H2
         have h22 : M2'[2]? = some (some ⟨[av, pv, i64 X.jp], true⟩) := by rw [G2 2 (by omega) fun _ => by omega]; exact h12
         have n12 : 2 < M'.length := by omega
         have n22 : 2 < M2'.length := by omega
         subst hxa hxp
         simp only [List.length_map, List.length_range] at o2 p2
         rw [l1, Nat.add_assoc] at p2
         simp [-Eff.apply, -Eff.writes, eff_none, eff_push, eff_write, effw_none, effw_push, effw_write, fillL, zeros, mU, mF, mA, mP, M0, M1, M2, H0, H1, H2, lgetE H0, lgetE H1, lgetE H2, lget_left, lget_right, lget_right0, lset_left, lset_right, lset_right0, glim, KOp_eq, Log.clash, o1, o2, o3, o4, o5, p1, p2, p3, p4, p5, h12, h22, lgetE h12, lgetE h22, n12, n22, w1', St.tidy]
         refine ⟨fun _ => by omega, l.length - (i + 1), by omega, ⟨i + 1, _, updV as i (.slice (some ⟨H.length + (L.length + 2), 0, none⟩) G.length 1), updV ps i (.slice (some ⟨H.length + (L.length + 3), 0, none⟩) G.length 2), .slice (some ⟨H.length + (M.length + 1), 0, none⟩) (i + 1) 1, .slice (some ⟨H.length + (M.length + 3), 0, none⟩) (i + 1) 1, M.length + 1, M.length + 3, rfl, by omega, ?_, rfl⟩⟩
         obtain ⟨L', hL'⟩ : ∃ L', L' = M2'.set 2 (some (Blk.mk [.slice (some ⟨H.length + (M.length + 1), 0, none⟩) (i + 1) 1, .slice (some ⟨H.length + (M.length + 3), 0, none⟩) (i + 1) 1, i64 X.jp] true)) := ⟨_, rfl⟩
         rw [← hL']
         have FF : ∀ j, j < M.length → j ≠ 2 → ((List.range i).map as ≠ [] → j ≠ ba) → ((List.range i).map ps ≠ [] → j ≠ bp) → L'[j]? = M[j]? := fun j h1 h2 h3 h4 => by
          rw [hL', List.getElem?_set_ne (by omega), G2 j (by omega) h4, G1 j h1 h3]
         have la : (List.range i).map as ≠ [] → ba < L.length := g.oa.lt
         have lp : (List.range i).map ps ≠ [] → bp < L.length := g.op.lt
         have n1 : L'[M.length + 1]? = some (some ⟨(List.range i).map as ++ [.slice (some ⟨H.length + (L.length + 2), 0, none⟩) G.length 1], true⟩) := by
          rw [hL', List.getElem?_set_ne (by omega), G2 _ (by omega) fun e => by have := lp e; omega, hM', lget_right (by simp)]; rfl
         have n3 : L'[M.length + 3]? = some (some ⟨(List.range i).map ps ++ [.slice (some ⟨H.length + (L.length + 3), 0, none⟩) G.length 2], true⟩) := by
          rw [hL', List.getElem?_set_ne (by omega), hM2', show M.length + 3 = M'.length + 1 by omega, lget_right (by simp)]; rfl
         refine ⟨?_, ?_, ?_, ?_, ?_, by omega, by omega, by omega, fun j hj => ?_, fun j hj => ?_⟩
         ·rw [FF 0 M0 (by omega) (fun _ => by omega) (fun _ => by omega)]; exact H0
         ·rw [FF 1 M1 (by omega) (fun _ => by omega) (fun _ => by omega)]; exact H1
         ·rw [hL', List.getElem?_set_self n22]
         ·rw [updV_map]; exact OutS.mk n1 (by simp) (by simp)
         ·rw [updV_map]; exact OutS.mk n3 (by simp) (by simp)
         ·by_cases q : j = i
          ·subst q
           refine ⟨L.length + 2, by omega, by omega, by omega, ?_, ?_⟩
           ·simp [updV]
           ·rw [FF _ mA (by omega) (fun e => by have := la e; omega) (fun e => by have := lp e; omega), eA, hu]
          ·obtain ⟨c, c1, c2, c3, c4, c5⟩ := g.ra j (by omega)
           have lc := lget_lt c5
           refine ⟨c, c1, by omega, by omega, by simp [updV, q, c4], ?_⟩
           by_cases q2 : c = 2
           ·omega
           ·rw [FF c (by omega) q2 (fun _ => c2) (fun _ => c3), hold c lc, c5]
         ·by_cases q : j = i
          ·subst q
           refine ⟨L.length + 3, by omega, by omega, by omega, ?_, ?_⟩
           ·simp [updV]
           ·rw [FF _ mP (by omega) (fun e => by have := la e; omega) (fun e => by have := lp e; omega), eP, hu]
          ·obtain ⟨c, c1, c2, c3, c4, c5⟩ := g.rp j (by omega)
           have lc := lget_lt c5
           refine ⟨c, c1, by omega, by omega, by simp [updV, q, c4], ?_⟩
           by_cases q2 : c = 2
           ·omega
           ·rw [FF c (by omega) q2 (fun _ => c2) (fun _ => c3), hold c lc, c5]
      ·obtain rfl : i = l.length := by omega
       simp [St.tidy]
       exact g.gd rfl
    ·have er : erA t wl l X G = ggE G := by unfold erA; rw [if_neg (by simpa using q1), if_neg (by simpa using q2)]
     rw [er]
     simp [ef35, hp, k55, k56, k57, q1, q2, q3]
   ·have er : erA t wl l X G = lmE X := by unfold erA; rw [if_neg (by simpa using q1), if_pos q2]
    rw [er]
    simp [ef35, hp, k55, k56, k57, q1, q2]
  ·have er : erA t wl l X G = (stE t wl l).2 := by unfold erA; rw [if_pos q1]
   rw [er]
   simp [ef35, hp, k55, k56, k57, q1]
 obtain ⟨_, _, e, pv, K, rfl, rfl, h1, h2⟩ := key
 exact ⟨pv, K, e, h1, h2⟩
end R
end Go.Abs
namespace Go.Abs
namespace R
set_option maxRecDepth 100000
set_option maxHeartbeats 0
def ixR (r : List Bool) (k : Nat) : List Int := ((List.range k).filter (bx r)).map (fun (j : Nat) => (j : Int))
structure AJ (base l0 : Nat) (L M : List (Option Blk)) (c : Nat) (lv : Value) (cs : List Value) : Prop where
 old : ∀ j, j < l0 → M[j]? = L[j]?
 len : l0 ≤ M.length
 o : OutS base M c lv cs
 hc : cs ≠ [] → l0 ≤ c
theorem AJ.one {base l0 : Nat} {L M : List (Option Blk)} {c : Nat} {lv : Value} {cs : List Value} (a : AJ base l0 L M c lv cs) : Value.oneCell' lv = true := by
 have h := a.o
 unfold OutS at h
 split at h
 ·rw [h]; rfl
 ·rw [h.1]; rfl
theorem AJ.step {base l0 : Nat} {L M : List (Option Blk)} {c n : Nat} {lv x y : Value} {cs : List Value} (a : AJ base l0 L M c lv cs) (hn : n = cs.length + 1) :
  AJ base l0 L (outM M c cs ++ [some ⟨[y], true⟩, some ⟨cs ++ [x], true⟩]) (M.length + 1) (.slice (some ⟨base + (M.length + 1), 0, none⟩) n 1) (cs ++ [x]) := by
 have ln := a.len
 refine ⟨fun j hj => ?_, by simp; omega, OutS.after hn, fun _ => by omega⟩
 rw [lget_left (by simp; omega)]
 by_cases e : cs = []
 ·subst e; rw [outM_nil]; exact a.old j hj
 ·rw [outM_ne (by have := a.hc e; omega)]; exact a.old j hj
structure AI (base i : Nat) (L : List (Option Blk)) (R : Nat → List Int) (vs : Nat → Value) (ov : Value) (bo : Nat) : Prop where
 o : OutS base L bo ov ((List.range i).map vs)
 row : ∀ j, j < i → ∃ c, c ≠ bo ∧ OutS base L c (vs j) (cI (R j))
theorem AI.zero {base bo : Nat} {L : List (Option Blk)} {R : Nat → List Int} {vs : Nat → Value} : AI base 0 L R vs (.slice none 0 0) bo := ⟨OutS.nil, fun j hj => by omega⟩
theorem AI.step {base i : Nat} {L M : List (Option Blk)} {R : Nat → List Int} {vs : Nat → Value} {ov lv y : Value} {bo c n : Nat} (g : AI base i L R vs ov bo) (a : AJ base L.length L M c lv (cI (R i))) (hn : n = i + 1) :
  AI base (i + 1) (outM M bo ((List.range i).map vs) ++ [some ⟨[y], true⟩, some ⟨(List.range i).map vs ++ [lv], true⟩]) R (updV vs i lv) (.slice (some ⟨base + (M.length + 1), 0, none⟩) n 1) (M.length + 1) := by
 have ln := a.len
 refine ⟨by rw [updV_map]; exact OutS.after (by simp [hn]), fun j hj => ?_⟩
 have bl : (List.range i).map vs ≠ [] → bo < L.length := fun e => by
  have h := g.o
  unfold OutS at h
  rw [if_neg e] at h
  exact lget_lt h.2
 by_cases q : j = i
 ·subst q
  have e1 : updV vs j lv j = lv := by simp [updV]
  rw [e1]
  by_cases e : cI (R j) = []
  ·refine ⟨0, by omega, ?_⟩
   have h := a.o
   unfold OutS at h ⊢
   rw [if_pos e] at h ⊢
   exact h
  ·have h := a.o
   have hc := a.hc e
   have cl : c < M.length := by unfold OutS at h; rw [if_neg e] at h; exact lget_lt h.2
   refine ⟨c, by omega, h.keep fun _ => ?_⟩
   rw [lget_left (by simpa using cl)]
   by_cases z : (List.range j).map vs = []
   ·rw [z, outM_nil]
   ·rw [outM_ne (by have := bl z; omega)]
 ·obtain ⟨c, hc, h⟩ := g.row j (by omega)
  have e1 : updV vs i lv j = vs j := by simp [updV, q]
  rw [e1]
  by_cases e : cI (R j) = []
  ·refine ⟨0, by omega, ?_⟩
   unfold OutS at h ⊢
   rw [if_pos e] at h ⊢
   exact h
  ·have cl : c < L.length := by unfold OutS at h; rw [if_neg e] at h; exact lget_lt h.2
   refine ⟨c, by omega, h.keep fun _ => ?_⟩
   rw [lget_left (by simp; omega), outM_ne hc, a.old c cl]
theorem AI.nl {B : Heap} {n : Nat} {L : List (Option Blk)} {R : Nat → List Int} {vs : Nat → Value} {ov : Value} {bo : Nat} (g : AI B.length n L R vs ov bo) : NL (B ++ L) ov n vs R :=
 ⟨g.o.sl (by simp), fun i hi => by
  obtain ⟨c, _, h⟩ := g.row i hi
  exact h.sl (by simp)⟩
theorem NL.app {h : Heap} {v : Value} {n : Nat} {vs : Nat → Value} {f : Nat → List Int} (s : NL h v n vs f) (M : List (Option Blk)) : NL (h ++ M) v n vs f := ⟨s.sl.app M, fun i hi => (s.row i hi).app M⟩
theorem NL.frz {h : Heap} {v : Value} {n : Nat} {vs : Nat → Value} {f : Nat → List Int} (s : NL h v n vs f) : NL h.freeze v n vs f := ⟨Sl_freeze.2 s.sl, fun i hi => Sl_freeze.2 (s.row i hi)⟩
structure I9 (B : Heap) (av : Value) (n : Nat) (R : Nat → List Int) (q : Nat) (st : St) : Prop where
 ex : ∃ (i : Nat) (L : List (Option Blk)) (vs : Nat → Value) (ov : Value) (bo : Nat), q = n - i ∧ i ≤ n ∧ AI B.length i L R vs ov bo ∧ st = ⟨[(10, ov), (29, av), (30, i64 (n : Int)), (31, i64 (i : Int))], B ++ L⟩
structure I9i (B : Heap) (av ov rv : Value) (n i m : Nat) (L : List (Option Blk)) (r : List Bool) (q : Nat) (st : St) : Prop where
 ex : ∃ (k : Nat) (M : List (Option Blk)) (c : Nat) (lv : Value), q = m - k ∧ k ≤ m ∧ AJ B.length L.length L M c lv (cI (ixR r k)) ∧
  st = ⟨[(10, ov), (13, lv), (29, av), (30, i64 (n : Int)), (31, i64 (i : Int)), (35, rv), (36, i64 (m : Int)), (37, i64 (k : Int))], B ++ M⟩
end R
end Go.Abs
namespace Go.Abs
namespace R
set_option maxRecDepth 100000
set_option maxHeartbeats 0
structure I14 (B : Heap) (b0 n : Nat) (gv : Value) (R : Nat → List Int) (q : Nat) (st : St) : Prop where
 ex : ∃ (i : Nat) (L : List (Option Blk)) (vs : Nat → Value) (ov : Value) (bo : Nat), q = n - i ∧ i ≤ n ∧ AI B.length i L R vs ov bo ∧ st = ⟨[(2, gv), (3, pB b0), (4, pB (b0 + 1)), (7, ov), (8, i64 (i : Int))], B ++ L⟩
structure I14i (B : Heap) (b0 : Nat) (ov gv : Value) (i m : Nat) (L : List (Option Blk)) (r : List Bool) (q : Nat) (st : St) : Prop where
 ex : ∃ (k : Nat) (M : List (Option Blk)) (c : Nat) (lv : Value), q = m - k ∧ k ≤ m ∧ AJ B.length L.length L M c lv (cI (ixR r k)) ∧
  st = ⟨[(2, gv), (3, pB b0), (4, pB (b0 + 1)), (7, ov), (8, i64 (i : Int)), (9, lv), (10, i64 (k : Int))], B ++ M⟩
end R
end Go.Abs
