--
import Derived.Test.YtoloaempiiedgaaGreatDoorAbsQKM
set_option linter.unusedSimpArgs false
set_option linter.unusedVariables false
namespace Go.Abs
namespace Q
set_option maxRecDepth 100000
set_option maxHeartbeats 0
def potS (prev s : List Int) (a b : Nat) : List Int := s.set b (min (gx s b) (IntKind.wrap .i64 (gx prev a + gapV a b)))
def iniR (A : List Bool) (i : Nat) : List Int := A.map fun b => if b = true ∧ 0 < i then 1000000 else 0
def potR (A : Nat → List Bool) (P : Nat → List XR) (jp : Int) (m : Nat) : Nat → List Int
 | 0 => iniR (A 0) 0
 | i + 1 => runP (togB A P jp i) (fun _ _ _ => true) (potS (potR A P jp m i)) (prs m) (iniR (A (i + 1)) (i + 1))
end Q
end Go.Abs
namespace Go.Abs
namespace Q
set_option maxRecDepth 100000
set_option maxHeartbeats 0
structure PI (base i m : Nat) (L : List (Option Blk)) (R : Nat → List Int) (vs : Nat → Value) (ov : Value) (bo : Nat) : Prop where
 e0 : L[0]? = some (some ⟨[ov], true⟩)
 o : OutS base L bo ov ((List.range i).map vs)
 b1 : 1 ≤ bo
 row : ∀ j, j < i → ∃ c, 1 ≤ c ∧ c ≠ bo ∧ vs j = .slice (some ⟨base + c, 0, none⟩) m 1 ∧ L[c]? = some (some ⟨cI (R j), true⟩)
theorem PI.nl {H : Heap} {n m : Nat} {L : List (Option Blk)} {R : Nat → List Int} {vs : Nat → Value} {ov : Value} {bo : Nat} (g : PI H.length n m L R vs ov bo) (hR : ∀ i, i < n → (R i).length = m) : NL (H ++ L) ov n vs R :=
 ⟨g.o.sl (by simp), fun i hi => by
  obtain ⟨c, _, _, e, h⟩ := g.row i hi
  rw [e]
  have := Sl_one1 (h := H ++ L) (b := H.length + c) (n := m) (cs := cI (R i)) (rw := true) (by rw [hget_base rfl, h]; rfl) (by simp [hR i hi])
  rw [← hR i hi] at this ⊢; exact this⟩
structure I44 (H : Heap) (b n m : Nat) (av : Value) (R : Nat → List Int) (q : Nat) (st : St) : Prop where
 ex : ∃ (i : Nat) (L : List (Option Blk)) (vs : Nat → Value) (ov : Value) (bo : Nat), q = n - i ∧ i ≤ n ∧ PI H.length i m L R vs ov bo ∧ st = ⟨[(0, pB b), (3, pB H.length), (14, av), (15, i64 (n : Int)), (16, i64 (i : Int))], H ++ L⟩
structure I44i (H : Heap) (b n m i : Nat) (av rv : Value) (L : List (Option Blk)) (row : List Int) (q : Nat) (st : St) : Prop where
 ex : ∃ (k : Nat), q = m - k ∧ k ≤ m ∧
  st = ⟨[(0, pB b), (3, pB H.length), (4, pB (H.length + L.length)), (6, pB (H.length + (L.length + 2))), (14, av), (15, i64 (n : Int)), (16, i64 (i : Int)), (24, rv), (25, i64 (m : Int)), (26, i64 (k : Int))],
   H ++ (L ++ [some ⟨[i64 (i : Int)], true⟩, some ⟨cI (fil 0 row k), true⟩, some ⟨[.slice (some ⟨H.length + (L.length + 1), 0, none⟩) m 1], true⟩])⟩
theorem PI.step {base i m : Nat} {L L' : List (Option Blk)} {R : Nat → List Int} {vs : Nat → Value} {ov : Value} {bo n c' : Nat} (g : PI base i m L R vs ov bo) (h0 : L'[0]? = some (some ⟨[.slice (some ⟨base + (L.length + 4), 0, none⟩) n 1], true⟩)) (hn : n = i + 1) (hc : c' = L.length + 1)
  (old : ∀ j, j < L.length → j ≠ 0 → j ≠ bo → L'[j]? = L[j]?) (ho : L'[L.length + 4]? = some (some ⟨(List.range i).map vs ++ [.slice (some ⟨base + c', 0, none⟩) m 1], true⟩)) (hl : L'[c']? = some (some ⟨cI (R i), true⟩)) :
  PI base (i + 1) m L' R (updV vs i (.slice (some ⟨base + c', 0, none⟩) m 1)) (.slice (some ⟨base + (L.length + 4), 0, none⟩) n 1) (L.length + 4) := by
 subst hc
 refine ⟨h0, by rw [updV_map]; exact OutS.mk ho (by simp [hn]) (by simp), by omega, fun j hj => ?_⟩
 by_cases q : j = i
 ·subst q
  exact ⟨L.length + 1, by omega, by omega, by simp [updV], hl⟩
 ·obtain ⟨c, c1, c2, c3, c4⟩ := g.row j (by omega)
  have := lget_lt c4
  exact ⟨c, c1, by omega, by simp [updV, q, c3], by rw [old c this (by omega) c2, c4]⟩
end Q
end Go.Abs
namespace Go.Abs
namespace Q
set_option maxRecDepth 100000
theorem prs_mem {m : Nat} {q : Nat × Nat} : q ∈ prs m ↔ q.1 < m ∧ q.2 < m := by
 obtain ⟨a, b⟩ := q
 simp [prs]
def gp (a b : Nat) : Int := max ((a : Int) - b) ((b : Int) - a)
theorem gp_bd {a b m : Nat} (ha : a < m) (hb : b < m) : 0 ≤ gp a b ∧ gp a b < m := by unfold gp; omega
theorem gapV_gp {a b : Nat} (ha : a < 1000) (hb : b < 1000) : gapV a b = gp a b := by
 unfold gapV gp
 rw [wrap_eq (by omega) (by omega), wrap_eq (by omega) (by omega)]
section
variable {A : Nat → List Bool} {P : Nat → List XR} {jp : Int} {m n : Nat}
theorem tog_A {i a b : Nat} (h : togB A P jp i a b = true) : bx (A i) a = true ∧ bx (A (i + 1)) b = true := by
 unfold togB at h; simp only [Bool.and_eq_true] at h; exact ⟨h.1.1, h.1.2⟩
end
def cstS (prev : List Int) (tg : Nat → Nat → Bool) (g h : Nat) (y : Int) : Int := if 0 ≤ gx prev h ∧ tg h g = true then (if y < 0 ∨ gx prev h + gp g h < y then gx prev h + gp g h else y) else y
def cstH (prev : List Int) (tg : Nat → Nat → Bool) (g : Nat) : Nat → Int
 | 0 => -1
 | h + 1 => cstS prev tg g h (cstH prev tg g h)
def refRow (R : List Bool) (prev : List Int) (tg : Nat → Nat → Bool) (m i : Nat) : List Int := (List.range m).map fun g => if bx R g = true then (if i = 0 then 0 else cstH prev tg g m) else -1
def refC (A : Nat → List Bool) (tg : Nat → Nat → Nat → Bool) (m : Nat) : Nat → List Int
 | 0 => refRow (A 0) [] (fun _ _ => false) m 0
 | i + 1 => refRow (A (i + 1)) (refC A tg m i) (tg i) m (i + 1)
end Q
end Go.Abs
namespace Go.Abs
namespace Q
set_option maxRecDepth 100000
def fsN (p : Nat → Bool) (n i : Nat) : Nat := if i < n then (if p i = true then i else fsN p n (i + 1)) else n
termination_by n - i
theorem fsN_lt {p : Nat → Bool} {n i : Nat} (h : i < n) : fsN p n i = if p i = true then i else fsN p n (i + 1) := by rw [fsN, if_pos h]
theorem fsN_ge {p : Nat → Bool} {n i : Nat} (h : ¬ i < n) : fsN p n i = n := by rw [fsN, if_neg h]
theorem fsN_spec {p : Nat → Bool} {n : Nat} : ∀ (k i : Nat), n - i = k → i ≤ n → i ≤ fsN p n i ∧ fsN p n i ≤ n ∧ (fsN p n i < n → p (fsN p n i) = true) ∧ ∀ j, i ≤ j → j < fsN p n i → p j = false
 | 0, i, hk, hi => by rw [fsN_ge (by omega)]; exact ⟨hi, Nat.le_refl _, fun h => by omega, fun j h1 h2 => by omega⟩
 | k + 1, i, hk, hi => by
  rw [fsN_lt (by omega)]
  by_cases q : p i = true
  ·rw [if_pos q]; exact ⟨Nat.le_refl _, hi, fun _ => q, fun j h1 h2 => by omega⟩
  ·rw [if_neg q]
   obtain ⟨a, b, c, d⟩ := fsN_spec (p := p) (n := n) k (i + 1) (by omega) (by omega)
   refine ⟨by omega, b, c, fun j h1 h2 => ?_⟩
   by_cases z : j = i
   ·subst z; simpa using q
   ·exact d j (by omega) h2
def nxB (D D' : List Int) (tg : Nat → Nat → Bool) (b a : Nat) : Bool := tg a b && decide (IntKind.wrap .i64 (gx D a + gapV a b) = gx D' b)
def nxA (D D' : List Int) (tg : Nat → Nat → Bool) (m b : Nat) : Nat := if fsN (nxB D D' tg b) m 0 < m then fsN (nxB D D' tg b) m 0 else 0
section
variable {A : Nat → List Bool} {P : Nat → List XR} {jp : Int} {m n : Nat}
def pq (A : Nat → List Bool) (P : Nat → List XR) (jp : Int) (m n : Nat) : Nat → Nat
 | 0 => (lsI (A (n - 1)) (potR A P jp m (n - 1)) m).toNat
 | j + 1 => nxA (potR A P jp m (n - 2 - j)) (potR A P jp m (n - 1 - j)) (togB A P jp (n - 2 - j)) m (pq A P jp m n j)
def pg (A : Nat → List Bool) (P : Nat → List XR) (jp : Int) (m n i : Nat) : Nat := pq A P jp m n (n - 1 - i)
end
def pcE (A : Nat → List Bool) (tg : Nat → Nat → Nat → Bool) (m : Nat) (C : List Int) (i : Nat) (cost : Int) : Int × Int :=
 if i < C.length then
  if within (gx C i) 0 ((m : Int) - 1) = false then (0, 6)
  else if bx (A i) (gx C i).toNat = false then (0, 26)
  else if 0 < i ∧ tg (i - 1) (gx C (i - 1)).toNat (gx C i).toNat = false then (0, 13)
  else pcE A tg m C (i + 1) (if 0 < i then cost + gp (gx C (i - 1)).toNat (gx C i).toNat else cost)
 else (cost, 0)
termination_by C.length - i
theorem pcE_lt {A : Nat → List Bool} {tg : Nat → Nat → Nat → Bool} {m : Nat} {C : List Int} {i : Nat} {cost : Int} (h : i < C.length) : pcE A tg m C i cost =
  if within (gx C i) 0 ((m : Int) - 1) = false then (0, 6)
  else if bx (A i) (gx C i).toNat = false then (0, 26)
  else if 0 < i ∧ tg (i - 1) (gx C (i - 1)).toNat (gx C i).toNat = false then (0, 13)
  else pcE A tg m C (i + 1) (if 0 < i then cost + gp (gx C (i - 1)).toNat (gx C i).toNat else cost) := by rw [pcE, if_pos h]
theorem pcE_ge {A : Nat → List Bool} {tg : Nat → Nat → Nat → Bool} {m : Nat} {C : List Int} {i : Nat} {cost : Int} (h : ¬ i < C.length) : pcE A tg m C i cost = (cost, 0) := by rw [pcE, if_neg h]
structure PrvP (A : Nat → List Bool) (tg : Nat → Nat → Nat → Bool) (m n : Nat) (p : Nat → List Int) (bound : Int) : Prop where
 z : ∀ k, 0 < n → k < m → bx (A 0) k = true → gx (p 0) k ≤ 0
 l : ∀ k, 0 < n → k < m → bx (A (n - 1)) k = true → bound ≤ gx (p (n - 1)) k
 s : ∀ i a b, i + 1 < n → a < m → b < m → tg i a b = true → gx (p (i + 1)) b ≤ gx (p i) a + gp a b
end Q
end Go.Abs
namespace Go.Abs
namespace Q
set_option maxRecDepth 100000
set_option maxHeartbeats 0
theorem c69 {d lim b n m : Nat} {h : Heap} {A : Nat → List Bool} {P : Nat → List XR} {jp : Int} {cv : Value} {C : List Int} (g : GD h b n A P jp) (hn : n ≤ 1000) (ha : ∀ i, i < n → (A i).length = m) (hp : ∀ i, i < n → (P i).length = m) (hm : m ≤ 1000) (sc : SlI' h cv C) (hC : C.length ≤ n) :
  E.call (d + 3) lim 69 [pB b, cv] h = some (.tuple #[i64 (pcE A (togB A P jp) m C 0 0).1, i64 (pcE A (togB A P jp) m C 0 0).2], h) := by
 obtain ⟨av, pv, rw', as, ps, e, sa, sp, ra, rp⟩ := g.ex
 have ck := fun o => cell_get (o := o) e
 have hb := Heap.get_lt e
 have r := sc.rules2
 have so := sc.own
 have r1 := sa.rules2
 have k39 := fun lim hh a b c => c71 (d := d + 1) (lim := lim) (h := hh) (a := a) (b := b) (c := c)
 have wm : IntKind.wrap .i64 ((m : Int) - 1) = (m : Int) - 1 := wrap_eq (by omega) (by omega)
 have k47 := fun lim H a b => c79 (d := d + 1) (lim := lim) (h := H) (a := a) (b := b)
 refine call1 fn69 rfl (by simp [ef69]) ?_
 generalize hR : pcE A (togB A P jp) m C 0 0 = R
 simp [ef69, r]
 refine wpC_loop (fun q st => ∃ (i : Nat) (cost : Int), q = C.length - i ∧ i ≤ C.length ∧ 0 ≤ cost ∧ cost ≤ 1000 * i ∧ pcE A (togB A P jp) m C i cost = R ∧ (∀ j, j < i → ∃ x : Nat, gx C j = x ∧ x < m) ∧
  st = ⟨[(0, pB b), (1, cv), (6, i64 cost), (9, cv), (10, i64 (C.length : Int)), (11, i64 (i : Int))], h.freeze⟩) C.length (by show C.length < 2 ^ 64; omega) ?_ ?_
 ·simp [St.tidy, r, so, hb]
  exact ⟨0, by omega, by omega, 0, by omega, by omega, hR, fun j hj => by omega, rfl, rfl⟩
 ·rintro q hq _ ⟨i, cost, rfl, hi, hc0, hc1, hc, hx, rfl⟩
  by_cases lt : i < C.length
  ·have lti : (i : Int) < C.length := by omega
   have i1 : i < n := by omega
   have li : (i : Int) < n := by omega
   have w1' := w1 (i := i) (by omega)
   simp only [W] at w1'
   have cc := cI_gx lt
   have q0 : ∀ hh, (cI C)[i]'hh = i64 (gx C i) := fun hh => by simp [cI, gx, List.getD_eq_getElem?_getD, List.getElem?_eq_getElem lt]
   have a1 := as_get as i1
   have r3 := (ra i i1).rules2
   rw [ha i i1] at r3
   rw [pcE_lt lt] at hc
   rcases q1 : within (gx C i) 0 ((m : Int) - 1) with _ | _
   ·rw [if_pos q1] at hc
    subst hc
    simp [lt, lti, Nat.not_le.2 lt, r, r1, r3, ck, a1, li, i1, q0, cc, k39, wm, q1]
   ·rw [if_neg (by rw [q1]; decide)] at hc
    have wi : 0 ≤ gx C i ∧ gx C i ≤ (m : Int) - 1 := by unfold within at q1; exact of_decide_eq_true q1
    obtain ⟨x, ex⟩ := Int.eq_ofNat_of_zero_le wi.1
    have xm : x < m := by omega
    have xmi : (x : Int) < m := by omega
    rw [ex] at hc q0 cc q1
    simp only [Int.ofNat_eq_natCast, Int.toNat_natCast] at hc q0 cc q1
    have b1 := cBl_bx (l := A i) (k := x) (by rw [ha i i1]; exact xm)
    rcases q2 : bx (A i) x with _ | _
    ·rw [if_pos q2] at hc
     rw [q2] at b1
     subst hc
     simp [lt, lti, Nat.not_le.2 lt, r, r1, r3, ck, a1, li, i1, q0, cc, k39, wm, q1, b1, xm, xmi]
    ·rw [if_neg (by rw [q2]; decide)] at hc
     rw [q2] at b1
     rcases Nat.eq_zero_or_pos i with z | z
     ·have zi : ¬ (0 : Int) < i := by omega
      have zn : ¬ 0 < i := by omega
      rw [if_neg (by omega), if_neg (by omega)] at hc
      simp [lt, lti, Nat.not_le.2 lt, r, r1, r3, ck, a1, li, i1, q0, cc, k39, wm, q1, b1, xm, xmi, w1', zi, zn, St.tidy, so, hb]
      exact ⟨C.length - (i + 1), by omega, i + 1, rfl, by omega, cost, by omega, by omega, hc, fun j hj => by
       by_cases e : j = i
       ·subst e; exact ⟨x, ex, xm⟩
       ·exact hx j (by omega), rfl, by omega⟩
     ·have zi : (0 : Int) < i := by omega
      have wi := w1s z (by omega)
      obtain ⟨y, ey, ym⟩ := hx (i - 1) (by omega)
      have ipl : ((i - 1 : Nat) : Int) < C.length := by omega
      have ipn : i - 1 < C.length := by omega
      have cp := cI_gx ipn
      have qp : ∀ hh, (cI C)[i - 1]'hh = i64 (gx C (i - 1)) := fun hh => by simp [cI, gx, List.getD_eq_getElem?_getD, List.getElem?_eq_getElem ipn]
      rw [ey] at hc qp cp
      simp only [Int.toNat_natCast] at hc
      have k46 := fun lim => c78 (d := d) (lim := lim) (i := i - 1) (x := y) (y := x) g.frz hn (by omega) ha hp ym xm
      have gb := gp_bd ym xm
      have wc : IntKind.wrap .i64 (cost + gp y x) = cost + gp y x := wrap_eq (by omega) (by omega)
      have gv := gapV_gp (a := y) (b := x) (by omega) (by omega)
      generalize i - 1 = j at *
      rcases q3 : togB A P jp j y x with _ | _
      ·rw [if_pos ⟨z, q3⟩] at hc
       rw [q3] at k46
       subst hc
       simp [lt, lti, Nat.not_le.2 lt, r, r1, r3, ck, a1, li, i1, q0, cc, k39, wm, q1, b1, xm, xmi, z, zi, wi, ipl, ipn, cp, qp, k46]
      ·rw [if_neg (by rw [q3]; simp), if_pos z] at hc
       rw [q3] at k46
       simp [lt, lti, Nat.not_le.2 lt, r, r1, r3, ck, a1, li, i1, q0, cc, k39, wm, q1, b1, xm, xmi, z, zi, wi, ipl, ipn, cp, qp, k46, k47, gv, wc, w1', St.tidy, so, hb]
       exact ⟨C.length - (i + 1), by omega, i + 1, rfl, by omega, cost + gp y x, by omega, by omega, hc, fun j hj => by
        by_cases e : j = i
        ·subst e; exact ⟨x, ex, xm⟩
        ·exact hx j (by omega), rfl, by omega⟩
  ·obtain rfl : i = C.length := by omega
   rw [pcE_ge (by omega)] at hc
   subst hc
   simp [r]
end Q
end Go.Abs
