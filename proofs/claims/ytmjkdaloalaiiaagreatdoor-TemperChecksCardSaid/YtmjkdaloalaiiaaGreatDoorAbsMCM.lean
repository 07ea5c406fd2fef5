--
import Derived.Test.YtmjkdaloalaiiaaGreatDoorAbsMBN
import Derived.Test.YtmjkdaloalaiiaaGreatDoorAbsWpM
import Derived.Laws.Strings
set_option linter.unusedSimpArgs false
set_option linter.unusedVariables false
namespace Go.Abs
namespace M
set_option maxRecDepth 100000
set_option maxHeartbeats 0
abbrev X3 := Int × Int × Int
abbrev e3 (x : X3) : List Value := [i64 x.1, i64 x.2.1, i64 x.2.2]
abbrev v3 (x : X3) : Value := .agg #[i64 x.1, i64 x.2.1, i64 x.2.2]
abbrev W (n : Int) : Int := IntKind.wrap .i64 n
def plusX (a : X3) (n : Int) (b : X3) : X3 := (W (a.1 + W (n * b.1)), W (a.2.1 + W (n * b.2.1)), W (a.2.2 + W (n * b.2.2)))
def octX : X3 := (12, 0, 0)
def fifX (p s : Int) : X3 := (W (W (-12 + W (19 * p)) + W (4 * s)), W (W (12 - W (12 * p)) - W (4 * s)), s)
def accX (P S : Nat → Int) : Nat → X3
 | 0 => (0, 0, 0)
 | i + 1 => plusX (accX P S i) 1 (fifX (P i) (S i))
def reaX (P S : Nat → Int) (i : Nat) : X3 := plusX (accX P S i) (-((7 * i / 12 : Nat) : Int)) octX
def clsX (P S : Nat → Int) (k : Nat) : X3 := reaX P S (7 * k % 12)
theorem c49 {d lim : Nat} {h : Heap} {x y : X3} {n : Int} : E.call (d + 1) lim 49 [v3 x, v3 y, i64 n] h = some (v3 (plusX x n y), h) := by
 obtain ⟨a, b, c⟩ := x; obtain ⟨a', b', c'⟩ := y
 refine call1 fn49 rfl (by simp [ef49]) ?_
 simp [ef49, wpC_unroll, wpI_step, E_fuel, St.tidy, plusX]
theorem c68 {d lim : Nat} {h : Heap} {x y : X3} {n : Int} : E.call (d + 1) lim 68 [v3 x, i64 n, v3 y] h = some (v3 (plusX x n y), h) := by
 obtain ⟨a, b, c⟩ := x; obtain ⟨a', b', c'⟩ := y
 refine call1 fn68 rfl (by simp [ef68]) ?_
 simp [ef68, wpC_unroll, wpI_step, E_fuel, St.tidy, plusX]
theorem c50 {d lim : Nat} {h : Heap} : E.call (d + 1) lim 50 [] h = some (v3 octX, h) := by
 refine call1 fn50 rfl (by simp [ef50]) ?_
 simp [ef50, octX]
theorem c70 {d lim : Nat} {h : Heap} : E.call (d + 1) lim 70 [] h = some (v3 octX, h) := by
 refine call1 fn70 rfl (by simp [ef70]) ?_
 simp [ef70, octX]
def isNote (n : Int) : Bool := within n 0 87
def isFork (n : Int) : Bool := within n 1 1000000
theorem c52 {d lim : Nat} {h : Heap} {n : Int} : E.call (d + 1) lim 52 [i64 n] h = some (.bool (isNote n), h) := by
 refine call1 fn52 rfl (by simp [ef52]) ?_
 simp [ef52, isNote, within]
 grind
theorem c36 {d lim : Nat} {h : Heap} {n : Int} : E.call (d + 1) lim 36 [i64 n] h = some (.bool (isFork n), h) := by
 refine call1 fn36 rfl (by simp [ef36]) ?_
 simp [ef36, isFork, within]
 grind
theorem wN {n : Nat} (h : n < 1000000) : W (n : Int) = n := by unfold W; rw [wrap_eq (by omega) (by omega)]
theorem qmN {n m : Nat} : qmod (n : Int) (m : Int) = ((n % m : Nat) : Int) := by unfold qmod; rw [Int.tmod_eq_emod_of_nonneg (by omega)]; rfl
theorem qdN {n m : Nat} : qdiv (n : Int) (m : Int) = ((n / m : Nat) : Int) := by unfold qdiv; rw [Int.tdiv_eq_ediv_of_nonneg (by omega)]; rfl
theorem qm12 {n : Nat} : qmod (n : Int) 12 = ((n % 12 : Nat) : Int) := qmN (m := 12)
theorem qd12 {n : Nat} : qdiv (n : Int) 12 = ((n / 12 : Nat) : Int) := qdN (m := 12)
theorem c90 {d lim : Nat} {h : Heap} {n : Nat} : E.call (d + 1) lim 90 [i64 n, i64 12] h = some (i64 ((n % 12 : Nat) : Int), h) := by
 refine call1 fn90 rfl (by simp [ef90]) ?_
 have h1 : ¬ ((n % 12 : Nat) : Int) < 0 := by omega
 simp only [ef90]
 simp [qm12]
 omega
theorem c67 {d lim : Nat} {h : Heap} {n : Nat} (hn : n < 1000) : E.call (d + 2) lim 67 [i64 n] h = some (i64 ((7 * n % 12 : Nat) : Int), h) := by
 refine call1 fn67 rfl (by simp [ef67]) ?_
 have e : W (7 * (n : Int)) = ((7 * n : Nat) : Int) := by rw [← wN (n := 7 * n) (by omega)]; rfl
 simp only [W] at e
 generalize 7 * n = m at *
 have k := fun lim hh => @c90 d lim hh m
 simp [ef67, e, k]
structure Tm (C : List Value) (nm : ByteArray) (P S : Nat → Int) : Prop where
 len : C.length = 25
 name : C[0]? = some (.string nm)
 p : ∀ i, i < 12 → C[1 + i]? = some (i64 (P i))
 s : ∀ i, i < 12 → C[13 + i]? = some (i64 (S i))
theorem Tm.take {C : List Value} {nm : ByteArray} {P S : Nat → Int} (t : Tm C nm P S) : C.take 25 = C := List.take_of_length_le (by rw [t.len]; exact Nat.le_refl 25)
theorem Tm.plain {C : List Value} {nm : ByteArray} {P S : Nat → Int} (t : Tm C nm P S) : C.all plainV = true := by
 rw [List.all_eq_true]
 intro x hx
 obtain ⟨i, hi, rfl⟩ := List.getElem_of_mem hx
 have hl := t.len
 rcases Nat.eq_zero_or_pos i with z | z
 ·subst z
  have := t.name
  rw [List.getElem?_eq_getElem hi] at this
  rw [Option.some.inj this]; rfl
 ·by_cases q : i < 13
  ·have := t.p (i - 1) (by omega)
   have e : 1 + (i - 1) = i := by omega
   rw [e, List.getElem?_eq_getElem hi] at this
   rw [Option.some.inj this]; rfl
  ·have := t.s (i - 13) (by omega)
   have e : 13 + (i - 13) = i := by omega
   rw [e, List.getElem?_eq_getElem hi] at this
   rw [Option.some.inj this]; rfl
theorem c69 {d lim : Nat} {h : Heap} {C : List Value} {nm : ByteArray} {P S : Nat → Int} {n : Nat} (t : Tm C nm P S) : E.call (d + 2) lim 69 [.agg C.toArray, i64 n] h = some (v3 (fifX (P (n % 12)) (S (n % 12))), h) := by
 refine call1 fn69 rfl (by simp [ef69]) ?_
 have k := fun lim hh => @c90 d lim hh n
 have h1 : (0 : Int) ≤ ((n % 12 : Nat) : Int) := by omega
 have h2 : ((n % 12 : Nat) : Int) < 12 := by omega
 have p := t.p (n % 12) (by omega)
 have s := t.s (n % 12) (by omega)
 generalize n % 12 = m at *
 simp [ef69, k, h1, h2, p, s, fifX]
theorem octN {m : Nat} (h : m < 12) : W (-W (qdiv (W (7 * (m : Int))) 12)) = -((7 * m / 12 : Nat) : Int) := by
 have e : W (7 * (m : Int)) = ((7 * m : Nat) : Int) := by rw [← wN (n := 7 * m) (by omega)]; rfl
 rw [e, qd12, wN (by omega)]; unfold W; rw [wrap_eq (by omega) (by omega)]
theorem w1 {i : Nat} (h : i < 1000000) : W ((i : Int) + 1) = ((i + 1 : Nat) : Int) := by unfold W; rw [wrap_eq (by omega) (by omega)]; rfl
theorem c47 {d lim : Nat} {h : Heap} {C : List Value} {nm : ByteArray} {P S : Nat → Int} {k : Nat} (t : Tm C nm P S) (hk : k < 12) : E.call (d + 3) lim 47 [.agg C.toArray, i64 k] h = some (v3 (clsX P S k), h) := by
 refine call1 fn47 rfl (by simp [ef47]) ?_
 have k104 := fun lim hh => @c67 d lim hh k (by omega)
 have k46 := fun lim hh n => @c69 d lim hh C nm P S n t
 have hm : 7 * k % 12 < 12 := by omega
 have hcls : clsX P S k = reaX P S (7 * k % 12) := rfl
 rw [hcls]
 generalize 7 * k % 12 = m at *
 have oN := octN hm
 simp only [W] at oN
 simp [ef47, k104]
 refine wpC_loop (fun q st => ∃ i, q = m - i ∧ i ≤ m ∧ st = ⟨[(2, .pointer (some ⟨h.length, 0, none⟩)), (4, .pointer (some ⟨h.length + 1, 0, none⟩)), (5, i64 m), (6, .pointer (some ⟨h.length + 2, 0, none⟩)), (7, i64 i)],
  h.freeze ++ [some ⟨C, true⟩, some ⟨[i64 0, i64 0, i64 0], true⟩, some ⟨e3 (accX P S i), true⟩]⟩) m (by show m < 2 ^ 64; omega) ?_ ?_
 ·simp [St.tidy, t.plain]
  refine ⟨0, by omega, by omega, by simp [accX]⟩
 ·rintro q hq _ ⟨i, rfl, hi, rfl⟩
  by_cases hlt : i < m
  ·have w1' := w1 (i := i) (by omega)
   simp only [W] at w1'
   have i12 : i % 12 = i := Nat.mod_eq_of_lt (by omega)
   have k46' := fun lim hh => k46 lim hh i
   rw [i12] at k46'
   have hc : plusX (accX P S i) 1 (fifX (P i) (S i)) = accX P S (i + 1) := rfl
   simp [hlt, t.len, t.take, t.plain, k46', c68, hc, w1', St.tidy]
   exact ⟨m - (i + 1), by omega, i + 1, rfl, by omega, rfl, rfl, rfl, rfl⟩
  ·have e : i = m := by omega
   subst e
   simp [c70, c68, oN, reaX]
end M
end Go.Abs
namespace Go.Abs
namespace M
set_option maxRecDepth 100000
set_option maxHeartbeats 0
def circK (P S : Nat → Int) : List Value := (List.range 12).flatMap (fun i => e3 (fifX (P i) (S i))) ++ (List.range 12).flatMap (fun k => e3 (clsX P S k))
def c3 (x : X3) (m : Nat) : Int := if m = 0 then x.1 else if m = 1 then x.2.1 else x.2.2
structure Cir (K : List Value) (P S : Nat → Int) (i : Nat) : Prop where
 len : K.length = 72
 fif : ∀ j, j < i → ∀ m, m < 3 → K[j * 3 + m]? = some (i64 (c3 (fifX (P j) (S j)) m))
 cls : ∀ j, j < i → ∀ m, m < 3 → K[36 + (7 * j % 12) * 3 + m]? = some (i64 (c3 (reaX P S j) m))
theorem flat_get {f : Nat → List Value} (hf : ∀ i, (f i).length = 3) : ∀ (n a j m : Nat), j < n → m < 3 → ((List.range' a n).flatMap f)[j * 3 + m]? = (f (a + j))[m]?
 | 0, a, j, m, h, _ => by omega
 | n + 1, a, j, m, h, hm => by
  rw [List.range'_succ, List.flatMap_cons]
  match j with
  | 0 => rw [List.getElem?_append_left (by rw [hf]; omega)]; simp
  | j + 1 =>
   rw [List.getElem?_append_right (by rw [hf]; omega), hf]
   have e : (j + 1) * 3 + m - 3 = j * 3 + m := by omega
   rw [e, flat_get hf n (a + 1) j m (by omega) hm]
   congr 2; omega
theorem flat_len {f : Nat → List Value} (hf : ∀ i, (f i).length = 3) : ∀ (n a : Nat), ((List.range' a n).flatMap f).length = n * 3
 | 0, a => by simp
 | n + 1, a => by rw [List.range'_succ, List.flatMap_cons, List.length_append, hf, flat_len hf n]; omega
theorem e3_get (x : X3) {m : Nat} (h : m < 3) : (e3 x)[m]? = some (i64 (c3 x m)) := by
 match m, h with
 | 0, _ => rfl
 | 1, _ => rfl
 | 2, _ => rfl
theorem circK_len (P S : Nat → Int) : (circK P S).length = 72 := by
 unfold circK
 rw [List.range_eq_range', List.length_append, flat_len (fun i => rfl), flat_len (fun i => rfl)]
theorem circK_fif (P S : Nat → Int) {j m : Nat} (hj : j < 12) (hm : m < 3) : (circK P S)[j * 3 + m]? = some (i64 (c3 (fifX (P j) (S j)) m)) := by
 unfold circK
 rw [List.range_eq_range', List.getElem?_append_left (by rw [flat_len (fun i => rfl)]; omega), flat_get (fun i => rfl) _ _ _ _ hj hm, Nat.zero_add, e3_get _ hm]
theorem circK_cls (P S : Nat → Int) {k m : Nat} (hk : k < 12) (hm : m < 3) : (circK P S)[36 + k * 3 + m]? = some (i64 (c3 (clsX P S k) m)) := by
 unfold circK
 rw [List.range_eq_range', List.getElem?_append_right (by rw [flat_len (fun i => rfl)]; omega), flat_len (fun i => rfl)]
 have e : 36 + k * 3 + m - 12 * 3 = k * 3 + m := by omega
 rw [e, flat_get (fun i => rfl) _ _ _ _ hk hm, Nat.zero_add, e3_get _ hm]
theorem Cir.eq {K : List Value} {P S : Nat → Int} (c : Cir K P S 12) : K = circK P S := by
 apply List.ext_getElem?
 intro n
 by_cases h : n < 72
 ·by_cases q : n < 36
  ·have := c.fif (n / 3) (by omega) (n % 3) (by omega)
   have e : n / 3 * 3 + n % 3 = n := by omega
   have f := circK_fif P S (j := n / 3) (m := n % 3) (by omega) (by omega)
   rw [e] at this f; rw [this, f]
  ·obtain ⟨k, hk⟩ : ∃ k, k = (n - 36) / 3 := ⟨_, rfl⟩
   have hk12 : k < 12 := by omega
   have := c.cls (7 * k % 12) (by omega) ((n - 36) % 3) (by omega)
   have e : 7 * (7 * k % 12) % 12 = k := by omega
   have e2 : 36 + k * 3 + (n - 36) % 3 = n := by omega
   have f := circK_cls P S (k := k) (m := (n - 36) % 3) hk12 (by omega)
   rw [e, e2] at this; rw [e2] at f; rw [this, f]; rfl
 ·rw [List.getElem?_eq_none (by rw [c.len]; omega), List.getElem?_eq_none (by rw [circK_len]; omega)]
theorem set3_get {K : List Value} {o n : Nat} {x : X3} (h : o + 3 ≤ K.length) : (((K.set o (i64 x.1)).set (o + 1) (i64 x.2.1)).set (o + 2) (i64 x.2.2))[n]? = if o ≤ n ∧ n < o + 3 then some (i64 (c3 x (n - o))) else K[n]? := by
 by_cases q : o ≤ n ∧ n < o + 3
 ·rw [if_pos q]
  obtain ⟨m, rfl⟩ : ∃ m, n = o + m := ⟨n - o, by omega⟩
  have e : o + m - o = m := by omega
  rw [e]
  match m, q with
  | 0, _ => rw [List.getElem?_set_ne (by omega), List.getElem?_set_ne (by omega), Nat.add_zero, List.getElem?_set_self (by omega)]; rfl
  | 1, _ => rw [List.getElem?_set_ne (by omega), List.getElem?_set_self (by simp; omega)]; rfl
  | 2, _ => rw [List.getElem?_set_self (by simp; omega)]; rfl
  | m + 3, q => omega
 ·rw [if_neg q, List.getElem?_set_ne (by omega), List.getElem?_set_ne (by omega), List.getElem?_set_ne (by omega)]
theorem Cir.next {K : List Value} {P S : Nat → Int} {i : Nat} (c : Cir K P S i) (hi : i < 12) {x y : X3} (hx : x = fifX (P i) (S i)) (hy : y = reaX P S i) :
  Cir (((((((K.set (i * 3) (i64 x.1)).set (i * 3 + 1) (i64 x.2.1)).set (i * 3 + 2) (i64 x.2.2)).set (36 + 7 * i % 12 * 3) (i64 y.1)).set (36 + 7 * i % 12 * 3 + 1) (i64 y.2.1)).set (36 + 7 * i % 12 * 3 + 2) (i64 y.2.2))) P S (i + 1) := by
 have hl := c.len
 obtain ⟨r, hr⟩ : ∃ r, r = 7 * i % 12 := ⟨_, rfl⟩
 have hr12 : r < 12 := by omega
 rw [← hr]
 have g : ∀ n, ((((((K.set (i * 3) (i64 x.1)).set (i * 3 + 1) (i64 x.2.1)).set (i * 3 + 2) (i64 x.2.2)).set (36 + r * 3) (i64 y.1)).set (36 + r * 3 + 1) (i64 y.2.1)).set (36 + r * 3 + 2) (i64 y.2.2))[n]? =
   if 36 + r * 3 ≤ n ∧ n < 36 + r * 3 + 3 then some (i64 (c3 y (n - (36 + r * 3)))) else if i * 3 ≤ n ∧ n < i * 3 + 3 then some (i64 (c3 x (n - i * 3))) else K[n]? := fun n => by
  rw [set3_get (by simp; omega), set3_get (by omega)]
 refine ⟨by simp [hl], fun j hj m hm => ?_, fun j hj m hm => ?_⟩
 ·rw [g, if_neg (by omega)]
  by_cases e : j = i
  ·subst e
   rw [if_pos (by omega), hx]; congr 3; omega
  ·rw [if_neg (by omega)]; exact c.fif j (by omega) m hm
 ·rw [g]
  by_cases e : j = i
  ·subst e
   rw [if_pos (by omega), hy, hr]; congr 3; omega
  ·rw [if_neg (by omega), if_neg (by omega)]; exact c.cls j (by omega) m hm
theorem set6_part {K : List Value} {i r : Nat} (hl : K.length = 72) (hi : i < 12) (a b c x y z : Value) :
  List.take 3 (List.drop (i * 3) ((((((K.set (i * 3) a).set (i * 3 + 1) b).set (i * 3 + 1 + 1) c).set (36 + r * 3) x).set (36 + r * 3 + 1) y).set (36 + r * 3 + 1 + 1) z)) = [a, b, c] := by
 apply List.ext_getElem?
 intro n
 by_cases h : n < 3
 ·rw [List.getElem?_take, if_pos h, List.getElem?_drop, List.getElem?_set_ne (by omega), List.getElem?_set_ne (by omega), List.getElem?_set_ne (by omega)]
  match n, h with
  | 0, _ => rw [List.getElem?_set_ne (by omega), List.getElem?_set_ne (by omega), Nat.add_zero, List.getElem?_set_self (by omega)]; rfl
  | 1, _ => rw [List.getElem?_set_ne (by omega), List.getElem?_set_self (by simp [hl]; omega)]; rfl
  | 2, _ => rw [List.getElem?_set_self (by simp [hl]; omega)]; rfl
 ·rw [List.getElem?_take, if_neg h, List.getElem?_eq_none (by simp; omega)]
theorem all_set {l : List Value} (h : l.all plainV = true) (i : Nat) {v : Value} (hv : plainV v = true) : (l.set i v).all plainV = true := by
 rw [List.all_eq_true] at h ⊢
 intro x hx
 rcases List.mem_or_eq_of_mem_set hx with q | q
 ·exact h x q
 ·rw [q]; exact hv
theorem Cir.plain {K : List Value} {P S : Nat → Int} (h : K = circK P S) : K.all plainV = true := by
 subst h; unfold circK
 rw [List.all_eq_true]
 intro x hx
 rw [List.mem_append, List.mem_flatMap, List.mem_flatMap] at hx
 rcases hx with ⟨i, _, hx⟩ | ⟨i, _, hx⟩
 ·simp at hx; rcases hx with rfl | rfl | rfl <;> rfl
 ·simp at hx; rcases hx with rfl | rfl | rfl <;> rfl
theorem c30 {d lim : Nat} {h : Heap} {C : List Value} {nm : ByteArray} {P S : Nat → Int} (t : Tm C nm P S) : E.call (d + 2) lim 30 [.agg C.toArray] h = some (.pointer (some ⟨h.length, 0, none⟩), h ++ [some ⟨circK P S, true⟩]) := by
 refine call_pure fn30 rfl (by simp [ef30]) ?_
 simp [ef30]
 refine wpC_loop (fun q st => ∃ i K, q = 12 - i ∧ i ≤ 12 ∧ Cir K P S i ∧ K.all plainV = true ∧ st = ⟨[(1, .pointer (some ⟨h.length, 0, none⟩)), (3, .pointer (some ⟨h.length + 1, 0, none⟩)), (4, .pointer (some ⟨h.length + 2, 0, none⟩)), (8, i64 (i : Nat))],
  h.freeze ++ [some ⟨C, true⟩, some ⟨K, true⟩, some ⟨e3 (accX P S i), true⟩]⟩) 12 (by show 12 < 2 ^ 64; decide) ?_ ?_
 ·simp [St.tidy, t.plain]
  refine ⟨0, by omega, by omega, List.replicate 72 (i64 0), ⟨by simp, fun j hj => by omega, fun j hj => by omega⟩, by simp, ?_⟩
  exact ⟨rfl, rfl, rfl, rfl, rfl⟩
 ·rintro q hq _ ⟨i, K, rfl, hi, hc, hp, rfl⟩
  by_cases hlt : i < 12
  ·have p := t.p i hlt
   have s := t.s i hlt
   have w1' := w1 (i := i) (by omega)
   have oN := octN hlt
   have m7 : W (7 * (i : Int)) = ((7 * i : Nat) : Int) := by rw [← wN (n := 7 * i) (by omega)]; rfl
   simp only [W] at w1' oN m7
   have q12 : qmod (7 * (i : Int)) 12 = ((7 * i % 12 : Nat) : Int) := qm12 (n := 7 * i)
   have oN' : IntKind.wrap .i64 (-IntKind.wrap .i64 (qdiv (7 * (i : Int)) 12)) = -((7 * i / 12 : Nat) : Int) := by rw [← oN, m7]; rfl
   have m7' : IntKind.wrap .i64 (7 * (i : Int)) = 7 * (i : Int) := by rw [m7]; rfl
   have nx := hc.next (x := fifX (P i) (S i)) (y := reaX P S i) hlt rfl rfl
   have l1 : ((7 * i % 12 : Nat) : Int) < 12 := by omega
   have l0 : (0 : Int) ≤ ((7 * i % 12 : Nat) : Int) := by omega
   have l2 : 36 + 7 * i % 12 * 3 ≤ 69 := by omega
   have l3 : i * 3 ≤ 69 := by omega
   have l4 : (i : Int) < 12 := by omega
   have pl : ∀ (n1 n2 n3 n4 n5 n6 : Nat) (a b c x y z : Int), ((((((K.set n1 (i64 a)).set n2 (i64 b)).set n3 (i64 c)).set n4 (i64 x)).set n5 (i64 y)).set n6 (i64 z)).all plainV = true := fun _ _ _ _ _ _ _ _ _ _ _ _ =>
    all_set (all_set (all_set (all_set (all_set (all_set hp _ rfl) _ rfl) _ rfl) _ rfl) _ rfl) _ rfl
   have sp := fun r => set6_part (K := K) (r := r) hc.len hlt
   have hf1 : IntKind.wrap .i64 (IntKind.wrap .i64 (-12 + IntKind.wrap .i64 (19 * P i)) + IntKind.wrap .i64 (4 * S i)) = (fifX (P i) (S i)).1 := rfl
   have hf2 : IntKind.wrap .i64 (IntKind.wrap .i64 (12 - IntKind.wrap .i64 (12 * P i)) - IntKind.wrap .i64 (4 * S i)) = (fifX (P i) (S i)).2.1 := rfl
   have hf3 : (fifX (P i) (S i)).2.2 = S i := rfl
   have hr : plusX (accX P S i) (-((7 * i / 12 : Nat) : Int)) octX = reaX P S i := rfl
   have ha : plusX (accX P S i) 1 (fifX (P i) (S i)) = accX P S (i + 1) := rfl
   have k122 := fun lim hh => @c49 d lim hh (accX P S i) (fifX (P i) (S i)) 1
   rw [ha] at k122
   simp only [v3, hf3] at k122
   rw [hf3] at nx
   generalize 7 * i % 12 = r at *
   generalize 7 * i / 12 = o at *
   simp [hlt, l4, p, s, w1', oN', m7', q12, l1, l0, l2, l3, hc.len, c50, c49, k122, hf1, hf2, hr, sp, pl, t.plain, St.tidy]
   exact ⟨12 - (i + 1), by omega, i + 1, rfl, by omega, _, nx, List.all_eq_true.1 (pl _ _ _ _ _ _ _ _ _ _ _ _), rfl, rfl, rfl, rfl, rfl⟩
  ·have e : i = 12 := by omega
   subst e
   have := hc.eq
   subst this
   simp [hp]
end M
end Go.Abs
namespace Go.Abs
namespace M
set_option maxRecDepth 100000
set_option maxHeartbeats 0
def loN (f : Nat → Int) : Nat → Int
 | 0 => f 0
 | n + 1 => min (loN f n) (f n)
def hiN (f : Nat → Int) : Nat → Int
 | 0 => f 0
 | n + 1 => max (hiN f n) (f n)
def cof (P S : Nat → Int) (k : Nat) : Nat → Int := fun c => c3 (clsX P S c) k
def dif (P S : Nat → Int) (k : Nat) : Int := W (hiN (cof P S k) 12 - loN (cof P S k) 12)
def mostN (P S : Nat → Int) : Nat → Int
 | 0 => 0
 | k + 1 => max (mostN P S k) (dif P S k)
theorem over_get (P S : Nat → Int) {k : Nat} (hk : k < 12) : ((((circK P S).drop 36).take 36).drop (k * 3)).take 3 = e3 (clsX P S k) := by
 apply List.ext_getElem?
 intro n
 by_cases h : n < 3
 ·rw [List.getElem?_take, if_pos h, List.getElem?_drop, List.getElem?_take, if_pos (by omega), List.getElem?_drop, e3_get _ h, ← circK_cls P S hk h]
  congr 1; omega
 ·rw [List.getElem?_take, if_neg h, List.getElem?_eq_none (by simp; omega)]
theorem plain_low {O : List Value} (h : O.all plainV = true) (n d : Nat) : O.all (lowV n d) = true := by
 rw [List.all_eq_true] at h ⊢
 exact fun x hx => lowV_plain (h x hx)
theorem plain_few {O : List Value} (h : O.all plainV = true) (d : Nat) : (O.map (fewV d)).sum = 0 := by
 rw [List.all_eq_true] at h
 induction O with
 | nil => rfl
 | cons x r ih =>
  simp only [List.map_cons, List.sum_cons]
  rw [fewV_plain (h x (by simp)), ih fun y hy => h y (by simp [hy])]
theorem e3_c3 (x : X3) {k : Nat} (h : k < 3) : (e3 x)[k]? = some (i64 (c3 x k)) := e3_get x h
theorem c31 {d lim : Nat} {h : Heap} {P S : Nat → Int} {b : Nat} {rw : Bool} (hb : h.get b = some ⟨circK P S, rw⟩) : E.call (d + 1) lim 31 [.pointer (some ⟨b, 0, none⟩)] h = some (i64 (mostN P S 3), h) := by
 have hlt := Heap.get_lt hb
 have cl := circK_len P S
 have kp := Cir.plain (K := circK P S) (P := P) (S := S) rfl
 have op : (((circK P S).drop 36).take 36).all plainV = true := by
  rw [List.all_eq_true] at kp ⊢
  exact fun x hx => kp x (List.mem_of_mem_drop (List.mem_of_mem_take hx))
 have hO := fun k (hk : k < 12) => over_get P S hk
 have hcell : ∀ k, k < 3 → h.cell b (36 + k) = some (i64 (cof P S k 0)) := fun k hk => by
  rw [cell_get hb]; have := circK_cls P S (k := 0) (by omega) hk; simpa [cof] using this
 have hpart : h.part b 36 36 = some (.agg (((circK P S).drop 36).take 36).toArray) := by
  rw [part_get hb]; simp [cl]
 generalize ((circK P S).drop 36).take 36 = O at *
 have ol := plain_low op
 have of := plain_few op
 refine call1 fn31 rfl (by simp [ef31]) ?_
 simp [ef31]
 refine wpC_loop (fun q st => ∃ k, q = 3 - k ∧ k ≤ 3 ∧ st = ⟨[(0, .pointer (some ⟨b, 0, none⟩)), (3, i64 (mostN P S k)), (9, i64 (k : Nat))], h.freeze⟩) 3 (by show 3 < 2 ^ 64; decide) ?_ ?_
 ·simp [St.tidy, hlt]
  exact ⟨0, by omega, by omega, rfl, rfl⟩
 ·rintro q hq _ ⟨k, rfl, hk, rfl⟩
  by_cases hk3 : k < 3
  ·have w1' := w1 (i := k) (by omega)
   simp only [W] at w1'
   have k4 : (k : Int) < 3 := by omega
   have hc := hcell k hk3
   simp [hk3, k4, hc, hpart, hlt]
   refine wpC_loop (fun q st => ∃ i, q = 12 - i ∧ i ≤ 12 ∧ st = ⟨[(0, .pointer (some ⟨b, 0, none⟩)), (3, i64 (mostN P S k)), (4, i64 (k : Nat)), (5, i64 (loN (cof P S k) i)), (6, i64 (hiN (cof P S k) i)), (9, i64 (k : Nat)), (29, .agg O.toArray), (30, i64 (i : Nat))], h.freeze⟩) 12 (by show 12 < 2 ^ 64; decide) ?_ ?_
   ·simp [St.tidy, hlt, ol, of]
    exact ⟨0, by omega, by omega, rfl, rfl, rfl⟩
   ·rintro q hq _ ⟨i, rfl, hi, rfl⟩
    by_cases hi12 : i < 12
    ·have w2' := w1 (i := i) (by omega)
     simp only [W] at w2'
     have i4 : (i : Int) < 12 := by omega
     have hOi := hO i hi12
     have hx : ∀ hh : k < [i64 (clsX P S i).1, i64 (clsX P S i).2.1, i64 (clsX P S i).2.2].length, [i64 (clsX P S i).1, i64 (clsX P S i).2.1, i64 (clsX P S i).2.2][k]'hh = i64 (cof P S k i) := fun hh => by
      have := e3_c3 (clsX P S i) hk3
      rw [List.getElem?_eq_getElem hh] at this
      exact Option.some.inj this
     simp [hi12, i4, hOi, hx, k4, hk3, St.tidy, hlt, ol, of, w2']
     exact ⟨12 - (i + 1), by omega, i + 1, rfl, by omega, rfl, rfl, rfl⟩
    ·have e : i = 12 := by omega
     subst e
     have hd : IntKind.wrap .i64 (hiN (cof P S k) 12 - loN (cof P S k) 12) = dif P S k := rfl
     simp [hd, w1', St.tidy, hlt]
     exact ⟨3 - (k + 1), by omega, k + 1, rfl, by omega, rfl, rfl⟩
  ·have e : k = 3 := by omega
   subst e
   simp
theorem c25 {d lim : Nat} {h : Heap} {C : List Value} {nm : ByteArray} {P S : Nat → Int} (t : Tm C nm P S) : E.call (d + 4) lim 25 [.agg C.toArray] h = some (v3 (dif P S 0, dif P S 1, dif P S 2), h) := by
 have k48 := fun lim hh k hk => @c47 d lim hh C nm P S k t hk
 have k0 := fun lim hh => k48 lim hh 0 (by omega)
 have l0 : ∀ k, k < 3 → loN (cof P S k) 1 = c3 (clsX P S 0) k := fun k hk => by simp [loN, cof]
 have h0 : ∀ k, k < 3 → hiN (cof P S k) 1 = c3 (clsX P S 0) k := fun k hk => by simp [hiN, cof]
 refine call1 fn25 rfl (by simp [ef25]) ?_
 simp at k0
 simp [ef25, t.len, t.take, k0, Nat.add_assoc]
 refine wpC_loop (fun q st => ∃ c, q = 12 - c ∧ 1 ≤ c ∧ c ≤ 12 ∧ st = ⟨[(1, .pointer (some ⟨h.length, 0, none⟩)), (2, .pointer (some ⟨h.length + 1, 0, none⟩)), (3, .pointer (some ⟨h.length + 2, 0, none⟩)), (4, .pointer (some ⟨h.length + 3, 0, none⟩)), (5, i64 (c : Nat))],
  h.freeze ++ [some ⟨C, true⟩, some ⟨[i64 0, i64 0, i64 0], true⟩, some ⟨[i64 (loN (cof P S 0) c), i64 (loN (cof P S 1) c), i64 (loN (cof P S 2) c)], true⟩, some ⟨[i64 (hiN (cof P S 0) c), i64 (hiN (cof P S 1) c), i64 (hiN (cof P S 2) c)], true⟩]⟩) 11 (by show 11 < 2 ^ 64; decide) ?_ ?_
 ·simp [St.tidy, t.plain]
  exact ⟨1, by omega, by omega, by omega, rfl, by simp [loN, cof, c3], by simp [hiN, cof, c3]⟩
 ·rintro q hq _ ⟨c, rfl, h1, hc, rfl⟩
  by_cases hlt : c < 12
  ·have w1' := w1 (i := c) (by omega)
   simp only [W] at w1'
   have kc := fun lim hh => k48 lim hh c hlt
   have c4 : (c : Int) < 12 := by omega
   simp [hlt, c4, t.len, t.take, t.plain, kc, w1', wpC_unroll, wpI_step, E_fuel, St.tidy]
   exact ⟨12 - (c + 1), by omega, c + 1, rfl, by omega, by omega, rfl, ⟨rfl, rfl, rfl⟩, rfl, rfl, rfl⟩
  ·have e : c = 12 := by omega
   subst e
   simp [dif]
end M
end Go.Abs
namespace Go.Abs
namespace M
set_option maxRecDepth 100000
set_option maxHeartbeats 0
theorem bytes_len (s : ByteArray) : s.toList.length = s.size := by rw [ByteArray.toList_eq]; simp
def bN (s : ByteArray) (i : Nat) : Int := (((s.toList[i]?).getD 0).toNat : Int)
def letN (x : Int) : Bool := (decide (97 ≤ x) && decide (x ≤ 122)) || (decide (65 ≤ x) && decide (x ≤ 90))
def digN (x : Int) : Bool := decide (48 ≤ x) && decide (x ≤ 57)
def badN (x : Int) : Bool := !letN x && !digN x && !decide (x = 45)
def nameB (s : ByteArray) : Bool := decide (s.size ≠ 0) && decide (s.size ≤ 12) && letN (bN s 0) && (List.range s.size).all fun i => !badN (bN s i)
theorem bN_get {s : ByteArray} {i : Nat} (h : i < s.size) : (s.toList)[i]? = some ((s.toList)[i]'(by rw [bytes_len]; exact h)) := List.getElem?_eq_getElem _
theorem bN_eq {s : ByteArray} {i : Nat} (h : i < s.size) : ((s.toList[i]'(by rw [bytes_len]; exact h)).toNat : Int) = bN s i := by
 unfold bN; rw [bN_get h]; rfl
theorem c46 {d lim : Nat} {h : Heap} {x : Int} : E.call (d + 1) lim 46 [.int .u8 x] h = some (.bool (letN x), h) := by
 refine call1 fn46 rfl (by simp [ef46]) ?_
 simp [ef46, letN]
 grind
theorem c41 {d lim : Nat} {h : Heap} {x : Int} : E.call (d + 1) lim 41 [.int .u8 x] h = some (.bool (digN x), h) := by
 refine call1 fn41 rfl (by simp [ef41]) ?_
 simp [ef41, digN]
 grind
theorem nameB_true {s : ByteArray} : nameB s = true ↔ s.size ≠ 0 ∧ s.size ≤ 12 ∧ letN (bN s 0) = true ∧ ∀ i, i < s.size → badN (bN s i) = false := by
 simp [nameB, and_assoc]
theorem c23 {d lim : Nat} {h : Heap} {s : ByteArray} : E.call (d + 2) lim 23 [.string s] h = some (.bool (nameB s), h) := by
 refine call1 fn23 rfl (by simp [ef23]) ?_
 have hget : ∀ i, i < s.size → ∃ c : UInt8, s.toList[i]? = some c ∧ (c.toNat : Int) = bN s i := fun i hi => ⟨_, bN_get hi, bN_eq hi⟩
 by_cases h0 : s.size = 0
 ·have : nameB s = false := by simp [nameB, h0]
  simp [ef23, h0, this]
 ·by_cases h12 : s.size ≤ 12
  ·obtain ⟨c0, g0, f0⟩ := hget 0 (by omega)
   have i12 : ¬ (12 : Int) < s.size := by omega
   by_cases hl : letN (bN s 0) = true
   ·simp [ef23, h0, i12, h12, c46, hl, g0, f0]
    refine wpC_loop (fun q st => ∃ i, q = s.size - i ∧ i ≤ s.size ∧ (∀ j, j < i → badN (bN s j) = false) ∧ st = ⟨[(0, .string s), (3, i64 (i : Nat))], h.freeze⟩) s.size (by show s.size < 2 ^ 64; omega) ?_ ?_
    ·simp [St.tidy]
     exact ⟨0, by omega, by omega, fun j hj => by omega, rfl⟩
    ·rintro q hq _ ⟨i, rfl, hi, hb, rfl⟩
     by_cases hlt : i < s.size
     ·obtain ⟨ci, gi, fi⟩ := hget i hlt
      have w1' := w1 (i := i) (by omega)
      simp only [W] at w1'
      by_cases hbad : badN (bN s i) = true
      ·have : nameB s = false := by
        rw [Bool.eq_false_iff]; intro q
        have := (nameB_true.1 q).2.2.2 i hlt
        rw [hbad] at this; cases this
       unfold badN at hbad
       simp at hbad
       simp [hlt, c46, c41, gi, fi, hbad, this]
      ·have hb2 : badN (bN s i) = false := by simpa using hbad
       have fin : ∃ j, j < s.size - i ∧ ∃ k, j = s.size - k ∧ k ≤ s.size ∧ (∀ j, j < k → badN (bN s j) = false) ∧ (i : Int) + 1 = (k : Int) :=
        ⟨s.size - (i + 1), by omega, i + 1, rfl, by omega, fun j hj => by
         by_cases e : j = i
         ·subst e; exact hb2
         ·exact hb j (by omega), rfl⟩
       unfold badN at hb2
       simp at hb2
       by_cases q1 : letN (bN s i) = true
       ·simp [hlt, c46, c41, gi, fi, q1, w1', St.tidy]; exact fin
       ·simp only [Bool.not_eq_true] at q1
        by_cases q2 : digN (bN s i) = true
        ·simp [hlt, c46, c41, gi, fi, q1, q2, w1', St.tidy]; exact fin
        ·simp only [Bool.not_eq_true] at q2
         have q3 := hb2 q1 q2
         simp [hlt, c46, c41, gi, fi, q1, q2, q3, w1', St.tidy]; exact ⟨fun _ => fin, fun _ => ⟨fun _ => fin, fun _ => fin⟩⟩
     ·have e : i = s.size := by omega
      subst e
      have : nameB s = true := nameB_true.2 ⟨h0, h12, hl, hb⟩
      simp [this]
   ·have : nameB s = false := by simp [nameB, hl]
    simp only [Bool.not_eq_true] at hl
    simp [ef23, h0, i12, h12, c46, hl, g0, f0, this]
  ·have i12 : (12 : Int) < s.size := by omega
   have : nameB s = false := by simp [nameB, h12]
   simp [ef23, h0, i12, this]
def stopN (i : Nat) (x : Int) : Bool := !letN x && (decide (i = 0) || (!decide (x = 45) && (decide (x < 48) || decide (57 < x))))
theorem stopN_bad {i : Nat} {x : Int} (h : i ≠ 0) : stopN i x = badN x := by
 unfold stopN badN digN
 grind
theorem c27 {d lim : Nat} {h : Heap} {s : ByteArray} (hs : s.size ≤ 1000) : E.call (d + 1) lim 27 [.string s] h = some (.bool (nameB s), h) := by
 refine call1 fn27 rfl (by simp [ef27]) ?_
 have hget : ∀ i, i < s.size → ∃ c : UInt8, s.toList[i]? = some c ∧ (c.toNat : Int) = bN s i := fun i hi => ⟨_, bN_get hi, bN_eq hi⟩
 have hcell : ∀ i, i < s.size → (s.toList.map fun c => Value.int .u8 c.toNat)[i]? = some (.int .u8 (bN s i)) := fun i hi => by
  obtain ⟨c, e, f⟩ := hget i hi
  rw [List.getElem?_map, e]; simp [f]
 have hp : (s.toList.map fun c => Value.int .u8 c.toNat).all plainV = true := by simp [List.all_map]
 have hm : s.size ≤ maxLen := Nat.le_trans hs (by decide)
 have hl : (s.toList.map fun c => Value.int .u8 c.toNat).length = s.size := by simp [bytes_len]
 simp only [ef27]
 simp [hm]
 generalize (s.toList.map fun c => Value.int .u8 c.toNat) = L at *
 refine wpC_loop (fun q st => ∃ i, q = s.size - i ∧ i ≤ s.size ∧ (∀ j, j < i → stopN j (bN s j) = false) ∧ st = ⟨[(0, .string s), (7, .slice (some ⟨h.length, 0, none⟩) s.size 1), (8, i64 (s.size : Nat)), (9, i64 (i : Nat))], h.freeze ++ [some ⟨L, false⟩]⟩) s.size (by show s.size < 2 ^ 64; omega) ?_ ?_
 ·simp [St.tidy, hp]
  exact ⟨0, by omega, by omega, fun j hj => by omega, rfl⟩
 ·rintro q hq _ ⟨i, rfl, hi, hb, rfl⟩
  by_cases hlt : i < s.size
  ·have ci := hcell i hlt
   have w1' := w1 (i := i) (by omega)
   simp only [W] at w1'
   by_cases hst : stopN i (bN s i) = true
   ·have hn : nameB s = false := by
     rw [Bool.eq_false_iff]; intro q
     obtain ⟨q1, q2, q3, q4⟩ := nameB_true.1 q
     by_cases i0 : i = 0
     ·subst i0; unfold stopN at hst; rw [q3] at hst; simp at hst
     ·rw [stopN_bad i0, q4 i hlt] at hst; cases hst
    generalize bN s i = x at *
    have h3 : ¬ (97 ≤ x ∧ x ≤ 122) ∧ ¬ (65 ≤ x ∧ x ≤ 90) ∧ (i = 0 ∨ (x ≠ 45 ∧ (x < 48 ∨ 57 < x))) := by unfold stopN letN at hst; grind
    simp [hlt, ci, hn]
    clear hst hb hcell hget hp ci hq hi hm hs hn
    repeat' (first | refine And.intro ?_ ?_ | intro _)
    all_goals omega
   ·have hb2 : stopN i (bN s i) = false := by simpa using hst
    have fin : ∃ j, j < s.size - i ∧ ∃ k, j = s.size - k ∧ k ≤ s.size ∧ (∀ j, j < k → stopN j (bN s j) = false) ∧ (i : Int) + 1 = (k : Int) :=
     ⟨s.size - (i + 1), by omega, i + 1, rfl, by omega, fun j hj => by
      by_cases e : j = i
      ·subst e; exact hb2
      ·exact hb j (by omega), rfl⟩
    clear hb
    generalize hx : bN s i = x at *
    generalize hF : (∃ j, j < s.size - i ∧ ∃ k, j = s.size - k ∧ k ≤ s.size ∧ (∀ j, j < k → stopN j (bN s j) = false) ∧ (i : Int) + 1 = (k : Int)) = F at *
    have h3 : (97 ≤ x ∧ x ≤ 122) ∨ (65 ≤ x ∧ x ≤ 90) ∨ (i ≠ 0 ∧ (x = 45 ∨ (48 ≤ x ∧ x ≤ 57))) := by unfold stopN letN at hb2; grind
    have hFt : F := fin
    simp [hlt, ci, w1', St.tidy, hp, hF, hFt]
    clear hcell hget hF hp ci w1' fin hq hi hm hs hx hb2
    repeat' (first | refine And.intro ?_ ?_ | intro _)
    all_goals (exfalso; omega)
  ·have e : i = s.size := by omega
   subst e
   have hn : nameB s = (decide (s.size ≠ 0) && decide (s.size ≤ 12)) := by
    rw [Bool.eq_iff_iff, nameB_true]
    constructor
    ·rintro ⟨q1, q2, _⟩; simp [q1, q2]
    ·intro q
     rw [Bool.and_eq_true, decide_eq_true_eq, decide_eq_true_eq] at q
     refine ⟨q.1, q.2, ?_, fun j hj => ?_⟩
     ·have := hb 0 (by omega)
      unfold stopN at this; simpa using this
     ·by_cases j0 : j = 0
      ·subst j0
       have := hb 0 (by omega)
       unfold stopN at this; simp at this
       simp [badN, this]
      ·rw [← stopN_bad j0]; exact hb j hj
   by_cases h0 : s.size = 0
   ·have e0 := bytes_nil.2 h0
    have hn0 : nameB s = false := by rw [hn, h0]; rfl
    subst e0
    simp [hn0]
   ·have e0 : ¬ s = ⟨#[]⟩ := fun q => h0 (bytes_nil.1 q)
    simp [e0, hn, h0]
    omega
end M
end Go.Abs
namespace Go.Abs
namespace M
set_option maxRecDepth 100000
set_option maxHeartbeats 0
abbrev SlI (h : Heap) (v : Value) (l : List Int) : Prop := Sl 1 h v l.length (cI l)
def sumW (l : List Int) : Int := l.foldl (fun a x => W (a + x)) 0
theorem sumW_take {l : List Int} {i : Nat} (h : i < l.length) : sumW (l.take (i + 1)) = W (sumW (l.take i) + l[i]) := by
 unfold sumW; rw [List.take_succ_eq_append_getElem h, List.foldl_append]; rfl
theorem cI_at {l : List Int} {i : Nat} (h : i < l.length) : (cI l)[i]? = some (i64 l[i]) := by simp [cI, h]
theorem cI_at' {l : List Int} {i : Nat} (h : i < l.length) (hh : i < (cI l).length) : (cI l)[i]'hh = i64 l[i] := by simp [cI]
theorem c29 {d lim : Nat} {h : Heap} {v : Value} {l : List Int} (s : SlI h v l) (hl : l.length < 100000) : E.call (d + 1) lim 29 [v] h = some (i64 (sumW l), h) := by
 have p := s.rules2
 refine call1 fn29 rfl (by simp [ef29]) ?_
 simp [ef29, p]
 refine wpC_loop (fun q st => ∃ i, q = l.length - i ∧ i ≤ l.length ∧ st = ⟨[(3, i64 (sumW (l.take i))), (6, v), (7, i64 (l.length : Nat)), (8, i64 (i : Nat))], h.freeze⟩) l.length (by show l.length < 2 ^ 64; omega) ?_ ?_
 ·simp [St.tidy, p]
  exact ⟨0, by omega, by omega, by simp [sumW], rfl⟩
 ·rintro q hq _ ⟨i, rfl, hi, rfl⟩
  by_cases hlt : i < l.length
  ·have w1' := w1 (i := i) (by omega)
   have hs := sumW_take hlt
   have g := cI_at' hlt
   simp only [W] at w1' hs
   simp [hlt, p, g, w1', St.tidy, ← hs]
   exact ⟨l.length - (i + 1), by omega, i + 1, rfl, by omega, rfl, rfl⟩
  ·have e : i = l.length := by omega
   subst e
   simp [p]
def oddB (x : Int) : Bool := decide (x < -48) || decide (48 < x)
theorem c26 {d lim : Nat} {h : Heap} {x : Int} : E.call (d + 1) lim 26 [i64 x] h = some (.bool (oddB x), h) := by
 refine call1 fn26 rfl (by simp [ef26]) ?_
 simp [ef26, oddB]
 grind
abbrev oddF : Value := .func (.func 26) #[] #[]
theorem colF {h : Heap} {v : Value} {a b : Int} (hv : LowS h v) : collect h.length [v, oddF, i64 a, i64 b] h.freeze = some ([v, oddF, i64 a, i64 b], []) := by
 rcases hv with rfl | ⟨b, p, m, t, rfl, hb⟩ <;> simp [*]
theorem c48 {d lim : Nat} {h : Heap} {v : Value} {l : List Int} (s : SlI h v l) (hl : l.length < 100000) : ∃ n, E.call (d + 2) lim 48 [v, oddF] h = some (i64 n, h) ∧ (0 ≤ n ↔ l.any oddB = true) := by
 have p := s.rules2
 have kF := fun a b => colF (a := a) (b := b) s.low
 obtain ⟨_, _, e, n, rfl, rfl, hn⟩ := call_pure_ex (E := E) (d := d + 1) (lim := lim) (h := h) (args := [v, oddF]) (Q := fun v bs => ∃ n, v = i64 n ∧ bs = [] ∧ (0 ≤ n ↔ l.any oddB = true)) fn48 rfl (by simp [ef48]) (by
  simp [ef48, p]
  refine wpC_loop (fun q st => ∃ i, q = l.length - i ∧ i ≤ l.length ∧ (∀ x ∈ l.take i, oddB x = false) ∧ st = ⟨[(0, v), (1, oddF), (7, i64 (l.length : Nat)), (8, i64 (i : Nat))], h.freeze⟩) l.length (by show l.length < 2 ^ 64; omega) ?_ ?_
  ·simp [St.tidy, p, kF]
   exact ⟨0, by omega, by omega, fun x hx => by simp at hx, rfl⟩
  ·rintro q hq _ ⟨i, rfl, hi, hb, rfl⟩
   by_cases hlt : i < l.length
   ·have w1' := w1 (i := i) (by omega)
    have g := cI_at' hlt
    simp only [W] at w1'
    by_cases ho : oddB l[i] = true
    ·simp [hlt, p, g, c26, ho]
     exact ⟨l[i], List.getElem_mem hlt, ho⟩
    ·simp only [Bool.not_eq_true] at ho
     simp [hlt, p, g, c26, ho, w1', St.tidy, kF]
     refine ⟨l.length - (i + 1), by omega, i + 1, rfl, by omega, fun x hx => ?_, rfl⟩
     rw [List.take_succ_eq_append_getElem hlt, List.mem_append] at hx
     rcases hx with hx | hx
     ·exact hb x hx
     ·simp at hx; rw [hx]; exact ho
   ·have e : i = l.length := by omega
    subst e
    rw [List.take_length] at hb
    simp [p]
    exact hb)
 exact ⟨n, by simpa using e, hn⟩
theorem c28 {d lim : Nat} {h : Heap} {v : Value} {l : List Int} (s : SlI h v l) (hl : l.length < 100000) : E.call (d + 3) lim 28 [v, oddF] h = some (.bool (l.any oddB), h) := by
 obtain ⟨n, e, hn⟩ := c48 (d := d) (lim := h.length) (Sl_freeze.2 s) hl
 refine call1 fn28 rfl (by simp [ef28]) ?_
 have : decide (0 ≤ n) = l.any oddB := by rw [Bool.eq_iff_iff]; simpa using hn
 simp [ef28, e, this]
def cBo (l : List Bool) : List Value := l.map .bool
abbrev SlBo (h : Heap) (v : Value) (l : List Bool) : Prop := Sl 1 h v l.length (cBo l)
theorem cBo_at' {l : List Bool} {i : Nat} (h : i < l.length) (hh : i < (cBo l).length) : (cBo l)[i]'hh = .bool l[i] := by simp [cBo]
@[simp] theorem cBo_len (l : List Bool) : (cBo l).length = l.length := by simp [cBo]
theorem colB {h : Heap} {v : Value} {a b : Int} (hv : LowS h v) : collect h.length [v, .bool false, i64 a, i64 b] h.freeze = some ([v, .bool false, i64 a, i64 b], []) := by
 rcases hv with rfl | ⟨b, p, m, t, rfl, hb⟩ <;> simp [*]
theorem c73 {d lim : Nat} {h : Heap} {v : Value} {l : List Bool} (s : SlBo h v l) (hl : l.length < 100000) : ∃ n, E.call (d + 1) lim 73 [v, .bool false] h = some (i64 n, h) ∧ (0 ≤ n ↔ l.all id = false) := by
 have p := s.rules2
 have kF := fun a b => colB (a := a) (b := b) s.low
 obtain ⟨_, _, e, n, rfl, rfl, hn⟩ := call_pure_ex (E := E) (d := d) (lim := lim) (h := h) (args := [v, .bool false]) (Q := fun v bs => ∃ n, v = i64 n ∧ bs = [] ∧ (0 ≤ n ↔ l.all id = false)) fn73 rfl (by simp [ef73]) (by
  simp [ef73, p]
  refine wpC_loop (fun q st => ∃ i, q = l.length - i ∧ i ≤ l.length ∧ (∀ x ∈ l.take i, x = true) ∧ st = ⟨[(0, v), (1, .bool false), (7, i64 (l.length : Nat)), (8, i64 (i : Nat))], h.freeze⟩) l.length (by show l.length < 2 ^ 64; omega) ?_ ?_
  ·simp [St.tidy, p, kF]
   exact ⟨0, by omega, by omega, by simp, rfl⟩
  ·rintro q hq _ ⟨i, rfl, hi, hb, rfl⟩
   by_cases hlt : i < l.length
   ·have w1' := w1 (i := i) (by omega)
    have g := cBo_at' hlt
    simp only [W] at w1'
    by_cases ho : l[i] = true
    ·simp [hlt, p, g, ho, w1', St.tidy, kF]
     refine ⟨l.length - (i + 1), by omega, i + 1, rfl, by omega, fun q => ?_, rfl⟩
     rw [List.take_succ_eq_append_getElem hlt, List.mem_append] at q
     rcases q with q | q
     ·exact absurd (hb _ q) (by decide)
     ·simp at q; rw [ho] at q; cases q
    ·simp only [Bool.not_eq_true] at ho
     simp [hlt, p, g, ho]
     rw [← ho]; exact List.getElem_mem hlt
   ·have e : i = l.length := by omega
    subst e
    rw [List.take_length] at hb
    simp [p]
    exact fun q => absurd (hb _ q) (by decide))
 exact ⟨n, by simpa using e, hn⟩
theorem c55 {d lim : Nat} {h : Heap} {v : Value} {l : List Bool} (s : SlBo h v l) (hl : l.length < 100000) : E.call (d + 2) lim 55 [v, .bool false] h = some (.bool (!l.all id), h) := by
 obtain ⟨n, e, hn⟩ := c73 (d := d) (lim := h.length) (Sl_freeze.2 s) hl
 refine call1 fn55 rfl (by simp [ef55]) ?_
 have : decide (0 ≤ n) = !l.all id := by rw [Bool.eq_iff_iff]; simpa using hn
 simp [ef55, e, this]
def l12 (P : Nat → Int) : List Int := (List.range 12).map P
theorem l12_len (P : Nat → Int) : (l12 P).length = 12 := by simp [l12]
def chkT (nm : ByteArray) (P S : Nat → Int) : Int :=
 if nameB nm = false then 4 else if (l12 P).any oddB = true ∨ (l12 S).any oddB = true then 2 else if sumW (l12 P) ≠ 12 ∨ sumW (l12 S) ≠ 0 then 25 else if 300 < mostN P S 3 then 8 else 0
theorem Tm.name' {C : List Value} {nm : ByteArray} {P S : Nat → Int} (t : Tm C nm P S) (hh : 0 < C.length) : C[0]'hh = .string nm := by
 have := t.name; rw [List.getElem?_eq_getElem hh] at this; exact Option.some.inj this
theorem Tm.slP {C : List Value} {nm : ByteArray} {P S : Nat → Int} (t : Tm C nm P S) {h : Heap} {b : Nat} {rw : Bool} (hb : h.get b = some ⟨C, rw⟩) : SlI h (.slice (some ⟨b, 1, none⟩) 12 1) (l12 P) :=
 ⟨by rw [l12_len]; rfl, by simp, fun _ => by rw [l12_len]; rfl, .inr ⟨b, 1, 12, 1, rfl, Heap.get_lt hb⟩, fun k hk => by
  rw [l12_len] at hk
  simp only [slB_some, slO_some]
  rw [cell_get hb, t.p k (by omega), cI_at (by rw [l12_len]; omega)]; simp [l12]⟩
theorem Tm.slS {C : List Value} {nm : ByteArray} {P S : Nat → Int} (t : Tm C nm P S) {h : Heap} {b : Nat} {rw : Bool} (hb : h.get b = some ⟨C, rw⟩) : SlI h (.slice (some ⟨b, 13, none⟩) 12 1) (l12 S) :=
 ⟨by rw [l12_len]; rfl, by simp, fun _ => by rw [l12_len]; rfl, .inr ⟨b, 13, 12, 1, rfl, Heap.get_lt hb⟩, fun k hk => by
  rw [l12_len] at hk
  simp only [slB_some, slO_some]
  rw [cell_get hb, t.s k (by omega), cI_at (by rw [l12_len]; omega)]; simp [l12]⟩
theorem c11 {d lim : Nat} {h : Heap} {C : List Value} {nm : ByteArray} {P S : Nat → Int} (t : Tm C nm P S) (hs : nm.size ≤ 1000) : E.call (d + 4) lim 11 [.agg C.toArray] h = some (i64 (chkT nm P S), h) := by
 refine call1 fn11 rfl (by simp [ef11]) ?_
 have k109 := fun lim hh => @c27 (d + 2) lim hh nm hs
 have gb : Heap.get (h.freeze ++ [some ⟨C, true⟩]) h.length = some ⟨C, true⟩ := by rw [hget_base0 (by simp)]; rfl
 have sP := t.slP gb
 have sS := t.slS gb
 have kP := fun lim => c28 (d := d) (lim := lim) sP (by rw [l12_len]; omega)
 have kS := fun lim => c28 (d := d) (lim := lim) sS (by rw [l12_len]; omega)
 have uP := fun lim => c29 (d := d + 2) (lim := lim) sP (by rw [l12_len]; omega)
 have uS := fun lim => c29 (d := d + 2) (lim := lim) sS (by rw [l12_len]; omega)
 have k112 := fun lim hh => c30 (d := d + 1) (lim := lim) (h := hh) t
 have gk : Heap.get (h.freeze ++ [some ⟨C, true⟩, some ⟨circK P S, true⟩]) (h.length + 1) = some ⟨circK P S, true⟩ := by rw [hget_base (by simp)]; rfl
 have k113 := fun lim => c31 (d := d + 2) (lim := lim) gk
 have hmx : 12 ≤ maxLen := by decide
 unfold chkT
 generalize hA : (l12 P).any oddB = A at *
 generalize hB : (l12 S).any oddB = B at *
 generalize hU : sumW (l12 P) = U at *
 generalize hV : sumW (l12 S) = V at *
 generalize hM : mostN P S 3 = M at *
 by_cases hn : nameB nm = true
 ·cases A
  ·cases B
   ·by_cases e1 : U = 12
    ·by_cases e2 : V = 0
     ·by_cases e3 : 300 < M <;> simp [ef11, t.name', t.len, t.take, k109, hn, kP, kS, uP, uS, e1, e2, k112, k113, e3, hmx, E.bound]
     ·simp [ef11, t.name', t.len, t.take, k109, hn, kP, kS, uP, uS, e1, e2, hmx, E.bound]
    ·simp [ef11, t.name', t.len, t.take, k109, hn, kP, kS, uP, uS, e1, hmx, E.bound]
   ·simp [ef11, t.name', t.len, t.take, k109, hn, kP, kS, hmx, E.bound]
  ·simp [ef11, t.name', t.len, t.take, k109, hn, kP, hmx, E.bound]
 ·simp only [Bool.not_eq_true] at hn
  simp [ef11, t.name', t.len, k109, hn]
theorem l12_take {P : Nat → Int} {i : Nat} (h : i < 12) : sumW ((l12 P).take (i + 1)) = W (sumW ((l12 P).take i) + P i) := by
 rw [sumW_take (by rw [l12_len]; exact h)]; simp [l12]
theorem l12_any {P : Nat → Int} : (l12 P).any oddB = true ↔ ∃ i, i < 12 ∧ oddB (P i) = true := by
 simp [l12]
theorem oddW (x : Int) : oddB x = !within x (-48) 48 := by
 unfold oddB within; grind
theorem c10 {d lim : Nat} {h : Heap} {C : List Value} {nm : ByteArray} {P S : Nat → Int} (t : Tm C nm P S) : E.call (d + 5) lim 10 [.agg C.toArray] h = some (i64 (chkT nm P S), h) := by
 refine call1 fn10 rfl (by simp [ef10]) ?_
 have k88 := fun lim hh => @c23 (d + 2) lim hh nm
 have k89 := fun lim hh => c25 (d := d) (lim := lim) (h := hh) t
 by_cases hn : nameB nm = true
 ·simp [ef10, t.name', t.len, k88, hn]
  refine wpC_loop (fun q st => ∃ i, q = 12 - i ∧ i ≤ 12 ∧ (∀ j, j < i → oddB (P j) = false ∧ oddB (S j) = false) ∧ st = ⟨[(1, .pointer (some ⟨h.length, 0, none⟩)), (3, i64 (sumW ((l12 P).take i))), (4, i64 (sumW ((l12 S).take i))), (5, i64 (i : Nat))], h.freeze ++ [some ⟨C, true⟩]⟩) 12 (by show 12 < 2 ^ 64; decide) ?_ ?_
  ·simp [St.tidy, t.plain]
   exact ⟨0, by omega, by omega, fun j hj => by omega, by simp [sumW], by simp [sumW], rfl⟩
  ·rintro q hq _ ⟨i, rfl, hi, hb, rfl⟩
   by_cases hlt : i < 12
   ·have w1' := w1 (i := i) (by omega)
    have p := t.p i hlt
    have s := t.s i hlt
    have i4 : (i : Int) < 12 := by omega
    have sp := l12_take (P := P) hlt
    have ss := l12_take (P := S) hlt
    simp only [W] at w1' sp ss
    by_cases o1 : oddB (P i) = true
    ·have : chkT nm P S = 2 := by
      have : (l12 P).any oddB = true := l12_any.2 ⟨i, hlt, o1⟩
      simp [chkT, hn, this]
     have o1' := o1
     rw [oddW] at o1'
     simp at o1'
     simp [hlt, i4, p, s, c24, o1', this]
    ·by_cases o2 : oddB (S i) = true
     ·have : chkT nm P S = 2 := by
       have : (l12 S).any oddB = true := l12_any.2 ⟨i, hlt, o2⟩
       simp [chkT, hn, this]
      have o1' := o1
      have o2' := o2
      rw [oddW] at o1' o2'
      simp at o1' o2'
      simp [hlt, i4, p, s, c24, o1', o2', this]
     ·have o1' := o1
      have o2' := o2
      rw [oddW] at o1' o2'
      simp at o1' o2'
      simp only [Bool.not_eq_true] at o1 o2
      simp [hlt, i4, p, s, c24, o1', o2', w1', ← sp, ← ss, St.tidy, t.plain]
      refine ⟨12 - (i + 1), by omega, i + 1, rfl, by omega, fun j hj => ?_, rfl, rfl, rfl⟩
      by_cases e : j = i
      ·subst e; exact ⟨o1, o2⟩
      ·exact hb j (by omega)
   ·have e : i = 12 := by omega
    subst e
    have t1 : (l12 P).take 12 = l12 P := List.take_of_length_le (by rw [l12_len]; exact Nat.le_refl 12)
    have t2 : (l12 S).take 12 = l12 S := List.take_of_length_le (by rw [l12_len]; exact Nat.le_refl 12)
    rw [t1, t2]
    have a1 : (l12 P).any oddB = false := by
     rw [Bool.eq_false_iff]; intro q
     obtain ⟨j, hj, ho⟩ := l12_any.1 q
     rw [(hb j hj).1] at ho; cases ho
    have a2 : (l12 S).any oddB = false := by
     rw [Bool.eq_false_iff]; intro q
     obtain ⟨j, hj, ho⟩ := l12_any.1 q
     rw [(hb j hj).2] at ho; cases ho
    have mx : (300 < mostN P S 3) ↔ 300 < max (max (dif P S 0) (dif P S 1)) (dif P S 2) := by
     simp only [mostN]; omega
    unfold chkT
    rw [a1, a2, hn]
    generalize sumW (l12 P) = U at *
    generalize sumW (l12 S) = V at *
    generalize mostN P S 3 = M at *
    generalize dif P S 0 = d0 at *
    generalize dif P S 1 = d1 at *
    generalize dif P S 2 = d2 at *
    by_cases e1 : U = 12
    ·by_cases e2 : V = 0
     ·by_cases e3 : 300 < M
      ·have e4 := mx.1 e3
       simp [t.len, t.take, e1, e2, k89, e3, e4]
       omega
      ·have e4 : ¬ 300 < max (max d0 d1) d2 := fun q => e3 (mx.2 q)
       simp [t.len, t.take, e1, e2, k89, e3, e4]
       omega
     ·simp [e1, e2]
    ·simp [e1]
 ·simp only [Bool.not_eq_true] at hn
  simp [ef10, t.name', t.len, k88, hn, chkT]
end M
end Go.Abs
