/- A quotient of naturals from the exponents. -/
import Derived.Test.YtjalhpdmdiimoaaDoorAbsNB4
set_option linter.unusedSimpArgs false
set_option linter.unusedVariables false
namespace Go.Abs
namespace N
set_option maxRecDepth 100000
set_option maxHeartbeats 0
def pos (a : Int) : Nat := a.toNat
/-- The factors of one prime put to a numerator's digits. -/
def putP (b : Nat) (e : Int) (l : List Nat) : List Nat := if 0 < e then powF b e.toNat e.toNat l else l
def E3 (a b c : Int) : Nat → Int | 0 => a | 1 => b | _ => c
def P3 : Nat → Nat | 0 => 2 | 1 => 3 | _ => 5
def numD (a b c : Int) : Nat → List Nat
  | 0 => [1]
  | i + 1 => putP (P3 i) (E3 a b c i) (numD a b c i)
theorem c81v {d lim : Nat} {h : Heap} {N : List Nat} {m k b : Nat} {n : Int} (e : h.get k = some ⟨cU N, true⟩) (hm : h.length = m) (hk : k < m) (hd : digits N) (hb0 : 0 < b) (hb : b < 18446744073709551616) (hn : 0 < n) (hs : N.length + n.toNat < 100000) :
    E.call (d + 3) lim 81 [.int .u64 (b : Int), i64 n, .slice (some ⟨k, 0, none⟩) N.length 1] h = some (.slice (some ⟨m, 0, none⟩) (putP b n N).length 1, h ++ [some ⟨cU (putP b n N), true⟩]) := by
  have s : SlU h (.slice (some ⟨k, 0, none⟩) N.length 1) N := SlU_own (rw := true) (by omega) e
  have := c81 (d := d) (lim := lim) (n := n.toNat) s hd hb0 hb (by omega) hs
  rw [Int.toNat_of_nonneg (by omega)] at this
  rw [this, putP, if_pos hn, hm]
theorem c81w {d lim : Nat} {h : Heap} {N : List Nat} {k b : Nat} {n : Int} (e : h.get k = some ⟨cU N, true⟩) (hk : k < h.length) (hn : n ≤ 0) :
    E.call (d + 3) lim 81 [.int .u64 (b : Int), i64 n, .slice (some ⟨k, 0, none⟩) N.length 1] h = some (.slice (some ⟨k, 0, none⟩) N.length 1, h) :=
  c81z (d := d + 2) (SlU_own (rw := true) hk e) hn
theorem c79 {d lim : Nat} {h : Heap} {a b c : Int} (sp : SlU h (.slice (some ⟨0, 0, none⟩) 3 1) [2, 3, 5]) (ha : -20000 ≤ a ∧ a ≤ 20000) (hb : -20000 ≤ b ∧ b ≤ 20000) (hc : -20000 ≤ c ∧ c ≤ 20000)
    (dN : ∀ i, digits (numD a b c i)) (dD : ∀ i, digits (numD (-a) (-b) (-c) i)) (lN : ∀ i ≤ 3, (numD a b c i).length ≤ 20000 * i + 1) (lD : ∀ i ≤ 3, (numD (-a) (-b) (-c) i).length ≤ 20000 * i + 1) :
    E.call (d + 4) lim 79 [.agg #[i64 a, i64 b, i64 c]] h = some (.agg #[.slice (some ⟨h.length, 0, none⟩) (numD a b c 3).length 1, .slice (some ⟨h.length + 1, 0, none⟩) (numD (-a) (-b) (-c) 3).length 1],
      h ++ [some ⟨cU (numD a b c 3), true⟩, some ⟨cU (numD (-a) (-b) (-c) 3), true⟩]) := by
  have p := sp.rules2
  refine call_pure fn79 rfl (by simp [ef79]) ?_
  simp [ef79]
  refine wpC_loop (fun q st => ∃ i : Nat, q = 3 - i ∧ i ≤ 3 ∧
    st = ⟨[(2, .pointer (some ⟨h.length, 0, none⟩)), (3, .pointer (some ⟨h.length + 1, 0, none⟩)), (9, .agg #[i64 a, i64 b, i64 c]), (10, i64 i)],
      h.freeze ++ [some ⟨[.slice none 0 0, .slice none 0 0], true⟩, some ⟨[.slice (some ⟨h.length + 2, 0, none⟩) (numD a b c i).length 1, .slice (some ⟨h.length + 3, 0, none⟩) (numD (-a) (-b) (-c) i).length 1], true⟩,
        some ⟨cU (numD a b c i), true⟩, some ⟨cU (numD (-a) (-b) (-c) i), true⟩]⟩) 3 (by show 3 < 2 ^ 64; decide) ?_ ?_
  · simp [St.tidy]
    exact ⟨0, rfl, by omega, rfl, ⟨rfl, rfl⟩, rfl, rfl⟩
  · rintro q0 hq _ ⟨i, rfl, hi, rfl⟩
    by_cases hlt : i < 3
    · have gi : (#[i64 a, i64 b, i64 c])[i]? = some (i64 (E3 a b c i)) := by
        match i, hlt with
        | 0, _ => rfl
        | 1, _ => rfl
        | 2, _ => rfl
      have gp : (cU [2, 3, 5])[i]? = some (.int .u64 (P3 i : Nat)) := by
        match i, hlt with
        | 0, _ => rfl
        | 1, _ => rfl
        | 2, _ => rfl
      have rE : -20000 ≤ E3 a b c i ∧ E3 a b c i ≤ 20000 := by
        match i, hlt with
        | 0, _ => exact ha
        | 1, _ => exact hb
        | 2, _ => exact hc
      have pP : 0 < P3 i ∧ P3 i < 18446744073709551616 := by
        match i, hlt with
        | 0, _ => decide
        | 1, _ => decide
        | 2, _ => decide
      have eN : numD a b c (i + 1) = putP (P3 i) (E3 a b c i) (numD a b c i) := rfl
      have eD : numD (-a) (-b) (-c) (i + 1) = putP (P3 i) (-E3 a b c i) (numD (-a) (-b) (-c) i) := by
        show putP (P3 i) (E3 (-a) (-b) (-c) i) _ = _
        congr 1
        match i, hlt with
        | 0, _ => rfl
        | 1, _ => rfl
        | 2, _ => rfl
      have lN' := lN i hi
      have lD' := lD i hi
      have dN' := dN i
      have dD' := dD i
      have wn : IntKind.wrap .i64 (-E3 a b c i) = -E3 a b c i := by rw [wrap_eq (by omega) (by omega)]
      have wi : IntKind.wrap .i64 ((i : Int) + 1) = ((i + 1 : Nat) : Int) := by rw [wrap_eq (by omega) (by omega)]; rfl
      have hcell : ∀ L, Heap.cell (h.freeze ++ L) 0 i = some (.int .u64 (P3 i : Nat)) := fun L => by
        have := ((Sl_freeze.2 sp).app (l := L)).cell i (by simp; omega)
        simpa using this.trans gp
      have hgE : ∀ hh : i < [i64 a, i64 b, i64 c].length, [i64 a, i64 b, i64 c][i]'hh = i64 (E3 a b c i) := fun hh => by
        match i, hlt with
        | 0, _ => rfl
        | 1, _ => rfl
        | 2, _ => rfl
      have ilt : (i : Int) < 3 := by omega
      have hG : globPos E.glob 0 = some 0 := rfl
      generalize E3 a b c i = e at *
      generalize P3 i = P at *
      generalize hN : numD a b c i = N at *
      generalize hD : numD (-a) (-b) (-c) i = D at *
      have w81 : ∀ (lim : Nat) (n : Int) (A B : Option Blk) (L : List (Option Blk)), n ≤ 0 → E.call (d + 3) lim 81 [.int .u64 (P : Int), i64 n, .slice (some ⟨h.length + 2, 0, none⟩) N.length 1] (h.freeze ++ A :: B :: some ⟨cU N, true⟩ :: L) = some (.slice (some ⟨h.length + 2, 0, none⟩) N.length 1, h.freeze ++ A :: B :: some ⟨cU N, true⟩ :: L) := fun lim n A B L hn =>
        c81w (by rw [hget_base (by simp)]; rfl) (by simp) hn
      have w81' : ∀ (lim : Nat) (n : Int) (A B C : Option Blk) (L : List (Option Blk)), n ≤ 0 → E.call (d + 3) lim 81 [.int .u64 (P : Int), i64 n, .slice (some ⟨h.length + 3, 0, none⟩) D.length 1] (h.freeze ++ A :: B :: C :: some ⟨cU D, true⟩ :: L) = some (.slice (some ⟨h.length + 3, 0, none⟩) D.length 1, h.freeze ++ A :: B :: C :: some ⟨cU D, true⟩ :: L) := fun lim n A B C L hn =>
        c81w (by rw [hget_base (by simp)]; rfl) (by simp) hn
      have v81 : ∀ (lim : Nat) (n : Int) (A B C : Option Blk), 0 < n → n ≤ 20000 → E.call (d + 3) lim 81 [.int .u64 (P : Int), i64 n, .slice (some ⟨h.length + 2, 0, none⟩) N.length 1] (h.freeze ++ [A, B, some ⟨cU N, true⟩, C]) = some (.slice (some ⟨h.length + 4, 0, none⟩) (putP P n N).length 1, h.freeze ++ [A, B, some ⟨cU N, true⟩, C, some ⟨cU (putP P n N), true⟩]) := fun lim n A B C hn hn2 => by
        have := c81v (d := d) (lim := lim) (h := h.freeze ++ [A, B, some ⟨cU N, true⟩, C]) (k := h.length + 2) (m := h.length + 4) (by rw [hget_base (by simp)]; rfl) (by simp) (by omega) dN' pP.1 pP.2 hn (by omega)
        simpa using this
      have v81' : ∀ (lim : Nat) (n : Int) (A B C : Option Blk), 0 < n → n ≤ 20000 → E.call (d + 3) lim 81 [.int .u64 (P : Int), i64 n, .slice (some ⟨h.length + 3, 0, none⟩) D.length 1] (h.freeze ++ [A, B, C, some ⟨cU D, true⟩]) = some (.slice (some ⟨h.length + 4, 0, none⟩) (putP P n D).length 1, h.freeze ++ [A, B, C, some ⟨cU D, true⟩, some ⟨cU (putP P n D), true⟩]) := fun lim n A B C hn hn2 => by
        have := c81v (d := d) (lim := lim) (h := h.freeze ++ [A, B, C, some ⟨cU D, true⟩]) (k := h.length + 3) (m := h.length + 4) (by rw [hget_base (by simp)]; rfl) (by simp) (by omega) dD' pP.1 pP.2 hn (by omega)
        simpa using this
      have fin : 3 - (i + 1) < 3 - i := by omega
      rcases Int.lt_trichotomy e 0 with q | q | q
      · have m1 : max e 0 = 0 := by omega
        have m2 : max (-e) 0 = -e := by omega
        have q' : ¬ 0 < e := by omega
        have q2 : 0 < -e := by omega
        have v2 := fun lim A B C => v81' lim (-e) A B C q2 (by omega)
        have w2 := fun lim A B L => w81 lim 0 A B L (by omega)
        simp only [putP, if_neg q'] at eN
        simp [hlt, ilt, hG, hgE, hcell, p, m1, m2, wn, wi, v2, w2, St.tidy, q', Int.not_lt.1 q', q, q2]
        exact ⟨3 - (i + 1), by omega, i + 1, rfl, by omega, by simp, ⟨by rw [eN], by rw [eD]⟩, by rw [eN], by rw [eD]⟩
      · have m1 : max e 0 = 0 := by omega
        have m2 : max (-e) 0 = 0 := by omega
        have q' : ¬ 0 < e := by omega
        have q2 : ¬ 0 < -e := by omega
        have w2 := fun lim A B L => w81 lim 0 A B L (by omega)
        have w3 := fun lim A B C L => w81' lim 0 A B C L (by omega)
        simp only [putP, if_neg q'] at eN
        simp only [putP, if_neg q2] at eD
        simp [hlt, ilt, hG, hgE, hcell, p, m1, m2, wn, wi, w3, w2, St.tidy, q, (by decide : max (IntKind.wrap .i64 0) 0 = 0)]
        exact ⟨3 - (i + 1), by omega, i + 1, rfl, by omega, by simp, ⟨by rw [eN], by rw [eD]⟩, by rw [eN], by rw [eD]⟩
      · have m1 : max e 0 = e := by omega
        have m2 : max (-e) 0 = 0 := by omega
        have q2 : ¬ 0 < -e := by omega
        have v2 := fun lim A B C => v81 lim e A B C q (by omega)
        have w3 := fun lim A B C L => w81' lim 0 A B C L (by omega)
        simp only [putP, if_neg q2] at eD
        simp [hlt, ilt, hG, hgE, hcell, p, m1, m2, wn, wi, v2, w3, St.tidy, q]
        exact ⟨3 - (i + 1), by omega, i + 1, rfl, by omega, by simp, ⟨by rw [eN], by rw [eD]⟩, by rw [eN], by rw [eD]⟩
    · have e : i = 3 := by omega
      subst e
      simp [St.tidy]
end N
end Go.Abs
