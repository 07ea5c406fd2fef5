--
import Derived.Test.YtmjkdaloalaiiaaDoorAbsJE
set_option linter.unusedSimpArgs false
set_option linter.unusedVariables false
namespace Go.Abs
namespace J
set_option maxRecDepth 100000
set_option maxHeartbeats 0
theorem dec_len {n : Int} (hn : R64 n) : (dec n).length ≤ 21 := by
 have := (digs_len (n := n.natAbs) 20 (by decide)).2 (by unfold R64 at hn; omega)
 by_cases a : n < 0
 ·rw [dec_neg a, List.length_cons]; omega
 ·rw [dec_nn a]; omega
def fmtL (n m : Int) : List UInt8 := if m = 1 then dec n else dec n ++ 47 :: dec m
theorem c7 {d lim : Nat} {h : Heap} {n m : Int} (hn : R64 n) (hm : R64 m) : E.call (d + 2) lim 7 [fr n m] h = some (tx (fmtL n m), h) := by
 refine call1 fn7 rfl (by simp [ef7]) ?_
 have l1 := dec_len hn
 have l2 := dec_len hm
 have a1 : E.bin .add (.string ⟨[47].toArray⟩) (tx (dec m)) = some (tx (47 :: dec m)) := bin_sadd (by simp; omega)
 have a2 : E.bin .add (tx (dec n)) (tx (47 :: dec m)) = some (tx (dec n ++ 47 :: dec m)) := bin_sadd (by simp; omega)
 by_cases e : m = 1
 ·subst e
  simp [ef7, c20 hn, fmtL]
 ·simp [ef7, c20 hn, c20 hm, fmtL, e, a1, a2]
theorem c8 {d lim : Nat} {h : Heap} {n m : Int} (hn : R64 n) (hm : R64 m) : E.call (d + 3) lim 8 [fr n m] h = some (tx (fmtL n m), h) := by
 refine call1 fn8 rfl (by simp [ef8]) ?_
 have l1 := dec_len hn
 have l2 := dec_len hm
 have a1 : E.bin .add (tx (dec n)) (.string ⟨[47].toArray⟩) = some (tx (dec n ++ [47])) := bin_sadd (by simp; omega)
 have a2 : E.bin .add (tx (dec n ++ [47])) (tx (dec m)) = some (tx (dec n ++ [47] ++ dec m)) := bin_sadd (by simp; omega)
 have a3 : dec n ++ [47] ++ dec m = dec n ++ 47 :: dec m := by simp
 rw [a3] at a2
 by_cases e : m = 1
 ·subst e
  simp [ef8, c21 hn, fmtL]
 ·simp [ef8, c21 hn, c21 hm, fmtL, e, a1, a2]
theorem whl_R {l : List UInt8} : R64 (whl 10 l).1 := by
 unfold whl
 split
 ·rename_i n e; exact R64_ok e
 ·unfold R64 Lib.atoiSat; split <;> decide
 ·unfold R64; decide
theorem rdn_R {l : List UInt8} : R64 (rdn 10 l).1 := by
 unfold rdn
 split
 ·unfold R64; decide
 ·rename_i a
  split
  ·rename_i b
   have hl : (unsg l).length ≤ 10 := by omega
   have := Nat.lt_of_lt_of_le (valD_lt _ b) (Nat.pow_le_pow_right (n := 10) (by decide) hl)
   have e := nub_abs l
   unfold R64; omega
  ·unfold R64; decide
def finT (ok : Bool) (n m : Int) : Value := if ok = false then .tuple #[fr 0 0, i64 7] else if checkFrac n m ≠ 0 then .tuple #[fr 0 0, i64 (checkFrac n m)] else .tuple #[fr n m, i64 0]
theorem c5n {d lim : Nat} {h : Heap} {l : List UInt8} (e : Er h) (n : (47 : UInt8) ∉ l) (hl : l.length < 1000) : E.call (d + 5) lim 5 [tx l] h = some (finT (whl 10 l).2 (whl 10 l).1 1, h) := by
 refine call1 fn5 rfl (by simp [ef5]) ?_
 have q : ∀ L, E.call (d + 4) h.length 16 [tx l] (h.freeze ++ L) = some (.tuple #[i64 (whl 10 l).1, .bool (whl 10 l).2], h.freeze ++ L) := fun L => c16 (d := d) (e.freeze.app) (by omega)
 have f : ∀ x : Int, ∀ L, E.call (d + 4) h.length 17 [.agg #[i64 x, i64 1]] (h.freeze ++ L) = some (i64 (checkFrac x 1), h.freeze ++ L) := fun x L => c17 (d := d + 2) (by unfold R64; decide)
 rcases hw : whl 10 l with ⟨x, _ | _⟩
 ·rw [hw] at q
  simp [ef5, c15n n, finT, q]
 ·rw [hw] at q
  by_cases z : checkFrac x 1 = 0
  ·simp [ef5, c15n n, finT, z, q, f]
  ·simp [ef5, c15n n, finT, z, q, f]
theorem c5y {d lim : Nat} {h : Heap} {a b : List UInt8} (e : Er h) (n : (47 : UInt8) ∉ a) (hl : a.length + b.length < 1000) : E.call (d + 5) lim 5 [tx (a ++ 47 :: b)] h = some (finT ((whl 10 a).2 && (whl 10 b).2 && decide (2 ≤ (whl 10 b).1)) (whl 10 a).1 (whl 10 b).1, h) := by
 refine call1 fn5 rfl (by simp [ef5]) ?_
 have c : ∀ H, E.call (d + 4) h.length 15 [tx (a ++ 47 :: b), .string ⟨#[47]⟩] H = some (.tuple #[tx a, tx b, .bool true], H) := fun H => c15y (d := d + 1) n (by omega)
 have q : ∀ L, E.call (d + 4) h.length 16 [tx a] (h.freeze ++ L) = some (.tuple #[i64 (whl 10 a).1, .bool (whl 10 a).2], h.freeze ++ L) := fun L => c16 (d := d) (e.freeze.app) (by omega)
 have p : ∀ L, E.call (d + 4) h.length 16 [tx b] (h.freeze ++ L) = some (.tuple #[i64 (whl 10 b).1, .bool (whl 10 b).2], h.freeze ++ L) := fun L => c16 (d := d) (e.freeze.app) (by omega)
 have r := whl_R (l := b)
 rcases hw : whl 10 a with ⟨x, _ | _⟩
 ·rw [hw] at q
  simp [ef5, c, finT, q, p]
 ·rw [hw] at q
  rcases hw2 : whl 10 b with ⟨y, _ | _⟩
  ·rw [hw2] at p
   simp [ef5, c, finT, q, p]
  ·rw [hw2] at p r
   have f : ∀ L, E.call (d + 4) h.length 17 [.agg #[i64 x, i64 y]] (h.freeze ++ L) = some (i64 (checkFrac x y), h.freeze ++ L) := fun L => c17 (d := d + 2) r
   by_cases y2 : y < 2
   ·have y2' : ¬ 2 ≤ y := by omega
    simp [ef5, c, finT, q, p, y2, y2']
   ·have y2' : 2 ≤ y := by omega
    by_cases z : checkFrac x y = 0
    ·simp [ef5, c, finT, z, q, p, f, y2, y2']
    ·simp [ef5, c, finT, z, q, p, f, y2, y2']
theorem c6n {d lim : Nat} {h : Heap} {l : List UInt8} (n : (47 : UInt8) ∉ l) (hl : l.length < 1000) : E.call (d + 5) lim 6 [tx l] h = some (finT (rdn 10 l).2 (rdn 10 l).1 1, h) := by
 refine call1 fn6 rfl (by simp [ef6]) ?_
 have w : ∀ H : Heap, E.call (d + 4) h.length 18 [tx l, .int .u8 47] H = some (.slice (some ⟨H.length, 0, none⟩) 1 1, H ++ [some ⟨[tx l], true⟩]) := fun H => by
  have := c18 (d := d + 3) (lim := h.length) (h := H) (s := l) (c := 47) (by omega)
  rw [cutB_no n] at this
  exact this
 have q : ∀ H : Heap, E.call (d + 4) h.length 19 [tx l, i64 10] H = some (.tuple #[i64 (rdn 10 l).1, .bool (rdn 10 l).2], H) := fun H => c19 (d := d + 1) (k := 10) (by omega) (by omega)
 have f : ∀ x : Int, ∀ L, E.call (d + 4) h.length 9 [.agg #[i64 x, i64 1]] (h.freeze ++ L) = some (i64 (checkFrac x 1), h.freeze ++ L) := fun x L => c9 (d := d) (by unfold R64; decide)
 rcases hw : rdn 10 l with ⟨x, _ | _⟩
 ·rw [hw] at q
  simp [ef6, finT, q, w]
 ·rw [hw] at q
  by_cases z : checkFrac x 1 = 0
  ·simp [ef6, finT, z, q, f, w]
  ·simp [ef6, finT, z, q, f, w]
theorem c6y {d lim : Nat} {h : Heap} {a b : List UInt8} (n : (47 : UInt8) ∉ a) (n2 : (47 : UInt8) ∉ b) (hl : a.length + b.length < 1000) : E.call (d + 5) lim 6 [tx (a ++ 47 :: b)] h = some (finT ((rdn 10 a).2 && (rdn 10 b).2 && decide (2 ≤ (rdn 10 b).1)) (rdn 10 a).1 (rdn 10 b).1, h) := by
 refine call1 fn6 rfl (by simp [ef6]) ?_
 have w : ∀ H : Heap, E.call (d + 4) h.length 18 [tx (a ++ 47 :: b), .int .u8 47] H = some (.slice (some ⟨H.length, 0, none⟩) 2 1, H ++ [some ⟨[tx a, tx b], true⟩]) := fun H => by
  have := c18 (d := d + 3) (lim := h.length) (h := H) (s := a ++ 47 :: b) (c := 47) (by simp; omega)
  rw [cutB_at n, cutB_no n2] at this
  exact this
 have q : ∀ H : Heap, E.call (d + 4) h.length 19 [tx a, i64 10] H = some (.tuple #[i64 (rdn 10 a).1, .bool (rdn 10 a).2], H) := fun H => c19 (d := d + 1) (k := 10) (by omega) (by omega)
 have p : ∀ H : Heap, E.call (d + 4) h.length 19 [tx b, i64 10] H = some (.tuple #[i64 (rdn 10 b).1, .bool (rdn 10 b).2], H) := fun H => c19 (d := d + 1) (k := 10) (by omega) (by omega)
 have r := rdn_R (l := b)
 rcases hw : rdn 10 a with ⟨x, _ | _⟩
 ·rw [hw] at q
  simp [ef6, finT, q, p, w]
 ·rw [hw] at q
  rcases hw2 : rdn 10 b with ⟨y, _ | _⟩
  ·rw [hw2] at p
   simp [ef6, finT, q, p, w]
  ·rw [hw2] at p r
   have f : ∀ L, E.call (d + 4) h.length 9 [.agg #[i64 x, i64 y]] (h.freeze ++ L) = some (i64 (checkFrac x y), h.freeze ++ L) := fun L => c9 (d := d) r
   by_cases y2 : 1 < y
   ·have y2' : 2 ≤ y := by omega
    by_cases z : checkFrac x y = 0
    ·simp [ef6, finT, z, q, p, f, w, y2, y2']
    ·simp [ef6, finT, z, q, p, f, w, y2, y2']
   ·have y2' : ¬ 2 ≤ y := by omega
    simp [ef6, finT, q, p, w, y2, y2']
theorem c6z {d lim : Nat} {h : Heap} {a b c : List UInt8} (n : (47 : UInt8) ∉ a) (n2 : (47 : UInt8) ∉ b) (hl : a.length + b.length + c.length < 1000) : E.call (d + 5) lim 6 [tx (a ++ 47 :: (b ++ 47 :: c))] h = some (finT false 0 0, h) := by
 refine call1 fn6 rfl (by simp [ef6]) ?_
 obtain ⟨r, hr⟩ : ∃ r, r = cutB 47 c := ⟨_, rfl⟩
 have rn : r.length ≠ 0 := by rw [hr]; exact fun q => cutB_ne 47 c (List.length_eq_zero_iff.1 q)
 have w : ∀ H : Heap, E.call (d + 4) h.length 18 [tx (a ++ 47 :: (b ++ 47 :: c)), .int .u8 47] H = some (.slice (some ⟨H.length, 0, none⟩) (r.length + 2) 1, H ++ [some ⟨tx a :: tx b :: cT r, true⟩]) := fun H => by
  have := c18 (d := d + 3) (lim := h.length) (h := H) (s := a ++ 47 :: (b ++ 47 :: c)) (c := 47) (by simp; omega)
  rw [cutB_at n, cutB_at n2, ← hr] at this
  exact this
 have q : ∀ H : Heap, E.call (d + 4) h.length 19 [tx a, i64 10] H = some (.tuple #[i64 (rdn 10 a).1, .bool (rdn 10 a).2], H) := fun H => c19 (d := d + 1) (k := 10) (by omega) (by omega)
 have p : ∀ H : Heap, E.call (d + 4) h.length 19 [tx b, i64 10] H = some (.tuple #[i64 (rdn 10 b).1, .bool (rdn 10 b).2], H) := fun H => c19 (d := d + 1) (k := 10) (by omega) (by omega)
 have g1 : (1 : Int) < (r.length : Int) + 2 := by omega
 have g2 : (2 : Int) < (r.length : Int) + 2 := by omega
 have g0 : (0 : Int) < (r.length : Int) + 2 := by omega
 have g1x : ¬ (r.length : Int) + 2 ≤ 1 := by omega
 have g2x : ¬ (r.length : Int) + 2 ≤ 2 := by omega
 rcases hw : rdn 10 a with ⟨x, _ | _⟩ <;> rcases hw2 : rdn 10 b with ⟨y, _ | _⟩ <;> rw [hw] at q <;> rw [hw2] at p <;> by_cases y2 : 1 < y <;>
  simp [ef6, finT, q, p, w, g0, g1, g2, g1x, g2x, y2]
end J
end Go.Abs
