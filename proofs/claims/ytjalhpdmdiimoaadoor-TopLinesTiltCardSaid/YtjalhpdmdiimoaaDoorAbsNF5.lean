/- The law NumberFracs. -/
import Derived.Test.YtjalhpdmdiimoaaDoorAbsNF4
import Derived.Test.YtjalhpdmdiimoaaDoorAbsNT
import Derived.Test.YtjalhpdmdiimoaaDoorAbsArgs
set_option linter.unusedSimpArgs false
set_option linter.unusedVariables false
namespace Go.Abs.N
open Go Go.Abs
set_option maxRecDepth 100000
set_option maxHeartbeats 0
theorem gcdL_small {n m : Int} (hn : -1000000000000000000 ≤ n ∧ n ≤ 1000000000000000000) (hm : -1000000000000000000 ≤ m ∧ m ≤ 1000000000000000000) (h : m ≠ 0) : gcdL n m = (Int.gcd n m : Int) := by
  rw [gcdL_eq (by unfold R64; omega) (by unfold R64; omega)]
  have h2 : Int.gcd n m ≤ m.natAbs := Nat.le_of_dvd (by omega) (by rw [Int.gcd_eq_natAbs_gcd_natAbs]; exact Nat.gcd_dvd_right _ _)
  exact wrap_eq (by omega) (by omega)
theorem lowG_neg {n m : Int} (hn : -1000000000000000000 ≤ n ∧ n ≤ 1000000000000000000) (hm : -1000000000000000000 ≤ m ∧ m < 0) : lowG n m = -(Int.gcd n m : Int) ∧ lowG (-n) (-m) = (Int.gcd n m : Int) := by
  have h2 : Int.gcd n m ≤ m.natAbs := Nat.le_of_dvd (by omega) (by rw [Int.gcd_eq_natAbs_gcd_natAbs]; exact Nat.gcd_dvd_right _ _)
  unfold lowG
  rw [if_pos hm.2, if_neg (by omega), gcdL_small hn (by omega) (by omega), gcdL_small (by omega) (by omega) (by omega), wrap_eq (by omega) (by omega)]
  refine ⟨rfl, ?_⟩
  rw [Int.neg_gcd, Int.gcd_neg]
theorem low_neg {n m : Int} (hn : -1000000000000000000 ≤ n ∧ n ≤ 1000000000000000000) (hm : -1000000000000000000 ≤ m ∧ m < 0) : lowN (-n) (-m) = lowN n m ∧ lowD (-n) (-m) = lowD n m := by
  obtain ⟨h1, h2⟩ := lowG_neg hn hm
  unfold lowN lowD qdiv
  rw [h1, h2]
  simp only [Int.neg_tdiv, Int.tdiv_neg, and_self]
theorem mul_le {a b : Int} (ha : -1000000000 ≤ a ∧ a ≤ 1000000000) (hb : -1000000000 ≤ b ∧ b ≤ 1000000000) : -1000000000000000000 ≤ a * b ∧ a * b ≤ 1000000000000000000 := by
  have q : (a * b).natAbs ≤ 1000000000 * 1000000000 := by rw [Int.natAbs_mul]; exact Nat.mul_le_mul (by omega) (by omega)
  omega
theorem neg_args {a b c e : Int} (h : two a b c e = 0) (hc : c < 0) : w (w (-a) * e) = -(w (a * e)) ∧ w (b * w (-c)) = -(w (b * c)) ∧ (-1000000000000000000 ≤ w (a * e) ∧ w (a * e) ≤ 1000000000000000000) ∧ (-1000000000000000000 ≤ w (b * c) ∧ w (b * c) < 0) := by
  obtain ⟨h1, h2⟩ := two0 h
  have := checkFrac_le h1; have := checkFrac_le h2
  have m1 := mul_le (a := a) (b := e) (by omega) (by omega)
  have m2 := mul_le (a := b) (b := c) (by omega) (by omega)
  have hneg : b * c < 0 := Int.mul_neg_of_pos_of_neg (by omega) hc
  simp only [w]
  rw [wrap_eq (n := -a) (by omega) (by omega), wrap_eq (n := -c) (by omega) (by omega), Int.neg_mul, Int.mul_neg]
  rw [wrap_eq (n := a * e) (by omega) (by omega), wrap_eq (n := b * c) (by omega) (by omega), wrap_eq (n := -(a * e)) (by omega) (by omega), wrap_eq (n := -(b * c)) (by omega) (by omega)]
  exact ⟨rfl, rfl, m1, by omega⟩
theorem c68' {d lim : Nat} {h : Heap} {a b c e : Int} (h2 : two a b c e = 0) : E.call (d + 6) lim 68 [fr a b, fr c e] h = some (fre (divN a b c e) (divD a b c e) (divE a b c e), h) := by
  by_cases hc : c = 0
  · subst hc
    refine call1 fn68 rfl (by simp [ef68]) ?_
    simp [ef68, divN, divD, divE, h2]
  · by_cases h0 : c < 0
    · obtain ⟨e1, e2, b1, b2⟩ := neg_args h2 h0
      rw [c68 (by omega) (by omega), if_neg hc, if_pos h0]
      rw [e1, e2]
      obtain ⟨l1, l2⟩ := low_neg b1 b2
      simp only [fitN, fitD, fitE, l1, l2, divN, divD, divE, h2, hc, if_true, if_false]
    · refine call1 fn68 rfl (by simp [ef68]) ?_
      have g1 := bc_ne h2 hc
      simp [ef68, hc, c121, h0, g1, divN, divD, divE, h2]
theorem two_comm {a b c e : Int} (h : two a b c e = 0) : two c e a b = 0 := by
  obtain ⟨h1, h2⟩ := two0 h; simp [two, h1, h2]
theorem cmp_comm (x y : Int) : w (-cmpV x y) = cmpV y x := by
  have h1 : w (-1) = -1 := rfl
  have h2 : w (- -1) = 1 := rfl
  have h3 : w (-0) = 0 := rfl
  unfold cmpV
  by_cases hx : x < y
  · have hy : ¬y < x := by omega
    simp only [hx, hy, if_true, if_false, h2]
  · by_cases hy : y < x
    · simp only [hx, hy, if_true, if_false, h1]
    · simp only [hx, hy, if_false, h3]
theorem law15 (lim : Nat) {a b c e : Int} (hb : R64 b) (he : R64 e) : E.call 21 lim 15 [fr a b, fr c e] [primesB] = some (.bool true, [primesB]) := by
  refine call1 fn15 rfl (by simp [ef15]) ?_
  have hf : Heap.freeze [primesB] = [primesB] := rfl
  by_cases h2 : two a b c e = 0
  · have g := bd_ne h2
    have e1 : kAdd c e a b = kAdd a b c e := by simp only [kAdd, Int.mul_comm, Int.add_comm]
    have e2 : kMul c e a b = kMul a b c e := by simp only [kMul, Int.mul_comm]
    have e3 := cmp_comm (w (a * e)) (w (c * b))
    have h3 := two_comm h2
    have f1 : frN kAdd c e a b = frN kAdd a b c e := by simp only [frN, h2, h3, e1]
    have f2 : frD kAdd c e a b = frD kAdd a b c e := by simp only [frD, h2, h3, e1]
    have f3 : frE kAdd c e a b = frE kAdd a b c e := by simp only [frE, h2, h3, e1]
    have f4 : frN kMul c e a b = frN kMul a b c e := by simp only [frN, h2, h3, e2]
    have f5 : frD kMul c e a b = frD kMul a b c e := by simp only [frD, h2, h3, e2]
    have f6 : frE kMul c e a b = frE kMul a b c e := by simp only [frE, h2, h3, e2]
    have f7 : cmpE c e a b = w (-cmpE a b c e) := by simp only [cmpE, h2, h3, e3, if_true]
    have q1 : fitN (kAdd a b c e).1 (kAdd a b c e).2 = frN kAdd a b c e := by simp only [frN, h2, if_true]
    have q2 : fitD (kAdd a b c e).1 (kAdd a b c e).2 = frD kAdd a b c e := by simp only [frD, h2, if_true]
    have q3 : fitE (kAdd a b c e).1 (kAdd a b c e).2 = frE kAdd a b c e := by simp only [frE, h2, if_true]
    have q4 : fitN (kMul a b c e).1 (kMul a b c e).2 = frN kMul a b c e := by simp only [frN, h2, if_true]
    have q5 : fitD (kMul a b c e).1 (kMul a b c e).2 = frD kMul a b c e := by simp only [frD, h2, if_true]
    have q6 : fitE (kMul a b c e).1 (kMul a b c e).2 = frE kMul a b c e := by simp only [frE, h2, if_true]
    have q7 : cmpV (w (a * e)) (w (c * b)) = cmpE a b c e := by simp only [cmpE, h2, if_true]
    simp [ef15, hf, Heap.push, Heap.get, Heap.put, Heap.part, awake2, c60 hb he, c60 he hb, c61 hb he, c61 he hb, c62 hb he, c63 hb he, c63 he hb, c64 hb, c43 hb, c65 hb he, c66 g, c67 g, c68' h2, c69, h2, h3, f1, f2, f3, f4, f5, f6, f7, q1, q2, q3, q4, q5, q6, q7]
  · simp [ef15, hf, Heap.push, Heap.get, Heap.put, Heap.part, awake2, c60 hb he, c61 hb he, c62 hb he, c63 hb he, c64 hb, c43 hb, c65 hb he, h2, frN, frD, frE, divN, divD, divE, cmpE]
end Go.Abs.N
namespace Go.Abs.N
open Go Go.Abs
theorem numberFracs_law : ∀ (bs : List (Option Blk)) us, Heap.freeze ([primesB] ++ bs) = [primesB] ++ bs → (∀ n, ctBlocks (([(true, [ctI, ctI]), (true, [ctI, ctI])] : List (Bool × List CT)).flatMap (·.2)) = some n → bs.length = n) →
    ArgsV 6 ([primesB] ++ bs) [(true, [ctI, ctI]), (true, [ctI, ctI])] us → ∃ h', E.call 21 (([primesB] : Heap) ++ bs).length 15 us ([primesB] ++ bs) = some (.bool true, h') := by
  intro bs us _ k a
  obtain rfl := none_of k rfl
  obtain ⟨u, v, rfl, a1, a2⟩ := args2 a
  obtain ⟨x, y, rfl, _, hy⟩ := arg_agg2 a1
  obtain ⟨z, w, rfl, _, hw⟩ := arg_agg2 a2
  exact ⟨_, law15 _ hy hw⟩
end Go.Abs.N
