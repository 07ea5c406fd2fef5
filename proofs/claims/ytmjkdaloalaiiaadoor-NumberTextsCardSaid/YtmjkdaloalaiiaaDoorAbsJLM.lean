--
import Derived.Test.YtmjkdaloalaiiaaDoorAbsJF
set_option linter.unusedSimpArgs false
set_option linter.unusedVariables false
namespace Go.Abs
namespace J
set_option maxRecDepth 100000
set_option maxHeartbeats 0
theorem finT_false {n m : Int} : finT false n m = .tuple #[fr 0 0, i64 7] := by unfold finT; rw [if_pos rfl]
theorem finT_form (ok : Bool) (n m : Int) : ∃ x y e, finT ok n m = .tuple #[fr x y, i64 e] := by
 unfold finT
 split
 ·exact ⟨_, _, _, rfl⟩
 ·split <;> exact ⟨_, _, _, rfl⟩
theorem parse_same' {l : List UInt8} (hl : l.length < 500) : ∃ ok n m, (∀ d lim h, Er h → E.call (d + 5) lim 5 [tx l] h = some (finT ok n m, h)) ∧ (∀ d lim h, E.call (d + 5) lim 6 [tx l] h = some (finT ok n m, h)) := by
 by_cases n : (47 : UInt8) ∈ l
 ·obtain ⟨a, b, rfl, na⟩ := mem_split n
  simp only [List.length_append, List.length_cons] at hl
  by_cases nb : (47 : UInt8) ∈ b
  ·have bad := rdn_not (d := 10) (s := b) (by decide) nb (by decide) (by decide)
   have c5 := fun d lim h e => c5y (d := d) (lim := lim) (h := h) (b := b) e na (by omega)
   obtain ⟨b, c, rfl, nb'⟩ := mem_split nb
   simp only [List.length_append, List.length_cons] at hl
   rcases whl_rdn (d := 10) (s := b ++ 47 :: c) (by decide) (by decide) with ⟨k, q, _⟩ | ⟨_, q, _⟩
   ·exact absurd q (bad k)
   ·refine ⟨false, 0, 0, fun d lim h e => ?_, fun d lim h => c6z na nb' (by omega)⟩
    rw [c5 d lim h e, q, Bool.and_false, Bool.false_and, finT_false, finT_false]
  ·have : finT ((whl 10 a).2 && (whl 10 b).2 && decide (2 ≤ (whl 10 b).1)) (whl 10 a).1 (whl 10 b).1 = finT ((rdn 10 a).2 && (rdn 10 b).2 && decide (2 ≤ (rdn 10 b).1)) (rdn 10 a).1 (rdn 10 b).1 := by
    rcases whl_rdn (d := 10) (s := a) (by decide) (by decide) with ⟨k, _, q, r⟩ | ⟨_, q, r⟩
    ·rcases whl_rdn (d := 10) (s := b) (by decide) (by decide) with ⟨k, _, q', r'⟩ | ⟨_, q', r'⟩
     ·rw [q, r, q', r']
     ·rw [q', r', Bool.and_false, Bool.and_false, Bool.false_and, Bool.false_and, finT_false, finT_false]
    ·rw [q, r, Bool.false_and, Bool.false_and, Bool.false_and, Bool.false_and, finT_false, finT_false]
   exact ⟨_, _, _, fun d lim h e => by rw [← this]; exact c5y e na (by omega), fun d lim h => c6y na nb (by omega)⟩
 ·have : finT (whl 10 l).2 (whl 10 l).1 1 = finT (rdn 10 l).2 (rdn 10 l).1 1 := by
   rcases whl_rdn (d := 10) (s := l) (by decide) (by decide) with ⟨k, _, q, r⟩ | ⟨_, q, r⟩
   ·rw [q, r]
   ·rw [q, r, finT_false, finT_false]
  exact ⟨_, _, _, fun d lim h e => by rw [← this]; exact c5n e n (by omega), fun d lim h => c6n n (by omega)⟩
theorem parse_same {l : List UInt8} (hl : l.length < 500) : ∃ x y c, (∀ d lim h, Er h → E.call (d + 5) lim 5 [tx l] h = some (.tuple #[fr x y, i64 c], h)) ∧ (∀ d lim h, E.call (d + 5) lim 6 [tx l] h = some (.tuple #[fr x y, i64 c], h)) := by
 obtain ⟨ok, n, m, q, r⟩ := parse_same' hl
 obtain ⟨x, y, c, e⟩ := finT_form ok n m
 rw [e] at q r
 exact ⟨x, y, c, q, r⟩
theorem fmtL_len {n m : Int} (hn : R64 n) (hm : R64 m) : (fmtL n m).length < 500 := by
 have l1 := dec_len hn
 have l2 := dec_len hm
 unfold fmtL
 split
 ·omega
 ·rw [List.length_append, List.length_cons]; omega
theorem check_ok {n m : Int} (z : checkFrac n m = 0) : 1 ≤ m ∧ n.natAbs < 10 ^ 10 ∧ m.natAbs < 10 ^ 10 := by
 unfold checkFrac at z
 split at z
 ·cases z
 ·rename_i a
  split at z
  ·cases z
  ·rename_i b
   rw [not_or] at a b
   have : within n (-1000000000) 1000000000 = true := by simpa using b.1
   unfold within at this
   have := of_decide_eq_true this
   omega
theorem back {d lim : Nat} {h : Heap} {n m : Int} (e : Er h) (hn : R64 n) (hm : R64 m) (z : checkFrac n m = 0) : E.call (d + 5) lim 5 [tx (fmtL n m)] h = some (.tuple #[fr n m, i64 0], h) := by
 obtain ⟨m1, na, ma⟩ := check_ok z
 have hl := fmtL_len hn hm
 have wn := (whl_is (d := 10) (by decide) (by decide)).2 (⟨rfl, na⟩ : IsNum 10 (dec n) n)
 have wm := (whl_is (d := 10) (by decide) (by decide)).2 (⟨rfl, ma⟩ : IsNum 10 (dec m) m)
 have sn : (47 : UInt8) ∉ dec n := dec_not (by decide) (by decide)
 have fin : finT true n m = .tuple #[fr n m, i64 0] := by
  unfold finT; rw [if_neg (by decide), if_neg (by rw [z]; decide)]
 unfold fmtL at hl ⊢
 by_cases q : m = 1
 ·subst q
  rw [if_pos rfl] at hl ⊢
  rw [c5n e sn (by omega), wn, fin]
 ·rw [if_neg q] at hl ⊢
  simp only [List.length_append, List.length_cons] at hl
  rw [c5y e sn (by omega), wn, wm]
  have : decide (2 ≤ m) = true := decide_eq_true (by omega)
  simp only [this, Bool.and_self, fin]
theorem number_walk {d lim : Nat} {h : Heap} {n m : Int} {l : List UInt8} (e : Er h) (hn : R64 n) (hm : R64 m) (aw' : ∀ b, E.call (d + 5) h.length 4 [] (h.freeze ++ [b]) = some (.bool true, h.freeze ++ [b])) :
  E.call (d + 6) lim 3 [fr n m, tx l] h = some (.bool true, h) := by
 refine call1 fn3 rfl (by simp [ef3]) ?_
 by_cases z : l.length > 60
 ·have z' : (60 : Int) < l.length := by omega
  simp [ef3, aw', z, z']
 ·have z' : ¬ (60 : Int) < l.length := by omega
  obtain ⟨x, y, c, p1, p2⟩ := parse_same (l := l) (by omega)
  have p5 : ∀ L, E.call (d + 5) h.length 5 [tx l] (h.freeze ++ L) = some (.tuple #[fr x y, i64 c], h.freeze ++ L) := fun L => p1 d _ _ e.freeze.app
  have p6 : ∀ L, E.call (d + 5) h.length 6 [tx l] (h.freeze ++ L) = some (.tuple #[fr x y, i64 c], h.freeze ++ L) := fun L => p2 d _ _
  have f7 : ∀ H, E.call (d + 5) h.length 7 [.agg #[i64 n, i64 m]] H = some (tx (fmtL n m), H) := fun H => c7 (d := d + 3) hn hm
  have f8 : ∀ H, E.call (d + 5) h.length 8 [.agg #[i64 n, i64 m]] H = some (tx (fmtL n m), H) := fun H => c8 (d := d + 2) hn hm
  have f9 : ∀ H, E.call (d + 5) h.length 9 [.agg #[i64 n, i64 m]] H = some (i64 (checkFrac n m), H) := fun H => c9 (d := d + 1) hm
  by_cases zf : checkFrac n m = 0
  ·have pb : ∀ L, E.call (d + 5) h.length 5 [tx (fmtL n m)] (h.freeze ++ L) = some (.tuple #[fr n m, i64 0], h.freeze ++ L) := fun L => back e.freeze.app hn hm zf
   simp [ef3, aw', z', p5, p6, f7, f8, f9, zf, pb]
  ·obtain ⟨x2, y2, c2, q1, _⟩ := parse_same (fmtL_len hn hm)
   have pb : ∀ L, E.call (d + 5) h.length 5 [tx (fmtL n m)] (h.freeze ++ L) = some (.tuple #[fr x2 y2, i64 c2], h.freeze ++ L) := fun L => q1 d _ _ e.freeze.app
   simp [ef3, aw', z', p5, p6, f7, f8, f9, zf, pb]
end J
end Go.Abs
