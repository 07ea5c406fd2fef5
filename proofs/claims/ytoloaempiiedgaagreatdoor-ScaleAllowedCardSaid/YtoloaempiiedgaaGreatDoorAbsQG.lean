/- gcd, floor and their like. -/
import Derived.Test.YtoloaempiiedgaaGreatDoorAbsQ
import Derived.Test.YtoloaempiiedgaaGreatDoorAbsWpM
set_option linter.unusedSimpArgs false
set_option linter.unusedVariables false
namespace Go.Abs
theorem call1 {E : EProg} {f : FuncId} {F : EFun} (hf : E.fn f = some F) (hm : F.mode = .pure) {args : List Value} (hl : args.length ≤ F.n) {d lim : Nat} {h : Heap} {v : Value}
    (hw : wpC ⟨EProg.call E d, h.length, h.length, true, E.glob, E.fuel, EProg.roundOf E (EProg.call E d)⟩ F.code ⟨argFrame 0 args, h.freeze⟩ (KFun h.length F.results v [])) :
    E.call (d + 1) lim f args h = some (v, h) := by simpa using call_pure hf hm hl hw
abbrev i64 (n : Int) : Value := .int .i64 n
def R64 (n : Int) : Prop := -9223372036854775808 ≤ n ∧ n < 9223372036854775808
theorem wrapD (n : Int) : IntKind.wrap .i64 n = if n % 18446744073709551616 ≥ 9223372036854775808 then n % 18446744073709551616 - 18446744073709551616 else n % 18446744073709551616 := by
  simp [IntKind.wrap, IntKind.bits, IntKind.signed]
@[simp] theorem R64_wrap (n : Int) : R64 (IntKind.wrap .i64 n) := by rw [wrapD]; unfold R64; split <;> omega
end Go.Abs
namespace Go.Abs.Q
open Go Go.Abs
set_option maxRecDepth 100000
set_option maxHeartbeats 0

/-- Euclid's loop on whole numbers. -/
def gcdL (a b : Int) : Int := if b = 0 then (if a < 0 then IntKind.wrap .i64 (-a) else a) else gcdL b (qmod a b)
termination_by b.natAbs
decreasing_by
  have := Int.natAbs_tmod a b
  unfold qmod
  rw [this]
  exact Nat.mod_lt _ (by omega)
theorem qmod_lt {a b : Int} (h : b ≠ 0) : (qmod a b).natAbs < b.natAbs := by
  unfold qmod
  rw [Int.natAbs_tmod]; exact Nat.mod_lt _ (by omega)

theorem c288 {d lim : Nat} {h : Heap} {a b : Int} (hb : R64 b) : E.call (d + 1) lim 288 [.int .i64 a, .int .i64 b] h = some (.int .i64 (gcdL a b), h) := by
  refine call1 fn288 rfl (by simp [ef288]) ?_
  simp [ef288]
  refine wpC_loop (fun n st => ∃ x y : Int, gcdL x y = gcdL a b ∧ n = y.natAbs ∧ st = ⟨[(0, .int .i64 x), (1, .int .i64 y)], h.freeze⟩) b.natAbs (by unfold R64 at hb; show _ < 2 ^ 64; omega) ?_ ?_
  · simp [St.tidy]
    exact ⟨a, b, rfl, rfl, rfl, rfl⟩
  · rintro m hm _ ⟨x, y, hxy, rfl, rfl⟩
    by_cases hy : y = 0
    · subst hy
      simp [St.tidy]
      rw [← hxy]
      unfold gcdL
      simp
      grind
    · simp [St.tidy, hy]
      refine ⟨_, qmod_lt hy, y, qmod x y, ?_, rfl, rfl, rfl⟩
      rw [← hxy]; conv => rhs; unfold gcdL
      rw [if_neg hy]
def absV (a : Int) : Int := if a < 0 then IntKind.wrap .i64 (-a) else a
theorem c82 {d lim : Nat} {h : Heap} {a : Int} : E.call (d + 1) lim 82 [.int .i64 a] h = some (.int .i64 (absV a), h) := by
  refine call1 fn82 rfl (by simp [ef82]) ?_
  simp [ef82]
  grind [absV]
theorem c276 {d lim : Nat} {h : Heap} {a b : Int} (hb : R64 b) : E.call (d + 2) lim 276 [.int .i64 a, .int .i64 b] h = some (.int .i64 (gcdL a b), h) := by
  refine call1 fn276 rfl (by simp [ef276]) ?_
  simp [ef276]
  refine wpC_loop (fun n st => ∃ x y : Int, gcdL x y = gcdL a b ∧ n = y.natAbs ∧ st = ⟨[(0, .int .i64 x), (1, .int .i64 y)], h.freeze⟩) b.natAbs (by unfold R64 at hb; show _ < 2 ^ 64; omega) ?_ ?_
  · simp [St.tidy]
    exact ⟨a, b, rfl, rfl, rfl, rfl⟩
  · rintro m hm _ ⟨x, y, hxy, rfl, rfl⟩
    by_cases hy : y = 0
    · subst hy
      simp [St.tidy, c82]
      rw [← hxy]
      unfold gcdL
      simp [absV]
    · simp [St.tidy, hy, c82]
      refine ⟨_, qmod_lt hy, y, qmod x y, ?_, rfl, rfl, rfl⟩
      rw [← hxy]; conv => rhs; unfold gcdL
      rw [if_neg hy]
def floorV (n m : Int) : Int := if qmod n m < 0 then IntKind.wrap .i64 (IntKind.wrap .i64 (qdiv n m) - 1) else IntKind.wrap .i64 (qdiv n m)
def ceilV (n m : Int) : Int := IntKind.wrap .i64 (-floorV (IntKind.wrap .i64 (-n)) m)
theorem c292 {d lim : Nat} {h : Heap} {n m : Int} (hm : m ≠ 0) : E.call (d + 1) lim 292 [.int .i64 n, .int .i64 m] h = some (.int .i64 (floorV n m), h) := by
  refine call1 fn292 rfl (by simp [ef292]) ?_
  simp [ef292, hm]
  grind [floorV]
theorem c293 {d lim : Nat} {h : Heap} {n m : Int} (hm : m ≠ 0) : E.call (d + 2) lim 293 [.int .i64 n, .int .i64 m] h = some (.int .i64 (ceilV n m), h) := by
  refine call1 fn293 rfl (by simp [ef293]) ?_
  simp [ef293, c292 hm, ceilV]
theorem gcdL_eq {a b : Int} (ha : R64 a) (hb : R64 b) : gcdL a b = IntKind.wrap .i64 (Int.gcd a b) := by
  have key : ∀ (n : Nat) (a b : Int), b.natAbs < n → R64 a → R64 b → gcdL a b = IntKind.wrap .i64 (Int.gcd a b) := by
    intro n
    induction n with
    | zero => intro a b h; omega
    | succ n ih =>
      intro a b h ha hb
      unfold gcdL
      by_cases h0 : b = 0
      · subst h0
        rw [if_pos rfl, Int.gcd_zero_right]
        unfold R64 at ha
        by_cases h1 : a < 0
        · rw [if_pos h1]; congr 1; omega
        · rw [if_neg h1, wrap_eq (by omega) (by omega)]; omega
      · rw [if_neg h0]
        have hlt := qmod_lt (a := a) h0
        have e : (qmod a b).natAbs = a.natAbs % b.natAbs := Int.natAbs_tmod a b
        unfold R64 at ha hb
        rw [ih b (qmod a b) (by omega) hb (by unfold R64; omega)]
        congr 2
        rw [Int.gcd_eq_natAbs_gcd_natAbs, Int.gcd_eq_natAbs_gcd_natAbs, e, Nat.gcd_comm, ← Nat.gcd_rec, Nat.gcd_comm]
  exact key _ a b (Nat.lt_succ_self _) ha hb
theorem gcdL_ne {a b : Int} (ha : R64 a) (hb : R64 b) (h : b ≠ 0) : gcdL a b ≠ 0 := by
  rw [gcdL_eq ha hb]
  have h1 : 0 < Int.gcd a b := Int.gcd_pos_of_ne_zero_right _ h
  have h2 : Int.gcd a b ≤ b.natAbs := Nat.le_of_dvd (by omega) (by rw [Int.gcd_eq_natAbs_gcd_natAbs]; exact Nat.gcd_dvd_right _ _)
  unfold R64 at hb
  rw [wrapD]; split <;> omega
end Go.Abs.Q
