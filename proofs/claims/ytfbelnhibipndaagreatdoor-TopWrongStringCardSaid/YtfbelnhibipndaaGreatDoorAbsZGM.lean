/- gcd, floor and their like. -/
import Derived.Test.YtfbelnhibipndaaGreatDoorAbsZ3M
import Derived.Test.YtfbelnhibipndaaGreatDoorAbsWpM
set_option linter.unusedSimpArgs false
set_option linter.unusedVariables false
/- gcd, floor and their like. -/
namespace Go.Abs
theorem call1 {E : EProg} {f : FuncId} {F : EFun} (hf : E.fn f = some F) (hm : F.mode = .pure) {args : List Value} (hl : args.length ≤ F.n) {d lim : Nat} {h : Heap} {v : Value}
    (hw : wpC ⟨EProg.call E d, h.length, h.length, true, E.glob, E.fuel, EProg.roundOf E (EProg.call E d)⟩ F.code ⟨argFrame 0 args, h.freeze⟩ (KFun h.length F.results v [])) :
    E.call (d + 1) lim f args h = some (v, h) := by simpa using call_pure hf hm hl hw
abbrev i64 (n : Int) : Value := .int .i64 n
def R64 (n : Int) : Prop := -9223372036854775808 ≤ n ∧ n < 9223372036854775808
theorem wrapD (n : Int) : IntKind.wrap .i64 n = if n % 18446744073709551616 ≥ 9223372036854775808 then n % 18446744073709551616 - 18446744073709551616 else n % 18446744073709551616 := by
  simp [IntKind.wrap, IntKind.bits, IntKind.signed]
@[simp] theorem R64_wrap (n : Int) : R64 (IntKind.wrap .i64 n) := by rw [wrapD]; unfold R64; split <;> omega
end Go.Abs
namespace Go.Abs.Z
open Go Go.Abs
set_option maxRecDepth 100000
set_option maxHeartbeats 0

/-- Euclid's loop on whole numbers. -/
def gcdL (a b : Int) : Int := if b = 0 then (if a < 0 then IntKind.wrap .i64 (-a) else a) else gcdL b (qmod a b)
termination_by b.natAbs
decreasing_by
  have := Int.natAbs_tmod a b
  unfold qmod
  rw [this]
  exact Nat.mod_lt _ (by omega)
theorem qmod_lt {a b : Int} (h : b ≠ 0) : (qmod a b).natAbs < b.natAbs := by
  unfold qmod
  rw [Int.natAbs_tmod]; exact Nat.mod_lt _ (by omega)

theorem c218 {d lim : Nat} {h : Heap} {a b : Int} (hb : R64 b) : E.call (d + 1) lim 218 [.int .i64 a, .int .i64 b] h = some (.int .i64 (gcdL a b), h) := by
  refine call1 fn218 rfl (by simp [ef218]) ?_
  simp [ef218]
  refine wpC_loop (fun n st => ∃ x y : Int, gcdL x y = gcdL a b ∧ n = y.natAbs ∧ st = ⟨[(0, .int .i64 x), (1, .int .i64 y)], h.freeze⟩) b.natAbs (by unfold R64 at hb; show _ < 2 ^ 64; omega) ?_ ?_
  · simp [St.tidy]
    exact ⟨a, b, rfl, rfl, rfl, rfl⟩
  · rintro m hm _ ⟨x, y, hxy, rfl, rfl⟩
    by_cases hy : y = 0
    · subst hy
      simp [St.tidy]
      rw [← hxy]
      unfold gcdL
      simp
      grind
    · simp [St.tidy, hy]
      refine ⟨_, qmod_lt hy, y, qmod x y, ?_, rfl, rfl, rfl⟩
      rw [← hxy]; conv => rhs; unfold gcdL
      rw [if_neg hy]
theorem gcdL_eq {a b : Int} (ha : R64 a) (hb : R64 b) : gcdL a b = IntKind.wrap .i64 (Int.gcd a b) := by
  have key : ∀ (n : Nat) (a b : Int), b.natAbs < n → R64 a → R64 b → gcdL a b = IntKind.wrap .i64 (Int.gcd a b) := by
    intro n
    induction n with
    | zero => intro a b h; omega
    | succ n ih =>
      intro a b h ha hb
      unfold gcdL
      by_cases h0 : b = 0
      · subst h0
        rw [if_pos rfl, Int.gcd_zero_right]
        unfold R64 at ha
        by_cases h1 : a < 0
        · rw [if_pos h1]; congr 1; omega
        · rw [if_neg h1, wrap_eq (by omega) (by omega)]; omega
      · rw [if_neg h0]
        have hlt := qmod_lt (a := a) h0
        have e : (qmod a b).natAbs = a.natAbs % b.natAbs := Int.natAbs_tmod a b
        unfold R64 at ha hb
        rw [ih b (qmod a b) (by omega) hb (by unfold R64; omega)]
        congr 2
        rw [Int.gcd_eq_natAbs_gcd_natAbs, Int.gcd_eq_natAbs_gcd_natAbs, e, Nat.gcd_comm, ← Nat.gcd_rec, Nat.gcd_comm]
  exact key _ a b (Nat.lt_succ_self _) ha hb
theorem gcdL_ne {a b : Int} (ha : R64 a) (hb : R64 b) (h : b ≠ 0) : gcdL a b ≠ 0 := by
  rw [gcdL_eq ha hb]
  have h1 : 0 < Int.gcd a b := Int.gcd_pos_of_ne_zero_right _ h
  have h2 : Int.gcd a b ≤ b.natAbs := Nat.le_of_dvd (by omega) (by rw [Int.gcd_eq_natAbs_gcd_natAbs]; exact Nat.gcd_dvd_right _ _)
  unfold R64 at hb
  rw [wrapD]; split <;> omega
end Go.Abs.Z
/- Fractions: the functions of the program and of the reference. -/
namespace Go.Abs.Z
open Go Go.Abs
set_option maxRecDepth 100000
set_option maxHeartbeats 0
abbrev fr (n m : Int) : Value := .agg #[.int .i64 n, .int .i64 m]
def within (a b c : Int) : Bool := decide (b ≤ a ∧ a ≤ c)
theorem c37 {d lim : Nat} {h : Heap} {a b c : Int} : E.call (d + 1) lim 37 [.int .i64 a, .int .i64 b, .int .i64 c] h = some (.bool (within a b c), h) := by
  refine call1 fn37 rfl (by simp [ef37]) ?_
  simp [ef37, within]
  grind
theorem c180 {d lim : Nat} {h : Heap} {a b c : Int} : E.call (d + 1) lim 180 [.int .i64 a, .int .i64 b, .int .i64 c] h = some (.bool (within a b c), h) := by
  refine call1 fn180 rfl (by simp [ef180]) ?_
  simp [ef180, within]
  grind
def checkFrac (n m : Int) : Int := if m < 1 ∨ gcdL n m ≠ 1 then 3 else if within n (-1000000000) 1000000000 = false ∨ m > 1000000000 then 2 else 0
def two (a b c e : Int) : Int := if checkFrac a b = 0 then checkFrac c e else checkFrac a b
end Go.Abs.Z
