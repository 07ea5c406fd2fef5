--
import Derived.Test.YtmjkdaloalaiiaaDoorAbsJ
import Derived.Test.YtmjkdaloalaiiaaDoorAbsWpM
set_option linter.unusedSimpArgs false
set_option linter.unusedVariables false
namespace Go.Abs
theorem call1 {E : EProg} {f : FuncId} {F : EFun} (hf : E.fn f = some F) (hm : F.mode = .pure) {args : List Value} (hl : args.length ≤ F.n) {d lim : Nat} {h : Heap} {v : Value}
  (hw : wpC ⟨EProg.call E d, h.length, h.length, true, E.glob, E.fuel, EProg.roundOf E (EProg.call E d)⟩ F.code ⟨argFrame 0 args, h.freeze⟩ (KFun h.length F.results v [])) :
  E.call (d + 1) lim f args h = some (v, h) := by simpa using call_pure hf hm hl hw
abbrev i64 (n : Int) : Value := .int .i64 n
def R64 (n : Int) : Prop := -9223372036854775808 ≤ n ∧ n < 9223372036854775808
theorem wrapD (n : Int) : IntKind.wrap .i64 n = if n % 18446744073709551616 ≥ 9223372036854775808 then n % 18446744073709551616 - 18446744073709551616 else n % 18446744073709551616 := by
 simp [IntKind.wrap, IntKind.bits, IntKind.signed]
@[simp] theorem R64_wrap (n : Int) : R64 (IntKind.wrap .i64 n) := by rw [wrapD]; unfold R64; split <;> omega
theorem wrapR {n : Int} (h : R64 n) : IntKind.wrap .i64 n = n := wrap_eq h.1 h.2
end Go.Abs
namespace Go.Abs.J
open Go Go.Abs
set_option maxRecDepth 100000
set_option maxHeartbeats 0
def gcdL (a b : Int) : Int := if b = 0 then (if a < 0 then IntKind.wrap .i64 (-a) else a) else gcdL b (qmod a b)
termination_by b.natAbs
decreasing_by
 have := Int.natAbs_tmod a b
 unfold qmod
 rw [this]
 exact Nat.mod_lt _ (by omega)
theorem qmod_lt {a b : Int} (h : b ≠ 0) : (qmod a b).natAbs < b.natAbs := by
 unfold qmod
 rw [Int.natAbs_tmod]; exact Nat.mod_lt _ (by omega)
theorem c44 {d lim : Nat} {h : Heap} {a b : Int} (hb : R64 b) : E.call (d + 1) lim 44 [.int .i64 a, .int .i64 b] h = some (.int .i64 (gcdL a b), h) := by
 refine call1 fn44 rfl (by simp [ef44]) ?_
 simp [ef44]
 refine wpC_loop (fun n st => ∃ x y : Int, gcdL x y = gcdL a b ∧ n = y.natAbs ∧ st = ⟨[(0, .int .i64 x), (1, .int .i64 y)], h.freeze⟩) b.natAbs (by unfold R64 at hb; show _ < 2 ^ 64; omega) ?_ ?_
 ·simp [St.tidy]
  exact ⟨a, b, rfl, rfl, rfl, rfl⟩
 ·rintro m hm _ ⟨x, y, hxy, rfl, rfl⟩
  by_cases hy : y = 0
  ·subst hy
   simp [St.tidy]
   rw [← hxy]
   unfold gcdL
   simp
   grind
  ·simp [St.tidy, hy]
   refine ⟨_, qmod_lt hy, y, qmod x y, ?_, rfl, rfl, rfl⟩
   rw [← hxy]; conv => rhs; unfold gcdL
   rw [if_neg hy]
def absV (a : Int) : Int := if a < 0 then IntKind.wrap .i64 (-a) else a
theorem c47 {d lim : Nat} {h : Heap} {a : Int} : E.call (d + 1) lim 47 [.int .i64 a] h = some (.int .i64 (absV a), h) := by
 refine call1 fn47 rfl (by simp [ef47]) ?_
 simp [ef47]
 grind [absV]
theorem c48 {d lim : Nat} {h : Heap} {a b : Int} (hb : R64 b) : E.call (d + 2) lim 48 [.int .i64 a, .int .i64 b] h = some (.int .i64 (gcdL a b), h) := by
 refine call1 fn48 rfl (by simp [ef48]) ?_
 simp [ef48]
 refine wpC_loop (fun n st => ∃ x y : Int, gcdL x y = gcdL a b ∧ n = y.natAbs ∧ st = ⟨[(0, .int .i64 x), (1, .int .i64 y)], h.freeze⟩) b.natAbs (by unfold R64 at hb; show _ < 2 ^ 64; omega) ?_ ?_
 ·simp [St.tidy]
  exact ⟨a, b, rfl, rfl, rfl, rfl⟩
 ·rintro m hm _ ⟨x, y, hxy, rfl, rfl⟩
  by_cases hy : y = 0
  ·subst hy
   simp [St.tidy, c47]
   rw [← hxy]
   unfold gcdL
   simp [absV]
  ·simp [St.tidy, hy, c47]
   refine ⟨_, qmod_lt hy, y, qmod x y, ?_, rfl, rfl, rfl⟩
   rw [← hxy]; conv => rhs; unfold gcdL
   rw [if_neg hy]
end Go.Abs.J
