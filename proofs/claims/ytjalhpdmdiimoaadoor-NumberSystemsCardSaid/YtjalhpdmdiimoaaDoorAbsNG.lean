/- gcd, floor and their like. -/
import Derived.Test.YtjalhpdmdiimoaaDoorAbsN
import Derived.Test.YtjalhpdmdiimoaaDoorAbsWpM
set_option linter.unusedSimpArgs false
set_option linter.unusedVariables false
namespace Go.Abs
theorem call1 {E : EProg} {f : FuncId} {F : EFun} (hf : E.fn f = some F) (hm : F.mode = .pure) {args : List Value} (hl : args.length ≤ F.n) {d lim : Nat} {h : Heap} {v : Value}
    (hw : wpC ⟨EProg.call E d, h.length, h.length, true, E.glob, E.fuel⟩ F.code ⟨argFrame 0 args, h.freeze⟩ (KFun h.length F.results v [])) :
    E.call (d + 1) lim f args h = some (v, h) := by simpa using call_pure hf hm hl hw
abbrev i64 (n : Int) : Value := .int .i64 n
def R64 (n : Int) : Prop := -9223372036854775808 ≤ n ∧ n < 9223372036854775808
theorem wrapD (n : Int) : IntKind.wrap .i64 n = if n % 18446744073709551616 ≥ 9223372036854775808 then n % 18446744073709551616 - 18446744073709551616 else n % 18446744073709551616 := by
  simp [IntKind.wrap, IntKind.bits, IntKind.signed]
@[simp] theorem R64_wrap (n : Int) : R64 (IntKind.wrap .i64 n) := by rw [wrapD]; unfold R64; split <;> omega
end Go.Abs
namespace Go.Abs.N
open Go Go.Abs
set_option maxRecDepth 100000
set_option maxHeartbeats 0

/-- Euclid's loop on whole numbers. -/
def gcdL (a b : Int) : Int := if b = 0 then (if a < 0 then IntKind.wrap .i64 (-a) else a) else gcdL b (qmod a b)
termination_by b.natAbs
decreasing_by
  have := Int.natAbs_tmod a b
  unfold qmod
  rw [this]
  exact Nat.mod_lt _ (by omega)
end Go.Abs.N
