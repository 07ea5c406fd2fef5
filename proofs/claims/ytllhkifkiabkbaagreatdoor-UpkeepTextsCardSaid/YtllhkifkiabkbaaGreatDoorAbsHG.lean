/- gcd, floor and their like. -/
import Derived.Test.YtllhkifkiabkbaaGreatDoorAbsH
import Derived.Test.YtllhkifkiabkbaaGreatDoorAbsWpM
set_option linter.unusedSimpArgs false
set_option linter.unusedVariables false
namespace Go.Abs
theorem call1 {E : EProg} {f : FuncId} {F : EFun} (hf : E.fn f = some F) (hm : F.mode = .pure) {args : List Value} (hl : args.length ≤ F.n) {d lim : Nat} {h : Heap} {v : Value}
    (hw : wpC ⟨EProg.call E d, h.length, h.length, true, E.glob, E.fuel, EProg.roundOf E (EProg.call E d)⟩ F.code ⟨argFrame 0 args, h.freeze⟩ (KFun h.length F.results v [])) :
    E.call (d + 1) lim f args h = some (v, h) := by simpa using call_pure hf hm hl hw
abbrev i64 (n : Int) : Value := .int .i64 n
def R64 (n : Int) : Prop := -9223372036854775808 ≤ n ∧ n < 9223372036854775808
theorem wrapD (n : Int) : IntKind.wrap .i64 n = if n % 18446744073709551616 ≥ 9223372036854775808 then n % 18446744073709551616 - 18446744073709551616 else n % 18446744073709551616 := by
  simp [IntKind.wrap, IntKind.bits, IntKind.signed]
@[simp] theorem R64_wrap (n : Int) : R64 (IntKind.wrap .i64 n) := by rw [wrapD]; unfold R64; split <;> omega
theorem wrapR {n : Int} (h : R64 n) : IntKind.wrap .i64 n = n := wrap_eq h.1 h.2
end Go.Abs
namespace Go.Abs.H
open Go Go.Abs
set_option maxRecDepth 100000
set_option maxHeartbeats 0

def absV (a : Int) : Int := if a < 0 then IntKind.wrap .i64 (-a) else a
theorem c96 {d lim : Nat} {h : Heap} {a : Int} : E.call (d + 1) lim 96 [.int .i64 a] h = some (.int .i64 (absV a), h) := by
  refine call1 fn96 rfl (by simp [ef96]) ?_
  simp [ef96]
  grind [absV]
end Go.Abs.H
