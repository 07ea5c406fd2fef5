/- The laws of this seat, from a row's premise. -/
import Derived.Test.YtodofkolnmoliaaDoorAbsXT2
import Derived.Test.YtodofkolnmoliaaDoorAbsXArgs
import Derived.Test.YtodofkolnmoliaaDoorAbsTyped2
import Derived.Test.YtodofkolnmoliaaDoorAbsXJ
set_option linter.unusedSimpArgs false
set_option linter.unusedVariables false
namespace Go.Abs
namespace X
set_option maxRecDepth 100000
abbrev ctR : Bool × List CT := (true, [ctI, ctI])
theorem arg_ranges {d : Nat} {h : Heap} {u : Value} (a : ArgV (d + 1) h (false, [.sl [ctI, ctI]]) u) : ∃ l : List XR, SlR h u l := by
  obtain ⟨l, s, _, _⟩ := typ_slG (k := 2) (by decide) encR (fun g => (g 0, g 1)) (fun _ => rfl) (fun g j hj => by
    have : j = 0 ∨ j = 1 := by omega
    rcases this with rfl | rfl <;> rfl) (a.2 0 _ _ rfl rfl)
  exact ⟨l, s⟩
/-- A law at all arguments of its types. -/
def Law (f : Nat) (cts : List (Bool × List CT)) : Prop := ∀ (bs : List (Option Blk)) us, Heap.freeze (([primesB] : Heap) ++ bs) = [primesB] ++ bs → (∀ n, ctBlocks (cts.flatMap (·.2)) = some n → bs.length = n) →
    ArgsV 6 (([primesB] : Heap) ++ bs) cts us → ∃ h', E.call 40 (([primesB] : Heap) ++ bs).length f us ([primesB] ++ bs) = some (.bool true, h')
theorem law3 : Law 3 [(false, [.sl [ctI, ctI]]), ctR] := by
  intro bs us _ _ a
  obtain ⟨v, w, rfl, a1, a2⟩ := args2 a
  obtain ⟨l, s⟩ := arg_ranges (d := 5) a1
  obtain ⟨p, q, rfl, _, _⟩ := arg_agg2 a2
  exact ⟨_, c3 (d := 31) (sp1 bs) s⟩
end X
end Go.Abs
