/- Chapter 7: laws at all arguments of their types. -/
import Derived.Test.YtfbelnhibipndaaAbsUArgs
import Derived.Test.YtfbelnhibipndaaAbsTypM
import Derived.Test.YtfbelnhibipndaaAbsUD0
set_option linter.unusedSimpArgs false
set_option linter.unusedVariables false
namespace Go.Abs
namespace U
set_option maxRecDepth 100000
/-- A law at all arguments of its types. -/
def Law (f : Nat) (cts : List (Bool × List CT)) : Prop := ∀ (bs : List (Option Blk)) us, Heap.freeze (([] : Heap) ++ bs) = [] ++ bs → (∀ n, ctBlocks (cts.flatMap (·.2)) = some n → bs.length = n) →
    ArgsV 6 (([] : Heap) ++ bs) cts us → ∃ h', E.call 31 (([] : Heap) ++ bs).length f us ([] ++ bs) = some (.bool true, h')
abbrev cI1 : Bool × List CT := (false, [ctI])
abbrev cP2 : Bool × List CT := (false, [.sl [ctI, ctI]])
theorem arg_p2 {d : Nat} {h : Heap} {u : Value} (a : ArgV (d + 1) h cP2 u) : ∃ l : List P2, Sl2 h u l := by
  obtain ⟨l, s, _, _⟩ := typ_slG (k := 2) (by decide) enc2 (fun g => (g 0, g 1)) (fun _ => rfl) (fun g j hj => by
    have : j = 0 ∨ j = 1 := by omega
    rcases this with rfl | rfl <;> rfl) (a.2 0 _ _ rfl rfl)
  exact ⟨l, s⟩
abbrev cP3 : Bool × List CT := (false, [.sl [ctI, ctI, ctI]])
theorem arg_p3 {d : Nat} {h : Heap} {u : Value} (a : ArgV (d + 1) h cP3 u) : ∃ l : List P3, Sl3 h u l := by
  obtain ⟨l, s, _, _⟩ := typ_slG (k := 3) (by decide) enc3 (fun g => (g 0, g 1, g 2)) (fun _ => rfl) (fun g j hj => by
    have : j = 0 ∨ j = 1 ∨ j = 2 := by omega
    rcases this with rfl | rfl | rfl <;> rfl) (a.2 0 _ _ rfl rfl)
  exact ⟨l, s⟩
abbrev cIs : Bool × List CT := (false, [.sl [ctI]])
theorem cS_one (l : List Int) : cS (fun x : Int => [i64 x]) l = cI l := by
  induction l with
  | nil => rfl
  | cons x l ih => show i64 x :: cS _ l = i64 x :: cI l; rw [ih]
theorem arg_ints {d : Nat} {h : Heap} {u : Value} (a : ArgV (d + 1) h cIs u) : ∃ l : List Int, SlI' h u l ∧ ∀ x ∈ l, R64 x := by
  obtain ⟨l, s, _, q⟩ := typ_slG (k := 1) (by decide) (fun x : Int => [i64 x]) (fun g => g 0) (fun _ => rfl) (fun g j hj => by
    have : j = 0 := by omega
    rcases this with rfl; rfl) (a.2 0 _ _ rfl rfl)
  have e := cS_one l
  rw [e] at s
  refine ⟨l, s, fun x hx => ?_⟩
  obtain ⟨n, e1, e2⟩ := q x hx (i64 x) (by simp)
  cases e1; exact e2
end U
end Go.Abs
