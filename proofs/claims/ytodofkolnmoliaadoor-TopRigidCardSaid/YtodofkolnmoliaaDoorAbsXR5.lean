/- The law TopRigid, from a row's premise. -/
import Derived.Test.YtodofkolnmoliaaDoorAbsXHN
import Derived.Test.YtodofkolnmoliaaDoorAbsXArgs
import Derived.Test.YtodofkolnmoliaaDoorAbsTypM
import Derived.Test.YtodofkolnmoliaaDoorAbsXJ
set_option linter.unusedSimpArgs false
set_option linter.unusedVariables false
namespace Go.Abs
namespace X
set_option maxRecDepth 100000
abbrev ct3 : Bool × List CT := (true, [ctI, ctI, ctI])
abbrev ctLd : Bool × List CT := (false, [.sl [ctI, ctI]])
theorem arg_v3 {d : Nat} {h : Heap} {u : Value} (a : ArgV d h ct3 u) : ∃ x y z, u = v3 x y z := by
  obtain ⟨us, rfl, hl, t⟩ := a
  match us, hl with
  | [u0, u1, u2], _ =>
    obtain ⟨x, rfl, _⟩ := typ_int (t 0 _ _ rfl rfl)
    obtain ⟨y, rfl, _⟩ := typ_int (t 1 _ _ rfl rfl)
    obtain ⟨z, rfl, _⟩ := typ_int (t 2 _ _ rfl rfl)
    exact ⟨x, y, z, rfl⟩
theorem arg_loads {d : Nat} {h : Heap} {u : Value} (a : ArgV (d + 1) h ctLd u) : ∃ l : List XR, SlR h u l := by
  obtain ⟨l, s, _, _⟩ := typ_slG (k := 2) (by decide) encR (fun g => (g 0, g 1)) (fun _ => rfl) (fun g j hj => by
    have : j = 0 ∨ j = 1 := by omega
    rcases this with rfl | rfl <;> rfl) (a.2 0 _ _ rfl rfl)
  exact ⟨l, s⟩
theorem law9 (bs : List (Option Blk)) (us : List Value) (_ : Heap.freeze (([primesB] : Heap) ++ bs) = [primesB] ++ bs) (_ : ∀ n, ctBlocks (([ct3, ctLd, ct3] : List (Bool × List CT)).flatMap (·.2)) = some n → bs.length = n)
    (a : ArgsV 6 (([primesB] : Heap) ++ bs) [ct3, ctLd, ct3] us) : ∃ h', E.call 40 (([primesB] : Heap) ++ bs).length 9 us ([primesB] ++ bs) = some (.bool true, h') := by
  obtain ⟨v, w, z, rfl, a1, a2, a3⟩ := args3 a
  obtain ⟨x, y, z', rfl⟩ := arg_v3 a1
  obtain ⟨L, s⟩ := arg_loads (d := 5) a2
  obtain ⟨p, q, r, rfl⟩ := arg_v3 a3
  exact ⟨_, c9 (d := 31) (sp1 bs) s⟩
end X
end Go.Abs
