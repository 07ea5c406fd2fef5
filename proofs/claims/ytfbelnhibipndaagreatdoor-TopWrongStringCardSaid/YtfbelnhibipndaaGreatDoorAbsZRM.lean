/- Chapter 7: tests, from a row's premise. -/
import Derived.Test.YtfbelnhibipndaaGreatDoorAbsZWM
import Derived.Test.YtfbelnhibipndaaGreatDoorAbsZN
import Derived.Test.YtfbelnhibipndaaGreatDoorAbsZArgs
import Derived.Test.YtfbelnhibipndaaGreatDoorAbsTypM
import Derived.Test.YtfbelnhibipndaaGreatDoorAbsZWP
set_option linter.unusedSimpArgs false
set_option linter.unusedVariables false
/- Chapter 7: tests, from a row's premise. -/
namespace Go.Abs
namespace Z
set_option maxRecDepth 100000
set_option maxHeartbeats 0
abbrev ctP4 : Bool × List CT := (false, [.sl [ctI, ctI, ctI, ctI]])
theorem arg_p4 {d : Nat} {h : Heap} {u : Value} (a : ArgV (d + 1) h ctP4 u) : ∃ l : List U.P4, U.Sl4 h u l := by
  obtain ⟨l, s, _, _⟩ := typ_slG (k := 4) (by decide) U.enc4 (fun g => (g 0, g 1, g 2, g 3)) (fun _ => rfl) (fun g j hj => by
    have : j = 0 ∨ j = 1 ∨ j = 2 ∨ j = 3 := by omega
    rcases this with rfl | rfl | rfl | rfl <;> rfl) (a.2 0 _ _ rfl rfl)
  exact ⟨l, s⟩
end Z
end Go.Abs
/- The law TopWrongString, from a row's premise. -/
namespace Go.Abs
namespace Z
set_option maxRecDepth 100000
set_option maxHeartbeats 0
abbrev ctW3 : Bool × List CT := (true, [ctI, ctI, ctI])
theorem arg_w3 {d : Nat} {h : Heap} {u : Value} (a : ArgV d h ctW3 u) : ∃ x y z, u = .agg #[.int .i64 x, .int .i64 y, .int .i64 z] := by
  obtain ⟨us, rfl, hl, t⟩ := a
  match us, hl with
  | [u0, u1, u2], _ =>
    obtain ⟨x, rfl, hx⟩ := typ_int (t 0 _ _ rfl rfl)
    obtain ⟨y, rfl, hy⟩ := typ_int (t 1 _ _ rfl rfl)
    obtain ⟨z, rfl, hz⟩ := typ_int (t 2 _ _ rfl rfl)
    exact ⟨x, y, z, rfl⟩
theorem law7 : ∀ (bs : List (Option Blk)) us, Heap.freeze ([primesB] ++ bs) = [primesB] ++ bs → (∀ n, ctBlocks (([ctT, ctP4, ctW3] : List (Bool × List CT)).flatMap (·.2)) = some n → bs.length = n) →
    ArgsV 6 ([primesB] ++ bs) [ctT, ctP4, ctW3] us → ∃ h', E.call 31 (([primesB] : Heap) ++ bs).length 7 us ([primesB] ++ bs) = some (.bool true, h') := by
  intro bs us _ k a
  obtain ⟨u, v, w, rfl, a1, a2, a3⟩ := args3 a
  obtain ⟨C, nm, P, S, rfl, t, _⟩ := arg_tm a1
  obtain ⟨l, s⟩ := arg_p4 a2
  obtain ⟨F, n, b, rfl⟩ := arg_w3 a3
  exact ⟨_, U.law7 _ (sp0 bs) t s⟩
end Z
end Go.Abs
