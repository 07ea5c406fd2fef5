/- Chapter 7: counts, from a row's premise. -/
import Derived.Test.YtfbelnhibipndaaGreatDoorAbsZQ4
import Derived.Test.YtfbelnhibipndaaGreatDoorAbsZR3
import Derived.Test.YtfbelnhibipndaaGreatDoorAbsRowed2
set_option linter.unusedSimpArgs false
set_option linter.unusedVariables false
namespace Go.Abs
namespace Z
set_option maxRecDepth 100000
set_option maxHeartbeats 0
abbrev ctP6 : Bool × List CT := (false, [.sl [ctI, ctI, ctI, ctI, ctI, ctI]])
theorem arg_p6 {d : Nat} {h : Heap} {u : Value} (a : ArgV (d + 1) h ctP6 u) : ∃ l : List U.P6, U.Sl6 h u l := by
  obtain ⟨l, s, _, _⟩ := typ_slG (k := 6) (by decide) U.enc6 (fun g => ((g 0, g 1, g 2, g 3), (g 4, g 5))) (fun _ => rfl) (fun g j hj => by
    have : j = 0 ∨ j = 1 ∨ j = 2 ∨ j = 3 ∨ j = 4 ∨ j = 5 := by omega
    rcases this with rfl | rfl | rfl | rfl | rfl | rfl <;> rfl) (a.2 0 _ _ rfl rfl)
  exact ⟨l, s⟩
theorem law4 : ∀ (bs : List (Option Blk)) us, (∀ u, us[1]? = some u → LenLe 2932031007402 u) → Heap.freeze ([primesB] ++ bs) = [primesB] ++ bs → (∀ n, ctBlocks (([ctRoom, ctP6] : List (Bool × List CT)).flatMap (·.2)) = some n → bs.length = n) →
    ArgsV 6 ([primesB] ++ bs) [ctRoom, ctP6] us → ∃ h', E.call 31 (([primesB] : Heap) ++ bs).length 4 us ([primesB] ++ bs) = some (.bool true, h') := by
  intro bs us hq _ k a
  obtain ⟨u, v, rfl, a1, a2⟩ := args2 a
  obtain ⟨C, nm, P, S, F, rfl, t, _, _⟩ := arg_room a1
  obtain ⟨l, s⟩ := arg_p6 a2
  have hb : bs.length = 1 := k 1 (by decide)
  have hl : l.length ≤ 2932031007402 := by
    have q := hq v rfl
    rcases s.low with e | ⟨b, o, n, m, e, _⟩
    · have := s.len
      rw [e] at this
      simp at this
      rw [← this]; omega
    · subst e
      have := s.len
      simp at this
      have := q b o n m rfl
      omega
  exact ⟨_, U.law4 _ (by simp [hb]) (sp0 bs) t s (by omega)⟩
end Z
end Go.Abs
