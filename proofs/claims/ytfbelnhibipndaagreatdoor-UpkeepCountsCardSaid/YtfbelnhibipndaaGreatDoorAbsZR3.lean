/- Chapter 7: tests, from a row's premise. -/
import Derived.Test.YtfbelnhibipndaaGreatDoorAbsZP2
import Derived.Test.YtfbelnhibipndaaGreatDoorAbsZN
import Derived.Test.YtfbelnhibipndaaGreatDoorAbsZArgs
import Derived.Test.YtfbelnhibipndaaGreatDoorAbsTypM
set_option linter.unusedSimpArgs false
set_option linter.unusedVariables false
namespace Go.Abs
namespace Z
set_option maxRecDepth 100000
set_option maxHeartbeats 0
abbrev ctRoom : Bool × List CT := (true, .str :: List.replicate 25 ctI)
theorem arg_room {d : Nat} {h : Heap} {u : Value} (a : ArgV d h ctRoom u) : ∃ C nm P S F, u = .agg (C ++ [i64 F]).toArray ∧ Tm C nm P S ∧ nm.size ≤ maxLen ∧ R64 F := by
  obtain ⟨us, rfl, hl, t⟩ := a
  have h26 : us.length = 26 := by rw [hl]; simp
  let I : Nat → Int := fun k => match us[k]? with | some (.int _ x) => x | _ => 0
  have key : ∀ k, 1 ≤ k → k < 26 → us[k]? = some (i64 (I k)) ∧ R64 (I k) := fun k h1 h2 => by
    have hu : us[k]? = some (us[k]'(by omega)) := List.getElem?_eq_getElem _
    obtain ⟨n, hn, r⟩ := typ_int (t k ctI _ (by
      obtain ⟨j, rfl⟩ : ∃ j, k = j + 1 := ⟨k - 1, by omega⟩
      rw [List.getElem?_cons_succ, List.getElem?_replicate, if_pos (by omega)]) hu)
    have e : I k = n := by simp only [I]; rw [hu, hn]
    rw [e, hu, hn]
    exact ⟨rfl, r⟩
  have h0 : us[0]? = some (us[0]'(by omega)) := List.getElem?_eq_getElem _
  obtain ⟨s, hs, hz⟩ := typ_str (t 0 .str _ rfl h0)
  rw [hs] at h0
  have e : us = us.take 25 ++ [i64 (I 25)] := by
    have q := List.take_append_drop 25 us
    have d1 : us.drop 25 = [i64 (I 25)] := by
      rw [List.drop_eq_getElem_cons (by omega), List.drop_of_length_le (by omega)]
      have := (key 25 (by omega) (by omega)).1
      rw [List.getElem?_eq_getElem (by omega)] at this
      rw [Option.some.inj this]
    rw [d1] at q
    exact q.symm
  have tk : ∀ k, k < 25 → (us.take 25)[k]? = us[k]? := fun k hk => by rw [List.getElem?_take, if_pos hk]
  exact ⟨us.take 25, s, fun i => I (1 + i), fun i => I (13 + i), I 25, by rw [← e], ⟨by rw [List.length_take]; omega, by rw [tk 0 (by omega)]; exact h0, fun i hi => by rw [tk _ (by omega)]; exact (key _ (by omega) (by omega)).1, fun i hi => by rw [tk _ (by omega)]; exact (key _ (by omega) (by omega)).1⟩, hz, (key 25 (by omega) (by omega)).2⟩
end Z
end Go.Abs
