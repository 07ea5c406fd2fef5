/- The law TemperNotes, of a row's arguments. -/
import Derived.Test.YtfbelnhibipndaaGreatDoorAbsZDN
set_option linter.unusedSimpArgs false
set_option linter.unusedVariables false
namespace Go.Abs
namespace Z
set_option maxRecDepth 100000
set_option maxHeartbeats 0
abbrev ctT : Bool × List CT := (true, .str :: List.replicate 24 ctI)
theorem arg_tm {d : Nat} {h : Heap} {u : Value} (a : ArgV d h ctT u) : ∃ C nm P S, u = .agg C.toArray ∧ Tm C nm P S ∧ nm.size ≤ maxLen ∧ (∀ i, i < 12 → R64 (P i) ∧ R64 (S i)) := by
  obtain ⟨us, rfl, hl, t⟩ := a
  have h25 : us.length = 25 := by rw [hl]; simp
  let I : Nat → Int := fun k => match us[k]? with | some (.int _ x) => x | _ => 0
  have key : ∀ k, 1 ≤ k → k < 25 → us[k]? = some (i64 (I k)) ∧ R64 (I k) := fun k h1 h2 => by
    have hu : us[k]? = some (us[k]'(by omega)) := List.getElem?_eq_getElem _
    obtain ⟨n, hn, r⟩ := typ_int (t k ctI _ (by
      obtain ⟨j, rfl⟩ : ∃ j, k = j + 1 := ⟨k - 1, by omega⟩
      rw [List.getElem?_cons_succ, List.getElem?_replicate, if_pos (by omega)]) hu)
    have e : I k = n := by simp only [I]; rw [hu, hn]
    rw [e, hu, hn]
    exact ⟨rfl, r⟩
  have h0 : us[0]? = some (us[0]'(by omega)) := List.getElem?_eq_getElem _
  obtain ⟨s, hs, hz⟩ := typ_str (t 0 .str _ rfl h0)
  rw [hs] at h0
  exact ⟨us, s, fun i => I (1 + i), fun i => I (13 + i), rfl, ⟨h25, h0, fun i hi => (key _ (by omega) (by omega)).1, fun i hi => (key _ (by omega) (by omega)).1⟩, hz, fun i hi => ⟨(key _ (by omega) (by omega)).2, (key _ (by omega) (by omega)).2⟩⟩
theorem sp0 (bs : List (Option Blk)) : SlU ([primesB] ++ bs) (.slice (some ⟨0, 0, none⟩) 3 1) [2, 3, 5] := by
  have g : Heap.get ([primesB] ++ bs) 0 = some ⟨cU [2, 3, 5], false⟩ := rfl
  exact SlU_own (Heap.get_lt g) g
end Z
end Go.Abs
