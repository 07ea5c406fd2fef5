/- Chapter 7: monotone, from a row's premise. -/
import Derived.Test.YtfbelnhibipndaaAbsUH2
import Derived.Test.YtfbelnhibipndaaAbsUR6
set_option linter.unusedSimpArgs false
set_option linter.unusedVariables false
namespace Go.Abs
namespace U
set_option maxRecDepth 100000
abbrev cSn : Bool × List CT := (true, [.sl [ctI, ctI], .sl [ctI], ctI])
theorem arg_sn {d : Nat} {h : Heap} {u : Value} (a : ArgV (d + 1) h cSn u) : ∃ v w day l g, u = .agg #[v, w, i64 day] ∧ Sl2 h v l ∧ SlI' h w g := by
  obtain ⟨us, rfl, hl, t⟩ := a
  match us, hl with
  | [u0, u1, u2], _ =>
    obtain ⟨l, s, _, _⟩ := typ_slG (k := 2) (by decide) enc2 (fun g => (g 0, g 1)) (fun _ => rfl) (fun g j hj => by
      have : j = 0 ∨ j = 1 := by omega
      rcases this with rfl | rfl <;> rfl) (t 0 _ _ rfl rfl)
    obtain ⟨g, s2, _, _⟩ := typ_slG (k := 1) (by decide) (fun x : Int => [i64 x]) (fun g => g 0) (fun _ => rfl) (fun g j hj => by
      have : j = 0 := by omega
      rcases this with rfl; rfl) (t 1 _ _ rfl rfl)
    rw [cS_one g] at s2
    obtain ⟨y, rfl, hy⟩ := typ_int (t 2 _ _ rfl rfl)
    exact ⟨u0, u1, y, l, g, rfl, s, s2⟩
theorem lawR6 : Law 6 [cA4, cSn] := by
  intro bs us _ k a
  obtain ⟨u, v, rfl, a1, a2⟩ := args2 a
  obtain ⟨s, m, r, t, rfl, _⟩ := arg_agg4 a1
  obtain ⟨v, w, day, l, g, rfl, sl, sg⟩ := arg_sn a2
  exact ⟨_, law6 (bs := bs) (k 2 (by decide)) sl sg⟩
end U
end Go.Abs
