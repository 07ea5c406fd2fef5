/- The law TopLoadsBalance, from a row's premise. -/
import Derived.Test.YtodofkolnmoliaaDoorAbsXR2
import Derived.Test.YtodofkolnmoliaaDoorAbsXKN
set_option linter.unusedSimpArgs false
set_option linter.unusedVariables false
namespace Go.Abs
namespace X
set_option maxRecDepth 100000
abbrev ctPs : Bool × List CT := (true, [.sl [ctI, ctI, ctI], .sl [ctI, ctI, ctI]])
theorem typ_places {d : Nat} {h : Heap} {u : Value} (a : Typ (d + 1) h (.sl [ctI, ctI, ctI]) u) : ∃ l : List Vc, SlV h u l := by
  obtain ⟨l, s, _, _⟩ := typ_slX (cts := [ctI, ctI, ctI]) (by decide) enc3 (fun g => ⟨gInt (g 0), gInt (g 1), gInt (g 2)⟩) (fun _ => rfl) (d := d) (h := h) (fun g hg j hj => by
    obtain ⟨n0, e0, _⟩ := typ_int (hg 0 _ rfl)
    obtain ⟨n1, e1, _⟩ := typ_int (hg 1 _ rfl)
    obtain ⟨n2, e2, _⟩ := typ_int (hg 2 _ rfl)
    have hj' : j < 3 := hj
    have : j = 0 ∨ j = 1 ∨ j = 2 := by omega
    rcases this with rfl | rfl | rfl
    · rw [e0]; rfl
    · rw [e1]; rfl
    · rw [e2]; rfl) a
  exact ⟨l, s⟩
theorem arg_places {d : Nat} {h : Heap} {u : Value} (a : ArgV (d + 1) h ctPs u) : ∃ p q P Q, u = .agg #[p, q] ∧ SlV h p P ∧ SlV h q Q := by
  obtain ⟨us, rfl, hl, t⟩ := a
  match us, hl with
  | [u0, u1], _ =>
    obtain ⟨P, s⟩ := typ_places (t 0 _ _ rfl rfl)
    obtain ⟨Q, q⟩ := typ_places (t 1 _ _ rfl rfl)
    exact ⟨u0, u1, P, Q, rfl, s, q⟩
theorem law10 : LawP 10 [ctP, ctPs] := by
  intro bs us _ _ a
  obtain ⟨v, w, rfl, a1, a2⟩ := args2 a
  obtain ⟨t, v, w, wl, l, rfl, s, q⟩ := arg_stringing (d := 5) a1
  obtain ⟨p, q', P, Q, rfl, sP, sQ⟩ := arg_places (d := 5) a2
  exact ⟨_, c10 (d := 30) (sp1 bs) s q sP sQ⟩
end X
end Go.Abs
