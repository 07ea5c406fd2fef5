/- Multiples of pitches: a partial is moved into the pitch; the order of beats; pitches compared. -/
import Derived.Test.YtinbdefjjfmfoaaDoorAbsTHN
import Derived.Test.YtinbdefjjfmfoaaDoorAbsTEM
set_option linter.unusedSimpArgs false
set_option linter.unusedVariables false
/- Multiples of pitches: a partial is moved into the pitch; the order of beats; pitches compared. -/
namespace Go.Abs
namespace T
set_option maxRecDepth 100000
set_option maxHeartbeats 0
end T
end Go.Abs
/- The law TemperOctaves. -/
namespace Go.Abs
namespace T
set_option maxRecDepth 100000
set_option maxHeartbeats 0
theorem int_sum {P S : Nat → Int} (o : Okt P S) {a b c : Nat} (ha : a ≤ 87) (hb : b ≤ 87) (hc : c ≤ 87) : intX P S a c = addZ (intX P S a b) 1 (intX P S b c) := by
  rw [intX_eq o (by omega) (by omega), intX_eq o (by omega) (by omega), intX_eq o (by omega) (by omega)]
  simp only [intZ, addZ, Prod.mk.injEq]
  omega
theorem isNote_mk {n : Nat} (h : n ≤ 87) : isNote (n : Int) = true := by simp [isNote, within]; omega
theorem isP_B3 {x : X3} (h : isP x = true) : B3 x 400 := isP_R h
theorem arg_agg3 {d : Nat} {h : Heap} {u : Value} (a : ArgV d h (true, [ctI, ctI, ctI]) u) : ∃ x y z, u = v3 (x, y, z) ∧ R64 x ∧ R64 y ∧ R64 z := by
  obtain ⟨us, rfl, hl, t⟩ := a
  match us, hl with
  | [u0, u1, u2], _ =>
    obtain ⟨x, rfl, hx⟩ := typ_int (t 0 _ _ rfl rfl)
    obtain ⟨y, rfl, hy⟩ := typ_int (t 1 _ _ rfl rfl)
    obtain ⟨z, rfl, hz⟩ := typ_int (t 2 _ _ rfl rfl)
    exact ⟨x, y, z, rfl, hx, hy, hz⟩
end T
end Go.Abs
/- The law TemperPurity. -/
namespace Go.Abs
namespace T
set_option maxRecDepth 100000
set_option maxHeartbeats 0
theorem SlBo_nil {h : Heap} : SlBo h (.slice none 0 0) [] := ⟨rfl, rfl, fun z => absurd rfl z, .inl rfl, fun k hk => absurd hk (by simp)⟩
end T
end Go.Abs
