/- slices.Grow at a slice of numbers: its contract, laid at this program (by the shelf's tools), and what it gives for the evaluator. -/
import Derived.Shelf.Spec.SlicesGrow
import Derived.Test.YtoloaempiiedgaaGreatDoorProg
import Derived.Test.YtoloaempiiedgaaGreatDoorAbsNatM
set_option linter.unusedSimpArgs false
set_option linter.unusedVariables false
namespace Go.Proofs
open Go.Shelf
def Tryz.growI_ren : Go.Shelf.Ren := ⟨fun | 4 => 143 | n => n, fun | 22 => 28 | 25 => 3 | 3 => 3 | 4 => 4 | 9 => 9 | 20 => 20 | 0 => 0 | n => n, fun | n => n⟩
theorem Tryz.growI : Go.Proofs.Lays8.n4 Tryz.prog Tryz.growI_ren := {
  mixed := by kernel_rfl
  f4 := ⟨Tryz.f143.name, by decide, Tryz.func143.trans (congrArg some (by kernel_rfl))⟩
  t0 := Tryz.underlying0
  a0 := Tryz.isAgg0
  z0 := Tryz.sizeOf0
  v0 := Tryz.zeroValue0
  t3 := Tryz.underlying3
  a3 := Tryz.isAgg3
  z3 := Tryz.sizeOf3
  v3 := Tryz.zeroValue3
  t4 := Tryz.underlying4
  a4 := Tryz.isAgg4
  z4 := Tryz.sizeOf4
  v4 := Tryz.zeroValue4
  t9 := Tryz.underlying9
  a9 := Tryz.isAgg9
  z9 := Tryz.sizeOf9
  v9 := Tryz.zeroValue9
  t20 := Tryz.underlying20
  a20 := Tryz.isAgg20
  z20 := Tryz.sizeOf20
  v20 := Tryz.zeroValue20
  t22 := Tryz.underlying28
  a22 := Tryz.isAgg28
  z22 := Tryz.sizeOf28
  v22 := Tryz.zeroValue28 }
end Go.Proofs
namespace Go.Abs.Q
open Go Go.Abs Go.Proofs Go.RowKit
theorem info3 : (Tryz.prog.info? 3).map (fun i => (i.zero, i.size, i.bytes)) = some (some (.int .i64 0), 1, 8) := by kernel_rfl
theorem okGrow {K : LoopKind} {glob : List Nat} (lim : Nat) (vs : List Value) (h : Heap) (v : Value) (h' : Heap) (hl : lim ≤ h.length) (hN : natGrow vs h = some (v, h')) : CallOk Tryz.prog K glob 143 lim vs h v h' := by
  obtain ⟨i0, hi0, he⟩ := Option.map_eq_some_iff.1 info3
  simp only [Prod.mk.injEq] at he
  obtain ⟨hz, hs, hb⟩ := he
  refine natGrow_ok (te := 3) (by kernel_rfl) (fun w => ?_) (fun n h0 h1 w => ?_) lim vs h v h' hl hN
  · exact Any8.slices_Grow_room Tryz.growI none 0 0 0 w (by decide) (by decide) (by decide) (by decide)
  · refine (Any8.slices_Grow_grow Tryz.growI i0 (.int .i64 0) hi0 hz (by omega) none 0 0 n [] w (by omega) (by omega) (by rw [hb]; omega) (by omega) (by simp) (fun _ => rfl) (fun a q => by cases q)).mono ?_
    rintro e w' ⟨rfl, rfl⟩
    refine ⟨_, _, rfl, rfl, ?_, ?_⟩
    · simp only [Array.size_append, size_zeroCells, List.size_toArray, List.length_nil]
      have := grownCap_ge w (0 + n) 0 3
      show 0 + (0 + n - 0) * 1 + (grownCap w (0 + n) 0 3 - (0 + n)) * 1 = grownCap w (0 + n) 0 3
      omega
    · exact grownCap_le_maxLen _ _ _ _ (by unfold maxLen; omega)
end Go.Abs.Q
