/- What the rows' condition gives: nothing of package variables; the door. -/
import Derived.Test.YtfbelnhibipndaaAbsUOk
import Derived.Test.YtfbelnhibipndaaAbsRowed
import Derived.OpenShut
import Derived.Test.YtfbelnhibipndaaRows
set_option linter.unusedSimpArgs false
set_option linter.unusedVariables false
namespace Go.Proofs.Ytfbelnhibipndaa
open Go.ChangeShapes Go.WideShapes Go.RowKit Go.Abs Go.ChangeAt Go.WideElems Go.WideMaps
set_option maxRecDepth 100000
theorem Try.own : ownKnob Try.prog.godebug = none := by kernel_rfl
theorem Try.laidOut : laidOutB Try.prog = true := by kernel_rfl
def ρ0 : Ren := fun _ => none
theorem glob0 : GlobOk U.E.glob ρ0 := by
  intro g i h
  have : U.E.glob = [] := rfl
  rw [this] at h
  simp only [globPos] at h
  cases h
theorem start0 (W : World) : Inv W [] ρ0 := ⟨fun i L q => (by cases q), fun i b q => (by simp [Heap.get] at q)⟩
theorem trodAll_len {H : Type} {enc : TypeId × Value → H} {P : Program} {W : World} : ∀ {ts : List TypeId} {vs : List Value} {ds : List (DataW H)} {ps : List MemPlace}, DataW.TrodAll enc P W 0 (fun _ => true) true ts vs ds ps → ds.length = ts.length
  | [], [], [], _, _ => rfl
  | _ :: _, _ :: _, _ :: _, _, h => by obtain ⟨_, _, _, h2, _⟩ := h; simp [trodAll_len h2]
  | [], _ :: _, _, _, h => h.elim
  | [], [], _ :: _, _, h => h.elim
  | _ :: _, [], _, _, h => h.elim
  | _ :: _, _ :: _, [], _, h => h.elim
end Go.Proofs.Ytfbelnhibipndaa
