/- Where simp looks: not into code that is still to come. -/
import Derived.Test.YtjalhpdmdiimoaaDoorAbsWp2
set_option linter.unusedSimpArgs false
set_option linter.unusedVariables false
namespace Go.Abs
@[congr] theorem wpV_congr {α : Type} {o o' : Option α} {Q : α → Prop} (h : o = o') : wpV o Q = wpV o' Q := by rw [h]
theorem brB_dec (p : Prop) [Decidable p] (X Y : Prop) : brB (decide p) X Y = ((p → X) ∧ (¬p → Y)) := by
  by_cases h : p <;> simp [h]
theorem brB_beq (a b : Int) (X Y : Prop) : brB (a == b) X Y = ((a = b → X) ∧ (¬a = b → Y)) := by
  by_cases h : a = b
  · simp [h]
  · rw [show (a == b) = false by simpa using h]; simp [h]
theorem brB_bne (a b : Int) (X Y : Prop) : brB (a != b) X Y = ((¬a = b → X) ∧ (a = b → Y)) := by
  by_cases h : a = b
  · simp [h]
  · rw [show (a != b) = true by simpa using h]; simp [h]
theorem brB_var (b : Bool) (X Y : Prop) : brB b X Y = ((b = true → X) ∧ (b = false → Y)) := rfl
attribute [simp ↓] brB_dec brB_beq brB_bne
attribute [simp ↓ low] brB_var
end Go.Abs
namespace Go.Abs
@[congr] theorem brB_congr {b b' : Bool} {X Y : Prop} (h : b = b') : brB b X Y = brB b' X Y := by rw [h]
@[congr] theorem KSeq_congr {C : Ctx} {b : ECode} {Q : Ex → St → Prop} {e e' : Ex} {st : St} (h : e = e') : KSeq C b Q e st = KSeq C b Q e' st := by rw [h]
@[congr] theorem KBlock_congr {id : Nat} {Q : Ex → St → Prop} {e e' : Ex} {st : St} (h : e = e') : KBlock id Q e st = KBlock id Q e' st := by rw [h]
end Go.Abs
