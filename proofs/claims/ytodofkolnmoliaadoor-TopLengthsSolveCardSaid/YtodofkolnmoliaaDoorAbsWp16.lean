/- Calls of functions that are values. -/
import Derived.Test.YtodofkolnmoliaaDoorAbsWpN
set_option linter.unusedSimpArgs false
set_option linter.unusedVariables false
namespace Go.Abs
def callV (C : Ctx) (frz : Bool) (v : Value) (vs : List Value) (h : Heap) : Option (Value × Heap) :=
  match v with
  | .func (.func g) first captured => C.callAt frz g (first.toList ++ vs ++ captured.toList) h
  | _ => none
@[simp ↓] theorem callV_func (C : Ctx) (frz : Bool) (g : FuncId) (a b : Array Value) (vs : List Value) (h : Heap) : callV C frz (.func (.func g) a b) vs h = C.callAt frz g (a.toList ++ vs ++ b.toList) h := rfl
@[simp ↓ high] theorem wpO_callVal {C : Ctx} {Q : St → Prop} {f : AFrame} {h : Heap} {i : Nat} {l : Log} {r : List EOper} {d : Option Nat} {frz : Bool} (g : Operand) (as : List Operand) :
    wpO C (⟨d, .callVal g as, none, [], false, frz⟩ :: r) i l ⟨f, h⟩ Q = Ev C f g fun v => Evs C f as fun vs => wpV (callV C frz v vs h) fun p => wpO C r (i + 1) l ⟨f.put d p.1, p.2⟩ Q := by
  rw [Ev, wpO_cons]
  simp only [EOp.exec, ← Evs_eq]
  rcases C.eval f g with _ | v
  · simp
  · rw [wpV_some]
    rcases List.mapM (C.eval f) as with _ | vs
    · rw [wpV_none]
      cases v with
      | func fn a b => cases fn <;> first | rfl | simp
      | _ => first | rfl | simp
    · rw [wpV_some]
      cases v with
      | func fn a b =>
        cases fn with
        | func g =>
          simp only [callV_func, wpV_map]
          rcases C.callAt frz g (a.toList ++ vs ++ b.toList) h with _ | ⟨v', h'⟩
          · simp
          · simp
        | _ => simp [callV]
      | _ => simp [callV]
end Go.Abs
