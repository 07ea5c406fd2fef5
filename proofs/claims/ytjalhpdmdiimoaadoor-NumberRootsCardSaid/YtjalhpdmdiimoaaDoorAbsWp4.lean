/- Steps of regions in one go. -/
import Derived.Test.YtjalhpdmdiimoaaDoorAbsWp3
set_option linter.unusedSimpArgs false
set_option linter.unusedVariables false
namespace Go.Abs
/-- A pointer, moved on. -/
def ptrAdd (k : Nat) : Value → Option Value
  | .pointer (some ⟨b, o, none⟩) => some (.pointer (some ⟨b, o + k, none⟩))
  | _ => none
@[simp ↓] theorem ptrAdd_ptr (k b o : Nat) : ptrAdd k (.pointer (some ⟨b, o, none⟩)) = some (.pointer (some ⟨b, o + k, none⟩)) := rfl
/-- A cell, some cells. -/
def Heap.cell (h : Heap) (b o : Nat) : Option Value := (h.get b).bind fun k => k.cells[o]?
def Heap.part (h : Heap) (b o n : Nat) : Option Value := (h.get b).bind fun k => if o + n ≤ k.cells.length then some (.agg ((k.cells.drop o).take n).toArray) else none
def loadV (h : Heap) (agg : Bool) (size : Nat) : Value → Option Value
  | .pointer (some ⟨b, o, none⟩) => if agg then h.part b o size else h.cell b o
  | _ => none
@[simp ↓] theorem loadV_cell (h : Heap) (n b o : Nat) : loadV h false n (.pointer (some ⟨b, o, none⟩)) = h.cell b o := rfl
@[simp ↓] theorem loadV_part (h : Heap) (n b o : Nat) : loadV h true n (.pointer (some ⟨b, o, none⟩)) = h.part b o n := rfl
def slN : Value → Option Nat
  | .slice none 0 0 => some 0
  | .slice (some ⟨_, _, none⟩) n _ => some n
  | _ => none
def slB : Value → Nat
  | .slice (some ⟨b, _, _⟩) _ _ => b
  | _ => 0
def slO : Value → Nat
  | .slice (some ⟨_, o, _⟩) _ _ => o
  | _ => 0
@[simp] theorem slN_nil : slN (.slice none 0 0) = some 0 := rfl
@[simp] theorem slN_some (b o n s : Nat) : slN (.slice (some ⟨b, o, none⟩) n s) = some n := rfl
@[simp] theorem slB_some (b o n s : Nat) : slB (.slice (some ⟨b, o, none⟩) n s) = b := rfl
@[simp] theorem slO_some (b o n s : Nat) : slO (.slice (some ⟨b, o, none⟩) n s) = o := rfl
def slAt (es : Nat) (v i : Value) : Option Value :=
  match v, i with
  | .slice (some ⟨b, o, none⟩) ln s, .int _ n => if 0 ≤ n ∧ n < ln ∧ s = es then some (.pointer (some ⟨b, o + n.toNat * es, none⟩)) else none
  | _, _ => none
@[simp] theorem slAt_some (es b o ln s : Nat) (k : IntKind) (n : Int) : slAt es (.slice (some ⟨b, o, none⟩) ln s) (.int k n) = if 0 ≤ n ∧ n < ln ∧ s = es then some (.pointer (some ⟨b, o + n.toNat * es, none⟩)) else none := rfl
/-- An address within an array. -/
def arAt (ln es : Nat) (v i : Value) : Option Value :=
  match v, i with
  | .pointer (some ⟨b, o, none⟩), .int _ n => if 0 ≤ n ∧ n < ln then some (.pointer (some ⟨b, o + n.toNat * es, none⟩)) else none
  | _, _ => none
@[simp] theorem arAt_some (ln es b o : Nat) (k : IntKind) (n : Int) : arAt ln es (.pointer (some ⟨b, o, none⟩)) (.int k n) = if 0 ≤ n ∧ n < ln then some (.pointer (some ⟨b, o + n.toNat * es, none⟩)) else none := rfl
def extV (i : Nat) : Value → Option Value
  | .tuple vs => vs[i]?
  | _ => none
@[simp ↓] theorem extV_tuple (i : Nat) (vs : Array Value) : extV i (.tuple vs) = vs[i]? := rfl
def pickV (a b : Option Value) : Value → Option Value
  | .bool t => if t then a else b
  | _ => none
@[simp ↓] theorem pickV_true (a b : Option Value) : pickV a b (.bool true) = a := rfl
@[simp ↓] theorem pickV_false (a b : Option Value) : pickV a b (.bool false) = b := rfl
def fieldV (agg : Bool) (off size : Nat) : Value → Option Value
  | .agg cs => if agg then some (.agg (cs.extract off (off + size))) else cs[off]?
  | _ => none
@[simp ↓] theorem fieldV_cell (off size : Nat) (cs : Array Value) : fieldV false off size (.agg cs) = cs[off]? := rfl
@[simp ↓] theorem fieldV_part (off size : Nat) (cs : Array Value) : fieldV true off size (.agg cs) = some (.agg (cs.extract off (off + size))) := rfl
def convV (k : IntKind) : Value → Option Value
  | .int _ n => some (.int k (k.wrap n))
  | _ => none
@[simp ↓] theorem convV_int (k k' : IntKind) (n : Int) : convV k (.int k' n) = some (.int k (k.wrap n)) := rfl
def storeH (lim size : Nat) (h : Heap) (a v : Value) : Option Heap :=
  match a with
  | .pointer (some ⟨b, o, none⟩) => match h.get b with
      | some k =>
        if k.rw = true ∧ v.cells.size = size ∧ o + size ≤ k.cells.length ∧ v.cells.toList.all Value.oneCell' = true ∧ (lim ≤ b ∨ v.cells.toList.all noAddr = true) then
          some (h.put b (some ⟨splice k.cells o v.cells.toList, true⟩))
        else none
      | none => none
  | _ => none
def allOne : List Value → Bool
  | [] => true
  | v :: r => v.oneCell' && allOne r
def allNo : List Value → Bool
  | [] => true
  | v :: r => noAddr v && allNo r
@[simp] theorem allOne_nil : allOne [] = true := rfl
@[simp] theorem allOne_cons (v : Value) (r : List Value) : allOne (v :: r) = (v.oneCell' && allOne r) := rfl
@[simp] theorem allNo_nil : allNo [] = true := rfl
@[simp] theorem allNo_cons (v : Value) (r : List Value) : allNo (v :: r) = (noAddr v && allNo r) := rfl
theorem allOne_eq : ∀ l : List Value, l.all Value.oneCell' = allOne l
  | [] => rfl
  | v :: r => by rw [List.all_cons, allOne_eq r]; rfl
theorem allNo_eq : ∀ l : List Value, l.all noAddr = allNo l
  | [] => rfl
  | v :: r => by rw [List.all_cons, allNo_eq r]; rfl
@[simp ↓] theorem storeH_ptr (lim size : Nat) (h : Heap) (b o : Nat) (v : Value) : storeH lim size h (.pointer (some ⟨b, o, none⟩)) v = match h.get b with
      | some k =>
        if k.rw = true ∧ v.cells.size = size ∧ o + size ≤ k.cells.length ∧ allOne v.cells.toList = true ∧ (lim ≤ b ∨ allNo v.cells.toList = true) then
          some (h.put b (some ⟨splice k.cells o v.cells.toList, true⟩))
        else none
      | none => none := by
  rw [← allOne_eq, ← allNo_eq]; rfl

section
variable {C : Ctx} {Q : St → Prop} {f : AFrame} {h : Heap} {i : Nat} {l : Log} {r : List EOper} {d : Option Nat} {frz : Bool}

/-- What a step gives that reads no block. -/
def KPut (C : Ctx) (d : Option Nat) (r : List EOper) (i : Nat) (l : Log) (f : AFrame) (h : Heap) (Q : St → Prop) (v : Value) : Prop := wpO C r (i + 1) l ⟨f.put d v, h⟩ Q
@[simp ↓] theorem KPut_some (s : Nat) (v : Value) : KPut C (some s) r i l f h Q v = wpO C r (i + 1) l ⟨(s, v) :: f, h⟩ Q := rfl
@[simp ↓] theorem KPut_none (v : Value) : KPut C none r i l f h Q v = wpO C r (i + 1) l ⟨f, h⟩ Q := rfl
/-- One operand. -/
def Ev (C : Ctx) (f : AFrame) (x : Operand) (Q : Value → Prop) : Prop := wpV (C.eval f x) Q
@[simp ↓] theorem Ev_tmp (t : Nat) (Q : Value → Prop) : Ev C f (.tmp t) Q = wpV (f.get t) Q := rfl
@[simp ↓] theorem Ev_const (v : Value) (Q : Value → Prop) : Ev C f (.const v) Q = Q v := by simp [Ev]
@[simp ↓] theorem Ev_func (g : Nat) (Q : Value → Prop) : Ev C f (.func g) Q = Q (.func (.func g) #[] #[]) := by simp [Ev]
@[simp ↓] theorem Ev_global (g : Nat) (Q : Value → Prop) : Ev C f (.global g) Q = wpV (globPos C.glob g) fun i => Q (.pointer (some ⟨i, 0, none⟩)) := by simp [Ev]

theorem wpO_step {op : EOp} {o : Option Out} (e : op.exec C frz f h = o.map fun o => (o.val, o.eff.apply h, o.reads, o.eff.writes)) :
    wpO C (⟨d, op, none, [], false, frz⟩ :: r) i l ⟨f, h⟩ Q = wpV o fun o => wpO C r (i + 1) l ⟨f.put d o.val, o.eff.apply h⟩ Q := by
  rw [wpO_cons]; simp only [e, wpV_map, KOp_plain]
theorem wpO_pure {op : EOp} {o : Option Out} {v : Option Value} (e : op.exec C frz f h = o.map fun o => (o.val, o.eff.apply h, o.reads, o.eff.writes))
    (k : o.map (fun o => (o.val, o.eff.apply h)) = v.map fun v => (v, h)) :
    wpO C (⟨d, op, none, [], false, frz⟩ :: r) i l ⟨f, h⟩ Q = wpV v (KPut C d r i l f h Q) := by
  rw [wpO_step e]
  rcases o with _ | o <;> rcases v with _ | v <;> simp at k ⊢
  obtain ⟨rfl, k2⟩ := k
  rw [k2]; rfl
end
end Go.Abs
