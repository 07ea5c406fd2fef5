/- Texts as lists of bytes: rules for simp. -/
import Derived.Test.YtllhkifkiabkbaaGreatDoorAbsWpO
import Derived.Test.YtllhkifkiabkbaaGreatDoorAbsNatM
import Derived.Test.YtllhkifkiabkbaaGreatDoorAbsWpM
import Derived.Test.YtllhkifkiabkbaaGreatDoorAbsDecN
set_option linter.unusedSimpArgs false
set_option linter.unusedVariables false
namespace Go.Abs
/-- A text. -/
abbrev tx (l : List UInt8) : Value := .string ⟨l.toArray⟩
@[simp] theorem tx_toList (l : List UInt8) : (ByteArray.mk l.toArray).toList = l := by rw [ByteArray.toList_eq]
@[simp] theorem tx_size (l : List UInt8) : (ByteArray.mk l.toArray).size = l.length := by simp [ByteArray.size]
@[simp] theorem tx_eq (a b : List UInt8) : (ByteArray.mk a.toArray = ByteArray.mk b.toArray) ↔ a = b := by
  constructor
  · intro h; injection h with h; simpa using h
  · intro h; rw [h]
theorem ba_ext {a b : ByteArray} (h : a.data = b.data) : a = b := by
  cases a; cases b; cases h; rfl
@[simp] theorem tx_ext (l : List UInt8) (a b : Nat) : (ByteArray.mk l.toArray).extract a b = ⟨((l.take b).drop a).toArray⟩ := by
  apply ba_ext
  rw [ByteArray.data_extract]
  simp [List.extract_eq_take_drop, List.drop_take]
theorem tx_of (s : ByteArray) : s = ⟨s.toList.toArray⟩ := bytes_inj.1 (tx_toList _).symm
theorem tx_app (a b : List UInt8) : (ByteArray.mk a.toArray) ++ ByteArray.mk b.toArray = ⟨(a ++ b).toArray⟩ := by
  apply ba_ext
  rw [ByteArray.data_append]; simp
theorem bin_saddL (a b : List UInt8) : E.bin .add (.string ⟨a.toArray⟩) (.string ⟨b.toArray⟩) = if a.length + b.length ≤ 9223372036854775807 then some (.string ⟨(a ++ b).toArray⟩) else none := by
  simp only [E.bin, binOp, Op.stringOp, semPure, tx_size, tx_app]
  have m : IntKind.i64.max = 9223372036854775807 := rfl
  rw [m]
  by_cases h : a.length + b.length ≤ 9223372036854775807
  · rw [if_pos h, if_neg (by omega)]; rfl
  · rw [if_neg h, if_pos (by omega)]; rfl
@[simp] theorem bin_sadd {a b : List UInt8} (h : a.length + b.length ≤ 9223372036854775807) : E.bin .add (.string ⟨a.toArray⟩) (.string ⟨b.toArray⟩) = some (.string ⟨(a ++ b).toArray⟩) := by rw [bin_saddL, if_pos h]
@[simp] theorem E_bytes_nil : E.bytes [] = some [] := rfl
@[simp] theorem E_bytes_cons (n : Int) (r : List Value) : E.bytes (.int .u8 n :: r) = (E.bytes r).map (UInt8.ofNat n.toNat :: ·) := rfl
theorem isErr_freeze (h : Heap) (i : Nat) : isErr h.freeze i = isErr h i := by
  unfold isErr
  rw [Heap.get_freeze]
  rcases h.get i with _ | ⟨l, rw⟩
  · rfl
  · simp only [Option.map_some]
    split
    · rename_i e; cases e; rfl
    · rename_i q
      split
      · rename_i e; cases e; exact (q _ _ _ rfl).elim
      · rfl
section
variable {C : Ctx} {Q : St → Prop} {f : AFrame} {h : Heap} {i : Nat} {l : Log} {r : List EOper} {d : Option Nat} {frz : Bool}
/-- A number that is a place. -/
def natV : Value → Option Nat
  | .int _ n => if 0 ≤ n then some n.toNat else none
  | _ => none
@[simp ↓] theorem natV_int (k : IntKind) (n : Int) : natV (.int k n) = if 0 ≤ n then some n.toNat else none := rfl
def EvB (C : Ctx) (f : AFrame) (n : Nat) : Option Operand → (Nat → Prop) → Prop
  | none, Q => Q n
  | some x, Q => Ev C f x fun v => wpV (natV v) Q
@[simp ↓] theorem EvB_none (n : Nat) (Q : Nat → Prop) : EvB C f n none Q = Q n := rfl
@[simp ↓] theorem EvB_some (n : Nat) (x : Operand) (Q : Nat → Prop) : EvB C f n (some x) Q = Ev C f x fun v => wpV (natV v) Q := rfl
theorem EvB_eq (n : Nat) (o : Option Operand) (Q : Nat → Prop) : wpV (E.bound (C.eval f) n o) Q = EvB C f n o Q := by
  rcases o with _ | x
  · simp [E.bound]
  · rw [EvB_some, Ev]
    simp only [E.bound]
    rcases C.eval f x with _ | v
    · simp
    · cases v <;> simp [natV]
/-- A part of a text. -/
def subT (v : Value) (a b : Nat) : Option Value := match v with
  | .string s => if a ≤ b ∧ b ≤ s.size then some (.string (s.extract a b)) else none
  | _ => none
@[simp ↓] theorem subT_str (s : ByteArray) (a b : Nat) : subT (.string s) a b = if a ≤ b ∧ b ≤ s.size then some (.string (s.extract a b)) else none := rfl
def lenT : Value → Nat
  | .string s => s.size
  | _ => 0
@[simp ↓] theorem lenT_str (s : ByteArray) : lenT (.string s) = s.size := rfl
@[simp ↓ high] theorem wpO_strSlice (x : Operand) (lo hi : Option Operand) : wpO C (⟨d, .strSlice x lo hi, none, [], false, frz⟩ :: r) i l ⟨f, h⟩ Q = Ev C f x fun v => EvB C f 0 lo fun a => EvB C f (lenT v) hi fun b => wpV (subT v a b) (KPut C d r i l f h Q) := by
  rw [Ev, wpO_step rfl]; simp only [EOp.run]
  rcases C.eval f x with _ | v
  · simp
  · rw [wpV_some, ← EvB_eq]
    cases v with
    | string s =>
      simp only [lenT_str]
      rcases E.bound (C.eval f) 0 lo with _ | a
      · simp
      · simp only [wpV_some]
        rw [← EvB_eq]
        rcases E.bound (C.eval f) s.size hi with _ | b
        · simp
        · simp only [wpV_some, subT_str, wpV_ite_none, Eff.apply]; rfl
    | _ =>
      rcases E.bound (C.eval f) 0 lo with _ | a
      · simp
      · simp only [wpV_some]
        rw [← EvB_eq]
        rcases E.bound (C.eval f) (lenT _) hi with _ | b <;> simp [subT]
/-- The text of a slice of bytes that one block holds. -/
def strT (h : Heap) : Value → Option Value
  | .slice none 0 0 => some (.string .empty)
  | .slice (some ⟨b, o, none⟩) n 1 => match h.get b with
      | some k => if o + n ≤ k.cells.length then (E.bytes ((k.cells.drop o).take n)).map fun l => .string ⟨l.toArray⟩ else none
      | none => none
  | _ => none
@[simp ↓] theorem strT_own (h : Heap) (b o n : Nat) : strT h (.slice (some ⟨b, o, none⟩) n 1) = match h.get b with
      | some k => if o + n ≤ k.cells.length then (E.bytes ((k.cells.drop o).take n)).map fun l => .string ⟨l.toArray⟩ else none
      | none => none := rfl
end
end Go.Abs
