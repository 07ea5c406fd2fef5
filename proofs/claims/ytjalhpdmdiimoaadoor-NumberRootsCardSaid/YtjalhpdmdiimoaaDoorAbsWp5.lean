/- The operations, one rule each. -/
import Derived.Test.YtjalhpdmdiimoaaDoorAbsWp4
set_option linter.unusedSimpArgs false
set_option linter.unusedVariables false
namespace Go.Abs
section
variable {C : Ctx} {Q : St → Prop} {f : AFrame} {h : Heap} {i : Nat} {l : Log} {r : List EOper} {d : Option Nat} {frz : Bool}
/-- Some operands. -/
def Evs (C : Ctx) (f : AFrame) : List Operand → (List Value → Prop) → Prop
  | [], Q => Q []
  | x :: xs, Q => Ev C f x fun v => Evs C f xs fun vs => Q (v :: vs)
@[simp ↓] theorem Evs_nil (Q : List Value → Prop) : Evs C f [] Q = Q [] := rfl
@[simp ↓] theorem Evs_cons (x : Operand) (xs : List Operand) (Q : List Value → Prop) : Evs C f (x :: xs) Q = Ev C f x fun v => Evs C f xs fun vs => Q (v :: vs) := rfl
theorem Evs_eq : ∀ (xs : List Operand) (Q : List Value → Prop), wpV (xs.mapM (C.eval f)) Q = Evs C f xs Q
  | [], Q => by simp
  | x :: xs, Q => by
    rw [List.mapM_cons, Evs_cons, Ev]
    rcases C.eval f x with _ | v
    · simp
    · rw [wpV_some, ← Evs_eq xs]
      rcases List.mapM (C.eval f) xs with _ | vs <;> simp
@[simp ↓ high] theorem wpO_move (x : Operand) : wpO C (⟨d, .move x, none, [], false, frz⟩ :: r) i l ⟨f, h⟩ Q = Ev C f x (KPut C d r i l f h Q) := by
  rw [Ev, wpO_step rfl]; simp only [EOp.run, wpV_map, Eff.apply]; rfl
@[simp ↓ high] theorem wpO_bin (op : BinOp) (x y : Operand) : wpO C (⟨d, .bin op x y, none, [], false, frz⟩ :: r) i l ⟨f, h⟩ Q = Ev C f x fun a => Ev C f y fun b => wpV (E.bin op a b) (KPut C d r i l f h Q) := by
  rw [Ev, wpO_step rfl]; simp only [EOp.run]
  rcases C.eval f x with _ | a
  · simp
  · rw [wpV_some, Ev]
    rcases C.eval f y with _ | b
    · simp
    · simp only [wpV_some, wpV_map, Eff.apply]; rfl
@[simp ↓ high] theorem wpO_un (op : UnOp) (x : Operand) : wpO C (⟨d, .un op x, none, [], false, frz⟩ :: r) i l ⟨f, h⟩ Q = Ev C f x fun a => wpV (E.un op a) (KPut C d r i l f h Q) := by
  rw [Ev, wpO_step rfl]; simp only [EOp.run]
  rcases C.eval f x with _ | a
  · simp
  · simp only [wpV_some, wpV_map, Eff.apply]; rfl
@[simp ↓ high] theorem wpO_eqBool (neg : Bool) (x y : Operand) : wpO C (⟨d, .eqBool neg x y, none, [], false, frz⟩ :: r) i l ⟨f, h⟩ Q = Ev C f x fun a => Ev C f y fun b => wpV (match a, b with
    | .bool a, .bool b => some (.bool (if neg then !(a == b) else a == b))
    | _, _ => none) (KPut C d r i l f h Q) := by
  rw [Ev, wpO_step rfl]; simp only [EOp.run]
  rcases C.eval f x with _ | a
  · simp
  · rw [wpV_some, Ev]
    rcases C.eval f y with _ | b
    · cases a <;> simp
    · rw [wpV_some]
      cases a <;> cases b <;> first | rfl | simp <;> rfl
@[simp ↓ high] theorem wpO_conv (k : IntKind) (x : Operand) : wpO C (⟨d, .conv k x, none, [], false, frz⟩ :: r) i l ⟨f, h⟩ Q = Ev C f x fun v => wpV (convV k v) (KPut C d r i l f h Q) := by
  rw [Ev, wpO_step rfl]; simp only [EOp.run]
  rcases C.eval f x with _ | a
  · simp
  · cases a <;> simp [convV, KPut, Eff.apply]
@[simp ↓ high] theorem wpO_extract (x : Operand) (k : Nat) : wpO C (⟨d, .extract x k, none, [], false, frz⟩ :: r) i l ⟨f, h⟩ Q = Ev C f x fun v => wpV (extV k v) (KPut C d r i l f h Q) := by
  rw [Ev, wpO_step rfl]; simp only [EOp.run]
  rcases C.eval f x with _ | a
  · simp
  · cases a <;> simp only [wpV_some, extV, wpV_none, wpV_map]; rfl
@[simp ↓ high] theorem wpO_pick (c a b : Operand) : wpO C (⟨d, .pick c a b, none, [], false, frz⟩ :: r) i l ⟨f, h⟩ Q = Ev C f c fun t => wpV (pickV (C.eval f a) (C.eval f b) t) (KPut C d r i l f h Q) := by
  rw [Ev, wpO_step rfl]; simp only [EOp.run]
  rcases C.eval f c with _ | t
  · simp
  · cases t <;> simp only [wpV_some, pickV, wpV_none, wpV_map]; rfl
@[simp ↓ high] theorem wpO_fieldAddr (k : Nat) (x : Operand) : wpO C (⟨d, .fieldAddr k x, none, [], false, frz⟩ :: r) i l ⟨f, h⟩ Q = Ev C f x fun v => wpV (ptrAdd k v) (KPut C d r i l f h Q) := by
  rw [Ev, wpO_step rfl]; simp only [EOp.run]
  rcases C.eval f x with _ | v
  · simp
  · rw [wpV_some]
    unfold ptrAdd
    split
    · rename_i q; cases q; simp [KPut, Eff.apply]
    · rename_i q; split
      · exact (q _ _ rfl).elim
      · simp
@[simp ↓ high] theorem wpO_field (agg : Bool) (o s : Nat) (x : Operand) : wpO C (⟨d, .field agg o s x, none, [], false, frz⟩ :: r) i l ⟨f, h⟩ Q = Ev C f x fun v => wpV (fieldV agg o s v) (KPut C d r i l f h Q) := by
  rw [Ev, wpO_step rfl]; simp only [EOp.run]
  rcases C.eval f x with _ | a
  · simp
  · cases a <;> cases agg <;> simp [fieldV, Eff.apply] <;> rfl
@[simp ↓ high] theorem wpO_load (agg : Bool) (s : Nat) (x : Operand) : wpO C (⟨d, .load agg s x, none, [], false, frz⟩ :: r) i l ⟨f, h⟩ Q = Ev C f x fun v => wpV (loadV h agg s v) (KPut C d r i l f h Q) := by
  rw [Ev, wpO_step rfl]; simp only [EOp.run]
  rcases C.eval f x with _ | v
  · simp
  · rw [wpV_some]
    unfold loadV
    split
    · rename_i b o q; cases q
      unfold Heap.part Heap.cell
      rcases e : h.get b with _ | k
      · cases agg <;> simp [e]
      · cases agg
        · simp only [e, Bool.false_eq_true, if_false, wpV_map, Eff.apply, Option.bind_some]; rfl
        · simp only [e, if_true, wpV_ite_none, Eff.apply, Option.bind_some, wpV_some]; rfl
    · rename_i q; split
      · exact (q _ _ rfl).elim
      · simp
@[simp ↓ high] theorem wpO_store (s : Nat) (a x : Operand) : wpO C (⟨d, .store s a x, none, [], false, frz⟩ :: r) i l ⟨f, h⟩ Q = Ev C f a fun p => Ev C f x fun v => wpV (storeH C.lim s h p v) fun h' => wpO C r (i + 1) l ⟨f.put d undef, h'⟩ Q := by
  rw [Ev, wpO_step rfl]; simp only [EOp.run]
  rcases C.eval f a with _ | p
  · simp
  · rw [wpV_some, Ev]
    rcases C.eval f x with _ | v
    · simp
    · rw [wpV_some]
      unfold storeH
      split
      · rename_i b o v' q q'; cases q; cases q'
        simp only
        rcases e : h.get b with _ | k
        · simp
        · simp only [wpV_ite_none, wpV_some, Eff.apply]
      · rename_i q; split
        · exact (q _ _ _ rfl rfl).elim
        · simp
@[simp ↓ high] theorem wpO_push (z : List Value) : wpO C (⟨d, .push z, none, [], false, frz⟩ :: r) i l ⟨f, h⟩ Q = wpO C r (i + 1) l ⟨f.put d (.pointer (some ⟨h.length, 0, none⟩)), h.push ⟨z, true⟩⟩ Q := by
  rw [wpO_step (o := EOp.run C.lim h (C.eval f) (.push z)) rfl]; simp only [EOp.run, Eff.apply, wpV_some]
@[simp ↓ high] theorem wpO_box (x : Operand) : wpO C (⟨d, .box x, none, [], false, frz⟩ :: r) i l ⟨f, h⟩ Q = Ev C f x fun v => wpO C r (i + 1) l ⟨f.put d (.pointer (some ⟨h.length, 0, none⟩)), h.push ⟨v.cells.toList, true⟩⟩ Q := by
  rw [Ev, wpO_step rfl]; simp only [EOp.run, wpV_map, Eff.apply]
@[simp ↓ high] theorem wpO_len (x : Operand) : wpO C (⟨d, .len false x, none, [], false, frz⟩ :: r) i l ⟨f, h⟩ Q = Ev C f x fun v => wpV (slN v) fun n => KPut C d r i l f h Q (.int .i64 n) := by
  rw [Ev, wpO_step rfl]; simp only [EOp.run]
  rcases C.eval f x with _ | v
  · simp
  · rw [wpV_some]
    unfold slN
    split
    · rename_i q _; cases q
    · rename_i q; cases q; simp [KPut, Eff.apply]
    · rename_i q; cases q; simp [KPut, Eff.apply]
    · rename_i q1 q2 q3; split
      · exact (q2 rfl rfl).elim
      · exact (q3 _ _ _ _ rfl rfl).elim
      · simp
@[simp ↓ high] theorem wpO_indexAddr (es : Nat) (x y : Operand) : wpO C (⟨d, .indexAddr none es x y, none, [], false, frz⟩ :: r) i l ⟨f, h⟩ Q = Ev C f x fun v => Ev C f y fun n => wpV (slAt es v n) (KPut C d r i l f h Q) := by
  rw [Ev, wpO_step rfl]; simp only [EOp.run]
  generalize C.eval f x = v
  rcases v with _ | v
  · simp
  · rw [wpV_some, Ev]
    generalize C.eval f y = w
    rcases w with _ | w
    · split <;> simp_all
    · rw [wpV_some]
      unfold slAt
      split
      · rename_i q q'; cases q; split <;> simp_all
      · rename_i q q'; cases q; cases q'
        simp only [wpV_ite_none, wpV_some, Eff.apply]; rfl
      · rename_i q q'; split
        · exact (q' _ _ _ _ _ _ rfl rfl).elim
        · simp
@[simp ↓ high] theorem wpO_arrAddr (ln es : Nat) (x y : Operand) : wpO C (⟨d, .indexAddr (some ln) es x y, none, [], false, frz⟩ :: r) i l ⟨f, h⟩ Q = Ev C f x fun v => Ev C f y fun n => wpV (arAt ln es v n) (KPut C d r i l f h Q) := by
  rw [Ev, wpO_step rfl]; simp only [EOp.run]
  generalize C.eval f x = v
  rcases v with _ | v
  · simp
  · rw [wpV_some, Ev]
    generalize C.eval f y = w
    rcases w with _ | w
    · split <;> simp_all
    · rw [wpV_some]
      unfold arAt
      split
      · rename_i q q'; cases q; cases q'
        simp only [wpV_ite_none, wpV_some, Eff.apply]; rfl
      · rename_i q q'; cases q; split <;> simp_all
      · rename_i q q'; split
        · exact (q _ _ _ _ rfl rfl).elim
        · simp
@[simp ↓ high] theorem wpO_build (z : List Value) (ps : List (Nat × Nat × Operand)) : wpO C (⟨d, .build z ps, none, [], false, frz⟩ :: r) i l ⟨f, h⟩ Q = wpV (fillL (C.eval f) z ps) fun cs => KPut C d r i l f h Q (.agg cs.toArray) := by
  rw [wpO_step rfl]; simp only [EOp.run, wpV_map, Eff.apply]; rfl
@[simp ↓ high] theorem wpO_call (g : FuncId) (as : List Operand) : wpO C (⟨d, .call g as, none, [], false, frz⟩ :: r) i l ⟨f, h⟩ Q = Evs C f as fun vs => wpV (C.callAt frz g vs h) fun p => wpO C r (i + 1) l ⟨f.put d p.1, p.2⟩ Q := by
  rw [wpO_cons]; simp only [EOp.exec]
  rw [← Evs_eq]
  generalize List.mapM (C.eval f) as = vs
  rcases vs with _ | vs
  · simp
  · simp only [wpV_some, wpV_map, KOp_plain]
theorem KGo_on (op : EOp) (conf : List Nat) (log frz : Bool) (st : St) : KGo C d op conf log frz r i l st Q true = wpO C (⟨d, op, none, conf, log, frz⟩ :: r) i l st Q := by
  rw [KGo_true, wpO_cons]
attribute [simp ↓ high] KGo_on
end
end Go.Abs
