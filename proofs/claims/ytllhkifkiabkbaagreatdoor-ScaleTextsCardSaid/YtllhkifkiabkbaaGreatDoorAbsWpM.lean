/- What must hold of code so that its run ends so: rules for simp. -/
import Derived.Test.YtllhkifkiabkbaaGreatDoorAbsSoundM
import Derived.Laws.Strings
set_option linter.unusedSimpArgs false
set_option linter.unusedVariables false
/- What must hold of code so that its run ends so: rules for simp. -/
namespace Go.Abs

def brB (b : Bool) (X Y : Prop) : Prop := (b = true → X) ∧ (b = false → Y)
@[simp ↓] theorem brB_true (X Y : Prop) : brB true X Y = X := by simp [brB]
@[simp ↓] theorem brB_false (X Y : Prop) : brB false X Y = Y := by simp [brB]
@[simp ↓] theorem brB_not (b : Bool) (X Y : Prop) : brB (!b) X Y = brB b Y X := by cases b <;> simp [brB]

def wpV {α : Type} (o : Option α) (Q : α → Prop) : Prop := ∃ v, o = some v ∧ Q v
@[simp ↓] theorem wpV_some {α : Type} (v : α) (Q : α → Prop) : wpV (some v) Q = Q v := by simp [wpV]
@[simp ↓] theorem wpV_none {α : Type} (Q : α → Prop) : wpV none Q = False := by simp [wpV]
@[simp ↓] theorem wpV_map {α β : Type} (o : Option α) (f : α → β) (Q : β → Prop) : wpV (o.map f) Q = wpV o fun a => Q (f a) := by
  cases o <;> simp [wpV]
theorem wpV_ite {α : Type} (p : Prop) [Decidable p] (a b : Option α) (Q : α → Prop) : wpV (if p then a else b) Q = ((p → wpV a Q) ∧ (¬p → wpV b Q)) := by
  by_cases h : p <;> simp [h]
@[simp ↓] theorem wpV_ite_none {α : Type} (p : Prop) [Decidable p] (a : Option α) (Q : α → Prop) : wpV (if p then a else none) Q = (p ∧ wpV a Q) := by
  by_cases h : p <;> simp [h, wpV_none]
theorem wpV_mono {α : Type} {o : Option α} {Q R : α → Prop} (h : wpV o Q) (k : ∀ v, Q v → R v) : wpV o R := let ⟨v, e, q⟩ := h; ⟨v, e, k v q⟩

/-- The entry of a slot, set to a truth value. -/
def AFrame.fix : AFrame → Nat → Bool → AFrame
  | [], _, _ => []
  | (s, v) :: r, t, b => if s = t then (s, .bool b) :: r else (s, v) :: AFrame.fix r t b
theorem AFrame.fix_same : ∀ {f : AFrame} {s : Nat} {b : Bool}, f.get s = some (.bool b) → f.fix s b = f
  | [], _, _, h => by simp [AFrame.get] at h
  | (s', v) :: r, s, b, h => by
    simp only [AFrame.get] at h
    simp only [AFrame.fix]
    split
    · rename_i e; rw [if_pos e] at h; cases h; rfl
    · rename_i e; rw [if_neg e] at h; rw [AFrame.fix_same h]

def wpO (C : Ctx) (ops : List EOper) (i : Nat) (l : Log) (st : St) (Q : St → Prop) : Prop := wpV (runOps C ops i l st) Q
def wpC (C : Ctx) (c : ECode) (st : St) (Q : Ex → St → Prop) : Prop := wpV (c.run C st) fun p => Q p.1 p.2

def KSeq (C : Ctx) (b : ECode) (Q : Ex → St → Prop) : Ex → St → Prop
  | .normal, st => wpC C b st Q
  | e, st => Q e st
def KBlock (id : Nat) (Q : Ex → St → Prop) : Ex → St → Prop
  | .exit j, st => Q (if j = id then .normal else .exit j) st
  | e, st => Q e st
def KReg (Q : Ex → St → Prop) (st : St) : Prop := Q .normal st
def KCond (C : Ctx) (a b : ECode) (st : St) (Q : Ex → St → Prop) : Value → Prop
  | .bool t => brB t (wpC C a st Q) (wpC C b st Q)
  | _ => False
def KOp (C : Ctx) (d : Option Nat) (conf : List Nat) (log : Bool) (r : List EOper) (i : Nat) (l : Log) (f : AFrame) (Q : St → Prop) : Value × Heap × List Nat × List Nat → Prop
  | (v, h, rd, wr) => l.clash conf rd wr = false ∧ wpO C r (i + 1) (if log then (i, rd, wr) :: l else l) ⟨f.put d v, h⟩ Q
def KGo (C : Ctx) (d : Option Nat) (op : EOp) (conf : List Nat) (log frz : Bool) (r : List EOper) (i : Nat) (l : Log) (st : St) (Q : St → Prop) : Bool → Prop
  | true => wpV (op.exec C frz st.f st.h) (KOp C d conf log r i l st.f Q)
  | false => wpO C r (i + 1) l ⟨st.f.put d undef, st.h⟩ Q
def KGuard (C : Ctx) (d : Option Nat) (op : EOp) (s : Nat) (w : Bool) (conf : List Nat) (log frz : Bool) (r : List EOper) (i : Nat) (l : Log) (st : St) (Q : St → Prop) : Value → Prop
  | .bool b => brB b (KGo C d op conf log frz r i l ⟨st.f.fix s true, st.h⟩ Q w) (KGo C d op conf log frz r i l ⟨st.f.fix s false, st.h⟩ Q (!w))
  | .tuple cs => cs.size = 0 ∧ KGo C d op conf log frz r i l st Q false
  | _ => False

section rules
variable {C : Ctx} {Q : Ex → St → Prop} {st : St}
@[simp ↓] theorem wpC_skip : wpC C .skip st Q = Q .normal st := by simp [wpC, ECode.run, wpV]
@[simp ↓] theorem wpC_exit (id : Nat) : wpC C (.exit id) st Q = Q (.exit id) st := by simp [wpC, ECode.run, wpV]
@[simp ↓] theorem wpC_ret : wpC C .ret st Q = Q .ret st := by simp [wpC, ECode.run, wpV]
@[simp ↓] theorem wpC_region (d : Bool) (ops : List EOper) : wpC C (.region d ops) st Q = wpO C ops 0 [] st (KReg Q) := by
  simp only [wpC, ECode.run, wpV_map, wpO]; rfl
@[simp ↓] theorem wpC_seq (a b : ECode) : wpC C (.seq a b) st Q = wpC C a st (KSeq C b Q) := by
  simp only [wpC, ECode.run]
  rcases h : ECode.run C a st with _ | ⟨e, st'⟩
  · simp [wpV]
  · cases e <;> simp [KSeq, wpV, wpC]
@[simp ↓] theorem wpC_block (id : Nat) (b : ECode) : wpC C (.block id b) st Q = wpC C b st (KBlock id Q) := by
  simp only [wpC, ECode.run]
  rcases h : ECode.run C b st with _ | ⟨e, st'⟩
  · simp [wpV]
  · cases e with
    | normal => simp [KBlock, wpV]
    | ret => simp [KBlock, wpV]
    | exit j => by_cases hj : j = id <;> simp [KBlock, wpV, hj]
@[simp ↓] theorem wpC_cond (c : Operand) (a b : ECode) : wpC C (.cond c a b) st Q = wpV (C.eval st.f c) (KCond C a b st Q) := by
  simp only [wpC, ECode.run]
  rcases h : C.eval st.f c with _ | v
  · simp [wpV]
  · cases v <;> simp [KCond, wpV, brB]
    rename_i t
    cases t <;> simp [wpC, wpV]
@[simp ↓] theorem KSeq_normal (b : ECode) : KSeq C b Q .normal st = wpC C b st Q := rfl
@[simp ↓] theorem KSeq_ret (b : ECode) : KSeq C b Q .ret st = Q .ret st := rfl
@[simp ↓] theorem KSeq_exit (b : ECode) (j : Nat) : KSeq C b Q (.exit j) st = Q (.exit j) st := rfl
@[simp ↓] theorem KBlock_normal (id : Nat) : KBlock id Q .normal st = Q .normal st := rfl
@[simp ↓] theorem KBlock_ret (id : Nat) : KBlock id Q .ret st = Q .ret st := rfl
@[simp ↓] theorem KBlock_exit (id j : Nat) : KBlock id Q (.exit j) st = Q (if j = id then .normal else .exit j) st := rfl
@[simp ↓] theorem KCond_bool (a b : ECode) (t : Bool) : KCond C a b st Q (.bool t) = brB t (wpC C a st Q) (wpC C b st Q) := rfl
end rules

section ops
variable {C : Ctx} {Q : St → Prop} {st : St} {i : Nat} {l : Log} {r : List EOper}
@[simp ↓] theorem KReg_eq (Q : Ex → St → Prop) : KReg Q st = Q .normal st := rfl
@[simp ↓] theorem wpO_nil : wpO C [] i l st Q = Q st := by simp [wpO, runOps, wpV]
@[simp ↓] theorem wpO_cons (d : Option Nat) (op : EOp) (conf : List Nat) (log frz : Bool) : wpO C (⟨d, op, none, conf, log, frz⟩ :: r) i l st Q = wpV (op.exec C frz st.f st.h) (KOp C d conf log r i l st.f Q) := by
  simp only [wpO, runOps, EOper.wanted]
  rcases h : op.exec C frz st.f st.h with _ | ⟨v, h', rd, wr⟩
  · simp [wpV]
  · cases hc : l.clash conf rd wr <;> simp [wpV, KOp, hc, wpO]
theorem wpO_go (d : Option Nat) (op : EOp) (g : Option (Nat × Bool)) (conf : List Nat) (log frz b : Bool) (hw : EOper.wanted st.f g = some b) :
    wpO C (⟨d, op, g, conf, log, frz⟩ :: r) i l st Q = KGo C d op conf log frz r i l st Q b := by
  simp only [wpO, runOps, hw]
  cases b
  · simp [KGo, wpO]
  · rcases h : op.exec C frz st.f st.h with _ | ⟨v, h', rd, wr⟩
    · simp [wpV, KGo, h]
    · cases hc : l.clash conf rd wr <;> simp [wpV, KOp, hc, wpO, KGo, h]
@[simp ↓] theorem wpO_guard (d : Option Nat) (op : EOp) (s : Nat) (w : Bool) (conf : List Nat) (log frz : Bool) :
    wpO C (⟨d, op, some (s, w), conf, log, frz⟩ :: r) i l st Q = wpV (st.f.get s) (KGuard C d op s w conf log frz r i l st Q) := by
  rcases h : st.f.get s with _ | v
  · simp [wpO, runOps, EOper.wanted, h, wpV]
  · rw [wpV_some]
    have bad : EOper.wanted st.f (some (s, w)) = none → wpO C (⟨d, op, some (s, w), conf, log, frz⟩ :: r) i l st Q = False := by
      intro q; simp [wpO, runOps, q, wpV]
    cases v with
    | bool b =>
      rw [wpO_go d op (some (s, w)) conf log frz (b == w) (by simp [EOper.wanted, h])]
      have hf := AFrame.fix_same h
      cases b
      · simp only [KGuard, brB_false, hf]; cases w <;> rfl
      · simp only [KGuard, brB_true, hf]; cases w <;> rfl
    | tuple cs =>
      by_cases hc : cs.size = 0
      · rw [wpO_go d op (some (s, w)) conf log frz false (by simp [EOper.wanted, h, hc])]
        simp [KGuard, hc]
      · rw [bad (by simp [EOper.wanted, h, hc])]
        simp [KGuard, hc]
    | _ => exact bad (by simp [EOper.wanted, h])
@[simp ↓] theorem KGuard_bool (d : Option Nat) (op : EOp) (s : Nat) (w : Bool) (conf : List Nat) (log frz b : Bool) :
    KGuard C d op s w conf log frz r i l st Q (.bool b) = brB b (KGo C d op conf log frz r i l ⟨st.f.fix s true, st.h⟩ Q w) (KGo C d op conf log frz r i l ⟨st.f.fix s false, st.h⟩ Q (!w)) := rfl
@[simp ↓] theorem KGuard_undef (d : Option Nat) (op : EOp) (s : Nat) (w : Bool) (conf : List Nat) (log frz : Bool) :
    KGuard C d op s w conf log frz r i l st Q (.tuple #[]) = KGo C d op conf log frz r i l st Q false := by simp [KGuard]
theorem KGo_true (d : Option Nat) (op : EOp) (conf : List Nat) (log frz : Bool) : KGo C d op conf log frz r i l st Q true = wpV (op.exec C frz st.f st.h) (KOp C d conf log r i l st.f Q) := rfl
@[simp ↓] theorem KGo_false (d : Option Nat) (op : EOp) (conf : List Nat) (log frz : Bool) : KGo C d op conf log frz r i l st Q false = wpO C r (i + 1) l ⟨st.f.put d undef, st.h⟩ Q := rfl
@[simp ↓] theorem KOp_plain (d : Option Nat) (f : AFrame) (v : Value) (h : Heap) (rd wr : List Nat) : KOp C d [] false r i l f Q (v, h, rd, wr) = wpO C r (i + 1) l ⟨f.put d v, h⟩ Q := by
  simp [KOp, Log.clash]
theorem KOp_eq (d : Option Nat) (conf : List Nat) (log : Bool) (f : AFrame) (v : Value) (h : Heap) (rd wr : List Nat) :
    KOp C d conf log r i l f Q (v, h, rd, wr) = (l.clash conf rd wr = false ∧ wpO C r (i + 1) (if log then (i, rd, wr) :: l else l) ⟨f.put d v, h⟩ Q) := rfl
end ops

theorem wpC_mono {C : Ctx} {c : ECode} {st : St} {Q R : Ex → St → Prop} (h : wpC C c st Q) (k : ∀ e st', Q e st' → R e st') : wpC C c st R := wpV_mono h fun _ q => k _ _ q

/-- A loop: an invariant of the canonical states at its head, with a measure. -/
theorem wpC_loop {C : Ctx} {live : Option (List Nat)} {b : ECode} {st : St} {Q : Ex → St → Prop} (I : Nat → St → Prop) (n : Nat) (hn : n < C.fuel)
    (hi : wpV (St.tidy C live st) (I n))
    (hs : ∀ m, m ≤ n → ∀ s, I m s → wpC C b s fun e s' => match e with
      | .normal => wpV (St.tidy C live s') fun t => ∃ j, j < m ∧ I j t
      | e => Q e s') : wpC C (.loop live b) st Q := by
  have key : ∀ k m s, m < k → m ≤ n → wpV (St.tidy C live s) (I m) → wpV (iter (ECode.run C b) (St.tidy C live) k s) fun p => Q p.1 p.2 := by
    intro k
    induction k with
    | zero => intro m s h; omega
    | succ k ih =>
      intro m s hm hmn ⟨t, ht, hI⟩
      obtain ⟨⟨e, s'⟩, hr, hq⟩ := hs m hmn t hI
      simp only [iter, ht, hr]
      cases e with
      | normal =>
        obtain ⟨u, hu, j, hj, hJ⟩ := hq
        exact ih j s' (by omega) (by omega) ⟨u, hu, hJ⟩
      | exit id => exact ⟨_, rfl, hq⟩
      | ret => exact ⟨_, rfl, hq⟩
  exact key C.fuel n st hn (Nat.le_refl _) hi

/-- What a function must give behind its code: this value and these blocks. -/
def KFun (n : Nat) (rs : List ERes) (v : Value) (bs : List (Option Blk)) : Ex → St → Prop
  | .exit _, _ => False
  | _, st => wpV (rs.mapM (ERes.get st)) fun vs => collect n [retVal vs] st.h = some ([v], bs)
@[simp ↓] theorem KFun_normal {n : Nat} {rs : List ERes} {v : Value} {bs : List (Option Blk)} {st : St} : KFun n rs v bs .normal st = wpV (rs.mapM (ERes.get st)) fun vs => collect n [retVal vs] st.h = some ([v], bs) := rfl
@[simp ↓] theorem KFun_ret {n : Nat} {rs : List ERes} {v : Value} {bs : List (Option Blk)} {st : St} : KFun n rs v bs .ret st = wpV (rs.mapM (ERes.get st)) fun vs => collect n [retVal vs] st.h = some ([v], bs) := rfl

theorem call_pure {E : EProg} {f : FuncId} {F : EFun} (hf : E.fn f = some F) (hm : F.mode = .pure) {args : List Value} (hl : args.length ≤ F.n) {d lim : Nat} {h : Heap} {v : Value} {bs : List (Option Blk)}
    (hw : wpC ⟨EProg.call E d, h.length, h.length, true, E.glob, E.fuel, EProg.roundOf E (EProg.call E d)⟩ F.code ⟨argFrame 0 args, h.freeze⟩ (KFun h.length F.results v bs)) :
    E.call (d + 1) lim f args h = some (v, h ++ bs) := by
  obtain ⟨⟨e, st⟩, hr, hq⟩ := hw
  simp only [EProg.call, hf, hm, EFun.run, if_pos hl, hr]
  cases e with
  | exit id => exact hq.elim
  | normal => obtain ⟨vs, h1, h2⟩ := hq; simp [h1, h2]
  | ret => obtain ⟨vs, h1, h2⟩ := hq; simp [h1, h2]

/-- The same, the value told by a property. -/
theorem call_pure_ex {E : EProg} {f : FuncId} {F : EFun} (hf : E.fn f = some F) (hm : F.mode = .pure) {args : List Value} (hl : args.length ≤ F.n) {d lim : Nat} {h : Heap} {Q : Value → List (Option Blk) → Prop}
    (hw : wpC ⟨EProg.call E d, h.length, h.length, true, E.glob, E.fuel, EProg.roundOf E (EProg.call E d)⟩ F.code ⟨argFrame 0 args, h.freeze⟩ fun e st => ∃ v bs, Q v bs ∧ KFun h.length F.results v bs e st) :
    ∃ v bs, E.call (d + 1) lim f args h = some (v, h ++ bs) ∧ Q v bs := by
  obtain ⟨⟨e, st⟩, hr, v, bs, hQ, hq⟩ := hw
  exact ⟨v, bs, call_pure hf hm hl ⟨(e, st), hr, hq⟩, hQ⟩

/-- A function that may write the caller's blocks. -/
theorem call_trunc {E : EProg} {f : FuncId} {F : EFun} (hf : E.fn f = some F) (hm : F.mode = .trunc) {args : List Value} (hl : args.length ≤ F.n) {d lim : Nat} {h : Heap} {Q : Value → Heap → Prop}
    (hw : wpC ⟨EProg.call E d, h.length, h.length, true, E.glob, E.fuel, EProg.roundOf E (EProg.call E d)⟩ F.code ⟨argFrame 0 args, h⟩ fun e st => ∃ v bs, Q v (st.h.take h.length ++ bs) ∧ KFun h.length F.results v bs e st) :
    ∃ v h', E.call (d + 1) lim f args h = some (v, h') ∧ Q v h' := by
  obtain ⟨⟨e, st⟩, hr, v, bs, hQ, hq⟩ := hw
  refine ⟨v, _, ?_, hQ⟩
  simp only [EProg.call, hf, hm, EFun.run, if_pos hl, hr]
  cases e with
  | exit id => exact hq.elim
  | normal => obtain ⟨vs, h1, h2⟩ := hq; simp [h1, h2]
  | ret => obtain ⟨vs, h1, h2⟩ := hq; simp [h1, h2]

/-! Values of heap and frame. -/
theorem get_put_same (f : AFrame) (s : Nat) (v : Value) : AFrame.get (f.put (some s) v) s = some v := by simp [AFrame.put, AFrame.get]
@[simp] theorem put_some (f : AFrame) (s : Nat) (v : Value) : f.put (some s) v = (s, v) :: f := rfl
@[simp] theorem put_none (f : AFrame) (v : Value) : f.put none v = f := rfl
@[simp] theorem get_cons (s : Nat) (v : Value) (f : AFrame) (t : Nat) : AFrame.get ((s, v) :: f) t = if s = t then some v else f.get t := rfl
@[simp] theorem get_nil (t : Nat) : AFrame.get [] t = none := rfl
@[simp] theorem fix_cons (s : Nat) (v : Value) (f : AFrame) (t : Nat) (b : Bool) : AFrame.fix ((s, v) :: f) t b = if s = t then (s, .bool b) :: f else (s, v) :: f.fix t b := rfl

theorem hget_freeze {h : Heap} {b : Nat} {k : Blk} (e : h.get b = some k) : h.freeze.get b = some ⟨k.cells, false⟩ := by
  unfold Heap.get at e ⊢
  rcases q : h[b]? with _ | o
  · simp [q] at e
  · simp [q] at e; subst e; simp [Heap.freeze, q]
theorem hget_append {h : Heap} {l : List (Option Blk)} {b : Nat} {k : Blk} (e : h.get b = some k) : Heap.get (h ++ l) b = some k := by
  have := Heap.get_lt e
  unfold Heap.get at e ⊢
  rw [List.getElem?_append_left this]; exact e
theorem hget_base {h : Heap} {l : List (Option Blk)} {n j : Nat} (e : n = h.length) : Heap.get (h ++ l) (n + j) = (l[j]?).getD none := by
  subst e
  unfold Heap.get
  rw [List.getElem?_append_right (by omega)]; simp
theorem hget_base0 {h : Heap} {l : List (Option Blk)} {n : Nat} (e : n = h.length) : Heap.get (h ++ l) n = (l[0]?).getD none := hget_base (j := 0) e
theorem hput_base {h : Heap} {l : List (Option Blk)} {n j : Nat} {b : Option Blk} (e : n = h.length) : Heap.put (h ++ l) (n + j) b = h ++ l.set j b := by
  subst e; unfold Heap.put; rw [List.set_append_right _ _ (by omega)]; simp
theorem hput_base0 {h : Heap} {l : List (Option Blk)} {n : Nat} {b : Option Blk} (e : n = h.length) : Heap.put (h ++ l) n b = h ++ l.set 0 b := hput_base (j := 0) e
@[simp] theorem hpush_append (h : Heap) (l : List (Option Blk)) (b : Blk) : Heap.push (h ++ l) b = h ++ (l ++ [some b]) := by simp [Heap.push]
@[simp] theorem hpush_freeze (h : Heap) (b : Blk) : Heap.push h.freeze b = h.freeze ++ [some b] := rfl

@[simp] theorem freeze_drop {h : Heap} {n : Nat} (hn : h.length ≤ n) : List.drop n h.freeze = [] := List.drop_eq_nil_of_le (by simpa using hn)
@[simp] theorem clash_nil (l : Log) (rd wr : List Nat) : Log.clash l [] rd wr = false := rfl

/-- A value without addresses. -/
def flatV : Nat → Value → Bool
  | n, v => plainV v || match n, v with
    | n + 1, .agg cs | n + 1, .tuple cs => cs.toList.all (flatV n)
    | _, _ => false
theorem flat_addrs : ∀ (n : Nat) (v : Value), flatV n v = true → addrs n v = some []
  | n, v, h => by
    unfold flatV at h
    unfold addrs
    by_cases hp : plainV v = true
    · simp [hp]
    · have hp' : plainV v = false := by simpa using hp
      simp only [hp', Bool.false_or, Bool.false_eq_true, if_false] at h ⊢
      have key : ∀ (n : Nat) (l : List Value), l.all (flatV n) = true → (∀ v, flatV n v = true → addrs n v = some []) → (l.mapM (addrs n)).map List.flatten = some [] := by
        intro n l hl ih
        have : l.mapM (addrs n) = some (l.map fun _ => []) := by
          induction l with
          | nil => rfl
          | cons x r ihr =>
            simp only [List.all_cons, Bool.and_eq_true] at hl
            rw [List.mapM_cons, ih x hl.1, ihr hl.2]; rfl
        rw [this]
        simp only [Option.map_some]
        congr 1
        induction l with
        | nil => rfl
        | cons x r ihr =>
          simp only [List.all_cons, Bool.and_eq_true] at hl
          simp only [List.map_cons, List.flatten_cons, List.nil_append]
          exact ihr hl.2 (by
            have t := this
            rw [List.mapM_cons, ih x hl.1] at t
            rcases q : List.mapM (addrs n) r with _ | m
            · rw [q] at t; cases t
            · rw [q] at t
              have t' : some ([] :: m) = some (List.map (fun _ => []) (x :: r)) := t
              simp only [List.map_cons, Option.some.injEq, List.cons.injEq, true_and] at t'
              rw [t'])
      cases n with
      | zero => cases v <;> simp at h
      | succ n =>
        cases v <;> simp only [Bool.false_eq_true] at h
        · exact key n _ h (flat_addrs n)
        · exact key n _ h (flat_addrs n)
theorem flat_ren (r : Nat → Nat) : ∀ (n : Nat) (v : Value), flatV n v = true → renV r n v = v
  | n, v, h => by
    unfold flatV at h
    unfold renV
    by_cases hp : plainV v = true
    · simp [hp]
    · have hp' : plainV v = false := by simpa using hp
      simp only [hp', Bool.false_or, Bool.false_eq_true, if_false] at h ⊢
      have key : ∀ (n : Nat) (cs : Array Value), cs.toList.all (flatV n) = true → (∀ v, flatV n v = true → renV r n v = v) → cs.map (renV r n) = cs := by
        intro n cs hl ih
        apply Array.ext
        · simp
        · intro i h1 h2
          simp only [Array.getElem_map]
          apply ih
          rw [List.all_eq_true] at hl
          exact hl _ (by simp)
      cases n with
      | zero => cases v <;> simp at h
      | succ n =>
        cases v <;> simp only [Bool.false_eq_true] at h
        · exact congrArg Value.agg (key n _ h (flat_ren r n))
        · exact congrArg Value.tuple (key n _ h (flat_ren r n))
theorem collect_flat {n : Nat} {v : Value} {h : Heap} (hv : flatV valDepth v = true) : collect n [v] h = some ([v], []) := by
  unfold collect
  have e : List.mapM (addrs valDepth) [v] = some [[]] := by rw [List.mapM_cons, flat_addrs _ _ hv]; rfl
  rw [e]
  simp [reach, flat_ren _ _ _ hv, reachFuel]

@[simp] theorem flatV_int (n : Nat) (k : IntKind) (m : Int) : flatV n (.int k m) = true := by unfold flatV; simp [plainV]
@[simp] theorem flatV_bool (n : Nat) (b : Bool) : flatV n (.bool b) = true := by unfold flatV; simp [plainV]
@[simp] theorem flatV_string (n : Nat) (b : ByteArray) : flatV n (.string b) = true := by unfold flatV; simp [plainV]
@[simp] theorem flatV_nil (n : Nat) : flatV n (.slice none 0 0) = true := by unfold flatV; simp [plainV]
@[simp] theorem flatV_ptr (n : Nat) : flatV n (.pointer none) = true := by unfold flatV; simp [plainV]
@[simp] theorem flatV_iface (n : Nat) : flatV n .nilIface = true := by unfold flatV; simp [plainV]
@[simp] theorem flatV_agg (cs : Array Value) (n : Nat) : flatV (n + 1) (.agg cs) = cs.toList.all (flatV n) := by rw [flatV]; simp [plainV]
@[simp] theorem flatV_tuple (cs : Array Value) (n : Nat) : flatV (n + 1) (.tuple cs) = cs.toList.all (flatV n) := by rw [flatV]; simp [plainV]

/-! Numbers. -/
theorem bin_add (a b : Int) (k : IntKind) : E.bin .add (.int k a) (.int k b) = some (.int k (k.wrap (a + b))) := by simp [E.bin, binOp, Op.intArith, semPure]; rfl
theorem bin_sub (a b : Int) (k : IntKind) : E.bin .sub (.int k a) (.int k b) = some (.int k (k.wrap (a - b))) := by simp [E.bin, binOp, Op.intArith, semPure]; rfl
theorem bin_mul (a b : Int) (k : IntKind) : E.bin .mul (.int k a) (.int k b) = some (.int k (k.wrap (a * b))) := by simp [E.bin, binOp, Op.intArith, semPure]; rfl
theorem bin_eql (a b : Int) (k : IntKind) : E.bin .eql (.int k a) (.int k b) = some (.bool (a == b)) := by simp [E.bin, binOp, Op.intCmp, semPure]; rfl
theorem bin_neq (a b : Int) (k : IntKind) : E.bin .neq (.int k a) (.int k b) = some (.bool (a != b)) := by simp [E.bin, binOp, Op.intCmp, semPure]; rfl
theorem bin_lss (a b : Int) (k : IntKind) : E.bin .lss (.int k a) (.int k b) = some (.bool (decide (a < b))) := by simp [E.bin, binOp, Op.intCmp, semPure]; rfl
theorem bin_leq (a b : Int) (k : IntKind) : E.bin .leq (.int k a) (.int k b) = some (.bool (decide (a ≤ b))) := by simp [E.bin, binOp, Op.intCmp, semPure]; rfl
theorem bin_gtr (a b : Int) (k : IntKind) : E.bin .gtr (.int k a) (.int k b) = some (.bool (decide (b < a))) := by simp [E.bin, binOp, Op.intCmp, semPure]; rfl
theorem bin_geq (a b : Int) (k : IntKind) : E.bin .geq (.int k a) (.int k b) = some (.bool (decide (b ≤ a))) := by simp [E.bin, binOp, Op.intCmp, semPure]; rfl
/-- Division and remainder, toward 0. -/
def qdiv (a b : Int) : Int := a.tdiv b
def qmod (a b : Int) : Int := a.tmod b
theorem bin_quo (a b : Int) (k : IntKind) : E.bin .quo (.int k a) (.int k b) = if b ≠ 0 then some (.int k (k.wrap (qdiv a b))) else none := by
  by_cases h : b = 0 <;> simp [E.bin, binOp, Op.intDiv, h] <;> rfl
theorem bin_rem (a b : Int) (k : IntKind) : E.bin .rem (.int k a) (.int k b) = if b ≠ 0 then some (.int k (qmod a b)) else none := by
  by_cases h : b = 0 <;> simp [E.bin, binOp, Op.intDiv, h] <;> rfl
theorem un_neg (a : Int) (k : IntKind) : E.un .neg (.int k a) = some (.int k (k.wrap (-a))) := by rw [← Int.zero_sub]; rfl
theorem un_not (b : Bool) : E.un .not (.bool b) = some (.bool !b) := rfl
@[simp] theorem ite_max (a b : Int) : (if a < b then b else a) = max a b := by omega
@[simp] theorem ite_min (a b : Int) : (if b < a then b else a) = min a b := by omega
attribute [simp] E.minmax E.eqCells
attribute [simp] bin_add bin_sub bin_mul bin_eql bin_neq bin_lss bin_leq bin_gtr bin_geq bin_quo bin_rem un_neg un_not argFrame EOp.exec EOp.run Ctx.eval Eff.apply Eff.writes ERes.get retVal collect_flat valDepth Value.oneCell' Value.cells hget_base0 hget_base hput_base hput_base0 Ctx.callAt fillL splice globPos
theorem wrap_eq {n : Int} (h1 : -9223372036854775808 ≤ n) (h2 : n < 9223372036854775808) : IntKind.wrap .i64 n = n := by
  have e : IntKind.wrap .i64 n = if n % 18446744073709551616 ≥ 9223372036854775808 then n % 18446744073709551616 - 18446744073709551616 else n % 18446744073709551616 := by
    simp [IntKind.wrap, IntKind.bits, IntKind.signed]
  rw [e]
  split <;> omega
end Go.Abs
/- More rules: loops' heads. -/
namespace Go.Abs

/-- A value whose addresses lie below n. -/
def lowV (n : Nat) : Nat → Value → Bool
  | d, v => plainV v || match d, v with
    | _, .pointer (some ⟨b, _, none⟩) | _, .slice (some ⟨b, _, none⟩) _ _ | _, .map (some b) => decide (b < n)
    | d + 1, .agg cs | d + 1, .tuple cs => cs.toList.all (lowV n d)
    | d + 1, .func _ a b => (a ++ b).toList.all (lowV n d)
    | _, _ => false

theorem low_mapM {n d : Nat} (ih : ∀ v, lowV n d v = true → ∃ l, addrs d v = some l ∧ ∀ b ∈ l, b < n) : ∀ (l : List Value), l.all (lowV n d) = true → ∃ m, l.mapM (addrs d) = some m ∧ ∀ b ∈ m.flatten, b < n
  | [], _ => ⟨[], rfl, by simp⟩
  | x :: r, h => by
    simp only [List.all_cons, Bool.and_eq_true] at h
    obtain ⟨a, e1, h1⟩ := ih x h.1
    obtain ⟨m, e2, h2⟩ := low_mapM ih r h.2
    refine ⟨a :: m, by rw [List.mapM_cons, e1, e2]; rfl, fun b hb => ?_⟩
    simp only [List.flatten_cons, List.mem_append] at hb
    rcases hb with q | q
    · exact h1 b q
    · exact h2 b q

theorem low_addrs {n : Nat} : ∀ (d : Nat) (v : Value), lowV n d v = true → ∃ l, addrs d v = some l ∧ ∀ b ∈ l, b < n
  | d, v, h => by
    unfold lowV at h
    unfold addrs
    by_cases hp : plainV v = true
    · exact ⟨[], by simp [hp], by simp⟩
    · have hp' : plainV v = false := by simpa using hp
      simp only [hp', Bool.false_or, Bool.false_eq_true, if_false] at h ⊢
      have key : ∀ (d : Nat) (l : List Value), l.all (lowV n d) = true → (∀ v, lowV n d v = true → ∃ l, addrs d v = some l ∧ ∀ b ∈ l, b < n) → ∃ m, (l.mapM (addrs d)).map List.flatten = some m ∧ ∀ b ∈ m, b < n := by
        intro d l hl ih
        obtain ⟨m, e, hm⟩ := low_mapM ih l hl
        exact ⟨m.flatten, by rw [e]; rfl, hm⟩
      match v with
      | .pointer (some ⟨b, o, none⟩) =>
        cases d <;> exact ⟨[b], rfl, by simpa using h⟩
      | .slice (some ⟨b, o, none⟩) k s =>
        cases d <;> exact ⟨[b], rfl, by simpa using h⟩
      | .map (some b) =>
        cases d <;> exact ⟨[b], rfl, by simpa using h⟩
      | .agg cs =>
        cases d with
        | zero => simp at h
        | succ d => exact key d _ h (low_addrs d)
      | .tuple cs =>
        cases d with
        | zero => simp at h
        | succ d => exact key d _ h (low_addrs d)
      | .bool _ | .int _ _ | .float _ _ | .complex _ _ _ | .string _ | .nilFunc | .nilIface => simp [plainV] at hp
      | .pointer none | .map none | .chan none => simp [plainV] at hp
      | .pointer (some ⟨b, o, some _⟩) => cases d <;> simp at h
      | .slice (some ⟨b, o, some _⟩) k s => cases d <;> simp at h
      | .slice none k s => cases d <;> simp at h
      | .chan (some _) => cases d <;> simp at h
      | .func fn a b =>
        cases d with
        | zero => simp at h
        | succ d => exact key d _ h (low_addrs d)
      | .iface _ _ => cases d <;> simp at h

theorem low_ren {n : Nat} : ∀ (d : Nat) (v : Value), lowV n d v = true → renV (renOf n []) d v = v
  | d, v, h => by
    unfold lowV at h
    unfold renV
    by_cases hp : plainV v = true
    · simp [hp]
    · have hp' : plainV v = false := by simpa using hp
      simp only [hp', Bool.false_or, Bool.false_eq_true, if_false] at h ⊢
      have key : ∀ (d : Nat) (cs : Array Value), cs.toList.all (lowV n d) = true → (∀ v, lowV n d v = true → renV (renOf n []) d v = v) → cs.map (renV (renOf n []) d) = cs := by
        intro d cs hl ih
        apply Array.ext
        · simp
        · intro i h1 h2
          simp only [Array.getElem_map]
          apply ih
          rw [List.all_eq_true] at hl
          exact hl _ (by simp)
      have hr : ∀ b, b < n → renOf n [] b = b := fun b hb => by simp [renOf, hb]
      match v with
      | .pointer (some ⟨b, o, none⟩) =>
        have hb : b < n := by cases d <;> simpa using h
        cases d <;> simp [hr b hb]
      | .slice (some ⟨b, o, none⟩) k s =>
        have hb : b < n := by cases d <;> simpa using h
        cases d <;> simp [hr b hb]
      | .map (some b) =>
        have hb : b < n := by cases d <;> simpa using h
        cases d <;> simp [hr b hb]
      | .agg cs =>
        cases d with
        | zero => simp at h
        | succ d => exact congrArg Value.agg (key d _ h (low_ren d))
      | .tuple cs =>
        cases d with
        | zero => simp at h
        | succ d => exact congrArg Value.tuple (key d _ h (low_ren d))
      | .bool _ | .int _ _ | .float _ _ | .complex _ _ _ | .string _ | .nilFunc | .nilIface => simp [plainV] at hp
      | .pointer none | .map none | .chan none => simp [plainV] at hp
      | .pointer (some ⟨b, o, some _⟩) => cases d <;> simp at h
      | .slice (some ⟨b, o, some _⟩) k s => cases d <;> simp at h
      | .slice none k s => cases d <;> simp at h
      | .chan (some _) => cases d <;> simp at h
      | .func fn a b =>
        cases d with
        | zero => simp at h
        | succ d =>
          have h2 : (a ++ b).toList.all (lowV n d) = true := h
          rw [Array.toList_append, List.all_append, Bool.and_eq_true] at h2
          show Value.func fn (a.map _) (b.map _) = _
          rw [key d _ h2.1 (low_ren d), key d _ h2.2 (low_ren d)]
      | .iface _ _ => cases d <;> simp at h

theorem reach_low {n : Nat} {h : Heap} : ∀ (k : Nat) (todo : List Nat), todo.length < k → (∀ b ∈ todo, b < n) → reach n h k todo [] = some []
  | k, [], _, _ => by cases k <;> rfl
  | 0, _ :: _, hl, _ => by simp at hl
  | k + 1, b :: r, hl, hb => by
    unfold reach
    rw [if_pos (Or.inl (hb b (by simp)))]
    exact reach_low k r (by simpa using hl) (fun x hx => hb x (by simp [hx]))

theorem reach_nil {n : Nat} {h : Heap} (k : Nat) (acc : List Nat) : reach n h k [] acc = some acc := by cases k <;> rfl

/-- How many addresses at most. -/
def fewV : Nat → Value → Nat
  | d, v => if plainV v then 0 else match d, v with
    | d + 1, .agg cs | d + 1, .tuple cs => (cs.toList.map (fewV d)).sum
    | d + 1, .func _ a b => ((a ++ b).toList.map (fewV d)).sum
    | _, _ => 1

theorem few_addrs {n : Nat} : ∀ (d : Nat) (v : Value) (l : List Nat), lowV n d v = true → addrs d v = some l → l.length ≤ fewV d v
  | d, v, l, hlow, h => by
    unfold lowV at hlow
    unfold addrs at h
    unfold fewV
    by_cases hp : plainV v = true
    · simp [hp] at h; subst h; simp [hp]
    · have hp' : plainV v = false := by simpa using hp
      simp only [hp', Bool.false_or, Bool.false_eq_true, if_false] at h hlow ⊢
      have key : ∀ (d : Nat) (vs : List Value) (l : List Nat), vs.all (lowV n d) = true → (∀ v l, lowV n d v = true → addrs d v = some l → l.length ≤ fewV d v) → (vs.mapM (addrs d)).map List.flatten = some l → l.length ≤ (vs.map (fewV d)).sum := by
        intro d vs l hl ih he
        rcases e : vs.mapM (addrs d) with _ | m
        · rw [e] at he; cases he
        rw [e] at he
        simp only [Option.map_some, Option.some.injEq] at he
        subst he
        clear h hlow
        induction vs generalizing m with
        | nil => simp at e; subst e; simp
        | cons x r ihr =>
          simp only [List.all_cons, Bool.and_eq_true] at hl
          rw [List.mapM_cons] at e
          rcases e1 : addrs d x with _ | a
          · rw [e1] at e; cases e
          rcases e2 : r.mapM (addrs d) with _ | b
          · rw [e1, e2] at e; cases e
          rw [e1, e2] at e
          have e' : some (a :: b) = some m := e
          cases e'
          have q1 := ihr hl.2 b e2
          have q2 := ih x a hl.1 e1
          simp only [List.flatten_cons, List.length_append, List.map_cons, List.sum_cons]
          omega
      match v with
      | .pointer (some ⟨b, o, none⟩) | .slice (some ⟨b, o, none⟩) k s | .map (some b) =>
        cases d <;> (simp at h; subst h; simp)
      | .agg cs =>
        cases d with
        | zero => simp at hlow
        | succ d => exact key d _ _ hlow (few_addrs d) h
      | .tuple cs =>
        cases d with
        | zero => simp at hlow
        | succ d => exact key d _ _ hlow (few_addrs d) h
      | .bool _ | .int _ _ | .float _ _ | .complex _ _ _ | .string _ | .nilFunc | .nilIface => simp [plainV] at hp
      | .pointer none | .map none | .chan none => simp [plainV] at hp
      | .pointer (some ⟨b, o, some _⟩) => cases d <;> simp at hlow
      | .slice (some ⟨b, o, some _⟩) k s => cases d <;> simp at hlow
      | .slice none k s => cases d <;> simp at hlow
      | .chan (some _) => cases d <;> simp at hlow
      | .func fn a b =>
        cases d with
        | zero => simp at hlow
        | succ d => exact key d _ _ hlow (few_addrs d) h
      | .iface _ _ => cases d <;> simp at hlow

/-- At a loop's head where all that is kept lies below the function's own blocks: the kept values, no block of its own. -/
theorem collect_low {n : Nat} {vs : List Value} {h : Heap} (hv : vs.all (lowV n valDepth) = true) (hl : decide ((vs.map (fewV valDepth)).sum ≤ 999) = true) : collect n vs h = some (vs, []) := by
  obtain ⟨m, e, hm⟩ := low_mapM (low_addrs valDepth) vs hv
  unfold collect
  rw [e]
  simp only
  have hlen : m.flatten.length < reachFuel := by
    have key : ∀ (vs : List Value) (m : List (List Nat)), vs.all (lowV n valDepth) = true → vs.mapM (addrs valDepth) = some m → m.flatten.length ≤ (vs.map (fewV valDepth)).sum := by
      intro vs
      induction vs with
      | nil => intro m _ e; simp at e; subst e; simp
      | cons x r ihr =>
        intro m hl e
        simp only [List.all_cons, Bool.and_eq_true] at hl
        rw [List.mapM_cons] at e
        rcases e1 : addrs valDepth x with _ | a
        · rw [e1] at e; cases e
        rcases e2 : r.mapM (addrs valDepth) with _ | b
        · rw [e1, e2] at e; cases e
        rw [e1, e2] at e
        have e' : some (a :: b) = some m := e
        cases e'
        have q1 := ihr b hl.2 e2
        have q2 := few_addrs valDepth x a hl.1 e1
        simp only [List.flatten_cons, List.length_append, List.map_cons, List.sum_cons]
        omega
    have hl' := of_decide_eq_true hl
    have := key vs m hv e
    show m.flatten.length < 1000
    omega
  rw [reach_low _ _ hlen hm]
  simp only [List.map_nil, Option.some.injEq, Prod.mk.injEq, and_true]
  have : ∀ x ∈ vs, renV (renOf n []) valDepth x = x := fun x hx => low_ren _ _ (List.all_eq_true.1 hv x hx)
  rw [List.map_congr_left (g := id) (by simpa using this)]
  simp

theorem take_freeze {h : Heap} {n : Nat} (hn : n = h.length) : List.take n h.freeze = h.freeze := by subst hn; exact List.take_of_length_le (by simp)
theorem take_freeze_append {h : Heap} {l : List (Option Blk)} {n : Nat} (hn : n = h.length) : List.take n (h.freeze ++ l) = h.freeze := by
  subst hn; rw [List.take_append_of_le_length (by simp)]; exact take_freeze rfl
theorem lowV_plain {n d : Nat} {v : Value} (h : plainV v = true) : lowV n d v = true := by unfold lowV; simp [h]
theorem fewV_plain {d : Nat} {v : Value} (h : plainV v = true) : fewV d v = 0 := by unfold fewV; simp [h]
@[simp] theorem lowV_int (n d : Nat) (k : IntKind) (m : Int) : lowV n d (.int k m) = true := lowV_plain rfl
@[simp] theorem lowV_bool (n d : Nat) (b : Bool) : lowV n d (.bool b) = true := lowV_plain rfl
@[simp] theorem lowV_string (n d : Nat) (b : ByteArray) : lowV n d (.string b) = true := lowV_plain rfl
@[simp] theorem lowV_nil (n d : Nat) : lowV n d (.slice none 0 0) = true := lowV_plain rfl
@[simp] theorem lowV_slice (n d b o m s : Nat) : lowV n d (.slice (some ⟨b, o, none⟩) m s) = decide (b < n) := by unfold lowV; cases d <;> simp [plainV]
@[simp] theorem lowV_ptr (n d b o : Nat) : lowV n d (.pointer (some ⟨b, o, none⟩)) = decide (b < n) := by unfold lowV; cases d <;> simp [plainV]
@[simp] theorem lowV_agg (n d : Nat) (cs : Array Value) : lowV n (d + 1) (.agg cs) = cs.toList.all (lowV n d) := by rw [lowV]; simp [plainV]
@[simp] theorem lowV_func (n d : Nat) (fn : Fn) (a b : Array Value) : lowV n (d + 1) (.func fn a b) = (a.toList.all (lowV n d) && b.toList.all (lowV n d)) := by rw [lowV]; simp [plainV]
@[simp] theorem fewV_func (d : Nat) (fn : Fn) (a b : Array Value) : fewV (d + 1) (.func fn a b) = (a.toList.map (fewV d)).sum + (b.toList.map (fewV d)).sum := by rw [fewV]; simp [plainV]
@[simp] theorem fewV_int (d : Nat) (k : IntKind) (m : Int) : fewV d (.int k m) = 0 := fewV_plain rfl
@[simp] theorem fewV_bool (d : Nat) (b : Bool) : fewV d (.bool b) = 0 := fewV_plain rfl
@[simp] theorem fewV_string (d : Nat) (b : ByteArray) : fewV d (.string b) = 0 := fewV_plain rfl
@[simp] theorem fewV_nil (d : Nat) : fewV d (.slice none 0 0) = 0 := fewV_plain rfl
@[simp] theorem fewV_slice (d b o m s : Nat) : fewV d (.slice (some ⟨b, o, none⟩) m s) = 1 := by unfold fewV; cases d <;> simp [plainV]
@[simp] theorem fewV_ptr (d b o : Nat) : fewV d (.pointer (some ⟨b, o, none⟩)) = 1 := by unfold fewV; cases d <;> simp [plainV]
@[simp] theorem fewV_agg (d : Nat) (cs : Array Value) : fewV (d + 1) (.agg cs) = (cs.toList.map (fewV d)).sum := by rw [fewV]; simp [plainV]
attribute [simp] collect_low reachFuel take_freeze take_freeze_append AFrame.only
end Go.Abs
/- Where simp looks: not into code that is still to come. -/
namespace Go.Abs
@[congr] theorem wpV_congr {α : Type} {o o' : Option α} {Q : α → Prop} (h : o = o') : wpV o Q = wpV o' Q := by rw [h]
theorem brB_dec (p : Prop) [Decidable p] (X Y : Prop) : brB (decide p) X Y = ((p → X) ∧ (¬p → Y)) := by
  by_cases h : p <;> simp [h]
theorem brB_beq (a b : Int) (X Y : Prop) : brB (a == b) X Y = ((a = b → X) ∧ (¬a = b → Y)) := by
  by_cases h : a = b
  · simp [h]
  · rw [show (a == b) = false by simpa using h]; simp [h]
theorem brB_bne (a b : Int) (X Y : Prop) : brB (a != b) X Y = ((¬a = b → X) ∧ (a = b → Y)) := by
  by_cases h : a = b
  · simp [h]
  · rw [show (a != b) = true by simpa using h]; simp [h]
theorem brB_var (b : Bool) (X Y : Prop) : brB b X Y = ((b = true → X) ∧ (b = false → Y)) := rfl
attribute [simp ↓] brB_dec brB_beq brB_bne
attribute [simp ↓ low] brB_var
end Go.Abs
namespace Go.Abs
@[congr] theorem brB_congr {b b' : Bool} {X Y : Prop} (h : b = b') : brB b X Y = brB b' X Y := by rw [h]
@[congr] theorem KSeq_congr {C : Ctx} {b : ECode} {Q : Ex → St → Prop} {e e' : Ex} {st : St} (h : e = e') : KSeq C b Q e st = KSeq C b Q e' st := by rw [h]
@[congr] theorem KBlock_congr {id : Nat} {Q : Ex → St → Prop} {e e' : Ex} {st : St} (h : e = e') : KBlock id Q e st = KBlock id Q e' st := by rw [h]
end Go.Abs
/- Steps of regions in one go. -/
namespace Go.Abs
/-- A pointer, moved on. -/
def ptrAdd (k : Nat) : Value → Option Value
  | .pointer (some ⟨b, o, none⟩) => some (.pointer (some ⟨b, o + k, none⟩))
  | _ => none
@[simp ↓] theorem ptrAdd_ptr (k b o : Nat) : ptrAdd k (.pointer (some ⟨b, o, none⟩)) = some (.pointer (some ⟨b, o + k, none⟩)) := rfl
/-- A cell, some cells. -/
def Heap.cell (h : Heap) (b o : Nat) : Option Value := (h.get b).bind fun k => k.cells[o]?
def Heap.part (h : Heap) (b o n : Nat) : Option Value := (h.get b).bind fun k => if o + n ≤ k.cells.length then some (.agg ((k.cells.drop o).take n).toArray) else none
def loadV (h : Heap) (agg : Bool) (size : Nat) : Value → Option Value
  | .pointer (some ⟨b, o, none⟩) => if agg then h.part b o size else h.cell b o
  | _ => none
@[simp ↓] theorem loadV_cell (h : Heap) (n b o : Nat) : loadV h false n (.pointer (some ⟨b, o, none⟩)) = h.cell b o := rfl
@[simp ↓] theorem loadV_part (h : Heap) (n b o : Nat) : loadV h true n (.pointer (some ⟨b, o, none⟩)) = h.part b o n := rfl
def slN : Value → Option Nat
  | .slice none 0 0 => some 0
  | .slice (some ⟨_, _, none⟩) n _ => some n
  | _ => none
def slB : Value → Nat
  | .slice (some ⟨b, _, _⟩) _ _ => b
  | _ => 0
def slO : Value → Nat
  | .slice (some ⟨_, o, _⟩) _ _ => o
  | _ => 0
@[simp] theorem slN_nil : slN (.slice none 0 0) = some 0 := rfl
@[simp] theorem slN_some (b o n s : Nat) : slN (.slice (some ⟨b, o, none⟩) n s) = some n := rfl
@[simp] theorem slB_some (b o n s : Nat) : slB (.slice (some ⟨b, o, none⟩) n s) = b := rfl
@[simp] theorem slO_some (b o n s : Nat) : slO (.slice (some ⟨b, o, none⟩) n s) = o := rfl
def slAt (es : Nat) (v i : Value) : Option Value :=
  match v, i with
  | .slice (some ⟨b, o, none⟩) ln s, .int _ n => if 0 ≤ n ∧ n < ln ∧ s = es then some (.pointer (some ⟨b, o + n.toNat * es, none⟩)) else none
  | _, _ => none
@[simp] theorem slAt_some (es b o ln s : Nat) (k : IntKind) (n : Int) : slAt es (.slice (some ⟨b, o, none⟩) ln s) (.int k n) = if 0 ≤ n ∧ n < ln ∧ s = es then some (.pointer (some ⟨b, o + n.toNat * es, none⟩)) else none := rfl
/-- An address within an array. -/
def arAt (ln es : Nat) (v i : Value) : Option Value :=
  match v, i with
  | .pointer (some ⟨b, o, none⟩), .int _ n => if 0 ≤ n ∧ n < ln then some (.pointer (some ⟨b, o + n.toNat * es, none⟩)) else none
  | _, _ => none
@[simp] theorem arAt_some (ln es b o : Nat) (k : IntKind) (n : Int) : arAt ln es (.pointer (some ⟨b, o, none⟩)) (.int k n) = if 0 ≤ n ∧ n < ln then some (.pointer (some ⟨b, o + n.toNat * es, none⟩)) else none := rfl
def extV (i : Nat) : Value → Option Value
  | .tuple vs => vs[i]?
  | _ => none
@[simp ↓] theorem extV_tuple (i : Nat) (vs : Array Value) : extV i (.tuple vs) = vs[i]? := rfl
def pickV (a b : Option Value) : Value → Option Value
  | .bool t => if t then a else b
  | _ => none
@[simp ↓] theorem pickV_true (a b : Option Value) : pickV a b (.bool true) = a := rfl
@[simp ↓] theorem pickV_false (a b : Option Value) : pickV a b (.bool false) = b := rfl
def fieldV (agg : Bool) (off size : Nat) : Value → Option Value
  | .agg cs => if agg then some (.agg (cs.extract off (off + size))) else cs[off]?
  | _ => none
@[simp ↓] theorem fieldV_cell (off size : Nat) (cs : Array Value) : fieldV false off size (.agg cs) = cs[off]? := rfl
@[simp ↓] theorem fieldV_part (off size : Nat) (cs : Array Value) : fieldV true off size (.agg cs) = some (.agg (cs.extract off (off + size))) := rfl
def convV (k : IntKind) : Value → Option Value
  | .int _ n => some (.int k (k.wrap n))
  | _ => none
@[simp ↓] theorem convV_int (k k' : IntKind) (n : Int) : convV k (.int k' n) = some (.int k (k.wrap n)) := rfl
def storeH (lim size : Nat) (h : Heap) (a v : Value) : Option Heap :=
  match a with
  | .pointer (some ⟨b, o, none⟩) => match h.get b with
      | some k =>
        if k.rw = true ∧ v.cells.size = size ∧ o + size ≤ k.cells.length ∧ v.cells.toList.all Value.oneCell' = true ∧ (lim ≤ b ∨ v.cells.toList.all noAddr = true) then
          some (h.put b (some ⟨splice k.cells o v.cells.toList, true⟩))
        else none
      | none => none
  | _ => none
def allOne : List Value → Bool
  | [] => true
  | v :: r => v.oneCell' && allOne r
def allNo : List Value → Bool
  | [] => true
  | v :: r => noAddr v && allNo r
@[simp] theorem allOne_nil : allOne [] = true := rfl
@[simp] theorem allOne_cons (v : Value) (r : List Value) : allOne (v :: r) = (v.oneCell' && allOne r) := rfl
@[simp] theorem allNo_nil : allNo [] = true := rfl
@[simp] theorem allNo_cons (v : Value) (r : List Value) : allNo (v :: r) = (noAddr v && allNo r) := rfl
theorem allOne_eq : ∀ l : List Value, l.all Value.oneCell' = allOne l
  | [] => rfl
  | v :: r => by rw [List.all_cons, allOne_eq r]; rfl
theorem allNo_eq : ∀ l : List Value, l.all noAddr = allNo l
  | [] => rfl
  | v :: r => by rw [List.all_cons, allNo_eq r]; rfl
@[simp ↓] theorem storeH_ptr (lim size : Nat) (h : Heap) (b o : Nat) (v : Value) : storeH lim size h (.pointer (some ⟨b, o, none⟩)) v = match h.get b with
      | some k =>
        if k.rw = true ∧ v.cells.size = size ∧ o + size ≤ k.cells.length ∧ allOne v.cells.toList = true ∧ (lim ≤ b ∨ allNo v.cells.toList = true) then
          some (h.put b (some ⟨splice k.cells o v.cells.toList, true⟩))
        else none
      | none => none := by
  rw [← allOne_eq, ← allNo_eq]; rfl

section
variable {C : Ctx} {Q : St → Prop} {f : AFrame} {h : Heap} {i : Nat} {l : Log} {r : List EOper} {d : Option Nat} {frz : Bool}

/-- What a step gives that reads no block. -/
def KPut (C : Ctx) (d : Option Nat) (r : List EOper) (i : Nat) (l : Log) (f : AFrame) (h : Heap) (Q : St → Prop) (v : Value) : Prop := wpO C r (i + 1) l ⟨f.put d v, h⟩ Q
@[simp ↓] theorem KPut_some (s : Nat) (v : Value) : KPut C (some s) r i l f h Q v = wpO C r (i + 1) l ⟨(s, v) :: f, h⟩ Q := rfl
@[simp ↓] theorem KPut_none (v : Value) : KPut C none r i l f h Q v = wpO C r (i + 1) l ⟨f, h⟩ Q := rfl
/-- One operand. -/
def Ev (C : Ctx) (f : AFrame) (x : Operand) (Q : Value → Prop) : Prop := wpV (C.eval f x) Q
@[simp ↓] theorem Ev_tmp (t : Nat) (Q : Value → Prop) : Ev C f (.tmp t) Q = wpV (f.get t) Q := rfl
@[simp ↓] theorem Ev_const (v : Value) (Q : Value → Prop) : Ev C f (.const v) Q = Q v := by simp [Ev]
@[simp ↓] theorem Ev_func (g : Nat) (Q : Value → Prop) : Ev C f (.func g) Q = Q (.func (.func g) #[] #[]) := by simp [Ev]
@[simp ↓] theorem Ev_global (g : Nat) (Q : Value → Prop) : Ev C f (.global g) Q = wpV (globPos C.glob g) fun i => Q (.pointer (some ⟨i, 0, none⟩)) := by simp [Ev]

theorem wpO_step {op : EOp} {o : Option Out} (e : op.exec C frz f h = o.map fun o => (o.val, o.eff.apply h, o.reads, o.eff.writes)) :
    wpO C (⟨d, op, none, [], false, frz⟩ :: r) i l ⟨f, h⟩ Q = wpV o fun o => wpO C r (i + 1) l ⟨f.put d o.val, o.eff.apply h⟩ Q := by
  rw [wpO_cons]; simp only [e, wpV_map, KOp_plain]
theorem wpO_pure {op : EOp} {o : Option Out} {v : Option Value} (e : op.exec C frz f h = o.map fun o => (o.val, o.eff.apply h, o.reads, o.eff.writes))
    (k : o.map (fun o => (o.val, o.eff.apply h)) = v.map fun v => (v, h)) :
    wpO C (⟨d, op, none, [], false, frz⟩ :: r) i l ⟨f, h⟩ Q = wpV v (KPut C d r i l f h Q) := by
  rw [wpO_step e]
  rcases o with _ | o <;> rcases v with _ | v <;> simp at k ⊢
  obtain ⟨rfl, k2⟩ := k
  rw [k2]; rfl
end
end Go.Abs
/- The operations, one rule each. -/
namespace Go.Abs
section
variable {C : Ctx} {Q : St → Prop} {f : AFrame} {h : Heap} {i : Nat} {l : Log} {r : List EOper} {d : Option Nat} {frz : Bool}
/-- Some operands. -/
def Evs (C : Ctx) (f : AFrame) : List Operand → (List Value → Prop) → Prop
  | [], Q => Q []
  | x :: xs, Q => Ev C f x fun v => Evs C f xs fun vs => Q (v :: vs)
@[simp ↓] theorem Evs_nil (Q : List Value → Prop) : Evs C f [] Q = Q [] := rfl
@[simp ↓] theorem Evs_cons (x : Operand) (xs : List Operand) (Q : List Value → Prop) : Evs C f (x :: xs) Q = Ev C f x fun v => Evs C f xs fun vs => Q (v :: vs) := rfl
theorem Evs_eq : ∀ (xs : List Operand) (Q : List Value → Prop), wpV (xs.mapM (C.eval f)) Q = Evs C f xs Q
  | [], Q => by simp
  | x :: xs, Q => by
    rw [List.mapM_cons, Evs_cons, Ev]
    rcases C.eval f x with _ | v
    · simp
    · rw [wpV_some, ← Evs_eq xs]
      rcases List.mapM (C.eval f) xs with _ | vs <;> simp
@[simp ↓ high] theorem wpO_move (x : Operand) : wpO C (⟨d, .move x, none, [], false, frz⟩ :: r) i l ⟨f, h⟩ Q = Ev C f x (KPut C d r i l f h Q) := by
  rw [Ev, wpO_step rfl]; simp only [EOp.run, wpV_map, Eff.apply]; rfl
@[simp ↓ high] theorem wpO_bin (op : BinOp) (x y : Operand) : wpO C (⟨d, .bin op x y, none, [], false, frz⟩ :: r) i l ⟨f, h⟩ Q = Ev C f x fun a => Ev C f y fun b => wpV (E.bin op a b) (KPut C d r i l f h Q) := by
  rw [Ev, wpO_step rfl]; simp only [EOp.run]
  rcases C.eval f x with _ | a
  · simp
  · rw [wpV_some, Ev]
    rcases C.eval f y with _ | b
    · simp
    · simp only [wpV_some, wpV_map, Eff.apply]; rfl
@[simp ↓ high] theorem wpO_un (op : UnOp) (x : Operand) : wpO C (⟨d, .un op x, none, [], false, frz⟩ :: r) i l ⟨f, h⟩ Q = Ev C f x fun a => wpV (E.un op a) (KPut C d r i l f h Q) := by
  rw [Ev, wpO_step rfl]; simp only [EOp.run]
  rcases C.eval f x with _ | a
  · simp
  · simp only [wpV_some, wpV_map, Eff.apply]; rfl
@[simp ↓ high] theorem wpO_eqBool (neg : Bool) (x y : Operand) : wpO C (⟨d, .eqBool neg x y, none, [], false, frz⟩ :: r) i l ⟨f, h⟩ Q = Ev C f x fun a => Ev C f y fun b => wpV (match a, b with
    | .bool a, .bool b => some (.bool (if neg then !(a == b) else a == b))
    | _, _ => none) (KPut C d r i l f h Q) := by
  rw [Ev, wpO_step rfl]; simp only [EOp.run]
  rcases C.eval f x with _ | a
  · simp
  · rw [wpV_some, Ev]
    rcases C.eval f y with _ | b
    · cases a <;> simp
    · rw [wpV_some]
      cases a <;> cases b <;> first | rfl | simp <;> rfl
@[simp ↓ high] theorem wpO_conv (k : IntKind) (x : Operand) : wpO C (⟨d, .conv k x, none, [], false, frz⟩ :: r) i l ⟨f, h⟩ Q = Ev C f x fun v => wpV (convV k v) (KPut C d r i l f h Q) := by
  rw [Ev, wpO_step rfl]; simp only [EOp.run]
  rcases C.eval f x with _ | a
  · simp
  · cases a <;> simp [convV, KPut, Eff.apply]
@[simp ↓ high] theorem wpO_extract (x : Operand) (k : Nat) : wpO C (⟨d, .extract x k, none, [], false, frz⟩ :: r) i l ⟨f, h⟩ Q = Ev C f x fun v => wpV (extV k v) (KPut C d r i l f h Q) := by
  rw [Ev, wpO_step rfl]; simp only [EOp.run]
  rcases C.eval f x with _ | a
  · simp
  · cases a <;> simp only [wpV_some, extV, wpV_none, wpV_map]; rfl
@[simp ↓ high] theorem wpO_pick (c a b : Operand) : wpO C (⟨d, .pick c a b, none, [], false, frz⟩ :: r) i l ⟨f, h⟩ Q = Ev C f c fun t => wpV (pickV (C.eval f a) (C.eval f b) t) (KPut C d r i l f h Q) := by
  rw [Ev, wpO_step rfl]; simp only [EOp.run]
  rcases C.eval f c with _ | t
  · simp
  · cases t <;> simp only [wpV_some, pickV, wpV_none, wpV_map]; rfl
@[simp ↓ high] theorem wpO_fieldAddr (k : Nat) (x : Operand) : wpO C (⟨d, .fieldAddr k x, none, [], false, frz⟩ :: r) i l ⟨f, h⟩ Q = Ev C f x fun v => wpV (ptrAdd k v) (KPut C d r i l f h Q) := by
  rw [Ev, wpO_step rfl]; simp only [EOp.run]
  rcases C.eval f x with _ | v
  · simp
  · rw [wpV_some]
    unfold ptrAdd
    split
    · rename_i q; cases q; simp [KPut, Eff.apply]
    · rename_i q; split
      · exact (q _ _ rfl).elim
      · simp
@[simp ↓ high] theorem wpO_field (agg : Bool) (o s : Nat) (x : Operand) : wpO C (⟨d, .field agg o s x, none, [], false, frz⟩ :: r) i l ⟨f, h⟩ Q = Ev C f x fun v => wpV (fieldV agg o s v) (KPut C d r i l f h Q) := by
  rw [Ev, wpO_step rfl]; simp only [EOp.run]
  rcases C.eval f x with _ | a
  · simp
  · cases a <;> cases agg <;> simp [fieldV, Eff.apply] <;> rfl
@[simp ↓ high] theorem wpO_load (agg : Bool) (s : Nat) (x : Operand) : wpO C (⟨d, .load agg s x, none, [], false, frz⟩ :: r) i l ⟨f, h⟩ Q = Ev C f x fun v => wpV (loadV h agg s v) (KPut C d r i l f h Q) := by
  rw [Ev, wpO_step rfl]; simp only [EOp.run]
  rcases C.eval f x with _ | v
  · simp
  · rw [wpV_some]
    unfold loadV
    split
    · rename_i b o q; cases q
      unfold Heap.part Heap.cell
      rcases e : h.get b with _ | k
      · cases agg <;> simp [e]
      · cases agg
        · simp only [e, Bool.false_eq_true, if_false, wpV_map, Eff.apply, Option.bind_some]; rfl
        · simp only [e, if_true, wpV_ite_none, Eff.apply, Option.bind_some, wpV_some]; rfl
    · rename_i q; split
      · exact (q _ _ rfl).elim
      · simp
@[simp ↓ high] theorem wpO_store (s : Nat) (a x : Operand) : wpO C (⟨d, .store s a x, none, [], false, frz⟩ :: r) i l ⟨f, h⟩ Q = Ev C f a fun p => Ev C f x fun v => wpV (storeH C.lim s h p v) fun h' => wpO C r (i + 1) l ⟨f.put d undef, h'⟩ Q := by
  rw [Ev, wpO_step rfl]; simp only [EOp.run]
  rcases C.eval f a with _ | p
  · simp
  · rw [wpV_some, Ev]
    rcases C.eval f x with _ | v
    · simp
    · rw [wpV_some]
      unfold storeH
      split
      · rename_i b o v' q q'; cases q; cases q'
        simp only
        rcases e : h.get b with _ | k
        · simp
        · simp only [wpV_ite_none, wpV_some, Eff.apply]
      · rename_i q; split
        · exact (q _ _ _ rfl rfl).elim
        · simp
@[simp ↓ high] theorem wpO_push (z : List Value) : wpO C (⟨d, .push z, none, [], false, frz⟩ :: r) i l ⟨f, h⟩ Q = wpO C r (i + 1) l ⟨f.put d (.pointer (some ⟨h.length, 0, none⟩)), h.push ⟨z, true⟩⟩ Q := by
  rw [wpO_step (o := EOp.run C.lim h (C.eval f) (.push z)) rfl]; simp only [EOp.run, Eff.apply, wpV_some]
@[simp ↓ high] theorem wpO_box (x : Operand) : wpO C (⟨d, .box x, none, [], false, frz⟩ :: r) i l ⟨f, h⟩ Q = Ev C f x fun v => wpO C r (i + 1) l ⟨f.put d (.pointer (some ⟨h.length, 0, none⟩)), h.push ⟨v.cells.toList, true⟩⟩ Q := by
  rw [Ev, wpO_step rfl]; simp only [EOp.run, wpV_map, Eff.apply]
/-- The capacity of a slice that has none. -/
def slC : Value → Option Nat
  | .slice none 0 0 => some 0
  | .slice (some ⟨_, _, none⟩) 0 0 => some 0
  | _ => none
@[simp] theorem slC_nil : slC (.slice none 0 0) = some 0 := rfl
@[simp] theorem slC_own (b o : Nat) : slC (.slice (some ⟨b, o, none⟩) 0 0) = some 0 := rfl
@[simp ↓ high] theorem wpO_capZ (x : Operand) : wpO C (⟨d, .capZ x, none, [], false, frz⟩ :: r) i l ⟨f, h⟩ Q = Ev C f x fun v => wpV (slC v) fun n => KPut C d r i l f h Q (.int .i64 n) := by
  rw [Ev, wpO_step rfl]; simp only [EOp.run]
  rcases C.eval f x with _ | v
  · simp
  · rw [wpV_some]
    unfold slC
    split
    · rename_i q; cases q; simp [KPut, Eff.apply]
    · rename_i q; cases q; simp [KPut, Eff.apply]
    · rename_i q1 q2; split
      · exact (q1 rfl).elim
      · rename_i q; exact (q2 _ _ rfl).elim
      · simp
@[simp ↓ high] theorem wpO_len (x : Operand) : wpO C (⟨d, .len false x, none, [], false, frz⟩ :: r) i l ⟨f, h⟩ Q = Ev C f x fun v => wpV (slN v) fun n => KPut C d r i l f h Q (.int .i64 n) := by
  rw [Ev, wpO_step rfl]; simp only [EOp.run]
  rcases C.eval f x with _ | v
  · simp
  · rw [wpV_some]
    unfold slN
    split
    · rename_i q _; cases q
    · rename_i q; cases q; simp [KPut, Eff.apply]
    · rename_i q; cases q; simp [KPut, Eff.apply]
    · rename_i q1 q2 q3; split
      · exact (q2 rfl rfl).elim
      · exact (q3 _ _ _ _ rfl rfl).elim
      · simp
@[simp ↓ high] theorem wpO_indexAddr (es : Nat) (x y : Operand) : wpO C (⟨d, .indexAddr none es x y, none, [], false, frz⟩ :: r) i l ⟨f, h⟩ Q = Ev C f x fun v => Ev C f y fun n => wpV (slAt es v n) (KPut C d r i l f h Q) := by
  rw [Ev, wpO_step rfl]; simp only [EOp.run]
  generalize C.eval f x = v
  rcases v with _ | v
  · simp
  · rw [wpV_some, Ev]
    generalize C.eval f y = w
    rcases w with _ | w
    · split <;> simp_all
    · rw [wpV_some]
      unfold slAt
      split
      · rename_i q q'; cases q; split <;> simp_all
      · rename_i q q'; cases q; cases q'
        simp only [wpV_ite_none, wpV_some, Eff.apply]; rfl
      · rename_i q q'; split
        · exact (q' _ _ _ _ _ _ rfl rfl).elim
        · simp
@[simp ↓ high] theorem wpO_arrAddr (ln es : Nat) (x y : Operand) : wpO C (⟨d, .indexAddr (some ln) es x y, none, [], false, frz⟩ :: r) i l ⟨f, h⟩ Q = Ev C f x fun v => Ev C f y fun n => wpV (arAt ln es v n) (KPut C d r i l f h Q) := by
  rw [Ev, wpO_step rfl]; simp only [EOp.run]
  generalize C.eval f x = v
  rcases v with _ | v
  · simp
  · rw [wpV_some, Ev]
    generalize C.eval f y = w
    rcases w with _ | w
    · split <;> simp_all
    · rw [wpV_some]
      unfold arAt
      split
      · rename_i q q'; cases q; cases q'
        simp only [wpV_ite_none, wpV_some, Eff.apply]; rfl
      · rename_i q q'; cases q; split <;> simp_all
      · rename_i q q'; split
        · exact (q _ _ _ _ rfl rfl).elim
        · simp
@[simp ↓ high] theorem wpO_build (z : List Value) (ps : List (Nat × Nat × Operand)) : wpO C (⟨d, .build z ps, none, [], false, frz⟩ :: r) i l ⟨f, h⟩ Q = wpV (fillL (C.eval f) z ps) fun cs => KPut C d r i l f h Q (.agg cs.toArray) := by
  rw [wpO_step rfl]; simp only [EOp.run, wpV_map, Eff.apply]; rfl
@[simp ↓ high] theorem wpO_call (g : FuncId) (as : List Operand) : wpO C (⟨d, .call g as, none, [], false, frz⟩ :: r) i l ⟨f, h⟩ Q = Evs C f as fun vs => wpV (C.callAt frz g vs h) fun p => wpO C r (i + 1) l ⟨f.put d p.1, p.2⟩ Q := by
  rw [wpO_cons]; simp only [EOp.exec]
  rw [← Evs_eq]
  generalize List.mapM (C.eval f) as = vs
  rcases vs with _ | vs
  · simp
  · simp only [wpV_some, wpV_map, KOp_plain]
theorem KGo_on (op : EOp) (conf : List Nat) (log frz : Bool) (st : St) : KGo C d op conf log frz r i l st Q true = wpO C (⟨d, op, none, conf, log, frz⟩ :: r) i l st Q := by
  rw [KGo_true, wpO_cons]
attribute [simp ↓ high] KGo_on
end
end Go.Abs
/- Cells of the heap; slices whose place is not known. -/
namespace Go.Abs
def cellL : Option (Option Blk) → Nat → Option Value
  | some (some k), o => k.cells[o]?
  | _, _ => none
def partL : Option (Option Blk) → Nat → Nat → Option Value
  | some (some k), o, n => if o + n ≤ k.cells.length then some (.agg ((k.cells.drop o).take n).toArray) else none
  | _, _, _ => none
@[simp] theorem cellL_some (cs : List Value) (rw : Bool) (o : Nat) : cellL (some (some ⟨cs, rw⟩)) o = cs[o]? := rfl
@[simp] theorem partL_some (cs : List Value) (rw : Bool) (o n : Nat) : partL (some (some ⟨cs, rw⟩)) o n = if o + n ≤ cs.length then some (.agg ((cs.drop o).take n).toArray) else none := rfl
theorem cell_get {h : Heap} {b o : Nat} {k : Blk} (e : h.get b = some k) : h.cell b o = k.cells[o]? := by simp [Heap.cell, e]
theorem part_get {h : Heap} {b o n : Nat} {k : Blk} (e : h.get b = some k) : h.part b o n = if o + n ≤ k.cells.length then some (.agg ((k.cells.drop o).take n).toArray) else none := by simp [Heap.part, e]
@[simp] theorem cell_base {h : Heap} {l : List (Option Blk)} {n j o : Nat} (e : n = h.length) : Heap.cell (h ++ l) (n + j) o = cellL l[j]? o := by
  unfold Heap.cell; rw [hget_base e]
  rcases l[j]? with _ | _ | k <;> rfl
@[simp] theorem cell_base0 {h : Heap} {l : List (Option Blk)} {n o : Nat} (e : n = h.length) : Heap.cell (h ++ l) n o = cellL l[0]? o := cell_base (j := 0) e
@[simp] theorem part_base {h : Heap} {l : List (Option Blk)} {n j o m : Nat} (e : n = h.length) : Heap.part (h ++ l) (n + j) o m = partL l[j]? o m := by
  unfold Heap.part; rw [hget_base e]
  rcases l[j]? with _ | _ | k <;> rfl
@[simp] theorem part_base0 {h : Heap} {l : List (Option Blk)} {n o m : Nat} (e : n = h.length) : Heap.part (h ++ l) n o m = partL l[0]? o m := part_base (j := 0) e
theorem get_freeze (h : Heap) (b : Nat) : Heap.get h.freeze b = (h.get b).map fun k => ⟨k.cells, false⟩ := by
  unfold Heap.get Heap.freeze
  rw [List.getElem?_map]
  rcases h[b]? with _ | _ | k <;> rfl
@[simp] theorem cell_freeze (h : Heap) (b o : Nat) : Heap.cell h.freeze b o = h.cell b o := by
  unfold Heap.cell; rw [get_freeze]; rcases h.get b with _ | k <;> rfl
@[simp] theorem part_freeze (h : Heap) (b o n : Nat) : Heap.part h.freeze b o n = h.part b o n := by
  unfold Heap.part; rw [get_freeze]; rcases h.get b with _ | k <;> rfl
theorem get_app {h : Heap} {l : List (Option Blk)} {b : Nat} (e : b < h.length) : Heap.get (h ++ l) b = h.get b := by
  unfold Heap.get; rw [List.getElem?_append_left e]
@[simp] theorem cell_app {h : Heap} {l : List (Option Blk)} {b o : Nat} (e : b < h.length) : Heap.cell (h ++ l) b o = h.cell b o := by
  unfold Heap.cell; rw [get_app e]
@[simp] theorem part_app {h : Heap} {l : List (Option Blk)} {b o n : Nat} (e : b < h.length) : Heap.part (h ++ l) b o n = h.part b o n := by
  unfold Heap.part; rw [get_app e]

/-- A slice of n elements of es cells: where it lies is not told. -/
structure Sl (es : Nat) (h : Heap) (v : Value) (n : Nat) (cs : List Value) : Prop where
  len : slN v = some n
  size : cs.length = n * es
  addr : n ≠ 0 → v = .slice (some ⟨slB v, slO v, none⟩) n es
  low : v = .slice none 0 0 ∨ ∃ b o m s, v = .slice (some ⟨b, o, none⟩) m s ∧ b < h.length
  cell : ∀ k, k < n * es → h.cell (slB v) (slO v + k) = cs[k]?

theorem Sl.lt {es : Nat} {h : Heap} {v : Value} {n : Nat} {cs : List Value} (s : Sl es h v n cs) (hn : n ≠ 0) : slB v < h.length := by
  rcases s.low with e | ⟨b, o, m, t, e, hb⟩
  · have := s.addr hn; rw [e] at this; cases this
  · rw [e]; exact hb
theorem Sl.lowV {es : Nat} {h : Heap} {v : Value} {n : Nat} {cs : List Value} (s : Sl es h v n cs) {k d : Nat} (e : k = h.length) : lowV k d v = true := by
  rcases s.low with e | ⟨b, o, m, t, e, hb⟩
  · subst e; simp
  · subst e; subst k; simp [hb]
theorem Sl.fewV {es : Nat} {h : Heap} {v : Value} {n : Nat} {cs : List Value} (s : Sl es h v n cs) {d : Nat} : fewV d v ≤ 1 := by
  rcases s.low with e | ⟨b, o, m, t, e, hb⟩
  · subst e; simp
  · subst e; simp
theorem Sl.at {es : Nat} {h : Heap} {v : Value} {n : Nat} {cs : List Value} (s : Sl es h v n cs) {k : IntKind} {i : Int} (h0 : 0 ≤ i) (h1 : i < n) : slAt es v (.int k i) = some (.pointer (some ⟨slB v, slO v + i.toNat * es, none⟩)) := by
  have hn : n ≠ 0 := by omega
  have := s.addr hn
  conv => lhs; rw [this]
  rw [slAt_some, if_pos ⟨h0, h1, rfl⟩]
@[simp] theorem Sl_freeze {es : Nat} {h : Heap} {v : Value} {n : Nat} {cs : List Value} : Sl es h.freeze v n cs ↔ Sl es h v n cs := by
  constructor
  · intro s; exact ⟨s.len, s.size, s.addr, by simpa using s.low, fun k hk => by rw [← cell_freeze]; exact s.cell k hk⟩
  · intro s; exact ⟨s.len, s.size, s.addr, by simpa using s.low, fun k hk => by rw [cell_freeze]; exact s.cell k hk⟩
theorem Sl.app {es : Nat} {h : Heap} {v : Value} {n : Nat} {cs : List Value} (s : Sl es h v n cs) (l : List (Option Blk)) : Sl es (h ++ l) v n cs :=
  ⟨s.len, s.size, s.addr, by
    rcases s.low with e | ⟨b, o, m, t, e, hb⟩
    · exact .inl e
    · exact .inr ⟨b, o, m, t, e, by simp; omega⟩, fun k hk => by
    have hn : n ≠ 0 := by rintro rfl; simp at hk
    rw [cell_app (s.lt hn)]; exact s.cell k hk⟩
@[simp] theorem Sl_app {es : Nat} {h : Heap} {v : Value} {n : Nat} {cs : List Value} {l : List (Option Blk)} (s : Sl es h v n cs) : Sl es (h ++ l) v n cs := s.app l
/-- The cells of an element. -/
theorem Sl.part {es : Nat} {h : Heap} {v : Value} {n : Nat} {cs : List Value} (s : Sl es h v n cs) {k m : Nat} (hk : k + m ≤ n * es) (hm : m ≠ 0) : h.part (slB v) (slO v + k) m = some (.agg ((cs.drop k).take m).toArray) := by
  have hn : n ≠ 0 := by rintro rfl; simp at hk; omega
  have hc := s.cell
  unfold Heap.cell at hc
  unfold Heap.part
  rcases e : h.get (slB v) with _ | b
  · have := hc k (by omega)
    rw [e] at this
    simp at this
    have := s.size; omega
  · rw [e] at hc
    simp only [Option.bind_some] at hc ⊢
    have hlen : slO v + k + m ≤ b.cells.length := by
      have := hc (k + m - 1) (by omega)
      have hlt : k + m - 1 < cs.length := by rw [s.size]; omega
      rw [List.getElem?_eq_getElem hlt] at this
      obtain ⟨q, _⟩ := List.getElem?_eq_some_iff.1 this
      omega
    rw [if_pos hlen]
    congr 3
    apply List.ext_getElem?
    intro i
    by_cases hi : i < m
    · rw [List.getElem?_take_of_lt hi, List.getElem?_take_of_lt hi, List.getElem?_drop, List.getElem?_drop, ← hc (k + i) (by omega)]
      congr 1; omega
    · rw [List.getElem?_eq_none (by simp; omega), List.getElem?_eq_none (by simp; omega)]
/-- What simp wants of a slice. -/
theorem Sl.rules {es : Nat} {h : Heap} {v : Value} {n : Nat} {cs : List Value} (s : Sl es h v n cs) :
    slN v = some n ∧ (∀ (k : IntKind) (i : Int), 0 ≤ i → i < n → slAt es v (.int k i) = some (.pointer (some ⟨slB v, slO v + i.toNat * es, none⟩))) ∧
    (∀ k, k < n * es → h.cell (slB v) (slO v + k) = cs[k]?) ∧ (∀ l k, k < n * es → Heap.cell (h ++ l) (slB v) (slO v + k) = cs[k]?) ∧ (∀ l k, k < n * es → Heap.cell (h.freeze ++ l) (slB v) (slO v + k) = cs[k]?) ∧
    (∀ k m, k + m ≤ n * es → m ≠ 0 → h.part (slB v) (slO v + k) m = some (.agg ((cs.drop k).take m).toArray)) ∧ (∀ l k m, k + m ≤ n * es → m ≠ 0 → Heap.part (h ++ l) (slB v) (slO v + k) m = some (.agg ((cs.drop k).take m).toArray)) ∧
    (∀ l k m, k + m ≤ n * es → m ≠ 0 → Heap.part (h.freeze ++ l) (slB v) (slO v + k) m = some (.agg ((cs.drop k).take m).toArray)) ∧
    (∀ k d, k = h.length → Go.Abs.lowV k d v = true) :=
  ⟨s.len, fun _ _ => s.at, s.cell, fun l => (s.app l).cell, fun l => ((Sl_freeze.2 s).app l).cell, fun _ _ => s.part, fun l _ _ => (s.app l).part, fun l _ _ => ((Sl_freeze.2 s).app l).part, fun _ _ => s.lowV⟩
end Go.Abs
namespace Go.Abs
@[simp ↓ high] theorem ptrAdd_ptr2 (k b o m : Nat) : ptrAdd k (.pointer (some ⟨b, o + m, none⟩)) = some (.pointer (some ⟨b, o + (m + k), none⟩)) := by simp [Nat.add_assoc]
/-- Lists of structs, cell by cell. -/
def cS {α : Type} (f : α → List Value) (l : List α) : List Value := l.flatMap f
theorem cS_len {α : Type} {f : α → List Value} {es : Nat} (hf : ∀ a, (f a).length = es) (l : List α) : (cS f l).length = l.length * es := by
  induction l with
  | nil => simp [cS]
  | cons a r ih => simp only [cS, List.flatMap_cons, List.length_append, hf, List.length_cons] at ih ⊢; rw [ih]; rw [Nat.add_mul]; omega
theorem cS_get {α : Type} {f : α → List Value} {es : Nat} (hf : ∀ a, (f a).length = es) : ∀ (l : List α) (i j : Nat) (hi : i < l.length) (_ : j < es), (cS f l)[i * es + j]? = (f l[i])[j]?
  | [], _, _, hi, _ => by simp at hi
  | a :: r, 0, j, _, hj => by simp only [cS, List.flatMap_cons]; rw [Nat.zero_mul, Nat.zero_add, List.getElem?_append_left (by rw [hf]; exact hj)]; rfl
  | a :: r, i + 1, j, hi, hj => by
    have := cS_get hf r i j (by simpa using hi) hj
    simp only [cS, List.flatMap_cons] at this ⊢
    rw [List.getElem?_append_right (by rw [hf, Nat.add_mul]; omega), hf]
    rw [show (i + 1) * es + j - es = i * es + j by rw [Nat.add_mul]; omega, this]; rfl
theorem cS_part {α : Type} {f : α → List Value} {es : Nat} (hf : ∀ a, (f a).length = es) (l : List α) (i : Nat) (hi : i < l.length) : ((cS f l).drop (i * es)).take es = f l[i] := by
  apply List.ext_getElem?
  intro j
  by_cases hj : j < es
  · rw [List.getElem?_take_of_lt hj, List.getElem?_drop, cS_get hf l i j hi hj]
  · rw [List.getElem?_eq_none (by simp; omega), List.getElem?_eq_none (by rw [hf]; omega)]
/-- A list of numbers. -/
def cI (l : List Int) : List Value := l.map (.int .i64)
@[simp] theorem cI_len (l : List Int) : (cI l).length = l.length := by simp [cI]
@[simp] theorem cI_get (l : List Int) (i : Nat) : (cI l)[i]? = (l[i]?).map (.int .i64) := by simp [cI]
end Go.Abs
/- Loops of a known number of rounds: unrolled by simp. -/
namespace Go.Abs
def wpI (C : Ctx) (live : Option (List Nat)) (b : ECode) (k : Nat) (st : St) (Q : Ex → St → Prop) : Prop := wpV (iter (ECode.run C b) (St.tidy C live) k st) fun p => Q p.1 p.2
def KIter (C : Ctx) (live : Option (List Nat)) (b : ECode) (k : Nat) (Q : Ex → St → Prop) : Ex → St → Prop
  | .normal, st => wpI C live b k st Q
  | e, st => Q e st
section
variable {C : Ctx} {live : Option (List Nat)} {b : ECode} {st : St} {Q : Ex → St → Prop}
theorem wpC_unroll : wpC C (.loop live b) st Q = wpI C live b C.fuel st Q := rfl
@[simp ↓] theorem KIter_normal (k : Nat) : KIter C live b k Q .normal st = wpI C live b k st Q := rfl
@[simp ↓] theorem KIter_ret (k : Nat) : KIter C live b k Q .ret st = Q .ret st := rfl
@[simp ↓] theorem KIter_exit (k j : Nat) : KIter C live b k Q (.exit j) st = Q (.exit j) st := rfl
theorem wpI_step {k : Nat} (hk : k ≠ 0) : wpI C live b k st Q = wpV (St.tidy C live st) fun s => wpC C b s (KIter C live b (k - 1) Q) := by
  obtain ⟨k, rfl⟩ := Nat.exists_eq_succ_of_ne_zero hk
  unfold wpI
  simp only [iter, Nat.succ_eq_add_one, Nat.add_sub_cancel]
  rcases e : St.tidy C live st with _ | s
  · simp [wpV]
  · rw [wpV_some]
    unfold wpC
    rcases e2 : ECode.run C b s with _ | ⟨x, s'⟩
    · simp [wpV, e2]
    · rw [wpV_some]
      cases x <;> simp [KIter, wpI, e2]
end
/-- The three numbers of a row, one after the other. -/
@[simp] theorem i64_lit1 : IntKind.wrap .i64 1 = 1 := rfl
@[simp] theorem i64_lit2 : IntKind.wrap .i64 2 = 2 := rfl
@[simp] theorem i64_lit3 : IntKind.wrap .i64 3 = 3 := rfl
end Go.Abs
/- At a loop's head: blocks of the function's own, counted anew. -/
namespace Go.Abs
theorem addrs_plainV {d : Nat} {v : Value} (h : plainV v = true) : addrs d v = some [] := by unfold addrs; simp [h]
@[simp] theorem addrs_int (d : Nat) (k : IntKind) (n : Int) : addrs d (.int k n) = some [] := addrs_plainV rfl
@[simp] theorem addrs_bool (d : Nat) (b : Bool) : addrs d (.bool b) = some [] := addrs_plainV rfl
@[simp] theorem addrs_string (d : Nat) (b : ByteArray) : addrs d (.string b) = some [] := addrs_plainV rfl
@[simp] theorem addrs_nil (d : Nat) : addrs d (.slice none 0 0) = some [] := addrs_plainV rfl
@[simp] theorem addrs_slice (d b o m s : Nat) : addrs d (.slice (some ⟨b, o, none⟩) m s) = some [b] := by unfold addrs; cases d <;> simp [plainV]
@[simp] theorem addrs_ptr (d b o : Nat) : addrs d (.pointer (some ⟨b, o, none⟩)) = some [b] := by unfold addrs; cases d <;> simp [plainV]
@[simp] theorem addrs_agg (d : Nat) (cs : Array Value) : addrs (d + 1) (.agg cs) = (cs.toList.mapM (addrs d)).map List.flatten := by rw [addrs]; simp [plainV]
@[simp] theorem addrs_tuple (d : Nat) (cs : Array Value) : addrs (d + 1) (.tuple cs) = (cs.toList.mapM (addrs d)).map List.flatten := by rw [addrs]; simp [plainV]
theorem renV_plainV {r : Nat → Nat} {d : Nat} {v : Value} (h : plainV v = true) : renV r d v = v := by unfold renV; simp [h]
@[simp] theorem renV_int (r : Nat → Nat) (d : Nat) (k : IntKind) (n : Int) : renV r d (.int k n) = .int k n := renV_plainV rfl
@[simp] theorem renV_bool (r : Nat → Nat) (d : Nat) (b : Bool) : renV r d (.bool b) = .bool b := renV_plainV rfl
@[simp] theorem renV_string (r : Nat → Nat) (d : Nat) (b : ByteArray) : renV r d (.string b) = .string b := renV_plainV rfl
@[simp] theorem renV_nil (r : Nat → Nat) (d : Nat) : renV r d (.slice none 0 0) = .slice none 0 0 := renV_plainV rfl
@[simp] theorem renV_slice (r : Nat → Nat) (d b o m s : Nat) : renV r d (.slice (some ⟨b, o, none⟩) m s) = .slice (some ⟨r b, o, none⟩) m s := by unfold renV; cases d <;> simp [plainV]
@[simp] theorem renV_ptr (r : Nat → Nat) (d b o : Nat) : renV r d (.pointer (some ⟨b, o, none⟩)) = .pointer (some ⟨r b, o, none⟩) := by unfold renV; cases d <;> simp [plainV]
@[simp] theorem renV_agg (r : Nat → Nat) (d : Nat) (cs : Array Value) : renV r (d + 1) (.agg cs) = .agg (cs.map (renV r d)) := by rw [renV]; simp [plainV]
@[simp] theorem renV_tuple (r : Nat → Nat) (d : Nat) (cs : Array Value) : renV r (d + 1) (.tuple cs) = .tuple (cs.map (renV r d)) := by rw [renV]; simp [plainV]
/-- A step of the search. -/
def reachK (n : Nat) (h : Heap) (k : Nat) (i : Nat) (todo acc : List Nat) : Option Blk → Option (List Nat)
  | some b => match b.addrs with
    | some l => reach n h k (todo ++ l) (acc ++ [i])
    | none => none
  | none => reach n h k todo (acc ++ [i])
@[simp] theorem reachK_some (n : Nat) (h : Heap) (k i : Nat) (todo acc : List Nat) (b : Blk) : reachK n h k i todo acc (some b) = match b.addrs with
    | some l => reach n h k (todo ++ l) (acc ++ [i])
    | none => none := rfl
@[simp] theorem reachK_none (n : Nat) (h : Heap) (k i : Nat) (todo acc : List Nat) : reachK n h k i todo acc none = reach n h k todo (acc ++ [i]) := rfl
@[simp] theorem reach_done (n : Nat) (h : Heap) (k : Nat) (acc : List Nat) : reach n h k [] acc = some acc := reach_nil k acc
theorem reach_step {n : Nat} {h : Heap} {k i : Nat} {todo acc : List Nat} (hk : k ≠ 0) : reach n h k (i :: todo) acc = if i < n ∨ i ∈ acc then reach n h (k - 1) todo acc else reachK n h (k - 1) i todo acc (h.get i) := by
  obtain ⟨k, rfl⟩ := Nat.exists_eq_succ_of_ne_zero hk
  conv => lhs; unfold reach
  simp only [Nat.succ_eq_add_one, Nat.add_sub_cancel]
  split
  · rfl
  · rcases h.get i with _ | b <;> rfl
@[simp] theorem reach_low1 {n : Nat} {h : Heap} {k i : Nat} {todo acc : List Nat} (hk : k ≠ 0) (hi : i < n) : reach n h k (i :: todo) acc = reach n h (k - 1) todo acc := by
  rw [reach_step hk, if_pos (.inl hi)]
@[simp] theorem reach_own {n j : Nat} {h : Heap} {k : Nat} {todo acc : List Nat} (hk : k ≠ 0) : reach n h k ((n + j) :: todo) acc = if (n + j) ∈ acc then reach n h (k - 1) todo acc else reachK n h (k - 1) (n + j) todo acc (h.get (n + j)) := by
  rw [reach_step hk]
  have : ¬ n + j < n := by omega
  simp only [this, false_or]
@[simp] theorem reach_own0 {n : Nat} {h : Heap} {k : Nat} {todo acc : List Nat} (hk : k ≠ 0) : reach n h k (n :: todo) acc = if n ∈ acc then reach n h (k - 1) todo acc else reachK n h (k - 1) n todo acc (h.get n) := reach_own (j := 0) hk
@[simp] theorem renOf_low {n : Nat} {acc : List Nat} {i : Nat} (h : i < n) : renOf n acc i = i := by simp [renOf, h]
@[simp] theorem renOf_own (n : Nat) (acc : List Nat) (j : Nat) : renOf n acc (n + j) = n + pos acc (n + j) := by
  have : ¬ n + j < n := by omega
  simp [renOf, this]
@[simp] theorem renOf_own0 (n : Nat) (acc : List Nat) : renOf n acc n = n + pos acc n := renOf_own n acc 0
@[simp] theorem pos_nil (i : Nat) : pos [] i = 0 := rfl
@[simp] theorem pos_cons (j i : Nat) (r : List Nat) : pos (j :: r) i = if i = j then 0 else pos r i + 1 := rfl
theorem Blk_addrs_plain {cs : List Value} {rw : Bool} (h : cs.all plainV = true) : Blk.addrs ⟨cs, rw⟩ = some [] := by simp only [Blk.addrs, h, if_true]
theorem Blk_ren_plain {r : Nat → Nat} {cs : List Value} {rw : Bool} (h : cs.all plainV = true) : Blk.ren r ⟨cs, rw⟩ = ⟨cs, rw⟩ := by simp only [Blk.ren, h, if_true]
@[simp] theorem plainV_int (k : IntKind) (n : Int) : plainV (.int k n) = true := rfl
@[simp] theorem plainV_bool (b : Bool) : plainV (.bool b) = true := rfl
@[simp] theorem plainV_string (b : ByteArray) : plainV (.string b) = true := rfl
@[simp] theorem plainV_nil : plainV (.slice none 0 0) = true := rfl
attribute [simp] Blk_addrs_plain Blk_ren_plain
@[simp] theorem cI_plain (l : List Int) : (cI l).all plainV = true := by simp [cI, plainV]
theorem collect_own {n : Nat} {vs : List Value} {h : Heap} : collect n vs h = (vs.mapM (addrs valDepth)).bind fun ls => (reach n h 1000 ls.flatten []).map fun acc => (vs.map (renV (renOf n acc) valDepth), acc.map fun i => (h.get i).map (Blk.ren (renOf n acc))) := by
  unfold collect reachFuel
  rcases vs.mapM (addrs valDepth) with _ | ls
  · rfl
  · simp only [Option.bind_some]
    rcases reach n h 1000 ls.flatten [] with _ | acc <;> rfl
theorem collect_own1 {n : Nat} {v : Value} {vs : List Value} {h : Heap} : collect n (v :: vs) h = ((v :: vs).mapM (addrs valDepth)).bind fun ls => (reach n h 1000 ls.flatten []).map fun acc => ((v :: vs).map (renV (renOf n acc) valDepth), acc.map fun i => (h.get i).map (Blk.ren (renOf n acc))) := collect_own
attribute [simp low] collect_own1
end Go.Abs
/- Loops' heads with slices whose place is not known. -/
namespace Go.Abs
def fewOk (v : Value) : Bool := decide (fewV 4 v ≤ 9)
theorem fewOk_sum : ∀ (vs : List Value), vs.all fewOk = true → (vs.map (fewV 4)).sum ≤ vs.length * 9
  | [], _ => by simp
  | v :: r, h => by
    simp only [List.all_cons, Bool.and_eq_true] at h
    have := fewOk_sum r h.2
    have h1 := of_decide_eq_true h.1
    simp only [List.map_cons, List.sum_cons, List.length_cons]
    omega
theorem collect_low2 {n : Nat} {vs : List Value} {h : Heap} (hv : vs.all (lowV n 4) = true) (hf : vs.all fewOk = true) (hl : vs.length ≤ 100) : collect n vs h = some (vs, []) :=
  collect_low hv (decide_eq_true (by have := fewOk_sum vs hf; show (vs.map (fewV 4)).sum ≤ 999; omega))
@[simp] theorem fewOk_int (k : IntKind) (m : Int) : fewOk (.int k m) = true := rfl
@[simp] theorem fewOk_bool (b : Bool) : fewOk (.bool b) = true := rfl
@[simp] theorem fewOk_string (b : ByteArray) : fewOk (.string b) = true := rfl
@[simp] theorem fewOk_nil : fewOk (.slice none 0 0) = true := rfl
@[simp] theorem fewOk_slice (b o m s : Nat) : fewOk (.slice (some ⟨b, o, none⟩) m s) = true := by simp [fewOk]
@[simp] theorem fewOk_ptr (b o : Nat) : fewOk (.pointer (some ⟨b, o, none⟩)) = true := by simp [fewOk]
theorem fewOk_agg (cs : Array Value) : fewOk (.agg cs) = decide ((cs.toList.map (fewV 3)).sum ≤ 9) := by simp [fewOk]
theorem fewOk_func (fn : Fn) (a b : Array Value) : fewOk (.func fn a b) = decide ((a.toList.map (fewV 3)).sum + (b.toList.map (fewV 3)).sum ≤ 9) := by simp [fewOk]
attribute [simp] fewOk_agg fewOk_func collect_low2
theorem Sl.fewOk {es : Nat} {h : Heap} {v : Value} {n : Nat} {cs : List Value} (s : Sl es h v n cs) : Go.Abs.fewOk v = true := by
  have := s.fewV (d := 4); unfold Go.Abs.fewOk; exact decide_eq_true (by omega)
theorem Sl.rules2 {es : Nat} {h : Heap} {v : Value} {n : Nat} {cs : List Value} (s : Sl es h v n cs) :
    slN v = some n ∧ (∀ (k : IntKind) (i : Int), 0 ≤ i → i < n → slAt es v (.int k i) = some (.pointer (some ⟨slB v, slO v + i.toNat * es, none⟩))) ∧
    (∀ k, k < n * es → h.cell (slB v) (slO v + k) = cs[k]?) ∧ (∀ l k, k < n * es → Heap.cell (h ++ l) (slB v) (slO v + k) = cs[k]?) ∧ (∀ l k, k < n * es → Heap.cell (h.freeze ++ l) (slB v) (slO v + k) = cs[k]?) ∧
    (∀ k m, k + m ≤ n * es → m ≠ 0 → h.part (slB v) (slO v + k) m = some (.agg ((cs.drop k).take m).toArray)) ∧ (∀ l k m, k + m ≤ n * es → m ≠ 0 → Heap.part (h ++ l) (slB v) (slO v + k) m = some (.agg ((cs.drop k).take m).toArray)) ∧
    (∀ l k m, k + m ≤ n * es → m ≠ 0 → Heap.part (h.freeze ++ l) (slB v) (slO v + k) m = some (.agg ((cs.drop k).take m).toArray)) ∧
    (∀ d, Go.Abs.lowV h.length d v = true) ∧ Go.Abs.fewOk v = true :=
  ⟨s.len, fun _ _ => s.at, s.cell, fun l => (s.app l).cell, fun l => ((Sl_freeze.2 s).app l).cell, fun _ _ => s.part, fun l _ _ => (s.app l).part, fun l _ _ => ((Sl_freeze.2 s).app l).part, fun _ => s.lowV rfl, s.fewOk⟩
end Go.Abs
namespace Go.Abs
def ptrB:Value→Nat
 | .pointer (some ⟨b,_,_⟩)=>b
 | _=>0
@[simp] theorem ptrB_ptr (b o:Nat):ptrB (.pointer (some ⟨b,o,none⟩))=b:=rfl
section
variable {C:Ctx} {Q:St→Prop} {f:AFrame} {h:Heap} {i:Nat} {l:Log} {r:List EOper} {d:Option Nat} {frz:Bool}
theorem wpO_loadL (agg:Bool) (s:Nat) (x:Operand) (conf:List Nat) (log:Bool):wpO C (⟨d,.load agg s x,none,conf,log,frz⟩::r) i l ⟨f,h⟩ Q =
  Ev C f x fun v=>wpV (loadV h agg s v) fun u=>l.clash conf [ptrB v] []=false∧wpO C r (i+1) (if log then (i,[ptrB v],[])::l else l) ⟨f.put d u,h⟩ Q:=by
 rw[Ev,wpO_cons]; simp only[EOp.exec,EOp.run]
 rcases C.eval f x with _ | v
 ·simp
 ·rw[wpV_some]
  unfold loadV
  split
  ·rename_i b o q; cases q
   unfold Heap.part Heap.cell
   rcases e:h.get b with _ | k
   ·cases agg <;> simp[e]
   ·cases agg
    ·simp only[e,Bool.false_eq_true,if_false,wpV_map,Eff.apply,Option.bind_some,Eff.writes]; rfl
    ·simp only[e,if_true,Option.bind_some]
     by_cases hc:o+s≤k.cells.length
     ·simp only[if_pos hc,Option.map_some,wpV_some]; rfl
     ·simp only[if_neg hc,Option.map_none,wpV_none]
  ·rename_i q; split
   ·exact (q _ _ rfl).elim
   ·simp
theorem wpO_storeL (s:Nat) (a x:Operand) (conf:List Nat) (log:Bool):wpO C (⟨d,.store s a x,none,conf,log,frz⟩::r) i l ⟨f,h⟩ Q =
  Ev C f a fun p=>Ev C f x fun v=>wpV (storeH C.lim s h p v) fun h'=>l.clash conf [] [ptrB p]=false∧wpO C r (i+1) (if log then (i,[],[ptrB p])::l else l) ⟨f.put d undef,h'⟩ Q:=by
 rw[Ev,wpO_cons]; simp only[EOp.exec,EOp.run]
 rcases C.eval f a with _ | p
 ·simp
 ·rw[wpV_some,Ev]
  rcases C.eval f x with _ | v
  ·simp
  ·rw[wpV_some]
   unfold storeH
   split
   ·rename_i b o v' q q'; cases q; cases q'
    simp only
    rcases e:h.get b with _ | k
    ·simp[e]
    ·simp only
     by_cases hc:k.rw=true∧v.cells.size=s∧o+s≤k.cells.length∧v.cells.toList.all Value.oneCell'=true∧(C.lim≤b∨v.cells.toList.all noAddr=true)
     ·simp only[e,if_pos hc,Option.map_some,wpV_some]; rfl
     ·simp only[e,if_neg hc,Option.map_none,wpV_none]
   ·rename_i q; split
    ·exact (q _ _ _ rfl rfl).elim
    ·simp
attribute [simp ↓ 1500] wpO_loadL wpO_storeL
end
theorem clash_cons (l:Log) (c:Nat) (conf:List Nat) (rd wr:List Nat):l.clash (c::conf) rd wr=(l.any (fun (j,rd',wr')=>c == j && (wr.any (fun x=>rd'.contains x || wr'.contains x) || wr'.any fun x=>rd.contains x)) || l.clash conf rd wr):=rfl
attribute [simp] clash_cons
end Go.Abs
namespace Go.Abs
@[simp] theorem addrs_func (d:Nat) (fn:Fn) (a b:Array Value):addrs (d+1) (.func fn a b)=(((a++b).toList).mapM (addrs d)).map List.flatten:=by rw[addrs]; simp[plainV]
@[simp] theorem renV_func (r:Nat→Nat) (d:Nat) (fn:Fn) (a b:Array Value):renV r (d+1) (.func fn a b)=.func fn (a.map (renV r d)) (b.map (renV r d)):=by rw[renV]; simp[plainV]
theorem Blk_addrs_mix {cs:List Value} {rw:Bool} (h:cs.all plainV=false):Blk.addrs ⟨cs,rw⟩=(cs.mapM (addrs 4)).map List.flatten:=by simp only[Blk.addrs,h]; rfl
theorem Blk_ren_mix {r:Nat→Nat} {cs:List Value} {rw:Bool} (h:cs.all plainV=false):Blk.ren r ⟨cs,rw⟩=⟨cs.map (renV r 4),rw⟩:=by simp only[Blk.ren,h]; rfl
@[simp] theorem plainV_func (fn:Fn) (a b:Array Value):plainV (.func fn a b)=false:=rfl
@[simp] theorem plainV_ptr (b o:Nat) (s:Option Nat):plainV (.pointer (some ⟨b,o,s⟩))=false:=rfl
@[simp] theorem plainV_sl (a:Addr) (n c:Nat):plainV (.slice (some a) n c)=false:=rfl
attribute [simp] Blk_addrs_mix Blk_ren_mix
end Go.Abs
namespace Go.Abs
@[simp ↓] theorem KGuard_undef2 {C:Ctx} {Q:St→Prop} {st:St} {r:List EOper} {i:Nat} {l:Log} (d:Option Nat) (op:EOp) (s:Nat) (w:Bool) (conf:List Nat) (log frz:Bool) :
  KGuard C d op s w conf log frz r i l st Q undef=KGo C d op conf log frz r i l st Q false:=KGuard_undef d op s w conf log frz
theorem bytes_inj {a b:ByteArray}:a.toList=b.toList↔a=b:=by
 rw[ByteArray.toList_eq,ByteArray.toList_eq]
 constructor
 ·intro h
  cases a; cases b
  simp at h
  rw[h]
 ·intro h; rw[h]
theorem bytes_dec (a b:ByteArray):(a.toList == b.toList)=decide (a=b):=by
 rw[Bool.eq_iff_iff]; simp[bytes_inj]
theorem bin_seql (a b:ByteArray):E.bin .eql (.string a) (.string b)=some (.bool (decide (a=b))):=by
 rw[← bytes_dec]; simp[E.bin,binOp,Op.stringOp,semPure]; rfl
theorem bin_sneq (a b:ByteArray):E.bin .neq (.string a) (.string b)=some (.bool (!decide (a=b))):=by
 rw[← bytes_dec]; simp[E.bin,binOp,Op.stringOp,semPure]; rfl
attribute [simp] bin_seql bin_sneq
theorem bytes_nil {s:ByteArray}:s=⟨#[]⟩↔s.size=0:=by
 constructor
 ·intro h; subst h; rfl
 ·intro h
  obtain⟨d⟩:=s
  have:d=#[]:=Array.eq_empty_of_size_eq_zero h
  rw[this]
end Go.Abs
