/- What must hold of code so that its run ends so: rules for simp. -/
import Derived.Test.YtjalhpdmdiimoaaDoorAbsSound2
set_option linter.unusedSimpArgs false
set_option linter.unusedVariables false
namespace Go.Abs

def brB (b : Bool) (X Y : Prop) : Prop := (b = true → X) ∧ (b = false → Y)
@[simp ↓] theorem brB_true (X Y : Prop) : brB true X Y = X := by simp [brB]
@[simp ↓] theorem brB_false (X Y : Prop) : brB false X Y = Y := by simp [brB]
@[simp ↓] theorem brB_not (b : Bool) (X Y : Prop) : brB (!b) X Y = brB b Y X := by cases b <;> simp [brB]

def wpV {α : Type} (o : Option α) (Q : α → Prop) : Prop := ∃ v, o = some v ∧ Q v
@[simp ↓] theorem wpV_some {α : Type} (v : α) (Q : α → Prop) : wpV (some v) Q = Q v := by simp [wpV]
@[simp ↓] theorem wpV_none {α : Type} (Q : α → Prop) : wpV none Q = False := by simp [wpV]
@[simp ↓] theorem wpV_map {α β : Type} (o : Option α) (f : α → β) (Q : β → Prop) : wpV (o.map f) Q = wpV o fun a => Q (f a) := by
  cases o <;> simp [wpV]
theorem wpV_ite {α : Type} (p : Prop) [Decidable p] (a b : Option α) (Q : α → Prop) : wpV (if p then a else b) Q = ((p → wpV a Q) ∧ (¬p → wpV b Q)) := by
  by_cases h : p <;> simp [h]
@[simp ↓] theorem wpV_ite_none {α : Type} (p : Prop) [Decidable p] (a : Option α) (Q : α → Prop) : wpV (if p then a else none) Q = (p ∧ wpV a Q) := by
  by_cases h : p <;> simp [h, wpV_none]
theorem wpV_mono {α : Type} {o : Option α} {Q R : α → Prop} (h : wpV o Q) (k : ∀ v, Q v → R v) : wpV o R := let ⟨v, e, q⟩ := h; ⟨v, e, k v q⟩

/-- The entry of a slot, set to a truth value. -/
def AFrame.fix : AFrame → Nat → Bool → AFrame
  | [], _, _ => []
  | (s, v) :: r, t, b => if s = t then (s, .bool b) :: r else (s, v) :: AFrame.fix r t b
theorem AFrame.fix_same : ∀ {f : AFrame} {s : Nat} {b : Bool}, f.get s = some (.bool b) → f.fix s b = f
  | [], _, _, h => by simp [AFrame.get] at h
  | (s', v) :: r, s, b, h => by
    simp only [AFrame.get] at h
    simp only [AFrame.fix]
    split
    · rename_i e; rw [if_pos e] at h; cases h; rfl
    · rename_i e; rw [if_neg e] at h; rw [AFrame.fix_same h]

def wpO (C : Ctx) (ops : List EOper) (i : Nat) (l : Log) (st : St) (Q : St → Prop) : Prop := wpV (runOps C ops i l st) Q
def wpC (C : Ctx) (c : ECode) (st : St) (Q : Ex → St → Prop) : Prop := wpV (c.run C st) fun p => Q p.1 p.2

def KSeq (C : Ctx) (b : ECode) (Q : Ex → St → Prop) : Ex → St → Prop
  | .normal, st => wpC C b st Q
  | e, st => Q e st
def KBlock (id : Nat) (Q : Ex → St → Prop) : Ex → St → Prop
  | .exit j, st => Q (if j = id then .normal else .exit j) st
  | e, st => Q e st
def KReg (Q : Ex → St → Prop) (st : St) : Prop := Q .normal st
def KCond (C : Ctx) (a b : ECode) (st : St) (Q : Ex → St → Prop) : Value → Prop
  | .bool t => brB t (wpC C a st Q) (wpC C b st Q)
  | _ => False
def KOp (C : Ctx) (d : Option Nat) (conf : List Nat) (log : Bool) (r : List EOper) (i : Nat) (l : Log) (f : AFrame) (Q : St → Prop) : Value × Heap × List Nat × List Nat → Prop
  | (v, h, rd, wr) => l.clash conf rd wr = false ∧ wpO C r (i + 1) (if log then (i, rd, wr) :: l else l) ⟨f.put d v, h⟩ Q
def KGo (C : Ctx) (d : Option Nat) (op : EOp) (conf : List Nat) (log frz : Bool) (r : List EOper) (i : Nat) (l : Log) (st : St) (Q : St → Prop) : Bool → Prop
  | true => wpV (op.exec C frz st.f st.h) (KOp C d conf log r i l st.f Q)
  | false => wpO C r (i + 1) l ⟨st.f.put d undef, st.h⟩ Q
def KGuard (C : Ctx) (d : Option Nat) (op : EOp) (s : Nat) (w : Bool) (conf : List Nat) (log frz : Bool) (r : List EOper) (i : Nat) (l : Log) (st : St) (Q : St → Prop) : Value → Prop
  | .bool b => brB b (KGo C d op conf log frz r i l ⟨st.f.fix s true, st.h⟩ Q w) (KGo C d op conf log frz r i l ⟨st.f.fix s false, st.h⟩ Q (!w))
  | .tuple cs => cs.size = 0 ∧ KGo C d op conf log frz r i l st Q false
  | _ => False

section rules
variable {C : Ctx} {Q : Ex → St → Prop} {st : St}
@[simp ↓] theorem wpC_skip : wpC C .skip st Q = Q .normal st := by simp [wpC, ECode.run, wpV]
@[simp ↓] theorem wpC_exit (id : Nat) : wpC C (.exit id) st Q = Q (.exit id) st := by simp [wpC, ECode.run, wpV]
@[simp ↓] theorem wpC_ret : wpC C .ret st Q = Q .ret st := by simp [wpC, ECode.run, wpV]
@[simp ↓] theorem wpC_region (d : Bool) (ops : List EOper) : wpC C (.region d ops) st Q = wpO C ops 0 [] st (KReg Q) := by
  simp only [wpC, ECode.run, wpV_map, wpO]; rfl
@[simp ↓] theorem wpC_seq (a b : ECode) : wpC C (.seq a b) st Q = wpC C a st (KSeq C b Q) := by
  simp only [wpC, ECode.run]
  rcases h : ECode.run C a st with _ | ⟨e, st'⟩
  · simp [wpV]
  · cases e <;> simp [KSeq, wpV, wpC]
@[simp ↓] theorem wpC_block (id : Nat) (b : ECode) : wpC C (.block id b) st Q = wpC C b st (KBlock id Q) := by
  simp only [wpC, ECode.run]
  rcases h : ECode.run C b st with _ | ⟨e, st'⟩
  · simp [wpV]
  · cases e with
    | normal => simp [KBlock, wpV]
    | ret => simp [KBlock, wpV]
    | exit j => by_cases hj : j = id <;> simp [KBlock, wpV, hj]
@[simp ↓] theorem wpC_cond (c : Operand) (a b : ECode) : wpC C (.cond c a b) st Q = wpV (C.eval st.f c) (KCond C a b st Q) := by
  simp only [wpC, ECode.run]
  rcases h : C.eval st.f c with _ | v
  · simp [wpV]
  · cases v <;> simp [KCond, wpV, brB]
    rename_i t
    cases t <;> simp [wpC, wpV]
@[simp ↓] theorem KSeq_normal (b : ECode) : KSeq C b Q .normal st = wpC C b st Q := rfl
@[simp ↓] theorem KSeq_ret (b : ECode) : KSeq C b Q .ret st = Q .ret st := rfl
@[simp ↓] theorem KSeq_exit (b : ECode) (j : Nat) : KSeq C b Q (.exit j) st = Q (.exit j) st := rfl
@[simp ↓] theorem KBlock_normal (id : Nat) : KBlock id Q .normal st = Q .normal st := rfl
@[simp ↓] theorem KBlock_ret (id : Nat) : KBlock id Q .ret st = Q .ret st := rfl
@[simp ↓] theorem KBlock_exit (id j : Nat) : KBlock id Q (.exit j) st = Q (if j = id then .normal else .exit j) st := rfl
@[simp ↓] theorem KCond_bool (a b : ECode) (t : Bool) : KCond C a b st Q (.bool t) = brB t (wpC C a st Q) (wpC C b st Q) := rfl
end rules

section ops
variable {C : Ctx} {Q : St → Prop} {st : St} {i : Nat} {l : Log} {r : List EOper}
@[simp ↓] theorem KReg_eq (Q : Ex → St → Prop) : KReg Q st = Q .normal st := rfl
@[simp ↓] theorem wpO_nil : wpO C [] i l st Q = Q st := by simp [wpO, runOps, wpV]
@[simp ↓] theorem wpO_cons (d : Option Nat) (op : EOp) (conf : List Nat) (log frz : Bool) : wpO C (⟨d, op, none, conf, log, frz⟩ :: r) i l st Q = wpV (op.exec C frz st.f st.h) (KOp C d conf log r i l st.f Q) := by
  simp only [wpO, runOps, EOper.wanted]
  rcases h : op.exec C frz st.f st.h with _ | ⟨v, h', rd, wr⟩
  · simp [wpV]
  · cases hc : l.clash conf rd wr <;> simp [wpV, KOp, hc, wpO]
theorem wpO_go (d : Option Nat) (op : EOp) (g : Option (Nat × Bool)) (conf : List Nat) (log frz b : Bool) (hw : EOper.wanted st.f g = some b) :
    wpO C (⟨d, op, g, conf, log, frz⟩ :: r) i l st Q = KGo C d op conf log frz r i l st Q b := by
  simp only [wpO, runOps, hw]
  cases b
  · simp [KGo, wpO]
  · rcases h : op.exec C frz st.f st.h with _ | ⟨v, h', rd, wr⟩
    · simp [wpV, KGo, h]
    · cases hc : l.clash conf rd wr <;> simp [wpV, KOp, hc, wpO, KGo, h]
@[simp ↓] theorem wpO_guard (d : Option Nat) (op : EOp) (s : Nat) (w : Bool) (conf : List Nat) (log frz : Bool) :
    wpO C (⟨d, op, some (s, w), conf, log, frz⟩ :: r) i l st Q = wpV (st.f.get s) (KGuard C d op s w conf log frz r i l st Q) := by
  rcases h : st.f.get s with _ | v
  · simp [wpO, runOps, EOper.wanted, h, wpV]
  · rw [wpV_some]
    have bad : EOper.wanted st.f (some (s, w)) = none → wpO C (⟨d, op, some (s, w), conf, log, frz⟩ :: r) i l st Q = False := by
      intro q; simp [wpO, runOps, q, wpV]
    cases v with
    | bool b =>
      rw [wpO_go d op (some (s, w)) conf log frz (b == w) (by simp [EOper.wanted, h])]
      have hf := AFrame.fix_same h
      cases b
      · simp only [KGuard, brB_false, hf]; cases w <;> rfl
      · simp only [KGuard, brB_true, hf]; cases w <;> rfl
    | tuple cs =>
      by_cases hc : cs.size = 0
      · rw [wpO_go d op (some (s, w)) conf log frz false (by simp [EOper.wanted, h, hc])]
        simp [KGuard, hc]
      · rw [bad (by simp [EOper.wanted, h, hc])]
        simp [KGuard, hc]
    | _ => exact bad (by simp [EOper.wanted, h])
@[simp ↓] theorem KGuard_bool (d : Option Nat) (op : EOp) (s : Nat) (w : Bool) (conf : List Nat) (log frz b : Bool) :
    KGuard C d op s w conf log frz r i l st Q (.bool b) = brB b (KGo C d op conf log frz r i l ⟨st.f.fix s true, st.h⟩ Q w) (KGo C d op conf log frz r i l ⟨st.f.fix s false, st.h⟩ Q (!w)) := rfl
@[simp ↓] theorem KGuard_undef (d : Option Nat) (op : EOp) (s : Nat) (w : Bool) (conf : List Nat) (log frz : Bool) :
    KGuard C d op s w conf log frz r i l st Q (.tuple #[]) = KGo C d op conf log frz r i l st Q false := by simp [KGuard]
theorem KGo_true (d : Option Nat) (op : EOp) (conf : List Nat) (log frz : Bool) : KGo C d op conf log frz r i l st Q true = wpV (op.exec C frz st.f st.h) (KOp C d conf log r i l st.f Q) := rfl
@[simp ↓] theorem KGo_false (d : Option Nat) (op : EOp) (conf : List Nat) (log frz : Bool) : KGo C d op conf log frz r i l st Q false = wpO C r (i + 1) l ⟨st.f.put d undef, st.h⟩ Q := rfl
@[simp ↓] theorem KOp_plain (d : Option Nat) (f : AFrame) (v : Value) (h : Heap) (rd wr : List Nat) : KOp C d [] false r i l f Q (v, h, rd, wr) = wpO C r (i + 1) l ⟨f.put d v, h⟩ Q := by
  simp [KOp, Log.clash]
theorem KOp_eq (d : Option Nat) (conf : List Nat) (log : Bool) (f : AFrame) (v : Value) (h : Heap) (rd wr : List Nat) :
    KOp C d conf log r i l f Q (v, h, rd, wr) = (l.clash conf rd wr = false ∧ wpO C r (i + 1) (if log then (i, rd, wr) :: l else l) ⟨f.put d v, h⟩ Q) := rfl
end ops

theorem wpC_mono {C : Ctx} {c : ECode} {st : St} {Q R : Ex → St → Prop} (h : wpC C c st Q) (k : ∀ e st', Q e st' → R e st') : wpC C c st R := wpV_mono h fun _ q => k _ _ q

/-- A loop: an invariant of the canonical states at its head, with a measure. -/
theorem wpC_loop {C : Ctx} {live : Option (List Nat)} {b : ECode} {st : St} {Q : Ex → St → Prop} (I : Nat → St → Prop) (n : Nat) (hn : n < C.fuel)
    (hi : wpV (St.tidy C live st) (I n))
    (hs : ∀ m, m ≤ n → ∀ s, I m s → wpC C b s fun e s' => match e with
      | .normal => wpV (St.tidy C live s') fun t => ∃ j, j < m ∧ I j t
      | e => Q e s') : wpC C (.loop live b) st Q := by
  have key : ∀ k m s, m < k → m ≤ n → wpV (St.tidy C live s) (I m) → wpV (iter (ECode.run C b) (St.tidy C live) k s) fun p => Q p.1 p.2 := by
    intro k
    induction k with
    | zero => intro m s h; omega
    | succ k ih =>
      intro m s hm hmn ⟨t, ht, hI⟩
      obtain ⟨⟨e, s'⟩, hr, hq⟩ := hs m hmn t hI
      simp only [iter, ht, hr]
      cases e with
      | normal =>
        obtain ⟨u, hu, j, hj, hJ⟩ := hq
        exact ih j s' (by omega) (by omega) ⟨u, hu, hJ⟩
      | exit id => exact ⟨_, rfl, hq⟩
      | ret => exact ⟨_, rfl, hq⟩
  exact key C.fuel n st hn (Nat.le_refl _) hi

/-- What a function must give behind its code: this value and these blocks. -/
def KFun (n : Nat) (rs : List ERes) (v : Value) (bs : List (Option Blk)) : Ex → St → Prop
  | .exit _, _ => False
  | _, st => wpV (rs.mapM (ERes.get st)) fun vs => collect n [retVal vs] st.h = some ([v], bs)
@[simp ↓] theorem KFun_normal {n : Nat} {rs : List ERes} {v : Value} {bs : List (Option Blk)} {st : St} : KFun n rs v bs .normal st = wpV (rs.mapM (ERes.get st)) fun vs => collect n [retVal vs] st.h = some ([v], bs) := rfl
@[simp ↓] theorem KFun_ret {n : Nat} {rs : List ERes} {v : Value} {bs : List (Option Blk)} {st : St} : KFun n rs v bs .ret st = wpV (rs.mapM (ERes.get st)) fun vs => collect n [retVal vs] st.h = some ([v], bs) := rfl

theorem call_pure {E : EProg} {f : FuncId} {F : EFun} (hf : E.fn f = some F) (hm : F.mode = .pure) {args : List Value} (hl : args.length ≤ F.n) {d lim : Nat} {h : Heap} {v : Value} {bs : List (Option Blk)}
    (hw : wpC ⟨EProg.call E d, h.length, h.length, true, E.glob, E.fuel⟩ F.code ⟨argFrame 0 args, h.freeze⟩ (KFun h.length F.results v bs)) :
    E.call (d + 1) lim f args h = some (v, h ++ bs) := by
  obtain ⟨⟨e, st⟩, hr, hq⟩ := hw
  simp only [EProg.call, hf, hm, EFun.run, if_pos hl, hr]
  cases e with
  | exit id => exact hq.elim
  | normal => obtain ⟨vs, h1, h2⟩ := hq; simp [h1, h2]
  | ret => obtain ⟨vs, h1, h2⟩ := hq; simp [h1, h2]

/-- The same, the value told by a property. -/
theorem call_pure_ex {E : EProg} {f : FuncId} {F : EFun} (hf : E.fn f = some F) (hm : F.mode = .pure) {args : List Value} (hl : args.length ≤ F.n) {d lim : Nat} {h : Heap} {Q : Value → List (Option Blk) → Prop}
    (hw : wpC ⟨EProg.call E d, h.length, h.length, true, E.glob, E.fuel⟩ F.code ⟨argFrame 0 args, h.freeze⟩ fun e st => ∃ v bs, Q v bs ∧ KFun h.length F.results v bs e st) :
    ∃ v bs, E.call (d + 1) lim f args h = some (v, h ++ bs) ∧ Q v bs := by
  obtain ⟨⟨e, st⟩, hr, v, bs, hQ, hq⟩ := hw
  exact ⟨v, bs, call_pure hf hm hl ⟨(e, st), hr, hq⟩, hQ⟩

/-- A function that may write the caller's blocks. -/
theorem call_trunc {E : EProg} {f : FuncId} {F : EFun} (hf : E.fn f = some F) (hm : F.mode = .trunc) {args : List Value} (hl : args.length ≤ F.n) {d lim : Nat} {h : Heap} {Q : Value → Heap → Prop}
    (hw : wpC ⟨EProg.call E d, h.length, h.length, true, E.glob, E.fuel⟩ F.code ⟨argFrame 0 args, h⟩ fun e st => ∃ v bs, Q v (st.h.take h.length ++ bs) ∧ KFun h.length F.results v bs e st) :
    ∃ v h', E.call (d + 1) lim f args h = some (v, h') ∧ Q v h' := by
  obtain ⟨⟨e, st⟩, hr, v, bs, hQ, hq⟩ := hw
  refine ⟨v, _, ?_, hQ⟩
  simp only [EProg.call, hf, hm, EFun.run, if_pos hl, hr]
  cases e with
  | exit id => exact hq.elim
  | normal => obtain ⟨vs, h1, h2⟩ := hq; simp [h1, h2]
  | ret => obtain ⟨vs, h1, h2⟩ := hq; simp [h1, h2]

/-! Values of heap and frame. -/
theorem get_put_same (f : AFrame) (s : Nat) (v : Value) : AFrame.get (f.put (some s) v) s = some v := by simp [AFrame.put, AFrame.get]
@[simp] theorem put_some (f : AFrame) (s : Nat) (v : Value) : f.put (some s) v = (s, v) :: f := rfl
@[simp] theorem put_none (f : AFrame) (v : Value) : f.put none v = f := rfl
@[simp] theorem get_cons (s : Nat) (v : Value) (f : AFrame) (t : Nat) : AFrame.get ((s, v) :: f) t = if s = t then some v else f.get t := rfl
@[simp] theorem get_nil (t : Nat) : AFrame.get [] t = none := rfl
@[simp] theorem fix_cons (s : Nat) (v : Value) (f : AFrame) (t : Nat) (b : Bool) : AFrame.fix ((s, v) :: f) t b = if s = t then (s, .bool b) :: f else (s, v) :: f.fix t b := rfl

theorem hget_freeze {h : Heap} {b : Nat} {k : Blk} (e : h.get b = some k) : h.freeze.get b = some ⟨k.cells, false⟩ := by
  unfold Heap.get at e ⊢
  rcases q : h[b]? with _ | o
  · simp [q] at e
  · simp [q] at e; subst e; simp [Heap.freeze, q]
theorem hget_append {h : Heap} {l : List (Option Blk)} {b : Nat} {k : Blk} (e : h.get b = some k) : Heap.get (h ++ l) b = some k := by
  have := Heap.get_lt e
  unfold Heap.get at e ⊢
  rw [List.getElem?_append_left this]; exact e
theorem hget_base {h : Heap} {l : List (Option Blk)} {n j : Nat} (e : n = h.length) : Heap.get (h ++ l) (n + j) = (l[j]?).getD none := by
  subst e
  unfold Heap.get
  rw [List.getElem?_append_right (by omega)]; simp
theorem hget_base0 {h : Heap} {l : List (Option Blk)} {n : Nat} (e : n = h.length) : Heap.get (h ++ l) n = (l[0]?).getD none := hget_base (j := 0) e
theorem hput_base {h : Heap} {l : List (Option Blk)} {n j : Nat} {b : Option Blk} (e : n = h.length) : Heap.put (h ++ l) (n + j) b = h ++ l.set j b := by
  subst e; unfold Heap.put; rw [List.set_append_right _ _ (by omega)]; simp
theorem hput_base0 {h : Heap} {l : List (Option Blk)} {n : Nat} {b : Option Blk} (e : n = h.length) : Heap.put (h ++ l) n b = h ++ l.set 0 b := hput_base (j := 0) e
@[simp] theorem hpush_append (h : Heap) (l : List (Option Blk)) (b : Blk) : Heap.push (h ++ l) b = h ++ (l ++ [some b]) := by simp [Heap.push]
@[simp] theorem hpush_freeze (h : Heap) (b : Blk) : Heap.push h.freeze b = h.freeze ++ [some b] := rfl

@[simp] theorem freeze_drop {h : Heap} {n : Nat} (hn : h.length ≤ n) : List.drop n h.freeze = [] := List.drop_eq_nil_of_le (by simpa using hn)
@[simp] theorem clash_nil (l : Log) (rd wr : List Nat) : Log.clash l [] rd wr = false := rfl

/-- A value without addresses. -/
def flatV : Nat → Value → Bool
  | n, v => plainV v || match n, v with
    | n + 1, .agg cs | n + 1, .tuple cs => cs.toList.all (flatV n)
    | _, _ => false
theorem flat_addrs : ∀ (n : Nat) (v : Value), flatV n v = true → addrs n v = some []
  | n, v, h => by
    unfold flatV at h
    unfold addrs
    by_cases hp : plainV v = true
    · simp [hp]
    · have hp' : plainV v = false := by simpa using hp
      simp only [hp', Bool.false_or, Bool.false_eq_true, if_false] at h ⊢
      have key : ∀ (n : Nat) (l : List Value), l.all (flatV n) = true → (∀ v, flatV n v = true → addrs n v = some []) → (l.mapM (addrs n)).map List.flatten = some [] := by
        intro n l hl ih
        have : l.mapM (addrs n) = some (l.map fun _ => []) := by
          induction l with
          | nil => rfl
          | cons x r ihr =>
            simp only [List.all_cons, Bool.and_eq_true] at hl
            rw [List.mapM_cons, ih x hl.1, ihr hl.2]; rfl
        rw [this]
        simp only [Option.map_some]
        congr 1
        induction l with
        | nil => rfl
        | cons x r ihr =>
          simp only [List.all_cons, Bool.and_eq_true] at hl
          simp only [List.map_cons, List.flatten_cons, List.nil_append]
          exact ihr hl.2 (by
            have t := this
            rw [List.mapM_cons, ih x hl.1] at t
            rcases q : List.mapM (addrs n) r with _ | m
            · rw [q] at t; cases t
            · rw [q] at t
              have t' : some ([] :: m) = some (List.map (fun _ => []) (x :: r)) := t
              simp only [List.map_cons, Option.some.injEq, List.cons.injEq, true_and] at t'
              rw [t'])
      cases n with
      | zero => cases v <;> simp at h
      | succ n =>
        cases v <;> simp only [Bool.false_eq_true] at h
        · exact key n _ h (flat_addrs n)
        · exact key n _ h (flat_addrs n)
theorem flat_ren (r : Nat → Nat) : ∀ (n : Nat) (v : Value), flatV n v = true → renV r n v = v
  | n, v, h => by
    unfold flatV at h
    unfold renV
    by_cases hp : plainV v = true
    · simp [hp]
    · have hp' : plainV v = false := by simpa using hp
      simp only [hp', Bool.false_or, Bool.false_eq_true, if_false] at h ⊢
      have key : ∀ (n : Nat) (cs : Array Value), cs.toList.all (flatV n) = true → (∀ v, flatV n v = true → renV r n v = v) → cs.map (renV r n) = cs := by
        intro n cs hl ih
        apply Array.ext
        · simp
        · intro i h1 h2
          simp only [Array.getElem_map]
          apply ih
          rw [List.all_eq_true] at hl
          exact hl _ (by simp)
      cases n with
      | zero => cases v <;> simp at h
      | succ n =>
        cases v <;> simp only [Bool.false_eq_true] at h
        · exact congrArg Value.agg (key n _ h (flat_ren r n))
        · exact congrArg Value.tuple (key n _ h (flat_ren r n))
theorem collect_flat {n : Nat} {v : Value} {h : Heap} (hv : flatV valDepth v = true) : collect n [v] h = some ([v], []) := by
  unfold collect
  have e : List.mapM (addrs valDepth) [v] = some [[]] := by rw [List.mapM_cons, flat_addrs _ _ hv]; rfl
  rw [e]
  simp [reach, flat_ren _ _ _ hv, reachFuel]

@[simp] theorem flatV_int (n : Nat) (k : IntKind) (m : Int) : flatV n (.int k m) = true := by unfold flatV; simp [plainV]
@[simp] theorem flatV_bool (n : Nat) (b : Bool) : flatV n (.bool b) = true := by unfold flatV; simp [plainV]
@[simp] theorem flatV_string (n : Nat) (b : ByteArray) : flatV n (.string b) = true := by unfold flatV; simp [plainV]
@[simp] theorem flatV_nil (n : Nat) : flatV n (.slice none 0 0) = true := by unfold flatV; simp [plainV]
@[simp] theorem flatV_ptr (n : Nat) : flatV n (.pointer none) = true := by unfold flatV; simp [plainV]
@[simp] theorem flatV_iface (n : Nat) : flatV n .nilIface = true := by unfold flatV; simp [plainV]
@[simp] theorem flatV_agg (cs : Array Value) (n : Nat) : flatV (n + 1) (.agg cs) = cs.toList.all (flatV n) := by rw [flatV]; simp [plainV]
@[simp] theorem flatV_tuple (cs : Array Value) (n : Nat) : flatV (n + 1) (.tuple cs) = cs.toList.all (flatV n) := by rw [flatV]; simp [plainV]

/-! Numbers. -/
theorem bin_add (a b : Int) (k : IntKind) : E.bin .add (.int k a) (.int k b) = some (.int k (k.wrap (a + b))) := by simp [E.bin, binOp, Op.intArith, semPure]; rfl
theorem bin_sub (a b : Int) (k : IntKind) : E.bin .sub (.int k a) (.int k b) = some (.int k (k.wrap (a - b))) := by simp [E.bin, binOp, Op.intArith, semPure]; rfl
theorem bin_mul (a b : Int) (k : IntKind) : E.bin .mul (.int k a) (.int k b) = some (.int k (k.wrap (a * b))) := by simp [E.bin, binOp, Op.intArith, semPure]; rfl
theorem bin_eql (a b : Int) (k : IntKind) : E.bin .eql (.int k a) (.int k b) = some (.bool (a == b)) := by simp [E.bin, binOp, Op.intCmp, semPure]; rfl
theorem bin_neq (a b : Int) (k : IntKind) : E.bin .neq (.int k a) (.int k b) = some (.bool (a != b)) := by simp [E.bin, binOp, Op.intCmp, semPure]; rfl
theorem bin_lss (a b : Int) (k : IntKind) : E.bin .lss (.int k a) (.int k b) = some (.bool (decide (a < b))) := by simp [E.bin, binOp, Op.intCmp, semPure]; rfl
theorem bin_leq (a b : Int) (k : IntKind) : E.bin .leq (.int k a) (.int k b) = some (.bool (decide (a ≤ b))) := by simp [E.bin, binOp, Op.intCmp, semPure]; rfl
theorem bin_gtr (a b : Int) (k : IntKind) : E.bin .gtr (.int k a) (.int k b) = some (.bool (decide (b < a))) := by simp [E.bin, binOp, Op.intCmp, semPure]; rfl
theorem bin_geq (a b : Int) (k : IntKind) : E.bin .geq (.int k a) (.int k b) = some (.bool (decide (b ≤ a))) := by simp [E.bin, binOp, Op.intCmp, semPure]; rfl
/-- Division and remainder, toward 0. -/
def qdiv (a b : Int) : Int := a.tdiv b
def qmod (a b : Int) : Int := a.tmod b
theorem bin_quo (a b : Int) (k : IntKind) : E.bin .quo (.int k a) (.int k b) = if b ≠ 0 then some (.int k (k.wrap (qdiv a b))) else none := by
  by_cases h : b = 0 <;> simp [E.bin, binOp, Op.intDiv, h] <;> rfl
theorem bin_rem (a b : Int) (k : IntKind) : E.bin .rem (.int k a) (.int k b) = if b ≠ 0 then some (.int k (qmod a b)) else none := by
  by_cases h : b = 0 <;> simp [E.bin, binOp, Op.intDiv, h] <;> rfl
theorem un_neg (a : Int) (k : IntKind) : E.un .neg (.int k a) = some (.int k (k.wrap (-a))) := by rw [← Int.zero_sub]; rfl
theorem un_not (b : Bool) : E.un .not (.bool b) = some (.bool !b) := rfl
@[simp] theorem ite_max (a b : Int) : (if a < b then b else a) = max a b := by omega
@[simp] theorem ite_min (a b : Int) : (if b < a then b else a) = min a b := by omega
attribute [simp] E.minmax E.eqCells
attribute [simp] bin_add bin_sub bin_mul bin_eql bin_neq bin_lss bin_leq bin_gtr bin_geq bin_quo bin_rem un_neg un_not argFrame EOp.exec EOp.run Ctx.eval Eff.apply Eff.writes ERes.get retVal collect_flat valDepth Value.oneCell' Value.cells hget_base0 hget_base hput_base hput_base0 Ctx.callAt fillL splice globPos
theorem wrap_eq {n : Int} (h1 : -9223372036854775808 ≤ n) (h2 : n < 9223372036854775808) : IntKind.wrap .i64 n = n := by
  have e : IntKind.wrap .i64 n = if n % 18446744073709551616 ≥ 9223372036854775808 then n % 18446744073709551616 - 18446744073709551616 else n % 18446744073709551616 := by
    simp [IntKind.wrap, IntKind.bits, IntKind.signed]
  rw [e]
  split <;> omega
end Go.Abs
