/- A table with more functions gives what a smaller one gives. -/
import Derived.Test.YtllhkifkiabkbaaGreatDoorAbsNatM
import Derived.Test.YtllhkifkiabkbaaGreatDoorAbsWpM
set_option linter.unusedSimpArgs false
set_option linter.unusedVariables false
namespace Go.Abs
abbrev CallT := Nat → FuncId → List Value → Heap → Option (Value × Heap)
def leC (c c' : CallT) : Prop := ∀ l f a h r, c l f a h = some r → c' l f a h = some r
theorem leC.map {α : Type} {c c' : CallT} (H : leC c c') {l f : Nat} {a : List Value} {h : Heap} {g : Value × Heap → α} {r : α} (e : (c l f a h).map g = some r) : (c' l f a h).map g = some r := by
  obtain ⟨p, q, rfl⟩ := Option.map_eq_some_iff.1 e
  rw [H _ _ _ _ _ q]; rfl
section
variable {C C' : Ctx}
structure Ctx.Le (C C' : Ctx) : Prop where
  call : leC C.call C'.call
  round : leC C.round C'.round
  base : C'.base = C.base
  lim : C'.lim = C.lim
  gc : C'.gc = C.gc
  glob : C'.glob = C.glob
  fuel : C'.fuel = C.fuel
theorem Ctx.Le.eval (L : C.Le C') : C'.eval = C.eval := by
  funext f o
  cases o <;> first | rfl | (simp only [Ctx.eval, L.glob])
theorem Ctx.Le.callAt (L : C.Le C') {frz : Bool} {g : FuncId} {vs : List Value} {h : Heap} {r : Value × Heap} (e : C.callAt frz g vs h = some r) : C'.callAt frz g vs h = some r := by
  unfold Ctx.callAt at e ⊢
  rw [L.lim]
  split
  · rename_i q; rw [if_pos q] at e; exact L.call.map e
  · rename_i q; rw [if_neg q] at e; exact L.call _ _ _ _ _ e
theorem Ctx.Le.roundAt (L : C.Le C') {frz : Bool} {b : Nat} {vs : List Value} {h : Heap} {r : Value × Heap} (e : C.roundAt frz b vs h = some r) : C'.roundAt frz b vs h = some r := by
  unfold Ctx.roundAt at e ⊢
  rw [L.lim]
  split
  · rename_i q; rw [if_pos q] at e; exact e
  · rename_i q; rw [if_neg q] at e; exact L.round _ _ _ _ _ e
theorem Ctx.Le.exec (L : C.Le C') {frz : Bool} {f : AFrame} {h : Heap} {op : EOp} {r : Value × Heap × List Nat × List Nat} (e : op.exec C frz f h = some r) : op.exec C' frz f h = some r := by
  cases op with
  | call g args =>
    simp only [EOp.exec, L.eval] at e ⊢
    rcases q : args.mapM (C.eval f) with _ | vs
    · rw [q] at e; cases e
    · rw [q] at e
      simp only at e ⊢
      obtain ⟨p, q1, rfl⟩ := Option.map_eq_some_iff.1 e
      rw [L.callAt q1]; rfl
  | callVal g args =>
    simp only [EOp.exec, L.eval] at e ⊢
    split at e
    · obtain ⟨p, q3, rfl⟩ := Option.map_eq_some_iff.1 e
      rw [L.callAt q3]; rfl
    · split at e
      · obtain ⟨p, q3, rfl⟩ := Option.map_eq_some_iff.1 e
        rw [L.roundAt q3]; rfl
      · cases e
    · cases e
  | _ => simp only [EOp.exec, L.eval, L.lim] at e ⊢; exact e
theorem Ctx.Le.ops (L : C.Le C') : ∀ (l : List EOper) (i : Nat) (g : Log) (st st' : St), runOps C l i g st = some st' → runOps C' l i g st = some st'
  | [], _, _, _, _, e => e
  | o :: r, i, g, st, st', e => by
    simp only [runOps] at e ⊢
    rcases q : EOper.wanted st.f o.guard with _ | _ | _
    · rw [q] at e; cases e
    · rw [q] at e
      simp only at e ⊢
      exact Ctx.Le.ops L r _ _ _ _ e
    · rw [q] at e
      simp only at e ⊢
      rcases q2 : o.op.exec C o.frz st.f st.h with _ | ⟨v, h, rd, wr⟩
      · rw [q2] at e; cases e
      · rw [q2] at e
        rw [L.exec q2]
        simp only at e ⊢
        split at e
        · cases e
        · rename_i q3
          rw [if_neg q3]
          exact Ctx.Le.ops L r _ _ _ _ e
theorem Ctx.Le.tidy (L : C.Le C') (live : Option (List Nat)) : St.tidy C' live = St.tidy C live := by
  funext st
  unfold St.tidy
  rw [L.gc, L.base]
theorem iter_mono {s s' : St → Option (Ex × St)} (H : ∀ st r, s st = some r → s' st = some r) (t : St → Option St) : ∀ (k : Nat) (st : St) (r : Ex × St), iter s t k st = some r → iter s' t k st = some r
  | 0, _, _, e => by cases e
  | k + 1, st, r, e => by
    simp only [iter] at e ⊢
    rcases q : t st with _ | st1
    · rw [q] at e; cases e
    · rw [q] at e
      simp only at e ⊢
      rcases q2 : s st1 with _ | ⟨x, st2⟩
      · rw [q2] at e; cases e
      · rw [q2] at e
        rw [H _ _ q2]
        cases x with
        | normal => exact iter_mono H t k _ _ e
        | _ => exact e
theorem Ctx.Le.run (L : C.Le C') : ∀ (c : ECode) (st : St) (r : Ex × St), c.run C st = some r → c.run C' st = some r
  | .skip, st, r, e => e
  | .region _ ops, st, r, e => by
    simp only [ECode.run] at e ⊢
    obtain ⟨p, q, rfl⟩ := Option.map_eq_some_iff.1 e
    rw [L.ops _ _ _ _ _ q]; rfl
  | .seq a b, st, r, e => by
    simp only [ECode.run] at e ⊢
    rcases q : ECode.run C a st with _ | ⟨x, st2⟩
    · rw [q] at e; cases e
    · rw [q] at e
      rw [Ctx.Le.run L a _ _ q]
      cases x with
      | normal => exact Ctx.Le.run L b _ _ e
      | _ => exact e
  | .cond c a b, st, r, e => by
    simp only [ECode.run, L.eval] at e ⊢
    split at e
    · rename_i t q
      cases t with
      | true => exact Ctx.Le.run L a _ _ e
      | false => exact Ctx.Le.run L b _ _ e
    · cases e
  | .block id b, st, r, e => by
    simp only [ECode.run] at e ⊢
    rcases q : ECode.run C b st with _ | ⟨x, st2⟩
    · rw [q] at e; cases e
    · rw [q] at e
      rw [Ctx.Le.run L b _ _ q]
      exact e
  | .loop live b, st, r, e => by
    simp only [ECode.run] at e ⊢
    rw [L.tidy, L.fuel]
    exact iter_mono (fun st r => Ctx.Le.run L b st r) _ _ _ _ e
  | .exit id, st, r, e => e
  | .ret, st, r, e => e
  | .rangeF g f i full sl ps a b, st, r, e => by
    simp only [ECode.run, L.eval, L.lim] at e ⊢
    split at e
    · split at e
      · rename_i q3
        rw [L.call _ _ _ _ _ q3]
        exact e
      · cases e
    · cases e
end
theorem EFun.run_mono {C C' : Ctx} (L : C.Le C') (F : EFun) {args : List Value} {h : Heap} {r : Value × Heap} (e : F.run C args h = some r) : F.run C' args h = some r := by
  unfold EFun.run at e ⊢
  split
  · rename_i q
    rw [if_pos q] at e
    rcases q2 : F.code.run C ⟨argFrame 0 args, h⟩ with _ | ⟨x, st⟩
    · rw [q2] at e; cases e
    · rw [q2] at e
      rw [L.run _ _ _ q2]
      exact e
  · rename_i q; rw [if_neg q] at e; cases e
/-- A table that has all that a smaller one has. -/
structure EProg.Le (E E' : EProg) : Prop where
  fn : ∀ f F, E.fn f = some F → E'.fn f = some F
  glob : E'.glob = E.glob
  fuel : E'.fuel = E.fuel
theorem EProg.Le.roundOf {E E' : EProg} (L : E.Le E') {c c' : CallT} (H : leC c c') : leC (E.roundOf c) (E'.roundOf c') := by
  intro lim b vs h r e
  unfold EProg.roundOf at e ⊢
  split at e
  · rename_i q
    split at e
    · rename_i F q1
      rw [L.fn _ _ q1]
      simp only
      split at e
      · rename_i rd q2
        split at e
        · rename_i q3
          rw [if_pos q3]
          unfold ERound.run at e ⊢
          have L1 : Ctx.Le ⟨c, h.length, if rd.full then lim else h.length, !rd.full, E.glob, E.fuel, noRound⟩ ⟨c', h.length, if rd.full then lim else h.length, !rd.full, E'.glob, E'.fuel, noRound⟩ :=
            ⟨H, fun _ _ _ _ _ q => q, rfl, rfl, rfl, L.glob, L.fuel⟩
          split at e
          · rename_i st1 q4
            rw [L1.run _ _ _ q4]
            simp only
            split at e
            · split at e
              · rename_i q7
                rw [if_pos q7]
                split at e
                · rename_i ex st2 q8
                  rw [L1.run _ _ _ q8]
                  exact e
                · cases e
              · cases e
            · cases e
          · cases e
        · cases e
      · cases e
    · cases e
  · cases e
theorem EProg.Le.call {E E' : EProg} (L : E.Le E') : ∀ d, leC (E.call d) (E'.call d)
  | 0 => fun _ _ _ _ _ e => by cases e
  | d + 1 => by
    intro lim f args h r e
    have H := EProg.Le.call L d
    have R := L.roundOf H
    simp only [EProg.call] at e ⊢
    split at e
    · cases e
    · rename_i F q
      rw [L.fn _ _ q]
      simp only
      split at e
      · rename_i m
        have L1 : Ctx.Le ⟨E.call d, h.length, h.length, true, E.glob, E.fuel, E.roundOf (E.call d)⟩ ⟨E'.call d, h.length, h.length, true, E'.glob, E'.fuel, E'.roundOf (E'.call d)⟩ := ⟨H, R, rfl, rfl, rfl, L.glob, L.fuel⟩
        split at e
        · rename_i q2
          rw [EFun.run_mono L1 F q2]
          exact e
        · cases e
      · rename_i m
        have L1 : Ctx.Le ⟨E.call d, h.length, h.length, true, E.glob, E.fuel, E.roundOf (E.call d)⟩ ⟨E'.call d, h.length, h.length, true, E'.glob, E'.fuel, E'.roundOf (E'.call d)⟩ := ⟨H, R, rfl, rfl, rfl, L.glob, L.fuel⟩
        split at e
        · rename_i q2
          rw [EFun.run_mono L1 F q2]
          exact e
        · cases e
      · rename_i m
        have L1 : Ctx.Le ⟨E.call d, h.length, lim, false, E.glob, E.fuel, E.roundOf (E.call d)⟩ ⟨E'.call d, h.length, lim, false, E'.glob, E'.fuel, E'.roundOf (E'.call d)⟩ := ⟨H, R, rfl, rfl, rfl, L.glob, L.fuel⟩
        exact EFun.run_mono L1 F e
      · exact e
end Go.Abs
