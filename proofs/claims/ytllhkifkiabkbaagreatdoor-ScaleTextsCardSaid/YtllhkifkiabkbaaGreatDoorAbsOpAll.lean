/- All operations but calls, together; what an effect leaves of the relation. -/
import Derived.Test.YtllhkifkiabkbaaGreatDoorAbsOpsM
set_option linter.unusedSimpArgs false
set_option linter.unusedVariables false
namespace Go.Abs
variable {K : LoopKind}
/-- The block of a slice. -/
def slB' : Value → Option Nat
  | .slice (some ⟨b, _, none⟩) _ _ => some b
  | _ => none

theorem compile_append {P : Program} {op : Op} {es b : Nat} {s x : Operand} (h : compileOp P op = some (.append es b s x)) : ∃ c, op = .call c ∧ c.callee = .builtin .append ∧ c.args = #[s, x] := by
  cases op <;> simp only [compileOp, Option.map_eq_some_iff, Option.some.injEq, reduceCtorEq, and_false, exists_false] at h
  case makeMap t r => cases r <;> simp at h
  case call c =>
    refine ⟨c, rfl, ?_⟩
    unfold compileCall at h
    split at h
    all_goals first
      | (rename_i hcal
         split at h
         · rename_i s' x' t u ha ht
           repeat' (first | split at h | (cases h; done))
           cases h
           refine ⟨hcal, ?_⟩
           rw [← ha]
         · cases h)
      | repeat' (first | split at h | (cases h; done))
  case binOp =>
    unfold compileBin at h
    repeat' (first | split at h | (cases h; done))
  case typeAssert =>
    unfold compileAssert at h
    repeat' (first | split at h | (cases h; done) | (simp at h; done))
  case slice =>
    unfold compileSlice at h
    repeat' (first | split at h | (cases h; done) | (simp at h; done))
  all_goals repeat' (first | split at h | (cases h; done) | (simp at h; done))
section
variable {P : Program} {a : Act} {o : Oper} {w : World} {ρ : Ren} {h : Heap} {lim : Nat} {ev : Operand → Option Value} {out : Out}

theorem opt_mem {x : Option Operand} {z : Operand} (hz : x = some z) : z ∈ x.toArray := by subst hz; simp

theorem of_list {α : Type} {xs : Array α} {l : List α} (h : xs.toList = l) : xs = l.toArray := by rw [← h]

theorem op_sound {e : EOp} (hc : compileOp P o.op = some e) (hrun : e.run lim h ev = some out) (hev : ∀ x ∈ o.op.operands, ∀ v, ev x = some v → VRel ρ v (a.eval x))
    (hblk : ∀ i ∈ out.reads ++ out.eff.writes, ∀ b L, h.get i = some b → ρ i = some L → BlkOk K ρ L b w.heap[L.blk]?) : OpRes K P a o w ρ h.length out := by
  have hbr : ∀ i ∈ out.reads, ∀ b L, h.get i = some b → ρ i = some L → BlkOk K ρ L b w.heap[L.blk]? := fun i hi => hblk i (by simp [hi])
  have hbw : ∀ i ∈ out.eff.writes, ∀ b L, h.get i = some b → ρ i = some L → BlkOk K ρ L b w.heap[L.blk]? := fun i hi => hblk i (by simp [hi])
  cases hop : o.op <;> simp only [hop, compileOp] at hc <;> simp only [hop, Op.operands] at hev <;> try (cases hc; done)
  case move x => cases hc; exact sound_move (.inl hop) hrun (hev x (by simp))
  case assign x => cases hc; exact sound_move (.inr hop) hrun (hev x (by simp))
  case pick c x y => cases hc; exact sound_pick hop hrun (hev c (by simp)) (hev x (by simp)) (hev y (by simp))
  case alloc t =>
    simp only [Option.map_eq_some_iff] at hc
    obtain ⟨z, hz, rfl⟩ := hc
    exact sound_push hop hz hrun
  case box t x => cases hc; exact sound_box hop hrun (hev x (by simp))
  case build t parts =>
    split at hc
    · rename_i z l hz hl
      split at hc
      · rename_i hok; cases hc
        exact sound_build hop hz hl hok hrun (fun x hx => hev x (by simpa using hx))
      · cases hc
    · cases hc
  case buildSlice t ln parts =>
    split at hc
    · rename_i e' he
      split at hc
      · rename_i s z hs hz
        split at hc
        · rename_i hcd; cases hc
          unfold sliceElem at he
          split at he
          · rename_i e'' hu
            cases he
            exact sound_buildSlice hop hu hs hz hcd.1 hcd.2 hrun (fun x hx => hev x (by simpa using hx))
          · cases he
        · cases hc
      · cases hc
    · cases hc
  case load t x =>
    split at hc
    · rename_i g s hg hs; cases hc
      exact sound_load hop hg hs hrun (hev x (by simp)) hbr
    · cases hc
  case store t x y =>
    simp only [Option.map_eq_some_iff] at hc
    obtain ⟨s, hs, rfl⟩ := hc
    exact sound_store hop hs hrun (hev x (by simp)) (hev y (by simp)) hbw
  case nilCheck x => cases hc; exact sound_nilCheck hop hrun (hev x (by simp))
  case binOp op t x y u =>
    have hx := hev x (by simp); have hy := hev y (by simp)
    unfold compileBin at hc
    split at hc
    · cases hc; exact sound_bin hop hrun hx hy
    · cases hc; exact sound_bin hop hrun hx hy
    · rename_i hu
      split at hc
      · cases hc; exact sound_eqBool hop rfl hu hrun hx hy
      · cases hc; exact sound_eqBool hop rfl hu hrun hx hy
      · cases hc
    · rename_i ms hu
      split at hc
      · cases hc; exact sound_eqNil hop rfl hu hrun hx
      · cases hc; exact sound_eqNil hop rfl hu hrun hx
      · cases hc
    · rename_i e hu
      split at hc
      · cases hc; exact sound_eqNilS hop rfl hu hrun hx
      · cases hc; exact sound_eqNilS hop rfl hu hrun hx
      · cases hc
    · rename_i fs hu
      split at hc
      · cases hc
      · rename_i hm
        have hm := by simpa using hm
        split at hc
        · rename_i ks hks; cases hc; exact sound_eqAgg hop rfl (isAggT_of hu) hks hm hrun hx hy
        · rename_i ks hks; cases hc; exact sound_eqAgg hop rfl (isAggT_of hu) hks hm hrun hx hy
        · cases hc
    · rename_i n e' hu
      split at hc
      · cases hc
      · rename_i hm
        have hm := by simpa using hm
        split at hc
        · rename_i ks hks; cases hc; exact sound_eqAgg hop rfl (isAggT_of hu) hks hm hrun hx hy
        · rename_i ks hks; cases hc; exact sound_eqAgg hop rfl (isAggT_of hu) hks hm hrun hx hy
        · cases hc
    · cases hc
  case unOp op t x => cases hc; exact sound_un hop hrun (hev x (by simp))
  case convert s d x =>
    have hx := hev x (by simp)
    split at hc
    · rename_i ds k hs hd; cases hc; exact sound_conv hop hs hd hrun hx
    · rename_i e' hs hd
      split at hc
      · rename_i he; cases hc; exact sound_strOf hop hs he hd hrun hx hbr
      · cases hc
    · rename_i e' hs hd
      split at hc
      · rename_i he; cases hc; exact sound_bytesOf hop hs he hd hrun hx
      · cases hc
    · rename_i hs hd; cases hc; exact sound_strMove hop hs hd hrun hx
    · cases hc
  case makeInterface t x =>
    split at hc
    · cases hc
    · cases hc
    · rename_i d hni hd
      cases hc
      exact sound_makeIface hop hd (fun ms e => hni ms (by rw [e])) hrun (hev x (by simp))
  case typeAssert x xt t ok =>
    unfold compileAssert at hc
    split at hc
    · rename_i hok
      subst hok
      split at hc
      · cases hc
      · cases hc
      · rename_i d hni hd
        obtain ⟨z, hz, rfl⟩ := Option.map_eq_some_iff.1 hc
        exact sound_assertT hop hd (fun ms e => hni ms (by rw [e])) hz hrun (hev x (by simp))
    · cases hc
  case makeFunc fn first captured =>
    split at hc
    · split at hc
      · rename_i hcd; cases hc; exact sound_makeFunc hop (Array.eq_empty_of_size_eq_zero hcd.2) hrun (fun x hx => hev x (by simp; exact .inr (by simpa using hx)))
      · cases hc
    · cases hc
  case makeSlice t l c =>
    split at hc
    · rename_i e' he
      split at hc
      · rename_i i z hi hz
        split at hc
        · rename_i hs0; cases hc
          unfold sliceElem at he
          split at he
          · rename_i e'' hu
            cases he
            exact sound_makeSlice hop hu hi hz hs0 hrun (hev l (by simp)) (hev c (by simp))
          · cases he
        · cases hc
      · cases hc
    · cases hc
  case slice t x lo hi mx =>
    have hx := hev x (by simp)
    have hlo : ∀ z, lo = some z → ∀ v, ev z = some v → VRel ρ v (a.eval z) := fun z hz => hev z (by simp [hz])
    have hhi : ∀ z, hi = some z → ∀ v, ev z = some v → VRel ρ v (a.eval z) := fun z hz => hev z (by simp [hz])
    unfold compileSlice at hc
    split at hc
    · rename_i n e' hu
      simp only [Option.map_eq_some_iff] at hc
      obtain ⟨s, hs, rfl⟩ := hc
      exact sound_arrSlice hop hu hs hrun hx hbr hlo hhi
    · rename_i hu; cases hc; exact sound_strSlice hop hu hrun hx hlo hhi
    · rename_i e' hu
      split at hc
      · rename_i s hs
        split at hc
        · rename_i hs0; cases hc; exact sound_slice hop hu hs hs0 hrun hx hlo hhi
        · cases hc
      · cases hc
    · rename_i e' m hu
      split at hc
      · rename_i hz
        simp only [Bool.and_eq_true, Bool.or_eq_true, Option.isNone_iff_eq_none] at hz
        simp only [Option.map_eq_some_iff] at hc
        obtain ⟨s, hs, rfl⟩ := hc
        exact sound_sliceNone hop hu hs hz.1.1 hz.1.2 hz.2 hrun hx
      · cases hc
    · cases hc
  case fieldAddr t x f =>
    split at hc
    · rename_i fields hu
      split at hc
      · rename_i fd hf
        split at hc
        · rename_i k hk
          split at hc
          · rename_i h0; cases hc; exact sound_fieldAddr hop hu hf hk h0 rfl hrun (hev x (by simp))
          · cases hc
        · cases hc
      · cases hc
    · cases hc
  case field t x f =>
    split at hc
    · rename_i fields hu
      split at hc
      · rename_i fd hf
        split at hc
        · rename_i g k hg hk; cases hc; exact sound_field hop hu hf hg hk rfl hrun (hev x (by simp))
        · cases hc
      · cases hc
    · cases hc
  case indexAddr t x i =>
    split at hc
    · rename_i n e' hu
      simp only [Option.map_eq_some_iff] at hc
      obtain ⟨s, hs, rfl⟩ := hc
      exact sound_indexArr hop hu hs hrun (hev x (by simp)) (hev i (by simp))
    · rename_i e' hu
      simp only [Option.map_eq_some_iff] at hc
      obtain ⟨s, hs, rfl⟩ := hc
      exact sound_indexSlice hop hu hs hrun (hev x (by simp)) (hev i (by simp))
    · cases hc
  case index t x i =>
    split at hc
    · rename_i n e' hu
      split at hc
      · rename_i g s hg hs; cases hc; exact sound_index hop hu hg hs hrun (hev x (by simp)) (hev i (by simp))
      · cases hc
    · rename_i hu; cases hc; exact sound_strIndex hop hu hrun (hev x (by simp)) (hev i (by simp))
    · cases hc
  case extract x i => cases hc; exact sound_extract hop hrun (hev x (by simp))
  case makeMap t r =>
    cases r with
    | none => cases hc; exact sound_makeMap hop hrun
    | some r => cases hc
  case lookup t m k ok =>
    split at hc
    · rename_i kt e' hu
      split at hc
      · rename_i z ck hz hck; cases hc; exact sound_mapGet hop hu hz hck hrun (hev m (by simp)) (hev k (by simp)) hbr
      · cases hc
    · cases hc
  case mapUpdate t m k x =>
    split at hc
    · rename_i kt e' hu
      simp only [Option.map_eq_some_iff] at hc
      obtain ⟨ck, hck, rfl⟩ := hc
      exact sound_mapSet (.inl hop) hu hck hrun (hev m (by simp)) (hev k (by simp)) (hev x (by simp)) hbw
    · cases hc
  case insert t m k x =>
    split at hc
    · rename_i kt e' hu
      simp only [Option.map_eq_some_iff] at hc
      obtain ⟨ck, hck, rfl⟩ := hc
      exact sound_mapSet (.inr hop) hu hck hrun (hev m (by simp)) (hev k (by simp)) (hev x (by simp)) hbw
    · cases hc
  case panic x => cases hc; simp [EOp.run] at hrun
  case call c =>
    have hargs : ∀ x ∈ c.args.toList, ∀ v, ev x = some v → VRel ρ v (a.eval x) := fun x hx => hev x (by simp [Call.operands]; exact .inr (by simpa using hx))
    unfold compileCall at hc
    split at hc
    · rename_i f hcal
      split at hc
      · cases hc; simp [EOp.run] at hrun
      · split at hc
        · rename_i fn hf
          split at hc
          · rename_i hcd
            split at hc
            · rename_i x y z ha
              cases hc
              rw [ha] at hargs
              exact sound_add64 hop hcal (of_list ha) hf hcd.1 hcd.2.1 hcd.2.2 hrun (hargs x (by simp)) (hargs y (by simp)) (hargs z (by simp))
            · cases hc
          · cases hc
        · cases hc
    · cases hc; simp [EOp.run] at hrun
    · rename_i hcal
      split at hc
      · rename_i x t ha ht
        rw [ha] at hargs
        split at hc
        · rename_i hu; cases hc; exact sound_lenStr hop hcal (of_list ha) ht hu hrun (hargs x (by simp))
        · rename_i e' hu; cases hc; exact sound_lenSlice hop hcal (of_list ha) ht hu hrun (hargs x (by simp))
        · rename_i kt e' hu; cases hc; exact sound_lenMap hop hcal (of_list ha) ht hu hrun (hargs x (by simp)) hbr
        · cases hc
      · cases hc
    · rename_i hcal
      split at hc
      · rename_i x t ha ht
        rw [ha] at hargs
        split at hc
        · rename_i e' hu; cases hc; exact sound_capZ hop hcal (of_list ha) ht hu hrun (hargs x (by simp))
        · cases hc
      · cases hc
    · rename_i hcal; cases hc; exact sound_min hop hcal hrun hargs
    · rename_i hcal; cases hc; exact sound_max hop hcal hrun hargs
    · rename_i hcal
      split at hc
      · rename_i s x t u ha ht
        rw [ha] at hargs
        split at hc
        · rename_i e' he
          split at hc
          · rename_i i z hi hz
            split at hc
            · rename_i hcd
              cases hc
              obtain ⟨h0, rfl⟩ := hcd
              unfold sliceElem at he
              split at he
              · rename_i e'' hu
                cases he
                exact sound_append hop hcal (of_list ha) (of_list ht) hu hi hz h0 hrun (hargs s (by simp)) (hargs x (by simp)) hblk
              · cases he
            · cases hc
          · cases hc
        · cases hc
      · cases hc
    · rename_i hcal
      split at hc
      · rename_i x t ha ht
        rw [ha] at hargs
        split at hc
        · rename_i e' he
          split at hc
          · rename_i s z hs hz
            split at hc
            · rename_i h0
              cases hc
              unfold sliceElem at he
              split at he
              · rename_i e'' hu
                cases he
                exact sound_clear hop hcal (of_list ha) ht hu hz h0 hrun (hargs x (by simp)) hbw
              · cases he
            · cases hc
          · cases hc
        · cases hc
      · cases hc
    · cases hc
end

theorem trim_get {h : Heap} {v : Value} {i : Nat} {b : Blk} (e : (h.trim v).get i = some b) : ∃ b0 n, h.get i = some b0 ∧ b.rw = b0.rw ∧ b.cells = b0.cells.take n := by
  unfold Heap.trim at e
  split at e
  · rename_i b1 o n s
    split at e
    · rename_i k hk
      by_cases hi : b1 = i
      · subst hi
        rw [Heap.get_put_eq _ (Heap.get_lt hk)] at e
        cases e
        exact ⟨k, _, hk, rfl, rfl⟩
      · rw [Heap.get_put_ne _ hi] at e
        exact ⟨b, b.cells.length, e, rfl, by simp⟩
    · exact ⟨b, b.cells.length, e, rfl, by simp⟩
  · exact ⟨b, b.cells.length, e, rfl, by simp⟩
theorem trim_length (h : Heap) (v : Value) : (h.trim v).length = h.length := by
  unfold Heap.trim
  split
  · split <;> simp
  · rfl

/-- What an operation is compiled to. -/
def CompOp (P : Program) (op : Op) (e : EOp) : Prop := compileOp P op = some e ∨ ∃ es b s x, compileOp P op = some (.append es b s x) ∧ e = .appendT es b s x

theorem CompOp.of_if {P : Program} {op : Op} {e : EOp} (h : compileOp P op = some e) (t : Bool) : CompOp P op (if t then e.stale else e) := by
  cases t with
  | false => exact .inl h
  | true =>
    cases e <;> first | exact .inl h | exact .inr ⟨_, _, _, _, h, rfl⟩

theorem BlkOk.take {K : LoopKind} {ρ : Ren} {L : Loc} {b b' : Blk} {o : Option Obj} (h : BlkOk K ρ L b o) (hk : L.map = false) {n : Nat} (hr : b'.rw = b.rw) (hc : b'.cells = b.cells.take n) : BlkOk K ρ L b' o := by
  obtain ⟨cur, e, fz, h1, h2, h3, h4, h5⟩ := h.1 hk
  refine CellsOk.ok ⟨cur, e, fz, h1, h2, by rw [hc]; simp; omega, fun q => h4 (by rw [← hr]; exact q), fun i v hv => ?_⟩ hk
  rw [hc, List.getElem?_take] at hv
  split at hv
  · exact h5 i v hv
  · cases hv

theorem append_blocks {h : Heap} {es bytes : Nat} {s x : Value} {out : Out} (hr : E.append h es bytes s x = some out) : ∀ i ∈ out.reads ++ out.eff.writes, slB' s = some i ∨ slB' x = some i := by
  have had : ∀ {v : Value} {m : Nat} {xs : List Value} {rd : List Nat}, E.added h es v = some (m, xs, rd) → ∀ i ∈ rd, slB' v = some i := by
    intro v m xs rd ha i hi
    unfold E.added at ha
    repeat' (first | split at ha | (cases ha; done))
    all_goals (cases ha; first | (simp at hi; done) | (simp at hi; subst hi; rfl))
  unfold E.append at hr
  split at hr
  · cases hr
  · rename_i m xs rd ha
    have h1 := had ha
    repeat' (first | split at hr | (cases hr; done))
    all_goals
      cases hr
      intro i hi
      first
        | exact .inr (h1 i (by simpa [Eff.writes] using hi))
        | (simp [Eff.writes] at hi
           rcases hi with q | q | q
           · subst q; exact .inl rfl
           · exact .inr (h1 i q)
           · subst q; exact .inl rfl)

section
variable {P : Program} {a : Act} {o : Oper} {w : World} {ρ : Ren} {h : Heap} {lim : Nat} {ev : Operand → Option Value} {out : Out}
theorem op_sound' {e : EOp} (hc : CompOp P o.op e) (hrun : e.run lim h ev = some out) (hev : ∀ x ∈ o.op.operands, ∀ v, ev x = some v → VRel ρ v (a.eval x))
    (hblk : ∀ i ∈ out.reads ++ out.eff.writes, ∀ b L, h.get i = some b → ρ i = some L → BlkOk K ρ L b w.heap[L.blk]?) : OpRes K P a o w ρ h.length out := by
  rcases hc with hc | ⟨es, b, s, x, hc, rfl⟩
  · exact op_sound hc hrun hev hblk
  · simp only [EOp.run] at hrun
    split at hrun
    · rename_i sv xv hs hx
      obtain ⟨c, ho, hcal, hargs⟩ := compile_append hc
      have r1 := hev s (by rw [ho]; simp [Op.operands, Call.operands, hargs]) _ hs
      have r2 := hev x (by rw [ho]; simp [Op.operands, Call.operands, hargs]) _ hx
      have kind : ∀ {v v' : Value} {i : Nat} {L : Loc}, VRel ρ v v' → slB' v = some i → ρ i = some L → L.map = false := by
        intro v v' i L hv hi hL
        unfold slB' at hi
        split at hi
        · cases hi; exact hv.slice_kind hL
        · cases hi
      rw [← trim_length h sv]
      refine op_sound (h := h.trim sv) (lim := lim) (ev := ev) hc (by simp only [EOp.run, hs, hx]; exact hrun) hev fun i hi b L e1 e2 => ?_
      obtain ⟨b0, n, q1, q2, q3⟩ := trim_get e1
      refine (hblk i hi b0 L q1 e2).take ?_ q2 q3
      rcases append_blocks hrun i hi with p | p
      · exact kind r1 p e2
      · exact kind r2 p e2
    · cases hrun
end

/-- The abstract heap behind an effect. -/
def Eff.upd (g : Nat → Option Blk) (id : Nat) : Eff → Nat → Option Blk
  | .none => g
  | .push b => fun j => if j = id then some b else g j
  | .write i b => fun j => if j = i then some b else g j
  | .move i b => fun j => if j = id then some b else if j = i then Option.none else g j

def Eff.pushes : Eff → Bool
  | .push _ | .move _ _ => true
  | _ => false

theorem EffOk.lift {ρb ρ ρb' : Ren} {id : Nat} {w w' : World} {e : Eff} (he : EffOk K ρb id w w' ρb' e) (hle : ρb.le ρ) (hid : e.pushes = true → ρ id = none) :
    ∃ ρ', EffOk K ρ id w w' ρ' e ∧ ρ.le ρ' ∧ ρb'.le ρ' ∧ ∀ i L, ρb' i = some L → ρb i = some L ∨ (i = id ∧ e.pushes = true) := by
  have up : ∀ L : Loc, (Abs.upd ρb id L).le (Abs.upd ρ id L) := fun L i M q => by
    by_cases h : i = id
    · subst h; simpa [Abs.upd] using q
    · simp only [Abs.upd, if_neg h] at q ⊢; exact hle i M q
  have dm : ∀ L : Loc, ∀ i M, Abs.upd ρb id L i = some M → ρb i = some M ∨ i = id := fun L i M q => by
    by_cases h : i = id
    · exact .inr h
    · simp only [Abs.upd, if_neg h] at q; exact .inl q
  cases e with
  | none => obtain ⟨rfl, h⟩ := he; exact ⟨ρ, ⟨rfl, h⟩, ρ.le_refl, hle, fun i L q => .inl q⟩
  | push b =>
    obtain ⟨L, rfl, h1, h2, h3, h4⟩ := he
    exact ⟨_, ⟨L, rfl, h1, h2, h3, h4.mono hle⟩, le_upd (hid rfl), up L, fun i M q => (dm L i M q).imp_right fun z => ⟨z, rfl⟩⟩
  | write i b =>
    obtain ⟨rfl, L, h1, h2, h3, h4⟩ := he
    exact ⟨ρ, ⟨rfl, L, hle _ _ h1, h2, h3, h4.mono hle⟩, ρ.le_refl, hle, fun i L q => .inl q⟩
  | move i b =>
    obtain ⟨L, M, h1, rfl, h2, h3, h4, h5, h6⟩ := he
    exact ⟨_, ⟨L, M, hle _ _ h1, rfl, h2, h3, h4, h5, h6.mono hle⟩, le_upd (hid rfl), up M, fun i L q => (dm M i L q).imp_right fun z => ⟨z, rfl⟩⟩

/-- What an effect writes was there, and might be written. -/
def Eff.okAt (g : Nat → Option Blk) : Eff → Prop
  | .write i _ | .move i _ => ∃ b, g i = some b ∧ b.rw = true
  | _ => True

theorem Eff.upd_apply (h : Heap) (e : Eff) (he : e.okAt h.get) : (e.apply h).get = e.upd h.get h.length := by
  funext j
  cases e with
  | none => rfl
  | push b =>
    simp only [Eff.apply, Eff.upd]
    by_cases hj : j = h.length
    · subst hj; simp
    · rw [if_neg hj]
      rcases Nat.lt_or_ge j h.length with k | k
      · exact Heap.get_push_lt b k
      · rw [Heap.get_ge (h := h.push b) (by simp; omega), Heap.get_ge k]
  | write i b =>
    obtain ⟨b0, h0, _⟩ := he
    simp only [Eff.apply, Eff.upd]
    by_cases hj : j = i
    · subst hj; rw [if_pos rfl]; exact Heap.get_put_eq _ (Heap.get_lt h0)
    · rw [if_neg hj]; exact Heap.get_put_ne _ (fun e => hj e.symm)
  | move i b =>
    obtain ⟨b0, h0, _⟩ := he
    simp only [Eff.apply, Eff.upd]
    have hlen : (h.put i Option.none).length = h.length := by simp
    by_cases hj : j = h.length
    · subst hj; rw [if_pos rfl]
      have := Heap.get_push_eq (h.put i Option.none) b
      rwa [hlen] at this
    · rw [if_neg hj]
      rcases Nat.lt_or_ge j h.length with k | k
      · rw [Heap.get_push_lt b (by omega)]
        by_cases hi : j = i
        · subst hi; rw [if_pos rfl]; exact Heap.get_put_eq _ k
        · rw [if_neg hi]; exact Heap.get_put_ne _ (fun e => hi e.symm)
      · rw [Heap.get_ge (by simp; omega), Heap.get_ge k]
        have := Heap.get_lt h0
        rw [if_neg (by omega)]

theorem E.append_ok {h : Heap} {es bytes : Nat} {s x : Value} {out : Out} (hr : E.append h es bytes s x = some out) : out.eff.okAt h.get := by
  unfold E.append at hr
  repeat' (first | split at hr | (cases hr; done))
  all_goals (cases hr; first | trivial | exact ⟨_, by assumption, And.left (by assumption)⟩)

theorem Eff.okAt_trim {h : Heap} {v : Value} {e : Eff} (k : e.okAt (h.trim v).get) : e.okAt h.get := by
  cases e with
  | none => trivial
  | push b => trivial
  | write i b => obtain ⟨b0, q1, q2⟩ := k; obtain ⟨b1, n, r1, r2, _⟩ := trim_get q1; exact ⟨b1, r1, by rw [← r2]; exact q2⟩
  | move i b => obtain ⟨b0, q1, q2⟩ := k; obtain ⟨b1, n, r1, r2, _⟩ := trim_get q1; exact ⟨b1, r1, by rw [← r2]; exact q2⟩

theorem EOp.run_ok {lim : Nat} {h : Heap} {ev : Operand → Option Value} {e : EOp} {out : Out} (hr : e.run lim h ev = some out) : out.eff.okAt h.get := by
  cases e
  case store s x y =>
    simp only [EOp.run] at hr
    repeat' (first | split at hr | (cases hr; done))
    cases hr
    exact ⟨_, by assumption, And.left (by assumption)⟩
  case appendT es bytes s x =>
    simp only [EOp.run] at hr
    split at hr
    · exact Eff.okAt_trim (E.append_ok hr)
    · cases hr
  case clear es z x =>
    simp only [EOp.run] at hr
    repeat' (first | split at hr | (cases hr; done))
    all_goals (cases hr; first | trivial | exact ⟨_, by assumption, And.left (by assumption)⟩)
  case mapSet ck m k x =>
    simp only [EOp.run] at hr
    repeat' (first | split at hr | (cases hr; done))
    simp only [Option.map_eq_some_iff] at hr
    obtain ⟨_, _, rfl⟩ := hr
    exact ⟨_, by assumption, And.left (by assumption)⟩
  case append es bytes s x =>
    simp only [EOp.run] at hr
    split at hr
    · exact E.append_ok hr
    · cases hr
  all_goals
    simp only [EOp.run, Option.map_eq_some_iff] at hr
    repeat' (first | split at hr | (cases hr; done))
    all_goals first
      | (cases hr; trivial)
      | (obtain ⟨_, _, rfl⟩ := hr; trivial)
      | (simp only [Option.map_eq_some_iff] at hr; obtain ⟨_, _, rfl⟩ := hr; trivial)

theorem sim_step {Own : Nat → Prop} {ρ ρ' : Ren} {g : Nat → Option Blk} {w w' : World} {id : Nat} {e : Eff} (hs : Sim K Own ρ g w) (he : EffOk K ρ id w w' ρ' e) (hsame : Same w w') (hid : e.pushes = true → ρ id = none)
    (hown : ∀ k, w.heap.size ≤ k → Own k) (hok : e.okAt g) :
    Sim K Own ρ' (e.upd g id) w' ∧ Frame Own w w' ∧ ρ.le ρ' ∧ (∀ j L, ρ' j = some L → ρ j = some L ∨ (j = id ∧ e.pushes = true)) := by
  cases e with
  | none =>
    obtain ⟨rfl, hh⟩ := he
    refine ⟨⟨fun i b L h1 h2 => by rw [hh]; exact hs.blk i b L h1 h2, hs.own, hs.excl⟩, ⟨hsame.os, hsame.tape, hsame.output, by rw [hh]; exact Nat.le_refl _, fun k _ _ => by rw [hh]⟩, ρ'.le_refl, fun j L h1 => .inl h1⟩
  | push b =>
    obtain ⟨L, rfl, hL, hsz, hold, hb⟩ := he
    have hid := hid rfl
    have hle := le_upd (L := L) hid
    refine ⟨⟨?_, ?_, ?_⟩, ⟨hsame.os, hsame.tape, hsame.output, by omega, fun k hk _ => hold k hk⟩, hle, ?_⟩
    · intro i c M h1 h2
      simp only [Eff.upd] at h1
      by_cases hi : i = id
      · subst hi
        simp [upd] at h1 h2; subst h1 h2
        exact hb.mono hle
      · rw [if_neg hi] at h1
        simp only [upd, if_neg hi] at h2
        have := hs.lt i c M h1 h2
        rw [hold _ this]
        exact (hs.blk i c M h1 h2).mono hle
    · intro i c M h1 h2 h3
      simp only [Eff.upd] at h1
      by_cases hi : i = id
      · subst hi; simp [upd] at h2; subst h2; exact hown _ (by omega)
      · rw [if_neg hi] at h1
        simp only [upd, if_neg hi] at h2
        exact hs.own i c M h1 h2 h3
    · intro i j c d M N hij h1 h2 h3 h4 h5
      simp only [Eff.upd] at h1 h3
      by_cases hi : i = id
      · subst hi
        rw [if_neg (fun e => hij e.symm)] at h3
        simp only [upd, if_neg (fun e : j = i => hij e.symm)] at h5
        simp [upd] at h4; subst h4
        have := hs.lt j d N h3 h5
        omega
      · rw [if_neg hi] at h1
        simp only [upd, if_neg hi] at h4
        by_cases hj : j = id
        · subst hj
          simp [upd] at h5; subst h5
          have := hs.lt i c M h1 h4
          omega
        · rw [if_neg hj] at h3
          simp only [upd, if_neg hj] at h5
          exact hs.excl i j c d M N hij h1 h2 h3 h4 h5
    · intro j M h1
      by_cases hj : j = id
      · exact .inr ⟨hj, rfl⟩
      · simp only [upd, if_neg hj] at h1; exact .inl h1
  | write i0 b =>
    obtain ⟨rfl, L, hL, hsz, hold, hb⟩ := he
    obtain ⟨b0, hg0, hrw0⟩ := hok
    refine ⟨⟨?_, ?_, ?_⟩, ⟨hsame.os, hsame.tape, hsame.output, by omega, ?_⟩, ρ'.le_refl, fun j L h1 => .inl h1⟩
    · intro i c M h1 h2
      simp only [Eff.upd] at h1
      by_cases hi : i = i0
      · subst hi; simp at h1; subst h1
        rw [hL] at h2; cases h2; exact hb
      · rw [if_neg hi] at h1
        rw [hold _ (fun e => hs.excl i0 i b0 c L M (fun e => hi e.symm) hg0 hrw0 h1 hL h2 e.symm)]
        exact hs.blk i c M h1 h2
    · intro i c M h1 h2 h3
      simp only [Eff.upd] at h1
      by_cases hi : i = i0
      · subst hi; exact hs.own i b0 M hg0 h2 hrw0
      · rw [if_neg hi] at h1; exact hs.own i c M h1 h2 h3
    · intro i j c d M N hij h1 h2 h3 h4 h5
      simp only [Eff.upd] at h1 h3
      by_cases hi : i = i0
      · subst hi
        rw [if_neg (fun e => hij e.symm)] at h3
        exact hs.excl i j b0 d M N hij hg0 hrw0 h3 h4 h5
      · rw [if_neg hi] at h1
        by_cases hj : j = i0
        · subst hj; exact hs.excl i j c b0 M N hij h1 h2 hg0 h4 h5
        · rw [if_neg hj] at h3; exact hs.excl i j c d M N hij h1 h2 h3 h4 h5
    · intro k hk ho
      exact hold k (fun e => ho (by rw [e]; exact hs.own i0 b0 L hg0 hL hrw0))
  | move i0 b =>
    obtain ⟨L, M0, hL, rfl, hM, hMs, hsz, hold, hb⟩ := he
    obtain ⟨b0, hg0, hrw0⟩ := hok
    have hid := hid rfl
    have hle := le_upd (L := M0) hid
    have hne : i0 ≠ id := fun e => by subst e; rw [hid] at hL; cases hL
    have hoth : ∀ j c N, j ≠ i0 → g j = some c → ρ j = some N → N.blk ≠ L.blk ∧ N.blk ≠ M0.blk := by
      intro j c N hj h1 h2
      have n1 := hs.excl i0 j b0 c L N (fun e => hj e.symm) hg0 hrw0 h1 hL h2
      refine ⟨fun e => n1 e.symm, ?_⟩
      rcases hM with e | e
      · rw [e]; exact fun q => n1 q.symm
      · have := hs.lt j c N h1 h2; omega
    refine ⟨⟨?_, ?_, ?_⟩, ⟨hsame.os, hsame.tape, hsame.output, hsz, ?_⟩, hle, ?_⟩
    · intro i c M h1 h2
      simp only [Eff.upd] at h1
      by_cases hi : i = id
      · subst hi
        simp [upd] at h1 h2; subst h1 h2
        exact hb.mono hle
      · rw [if_neg hi] at h1
        simp only [upd, if_neg hi] at h2
        by_cases hi0 : i = i0
        · rw [if_pos hi0] at h1; cases h1
        · rw [if_neg hi0] at h1
          rw [hold _ (hs.lt i c M h1 h2) (hoth i c M hi0 h1 h2).1]
          exact (hs.blk i c M h1 h2).mono hle
    · intro i c M h1 h2 h3
      simp only [Eff.upd] at h1
      by_cases hi : i = id
      · subst hi
        simp [upd] at h2; subst h2
        rcases hM with e | e
        · rw [e]; exact hs.own i0 b0 L hg0 hL hrw0
        · exact hown _ (by omega)
      · rw [if_neg hi] at h1
        simp only [upd, if_neg hi] at h2
        by_cases hi0 : i = i0
        · rw [if_pos hi0] at h1; cases h1
        · rw [if_neg hi0] at h1; exact hs.own i c M h1 h2 h3
    · intro i j c d M N hij h1 h2 h3 h4 h5
      simp only [Eff.upd] at h1 h3
      by_cases hi : i = id
      · subst hi
        have hj : j ≠ i := fun e => hij e.symm
        rw [if_neg hj] at h3
        simp only [upd, if_neg hj] at h5
        simp [upd] at h4; subst h4
        by_cases hj0 : j = i0
        · rw [if_pos hj0] at h3; cases h3
        · rw [if_neg hj0] at h3
          exact fun e => (hoth j d N hj0 h3 h5).2 e.symm
      · rw [if_neg hi] at h1
        simp only [upd, if_neg hi] at h4
        by_cases hi0 : i = i0
        · rw [if_pos hi0] at h1; cases h1
        · rw [if_neg hi0] at h1
          by_cases hj : j = id
          · subst hj
            simp [upd] at h5; subst h5
            exact (hoth i c M hi0 h1 h4).2
          · rw [if_neg hj] at h3
            simp only [upd, if_neg hj] at h5
            by_cases hj0 : j = i0
            · rw [if_pos hj0] at h3; cases h3
            · rw [if_neg hj0] at h3
              exact hs.excl i j c d M N hij h1 h2 h3 h4 h5
    · intro k hk ho
      exact hold k hk (fun e => ho (by rw [e]; exact hs.own i0 b0 L hg0 hL hrw0))
    · intro j M h1
      by_cases hj : j = id
      · exact .inr ⟨hj, rfl⟩
      · simp only [upd, if_neg hj] at h1; exact .inl h1

/-- A block that an effect does not write stays. -/
theorem EffOk.other {Own : Nat → Prop} {ρ ρ' : Ren} {g : Nat → Option Blk} {w w' : World} {id : Nat} {e : Eff} (hs : Sim K Own ρ g w) (he : EffOk K ρ id w w' ρ' e) (hok : e.okAt g) {x : Nat} {b : Blk} {L : Loc} (hx : x ∉ e.writes) (hb : g x = some b) (hL : ρ x = some L) :
    w'.heap[L.blk]? = w.heap[L.blk]? := by
  have hlt := hs.lt x b L hb hL
  cases e with
  | none => rw [he.2]
  | push b => obtain ⟨M, _, _, _, h3, _⟩ := he; exact h3 _ hlt
  | write i c =>
    obtain ⟨_, M, hM, _, h3, _⟩ := he
    obtain ⟨b0, q1, q2⟩ := hok
    have hne : i ≠ x := fun q => hx (by simp [Eff.writes, q])
    exact h3 _ fun q => hs.excl i x b0 b M L hne q1 q2 hb hM hL q.symm
  | move i c =>
    obtain ⟨M, N, hM, _, _, _, _, h3, _⟩ := he
    obtain ⟨b0, q1, q2⟩ := hok
    have hne : i ≠ x := fun q => hx (by simp [Eff.writes, q])
    exact h3 _ hlt fun q => hs.excl i x b0 b M L hne q1 q2 hb hM hL q.symm
/-- What an effect has put. -/
theorem EffOk.put {ρ ρ' : Ren} {h : Heap} {id : Nat} {w w' : World} {e : Eff} (he : EffOk K ρ id w w' ρ' e) {ρ2 : Ren} (hle : ρ'.le ρ2) {g : Nat → Option Blk} {x : Nat} {b : Blk} {L : Loc} (hx : x ∈ e.writes ∨ (e.pushes = true ∧ x = id)) (hb : e.upd g id x = some b) (hL : ρ2 x = some L) :
    BlkOk K ρ L b w'.heap[L.blk]? := by
  cases e with
  | none => rcases hx with q | q <;> simp [Eff.writes, Eff.pushes] at q
  | push c =>
    rcases hx with q | ⟨_, rfl⟩
    · simp [Eff.writes] at q
    · obtain ⟨M, rfl, _, _, _, h4⟩ := he
      simp [Eff.upd] at hb; subst hb
      have : ρ2 x = some M := hle x M (by simp [Abs.upd])
      rw [hL] at this; cases this; exact h4
  | write i c =>
    rcases hx with q | ⟨q, _⟩
    · simp [Eff.writes] at q; subst q
      obtain ⟨rfl, M, hM, _, _, h4⟩ := he
      simp [Eff.upd] at hb; subst hb
      have : ρ2 x = some M := hle x M hM
      rw [hL] at this; cases this; exact h4
    · simp [Eff.pushes] at q
  | move i c =>
    obtain ⟨M, N, hM, rfl, _, _, _, _, h4⟩ := he
    by_cases hid : x = id
    · subst hid
      simp [Eff.upd] at hb; subst hb
      have : ρ2 x = some N := hle x N (by simp [Abs.upd])
      rw [hL] at this; cases this; exact h4
    · rcases hx with q | ⟨_, q⟩
      · simp [Eff.writes] at q; subst q
        simp [Eff.upd, hid] at hb
      · exact absurd q hid
end Go.Abs
