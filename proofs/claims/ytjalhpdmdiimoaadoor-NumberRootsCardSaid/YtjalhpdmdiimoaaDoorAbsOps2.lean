/- Each operation of the abstract evaluator is what the program's operation does: the operations one by one. -/
import Derived.Test.YtjalhpdmdiimoaaDoorAbsOps
set_option linter.unusedSimpArgs false
set_option linter.unusedVariables false
namespace Go.Abs
section
variable {P : Program} {a : Act} {o : Oper} {w : World} {ρ : Ren} {h : Heap} {lim : Nat} {ev : Operand → Option Value} {out : Out}

theorem sound_move {x : Operand} (ho : o.op = .move x ∨ o.op = .assign x) (hrun : (EOp.move x).run lim h ev = some out)
    (hev : ∀ v, ev x = some v → VRel ρ v (a.eval x)) : OpRes P a o w ρ h.length out := by
  simp only [EOp.run, Option.map_eq_some_iff] at hrun
  obtain ⟨v, hv, rfl⟩ := hrun
  refine .pure (v' := a.eval x) ?_ (hev v hv) rfl
  rcases ho with ho | ho <;> simp [execOp, ho]

theorem sound_pick {c x y : Operand} (ho : o.op = .pick c x y) (hrun : (EOp.pick c x y).run lim h ev = some out)
    (hc : ∀ v, ev c = some v → VRel ρ v (a.eval c)) (hx : ∀ v, ev x = some v → VRel ρ v (a.eval x)) (hy : ∀ v, ev y = some v → VRel ρ v (a.eval y)) : OpRes P a o w ρ h.length out := by
  simp only [EOp.run] at hrun
  split at hrun
  · rename_i t ht
    have e := (hc _ ht).bool_inv
    simp only [Option.map_eq_some_iff] at hrun
    obtain ⟨v, hv, rfl⟩ := hrun
    cases t
    · exact .pure (v' := a.eval y) (by simp [execOp, ho, asBool, e]) (hy v (by simpa using hv)) rfl
    · exact .pure (v' := a.eval x) (by simp [execOp, ho, asBool, e]) (hx v (by simpa using hv)) rfl
  · cases hrun

theorem zeroT_spec {t : TypeId} {z : List Value} (hz : zeroT P t = some z) : ∃ i zv, P.info? t = some i ∧ i.zero = some zv ∧ zv.cells.size = i.size ∧ zv.cells.toList = z ∧ z.all plainV = true := by
  unfold zeroT at hz
  split at hz
  · rename_i i hi
    split at hz
    · rename_i zv hzv
      split at hz
      · rename_i hc
        cases hz
        exact ⟨i, zv, hi, hzv, hc.1, rfl, hc.2⟩
      · cases hz
    · cases hz
  · cases hz

theorem plain_get {cs : List Value} (h : cs.all plainV = true) (i : Nat) (v : Value) (e : cs[i]? = some v) : ∃ v', cs.toArray[i]? = some v' ∧ VRel ρ v v' := by
  refine ⟨v, by simpa using e, .plain ?_⟩
  exact List.all_eq_true.1 h v (List.mem_of_getElem? e)

theorem sound_push {t : TypeId} {z : List Value} (ho : o.op = .alloc t) (hz : zeroT P t = some z) (hrun : (EOp.push z).run lim h ev = some out) : OpRes P a o w ρ h.length out := by
  obtain ⟨i, zv, hi, hzv, hs, rfl, hp⟩ := zeroT_spec hz
  simp only [EOp.run, Option.some.injEq] at hrun
  subst hrun
  refine .push (cur := zv.cells) (e := t) (fz := (0, 0)) (v' := .pointer (some ⟨w.heap.size, 0, none⟩)) (w' := { w with heap := w.heap.push (.cells zv.cells t) }) ?_ rfl ⟨rfl, rfl, rfl⟩ rfl (fun _ => rfl) (by simp) ?_ ?_
  · simp [execOp, ho, Instr.alloc, zeroValue, typeInfo, hi, hzv, newVar, newRow]
  · intro j v hv
    obtain ⟨v', a1, a2⟩ := plain_get (ρ := ρ) hp j v hv
    exact ⟨v', by simpa using a1, a2⟩
  · exact .ptr (L := ⟨w.heap.size, 0, zv.cells.size⟩) (by simp [upd])

theorem LRel.getA {xs ys : List Value} (h : LRel (VRel ρ) xs ys) (i : Nat) (v : Value) (e : xs[i]? = some v) : ∃ v', ys.toArray[i]? = some v' ∧ VRel ρ v v' := by
  obtain ⟨y, a1, a2⟩ := h.get e
  exact ⟨y, by simpa using a1, a2⟩

theorem sound_box {t : TypeId} {x : Operand} (ho : o.op = .box t x) (hrun : (EOp.box x).run lim h ev = some out)
    (hx : ∀ v, ev x = some v → VRel ρ v (a.eval x)) : OpRes P a o w ρ h.length out := by
  simp only [EOp.run, Option.map_eq_some_iff] at hrun
  obtain ⟨v, hv, rfl⟩ := hrun
  have hr := (hx v hv).cells
  refine .push (cur := (a.eval x).cells) (e := t) (fz := (0, 0)) (v' := .pointer (some ⟨w.heap.size, 0, none⟩)) (w' := { w with heap := w.heap.push (.cells (a.eval x).cells t) }) ?_ rfl ⟨rfl, rfl, rfl⟩ rfl (fun _ => rfl) (by have := hr.len; simp at this; simp [this]) ?_ ?_
  · simp [execOp, ho, Instr.box, newVar, newRow]
  · intro j u hu
    obtain ⟨v', a1, a2⟩ := hr.get hu
    exact ⟨v', by simpa using a1, a2⟩
  · exact .ptr (L := ⟨w.heap.size, 0, (a.eval x).cells.size⟩) (by simp [upd])

theorem sound_load {t : TypeId} {g : Bool} {s : Nat} {x : Operand} (ho : o.op = .load t x) (hg : isAggT P t = some g) (hs : sizeT P t = some s) (hrun : (EOp.load g s x).run lim h ev = some out)
    (hx : ∀ v, ev x = some v → VRel ρ v (a.eval x)) (hblk : ∀ i ∈ out.reads, ∀ b L, h.get i = some b → ρ i = some L → BlkOk ρ L b w.heap[L.blk]?) : OpRes P a o w ρ h.length out := by
  simp only [EOp.run] at hrun
  split at hrun
  · rename_i b off hp
    obtain ⟨L, hL, hpe⟩ := (hx _ hp).ptr_inv
    split at hrun
    · rename_i k hk
      split at hrun
      · rename_i hgt
        subst hgt
        split at hrun
        · rename_i hle
          cases hrun
          obtain ⟨vs, r, hl, hc⟩ := (hblk b (by simp) k L hk hL).cells hle
          refine .pure (v' := .agg vs.toArray) ?_ (VRel.agg_mk r) rfl
          simp only [execOp, ho, hpe, Instr.loadAt, Instr.sureAddr]
          simp [run_loadVar_agg hg hs vs hl hc]
        · cases hrun
      · rename_i hgf
        have hgf : g = false := by simpa using hgf
        subst hgf
        simp only [Option.map_eq_some_iff] at hrun
        obtain ⟨v, hv, rfl⟩ := hrun
        obtain ⟨cur, e, fz, h1, h2, h3, _, h5⟩ := hblk b (by simp) k L hk hL
        obtain ⟨v', hv', r⟩ := h5 _ _ hv
        refine .pure (v' := v') ?_ r rfl
        have hc : w.cell? ⟨L.blk, L.off + off, none⟩ = some v' := by rw [cell_at h1]; exact hv'
        simp only [execOp, ho, hpe, Instr.loadAt, Instr.sureAddr]
        simp [run_loadVar_one hg hc]
    · cases hrun
  · cases hrun

theorem sound_store {t : TypeId} {s : Nat} {x y : Operand} (ho : o.op = .store t x y) (hs : sizeT P t = some s) (hrun : (EOp.store s x y).run lim h ev = some out)
    (hx : ∀ v, ev x = some v → VRel ρ v (a.eval x)) (hy : ∀ v, ev y = some v → VRel ρ v (a.eval y)) (hblk : ∀ i ∈ out.eff.writes, ∀ b L, h.get i = some b → ρ i = some L → BlkOk ρ L b w.heap[L.blk]?) : OpRes P a o w ρ h.length out := by
  simp only [EOp.run] at hrun
  split at hrun
  · rename_i b off v hp hv
    obtain ⟨L, hL, hpe⟩ := (hx _ hp).ptr_inv
    split at hrun
    · rename_i k hk
      split at hrun
      · rename_i hcond
        obtain ⟨hrw, hsz, hle, hone, _⟩ := hcond
        cases hrun
        have hr := (hy _ hv).cells
        have hlen := hr.len
        simp at hlen
        obtain ⟨w', hrun', hsame, hsz', hoth, hb⟩ := (hblk b (by simp [Eff.writes]) k L hk hL).store (P := P) hrw hr (by simp [hsz]; exact hle) hone
        unfold sizeT at hs
        cases hi : P.info? t with
        | none => simp [hi] at hs
        | some i =>
          simp [hi] at hs
          refine ⟨.skip, undef, w', ρ, ?_, rfl, hsame, .tuple rfl (fun i x y hx => by simp at hx), rfl, L, hL, hsz', hoth, hb⟩
          simp only [execOp, ho, hpe, Instr.storeAt, Instr.sureAddr]
          simp only [Sem.run_bind, Sem.run_pure, Result.andThen_ok, storeVar, sizeOf, typeInfo, run_program, hi, hs]
          rw [if_neg (by omega)]
          rw [hrun']
          rfl
      · cases hrun
    · cases hrun
  · cases hrun

theorem sound_nilCheck {x : Operand} (ho : o.op = .nilCheck x) (hrun : (EOp.nilCheck x).run lim h ev = some out)
    (hx : ∀ v, ev x = some v → VRel ρ v (a.eval x)) : OpRes P a o w ρ h.length out := by
  simp only [EOp.run] at hrun
  split at hrun
  · rename_i b off hp
    have hr := hx _ hp
    obtain ⟨L, hL, hpe⟩ := hr.ptr_inv
    cases hrun
    exact .pure (v' := a.eval x) (by simp [execOp, ho, hpe]) hr rfl
  · rename_i f y c hp
    have hr := hx _ hp
    obtain ⟨f', c', hpe, _⟩ := hr.func_inv
    cases hrun
    exact .pure (v' := a.eval x) (by simp [execOp, ho, hpe]) hr rfl
  · cases hrun

theorem semPure_some {s : Sem Value} {v : Value} (hs : semPure s = some v) (P : Program) (w : World) : s.run P w = .ok v w := by
  cases s <;> simp [semPure] at hs
  subst hs; rfl

theorem sound_fieldAddr {t : TypeId} {f off k : Nat} {fields : Array Field} {fd : Field} {x : Operand} (ho : o.op = .fieldAddr t x f) (hu : P.underlying t = some (.struct fields)) (hf : fields[f]? = some fd)
    (hs : sizeT P fd.type = some k) (hk : 0 < k) (hoff : fd.offset = off) (hrun : (EOp.fieldAddr off x).run lim h ev = some out)
    (hx : ∀ v, ev x = some v → VRel ρ v (a.eval x)) : OpRes P a o w ρ h.length out := by
  simp only [EOp.run] at hrun
  split at hrun
  · rename_i b of hp
    obtain ⟨L, hL, hpe⟩ := (hx _ hp).ptr_inv
    cases hrun
    unfold sizeT at hs
    cases hi : P.info? fd.type with
    | none => simp [hi] at hs
    | some i =>
      simp [hi] at hs
      refine .pure (v' := .pointer (some ⟨L.blk, L.off + (of + off), none⟩)) ?_ (.ptr hL) rfl
      simp [execOp, ho, hpe, Instr.fieldAt, run_underlying hu, hf, Instr.sureAddr, fieldPlace, sizeOf, typeInfo, hi, hs, Nat.ne_of_gt hk, add_addr, hoff, Nat.add_assoc]
  · cases hrun

theorem LRel.extract {xs ys : Array Value} (hr : LRel (VRel ρ) xs.toList ys.toList) (i j : Nat) : VRel ρ (.agg (xs.extract i j)) (.agg (ys.extract i j)) := by
  have := VRel.agg_mk ((hr.drop i).take (j - i))
  rw [show xs.extract i j = ((xs.toList.drop i).take (j - i)).toArray from Array.ext' (by simp)]
  rw [show ys.extract i j = ((ys.toList.drop i).take (j - i)).toArray from Array.ext' (by simp)]
  exact this

theorem run_part {t : TypeId} {g : Bool} {k : Nat} (hg : isAggT P t = some g) (hs : sizeT P t = some k) {xs ys : Array Value} (hr : LRel (VRel ρ) xs.toList ys.toList) (off : Nat) {v : Value}
    (hv : (if g then some (Value.agg (xs.extract off (off + k))) else xs[off]?) = some v) : ∃ v', (part t ys off).run P w = .ok v' w ∧ VRel ρ v v' := by
  unfold sizeT at hs
  cases hi : P.info? t with
  | none => simp [hi] at hs
  | some i =>
    simp [hi] at hs
    unfold isAggT at hg
    cases hu : P.underlying t with
    | none => simp [hu] at hg
    | some d =>
      cases g with
      | true =>
        simp at hv; subst hv
        refine ⟨.agg (ys.extract off (off + k)), ?_, LRel.extract hr _ _⟩
        cases d <;> simp [hu] at hg <;> simp [part, isAgg, run_underlying hu, sizeOf, typeInfo, hi, hs]
      | false =>
        simp at hv
        obtain ⟨v', hv', r⟩ := hr.get (i := off) (x := v) (by simpa using hv)
        refine ⟨v', ?_, r⟩
        have hv2 : ys[off]? = some v' := by simpa using hv'
        cases d <;> simp [hu] at hg <;> simp [part, isAgg, run_underlying hu, hv2]

theorem sound_field {t : TypeId} {f off k : Nat} {g : Bool} {fields : Array Field} {fd : Field} {x : Operand} (ho : o.op = .field t x f) (hu : P.underlying t = some (.struct fields)) (hf : fields[f]? = some fd)
    (hg : isAggT P fd.type = some g) (hs : sizeT P fd.type = some k) (hoff : fd.offset = off) (hrun : (EOp.field g off k x).run lim h ev = some out)
    (hx : ∀ v, ev x = some v → VRel ρ v (a.eval x)) : OpRes P a o w ρ h.length out := by
  simp only [EOp.run] at hrun
  split at hrun
  · rename_i cs hp
    obtain ⟨ys, hpe, hr⟩ := (hx _ hp).agg_inv
    have key : ∃ v, (if g then some (Value.agg (cs.extract off (off + k))) else cs[off]?) = some v ∧ out = ⟨v, [], .none⟩ := by
      cases g
      · simp at hrun; obtain ⟨v, h1, h2⟩ := hrun; exact ⟨v, by simpa using h1, h2.symm⟩
      · simp at hrun; exact ⟨_, rfl, hrun.symm⟩
    obtain ⟨v, hv, rfl⟩ := key
    obtain ⟨v', hrun', r⟩ := run_part (P := P) (w := w) hg hs hr off hv
    refine .pure (v' := v') ?_ r rfl
    simp [execOp, ho, hpe, Instr.field, run_underlying hu, hf, asAgg, hoff, hrun']
  · cases hrun

theorem sizeT_run {t : TypeId} {k : Nat} (hs : sizeT P t = some k) : (sizeOf t).run P w = .ok k w := by
  unfold sizeT at hs
  cases hi : P.info? t with
  | none => simp [hi] at hs
  | some i => simp [hi] at hs; simp [sizeOf, typeInfo, hi, hs]

theorem sound_indexArr {t e : TypeId} {n s : Nat} {x y : Operand} (ho : o.op = .indexAddr t x y) (hu : P.underlying t = some (.array n e)) (hs : sizeT P e = some s)
    (hrun : (EOp.indexAddr (some n) s x y).run lim h ev = some out) (hx : ∀ v, ev x = some v → VRel ρ v (a.eval x)) (hy : ∀ v, ev y = some v → VRel ρ v (a.eval y)) : OpRes P a o w ρ h.length out := by
  simp only [EOp.run] at hrun
  split at hrun
  · rename_i b of k i hp hi
    obtain ⟨L, hL, hpe⟩ := (hx _ hp).ptr_inv
    have hie := (hy _ hi).int_inv
    split at hrun
    · rename_i hc
      cases hrun
      refine .pure (v' := .pointer (some ⟨L.blk, L.off + (of + i.toNat * s), none⟩)) ?_ (.ptr hL) rfl
      simp [execOp, ho, hpe, hie, Instr.indexAt, asIntOf, run_underlying hu, Instr.sureAddr, hc.1, hc.2, sizeT_run hs, add_addr, Nat.add_assoc]
    · cases hrun
  · simp at hrun
  · cases hrun

theorem sound_indexSlice {t e : TypeId} {s : Nat} {x y : Operand} (ho : o.op = .indexAddr t x y) (hu : P.underlying t = some (.slice e)) (hs : sizeT P e = some s)
    (hrun : (EOp.indexAddr none s x y).run lim h ev = some out) (hx : ∀ v, ev x = some v → VRel ρ v (a.eval x)) (hy : ∀ v, ev y = some v → VRel ρ v (a.eval y)) : OpRes P a o w ρ h.length out := by
  simp only [EOp.run] at hrun
  split at hrun
  · simp at hrun
  · rename_i b of ln s' k i hp hi
    obtain ⟨L, ad, cap, hL, hpe, hn, ha, hsp, _, hc, _⟩ := (hx _ hp).slice_inv
    have hie := (hy _ hi).int_inv
    split at hrun
    · rename_i hcd
      cases hrun
      obtain ⟨hoff, _⟩ := hc (by omega)
      replace hsp := hsp (by omega)
      obtain ⟨ab, ao, as⟩ := ad
      simp only at ha hsp hoff
      subst ha hsp hoff
      refine .pure (v' := .pointer (some ⟨L.blk, L.off + (of + i.toNat * s), none⟩)) ?_ (.ptr hL) rfl
      simp [execOp, ho, hpe, hie, Instr.indexAt, asIntOf, run_underlying hu, hcd.1, hcd.2.1, sizeT_run hs, add_addr, Nat.add_assoc]
    · cases hrun
  · cases hrun

theorem sound_index {t e : TypeId} {n s : Nat} {g : Bool} {x y : Operand} (ho : o.op = .index t x y) (hu : P.underlying t = some (.array n e)) (hg : isAggT P e = some g) (hs : sizeT P e = some s)
    (hrun : (EOp.index n s g x y).run lim h ev = some out) (hx : ∀ v, ev x = some v → VRel ρ v (a.eval x)) (hy : ∀ v, ev y = some v → VRel ρ v (a.eval y)) : OpRes P a o w ρ h.length out := by
  simp only [EOp.run] at hrun
  split at hrun
  · rename_i cs k i hp hi
    obtain ⟨ys, hpe, hr⟩ := (hx _ hp).agg_inv
    have hie := (hy _ hi).int_inv
    split at hrun
    · rename_i hc
      have key : ∃ v, (if g then some (Value.agg (cs.extract (i.toNat * s) (i.toNat * s + s))) else cs[i.toNat * s]?) = some v ∧ out = ⟨v, [], .none⟩ := by
        cases g
        · simp at hrun; obtain ⟨v, h1, h2⟩ := hrun; exact ⟨v, by simpa using h1, h2.symm⟩
        · simp at hrun; exact ⟨_, rfl, hrun.symm⟩
      obtain ⟨v, hv, rfl⟩ := key
      obtain ⟨v', hrun', r⟩ := run_part (P := P) (w := w) hg hs hr _ hv
      refine .pure (v' := v') ?_ r rfl
      simp [execOp, ho, hpe, hie, Instr.index, asIntOf, run_underlying hu, hc.1, hc.2, sizeT_run hs, hrun']
    · cases hrun
  · cases hrun

theorem sound_strIndex {t : TypeId} {x y : Operand} (ho : o.op = .index t x y) (hu : P.underlying t = some .string)
    (hrun : (EOp.strIndex x y).run lim h ev = some out) (hx : ∀ v, ev x = some v → VRel ρ v (a.eval x)) (hy : ∀ v, ev y = some v → VRel ρ v (a.eval y)) : OpRes P a o w ρ h.length out := by
  simp only [EOp.run] at hrun
  split at hrun
  · rename_i s k i hp hi
    have hpe := (hx _ hp).string_inv
    have hie := (hy _ hi).int_inv
    split at hrun
    · rename_i hc
      simp only [Option.map_eq_some_iff] at hrun
      obtain ⟨c, hcc, rfl⟩ := hrun
      refine .pure (v' := .int .u8 c.toNat) ?_ (.plain rfl) rfl
      have hcc' : s[i.toNat]? = some c := by
        rw [ByteArray.toList_eq] at hcc
        have e : s[i.toNat]? = s.data[i.toNat]? := by
          rw [getElem?_def, getElem?_def]; rfl
        rw [e]; simpa using hcc
      simp [execOp, ho, hpe, hie, Instr.index, asIntOf, run_underlying hu, hc, hcc']
    · cases hrun
  · cases hrun
end
end Go.Abs
