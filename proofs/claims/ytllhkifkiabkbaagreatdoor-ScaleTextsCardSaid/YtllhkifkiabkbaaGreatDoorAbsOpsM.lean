/- Each operation of the abstract evaluator is what the program's operation does. -/
import Derived.Test.YtllhkifkiabkbaaGreatDoorAbsCompile
import Derived.Laws.Append
import Derived.Laws.StructEq
import Derived.Laws.BytesString
import Derived.ChangeKeysEq
import Derived.Laws.AppendOwn
import Derived.Laws.Externs
import Derived.KernelRfl
import Derived.Laws.MakeOwn
import Derived.MapKept
set_option linter.unusedSimpArgs false
set_option linter.unusedVariables false
/- Each operation of the abstract evaluator is what the program's operation does. -/
namespace Go.Abs
variable {K : LoopKind}

def upd (ρ : Ren) (i : Nat) (L : Loc) : Ren := fun j => if j = i then some L else ρ j

theorem le_upd {ρ : Ren} {i : Nat} {L : Loc} (h : ρ i = none) : ρ.le (upd ρ i L) := by
  intro j M e
  by_cases hj : j = i
  · subst hj; rw [h] at e; cases e
  · simp [upd, hj, e]

structure Same (w w' : World) : Prop where
  os : w'.os = w.os
  tape : w'.tape = w.tape
  output : w'.output = w.output

theorem Same.refl (w : World) : Same w w := ⟨rfl, rfl, rfl⟩

/-- What an effect has done to the world. -/
def EffOk (K : LoopKind) (ρ : Ren) (id : Nat) (w w' : World) (ρ' : Ren) : Eff → Prop
  | .none => ρ' = ρ ∧ w'.heap = w.heap
  | .push b => ∃ L, ρ' = upd ρ id L ∧ L.blk = w.heap.size ∧ w.heap.size < w'.heap.size ∧ (∀ k, k < w.heap.size → w'.heap[k]? = w.heap[k]?) ∧ BlkOk K ρ L b w'.heap[L.blk]?
  | .write i b => ρ' = ρ ∧ ∃ L, ρ i = some L ∧ w'.heap.size = w.heap.size ∧ (∀ k, k ≠ L.blk → w'.heap[k]? = w.heap[k]?) ∧ BlkOk K ρ L b w'.heap[L.blk]?
  | .move i b => ∃ L M, ρ i = some L ∧ ρ' = upd ρ id M ∧ (M.blk = L.blk ∨ M.blk = w.heap.size) ∧ M.blk < w'.heap.size ∧ w.heap.size ≤ w'.heap.size ∧
      (∀ k, k < w.heap.size → k ≠ L.blk → w'.heap[k]? = w.heap[k]?) ∧ BlkOk K ρ M b w'.heap[M.blk]?

def nextVal : Next → Option Value
  | .value v => some v
  | .skip => some undef
  | _ => none

structure OpRes (K : LoopKind) (P : Program) (a : Act) (o : Oper) (w : World) (ρ : Ren) (id : Nat) (out : Out) : Prop where
  res : ∃ nx v' w' ρ', (execOp a.eval o).run P w = .ok nx w' ∧ nextVal nx = some v' ∧ Same w w' ∧ VRel ρ' out.val v' ∧ EffOk K ρ id w w' ρ' out.eff

theorem OpRes.pure {P : Program} {a : Act} {o : Oper} {w : World} {ρ : Ren} {id : Nat} {out : Out} {v' : Value} (h : (execOp a.eval o).run P w = .ok (.value v') w)
    (hv : VRel ρ out.val v') (he : out.eff = .none) : OpRes K P a o w ρ id out :=
  ⟨.value v', v', w, ρ, h, rfl, .refl w, hv, by rw [he]; exact ⟨rfl, rfl⟩⟩

theorem cell_at {w : World} {c o : Nat} {cur : Array Value} {e : TypeId} {fz : Nat × Nat} (h : w.heap[c]? = some (.cells cur e fz)) : w.cell? ⟨c, o, none⟩ = cur[o]? := by
  simp [World.cell?, h]

theorem add_addr (c o n : Nat) : (⟨c, o, none⟩ : Addr).add n = ⟨c, o + n, none⟩ := by
  unfold Addr.add; split <;> simp_all

theorem run_loadCells {P : Program} {w : World} {c o : Nat} : ∀ (vs : List Value) (i : Nat) (acc : Array Value), (∀ (j : Nat) v, vs[j]? = some v → w.cell? ⟨c, o + (i + j), none⟩ = some v) →
    (loadCellsFrom ⟨c, o, none⟩ i vs.length acc).run P w = .ok (acc ++ vs.toArray) w
  | [], i, acc, _ => by simp [loadCellsFrom]
  | v :: vs, i, acc, h => by
    have h0 : w.cell? ⟨c, o + i, none⟩ = some v := by simpa using h 0 v rfl
    have ih := run_loadCells (P := P) (w := w) (c := c) (o := o) vs (i + 1) (acc.push v) (fun j u e => by
      have := h (j + 1) u (by simpa using e)
      rw [show i + 1 + j = i + (j + 1) by omega]; exact this)
    simp only [List.length_cons, loadCellsFrom, Sem.run_bind, add_addr, run_load, h0, Result.andThen_ok, ih]
    simp

/-- The cells from o on, as the concrete block has them. -/
theorem BlkOk.cells {ρ : Ren} {L : Loc} {b : Blk} {w : World} (h : BlkOk K ρ L b w.heap[L.blk]?) (hk : L.map = false) {o n : Nat} (hn : o + n ≤ b.cells.length) :
    ∃ vs, LRel (VRel ρ) ((b.cells.drop o).take n) vs ∧ vs.length = n ∧ ∀ (j : Nat) v, vs[j]? = some v → w.cell? ⟨L.blk, L.off + o + j, none⟩ = some v := by
  obtain ⟨cur, e, fz, h1, h2, h3, _, h5⟩ := h.1 hk
  refine ⟨((cur.toList.drop (L.off + o)).take n), ?_, ?_, ?_⟩
  · refine LRel.of_get ?_ fun i x y hx hy => ?_
    · simp; omega
    · rw [List.getElem?_take] at hx hy
      split at hx
      · rename_i hi
        rw [if_pos hi] at hy
        rw [List.getElem?_drop] at hx hy
        obtain ⟨x', hx', r⟩ := h5 _ _ hx
        rw [show L.off + o + i = L.off + (o + i) by omega] at hy
        rw [Array.getElem?_toList, hx'] at hy
        cases hy; exact r
      · cases hx
  · simp; omega
  · intro j v hv
    rw [List.getElem?_take] at hv
    split at hv
    · rw [List.getElem?_drop] at hv
      rw [cell_at h1]; simpa using hv
    · cases hv

theorem run_loadVar_agg {P : Program} {w : World} {t : TypeId} {c o n : Nat} (ha : isAggT P t = some true) (hs : sizeT P t = some n) (vs : List Value) (hl : vs.length = n)
    (hc : ∀ (j : Nat) v, vs[j]? = some v → w.cell? ⟨c, o + j, none⟩ = some v) : (loadVar t ⟨c, o, none⟩).run P w = .ok (.agg vs.toArray) w := by
  unfold sizeT at hs
  cases hi : P.info? t with
  | none => simp [hi] at hs
  | some i =>
    simp [hi] at hs
    have hlc := run_loadCells (P := P) (w := w) (c := c) (o := o) vs 0 #[] (by simpa using hc)
    unfold isAggT at ha
    cases hu : P.underlying t with
    | none => simp [hu] at ha
    | some d => cases d <;> simp [hu] at ha <;> simp [loadVar, isAgg, run_underlying hu, sizeOf, typeInfo, hi, hs, loadCells, ← hl, hlc]

theorem run_loadVar_one {P : Program} {w : World} {t : TypeId} {c o : Nat} (ha : isAggT P t = some false) {v : Value} (hc : w.cell? ⟨c, o, none⟩ = some v) :
    (loadVar t ⟨c, o, none⟩).run P w = .ok v w := by
  unfold isAggT at ha
  cases hu : P.underlying t with
  | none => simp [hu] at ha
  | some d => cases d <;> simp [hu] at ha <;> simp [loadVar, isAgg, run_underlying hu, hc]

theorem splice_length : ∀ (vs cs : List Value) (o : Nat), (splice cs o vs).length = cs.length
  | [], _, _ => rfl
  | v :: r, cs, o => by simp [splice, splice_length r]

theorem splice_get : ∀ (vs cs : List Value) (o i : Nat), o + vs.length ≤ cs.length → (splice cs o vs)[i]? = if o ≤ i ∧ i < o + vs.length then vs[i - o]? else cs[i]?
  | [], cs, o, i, _ => by
    simp only [splice]; rw [if_neg (by simp only [List.length_nil]; omega)]
  | v :: r, cs, o, i, h => by
    simp only [List.length_cons] at h
    simp only [splice]
    rw [splice_get r (cs.set o v) (o + 1) i (by simp; omega)]
    by_cases h1 : o + 1 ≤ i ∧ i < o + 1 + r.length
    · rw [if_pos h1, if_pos (by simp; omega), show i - o = (i - (o + 1)) + 1 by omega]; simp
    · rw [if_neg h1]
      by_cases h2 : i = o
      · subst h2
        rw [if_pos (by simp), List.getElem?_set_self (by omega)]; simp
      · rw [if_neg (by simp; omega), List.getElem?_set_ne (by omega)]

/-- A store into an abstract block and into the concrete one. -/
theorem BlkOk.store {P : Program} {ρ : Ren} {L : Loc} {b : Blk} {w : World} (h : BlkOk K ρ L b w.heap[L.blk]?) (hk : L.map = false) (hrw : b.rw = true) {o : Nat} {vs vs' : List Value}
    (hr : LRel (VRel ρ) vs vs') (ho : o + vs.length ≤ b.cells.length) (h1 : vs.all Value.oneCell' = true) :
    ∃ w', (storeCells ⟨L.blk, L.off + o, none⟩ vs' 0).run P w = .ok () w' ∧ Same w w' ∧ w'.heap.size = w.heap.size ∧ (∀ k, k ≠ L.blk → w'.heap[k]? = w.heap[k]?) ∧
      BlkOk K ρ L ⟨splice b.cells o vs, true⟩ w'.heap[L.blk]? := by
  obtain ⟨cur, e, fz, h1', h2, h3, h4, h5⟩ := h.1 hk
  obtain rfl := h4 hrw
  have hl := hr.len
  have hone : ∀ v ∈ vs', v.oneCell' = true := by
    intro v hv
    obtain ⟨i, hi, rfl⟩ := List.getElem_of_mem hv
    obtain ⟨y, hy, r⟩ := hr.get (i := i) (x := vs[i]'(by omega)) (by simp)
    rw [List.getElem?_eq_getElem hi] at hy
    cases hy
    rw [r.oneCell]
    exact List.all_eq_true.1 h1 _ (List.getElem_mem _)
  have hrun := run_storeCells_at P L.blk (L.off + o) e vs' 0 cur w h1' (by omega) hone
  refine ⟨_, hrun, ⟨rfl, rfl, rfl⟩, by simp, fun k hk => setRow_other w _ _ _ hk, ?_⟩
  refine CellsOk.ok (?_ : CellsOk ρ L ⟨splice b.cells o vs, true⟩ _) hk
  refine ⟨_, e, (0, 0), setRow_heap w _ cur _ e _ h1', ?_, ?_, fun _ => rfl, ?_⟩
  · simp; omega
  · simp [splice_length]; exact h3
  · intro i v hv
    simp only at hv
    rw [splice_get _ _ _ _ ho] at hv
    simp only [Nat.add_zero, List.getElem?_toArray, List.append_assoc]
    by_cases hin : o ≤ i ∧ i < o + vs.length
    · rw [if_pos hin] at hv
      obtain ⟨y, hy, r⟩ := hr.get hv
      refine ⟨y, ?_, r⟩
      rw [List.getElem?_append_right (by simp; omega)]
      rw [List.getElem?_append_left (by simp; omega)]
      rw [← hy]; congr 1; simp; omega
    · rw [if_neg hin] at hv
      obtain ⟨y, hy, r⟩ := h5 i v hv
      refine ⟨y, ?_, r⟩
      have hib : i < b.cells.length := by
        rcases Nat.lt_or_ge i b.cells.length with k | k
        · exact k
        · rw [List.getElem?_eq_none k] at hv; cases hv
      by_cases hlt : i < o
      · rw [List.getElem?_append_left (by simp; omega), List.getElem?_take, if_pos (by omega)]; simpa using hy
      · rw [List.getElem?_append_right (by simp; omega), List.getElem?_append_right (by simp; omega), List.getElem?_drop, Array.getElem?_toList, ← hy]
        congr 1; simp; omega

/-- A new block. -/
theorem BlkOk.fresh {ρ : Ren} {w : World} {cs : List Value} {cur : Array Value} {e : TypeId} {fz : Nat × Nat} {rw : Bool} (hfz : rw = true → fz = (0, 0)) (hl : cs.length ≤ cur.size)
    (h : ∀ (i : Nat) v, cs[i]? = some v → ∃ v', cur[i]? = some v' ∧ VRel ρ v v') {w' : World} (hw : w'.heap = w.heap.push (.cells cur e fz)) :
    BlkOk K ρ ⟨w.heap.size, 0, cur.size, false⟩ ⟨cs, rw⟩ w'.heap[w.heap.size]? := by
  refine CellsOk.ok ?_ rfl
  refine ⟨cur, e, fz, by rw [hw]; simp, by simp, hl, hfz, fun i v hv => ?_⟩
  obtain ⟨v', a, b⟩ := h i v hv
  exact ⟨v', by simpa using a, b⟩

theorem OpRes.push {P : Program} {a : Act} {o : Oper} {w w' : World} {ρ : Ren} {id : Nat} {out : Out} {v' : Value} {cs : List Value} {cur : Array Value} {e : TypeId} {fz : Nat × Nat} {rw : Bool}
    (h : (execOp a.eval o).run P w = .ok (.value v') w') (hw : w'.heap = w.heap.push (.cells cur e fz)) (hsame : Same w w') (he : out.eff = .push ⟨cs, rw⟩)
    (hfz : rw = true → fz = (0, 0)) (hl : cs.length ≤ cur.size) (hc : ∀ (i : Nat) v, cs[i]? = some v → ∃ v', cur[i]? = some v' ∧ VRel ρ v v')
    (hv : VRel (upd ρ id ⟨w.heap.size, 0, cur.size, false⟩) out.val v') : OpRes K P a o w ρ id out := by
  refine ⟨.value v', v', w', _, h, rfl, hsame, hv, ?_⟩
  rw [he]
  refine ⟨_, rfl, rfl, by rw [hw]; simp, fun k hk => ?_, BlkOk.fresh hfz hl hc hw⟩
  rw [hw, Array.getElem?_push, if_neg (by omega)]
end Go.Abs
/- Each operation of the abstract evaluator is what the program's operation does: the operations one by one. -/
namespace Go.Abs
variable {K : LoopKind}
section
variable {P : Program} {a : Act} {o : Oper} {w : World} {ρ : Ren} {h : Heap} {lim : Nat} {ev : Operand → Option Value} {out : Out}

theorem sound_move {x : Operand} (ho : o.op = .move x ∨ o.op = .assign x) (hrun : (EOp.move x).run lim h ev = some out)
    (hev : ∀ v, ev x = some v → VRel ρ v (a.eval x)) : OpRes K P a o w ρ h.length out := by
  simp only [EOp.run, Option.map_eq_some_iff] at hrun
  obtain ⟨v, hv, rfl⟩ := hrun
  refine .pure (v' := a.eval x) ?_ (hev v hv) rfl
  rcases ho with ho | ho <;> simp [execOp, ho]

theorem sound_pick {c x y : Operand} (ho : o.op = .pick c x y) (hrun : (EOp.pick c x y).run lim h ev = some out)
    (hc : ∀ v, ev c = some v → VRel ρ v (a.eval c)) (hx : ∀ v, ev x = some v → VRel ρ v (a.eval x)) (hy : ∀ v, ev y = some v → VRel ρ v (a.eval y)) : OpRes K P a o w ρ h.length out := by
  simp only [EOp.run] at hrun
  split at hrun
  · rename_i t ht
    have e := (hc _ ht).bool_inv
    simp only [Option.map_eq_some_iff] at hrun
    obtain ⟨v, hv, rfl⟩ := hrun
    cases t
    · exact .pure (v' := a.eval y) (by simp [execOp, ho, asBool, e]) (hy v (by simpa using hv)) rfl
    · exact .pure (v' := a.eval x) (by simp [execOp, ho, asBool, e]) (hx v (by simpa using hv)) rfl
  · cases hrun

theorem zeroT_spec {t : TypeId} {z : List Value} (hz : zeroT P t = some z) : ∃ i zv, P.info? t = some i ∧ i.zero = some zv ∧ zv.cells.size = i.size ∧ zv.cells.toList = z ∧ z.all plainV = true := by
  unfold zeroT at hz
  split at hz
  · rename_i i hi
    split at hz
    · rename_i zv hzv
      split at hz
      · rename_i hc
        cases hz
        exact ⟨i, zv, hi, hzv, hc.1, rfl, hc.2⟩
      · cases hz
    · cases hz
  · cases hz

theorem plain_get {cs : List Value} (h : cs.all plainV = true) (i : Nat) (v : Value) (e : cs[i]? = some v) : ∃ v', cs.toArray[i]? = some v' ∧ VRel ρ v v' := by
  refine ⟨v, by simpa using e, .plain ?_⟩
  exact List.all_eq_true.1 h v (List.mem_of_getElem? e)

theorem sound_push {t : TypeId} {z : List Value} (ho : o.op = .alloc t) (hz : zeroT P t = some z) (hrun : (EOp.push z).run lim h ev = some out) : OpRes K P a o w ρ h.length out := by
  obtain ⟨i, zv, hi, hzv, hs, rfl, hp⟩ := zeroT_spec hz
  simp only [EOp.run, Option.some.injEq] at hrun
  subst hrun
  refine .push (cur := zv.cells) (e := t) (fz := (0, 0)) (v' := .pointer (some ⟨w.heap.size, 0, none⟩)) (w' := { w with heap := w.heap.push (.cells zv.cells t) }) ?_ rfl ⟨rfl, rfl, rfl⟩ rfl (fun _ => rfl) (by simp) ?_ ?_
  · simp [execOp, ho, Instr.alloc, zeroValue, typeInfo, hi, hzv, newVar, newRow]
  · intro j v hv
    obtain ⟨v', a1, a2⟩ := plain_get (ρ := ρ) hp j v hv
    exact ⟨v', by simpa using a1, a2⟩
  · exact .ptr (L := ⟨w.heap.size, 0, zv.cells.size, false⟩) (by simp [upd])

theorem LRel.getA {xs ys : List Value} (h : LRel (VRel ρ) xs ys) (i : Nat) (v : Value) (e : xs[i]? = some v) : ∃ v', ys.toArray[i]? = some v' ∧ VRel ρ v v' := by
  obtain ⟨y, a1, a2⟩ := h.get e
  exact ⟨y, by simpa using a1, a2⟩

theorem sound_box {t : TypeId} {x : Operand} (ho : o.op = .box t x) (hrun : (EOp.box x).run lim h ev = some out)
    (hx : ∀ v, ev x = some v → VRel ρ v (a.eval x)) : OpRes K P a o w ρ h.length out := by
  simp only [EOp.run, Option.map_eq_some_iff] at hrun
  obtain ⟨v, hv, rfl⟩ := hrun
  have hr := (hx v hv).cells
  refine .push (cur := (a.eval x).cells) (e := t) (fz := (0, 0)) (v' := .pointer (some ⟨w.heap.size, 0, none⟩)) (w' := { w with heap := w.heap.push (.cells (a.eval x).cells t) }) ?_ rfl ⟨rfl, rfl, rfl⟩ rfl (fun _ => rfl) (by have := hr.len; simp at this; simp [this]) ?_ ?_
  · simp [execOp, ho, Instr.box, newVar, newRow]
  · intro j u hu
    obtain ⟨v', a1, a2⟩ := hr.get hu
    exact ⟨v', by simpa using a1, a2⟩
  · exact .ptr (L := ⟨w.heap.size, 0, (a.eval x).cells.size, false⟩) (by simp [upd])

theorem sound_load {t : TypeId} {g : Bool} {s : Nat} {x : Operand} (ho : o.op = .load t x) (hg : isAggT P t = some g) (hs : sizeT P t = some s) (hrun : (EOp.load g s x).run lim h ev = some out)
    (hx : ∀ v, ev x = some v → VRel ρ v (a.eval x)) (hblk : ∀ i ∈ out.reads, ∀ b L, h.get i = some b → ρ i = some L → BlkOk K ρ L b w.heap[L.blk]?) : OpRes K P a o w ρ h.length out := by
  simp only [EOp.run] at hrun
  split at hrun
  · rename_i b off hp
    obtain ⟨L, hL, hpe⟩ := (hx _ hp).ptr_inv
    have hkd := (hx _ hp).ptr_kind hL
    split at hrun
    · rename_i k hk
      split at hrun
      · rename_i hgt
        subst hgt
        split at hrun
        · rename_i hle
          cases hrun
          obtain ⟨vs, r, hl, hc⟩ := (hblk b (by simp) k L hk hL).cells hkd hle
          refine .pure (v' := .agg vs.toArray) ?_ (VRel.agg_mk r) rfl
          simp only [execOp, ho, hpe, Instr.loadAt, Instr.sureAddr]
          simp [run_loadVar_agg hg hs vs hl hc]
        · cases hrun
      · rename_i hgf
        have hgf : g = false := by simpa using hgf
        subst hgf
        simp only [Option.map_eq_some_iff] at hrun
        obtain ⟨v, hv, rfl⟩ := hrun
        obtain ⟨cur, e, fz, h1, h2, h3, _, h5⟩ := (hblk b (by simp) k L hk hL).1 hkd
        obtain ⟨v', hv', r⟩ := h5 _ _ hv
        refine .pure (v' := v') ?_ r rfl
        have hc : w.cell? ⟨L.blk, L.off + off, none⟩ = some v' := by rw [cell_at h1]; exact hv'
        simp only [execOp, ho, hpe, Instr.loadAt, Instr.sureAddr]
        simp [run_loadVar_one hg hc]
    · cases hrun
  · cases hrun

theorem sound_store {t : TypeId} {s : Nat} {x y : Operand} (ho : o.op = .store t x y) (hs : sizeT P t = some s) (hrun : (EOp.store s x y).run lim h ev = some out)
    (hx : ∀ v, ev x = some v → VRel ρ v (a.eval x)) (hy : ∀ v, ev y = some v → VRel ρ v (a.eval y)) (hblk : ∀ i ∈ out.eff.writes, ∀ b L, h.get i = some b → ρ i = some L → BlkOk K ρ L b w.heap[L.blk]?) : OpRes K P a o w ρ h.length out := by
  simp only [EOp.run] at hrun
  split at hrun
  · rename_i b off v hp hv
    obtain ⟨L, hL, hpe⟩ := (hx _ hp).ptr_inv
    have hkd := (hx _ hp).ptr_kind hL
    split at hrun
    · rename_i k hk
      split at hrun
      · rename_i hcond
        obtain ⟨hrw, hsz, hle, hone, _⟩ := hcond
        cases hrun
        have hr := (hy _ hv).cells
        have hlen := hr.len
        simp at hlen
        obtain ⟨w', hrun', hsame, hsz', hoth, hb⟩ := (hblk b (by simp [Eff.writes]) k L hk hL).store (P := P) hkd hrw hr (by simp [hsz]; exact hle) hone
        unfold sizeT at hs
        cases hi : P.info? t with
        | none => simp [hi] at hs
        | some i =>
          simp [hi] at hs
          refine ⟨.skip, undef, w', ρ, ?_, rfl, hsame, .tuple rfl (fun i x y hx => by simp at hx), rfl, L, hL, hsz', hoth, hb⟩
          simp only [execOp, ho, hpe, Instr.storeAt, Instr.sureAddr]
          simp only [Sem.run_bind, Sem.run_pure, Result.andThen_ok, storeVar, sizeOf, typeInfo, run_program, hi, hs]
          rw [if_neg (by omega)]
          rw [hrun']
          rfl
      · cases hrun
    · cases hrun
  · cases hrun

theorem sound_nilCheck {x : Operand} (ho : o.op = .nilCheck x) (hrun : (EOp.nilCheck x).run lim h ev = some out)
    (hx : ∀ v, ev x = some v → VRel ρ v (a.eval x)) : OpRes K P a o w ρ h.length out := by
  simp only [EOp.run] at hrun
  split at hrun
  · rename_i b off hp
    have hr := hx _ hp
    obtain ⟨L, hL, hpe⟩ := hr.ptr_inv
    have hkd := hr.ptr_kind hL
    cases hrun
    exact .pure (v' := a.eval x) (by simp [execOp, ho, hpe]) hr rfl
  · rename_i f y c hp
    have hr := hx _ hp
    obtain ⟨f', c', hpe, _⟩ := hr.func_inv
    cases hrun
    exact .pure (v' := a.eval x) (by simp [execOp, ho, hpe]) hr rfl
  · cases hrun

theorem semPure_some {s : Sem Value} {v : Value} (hs : semPure s = some v) (P : Program) (w : World) : s.run P w = .ok v w := by
  cases s <;> simp [semPure] at hs
  subst hs; rfl

theorem sound_fieldAddr {t : TypeId} {f off k : Nat} {fields : Array Field} {fd : Field} {x : Operand} (ho : o.op = .fieldAddr t x f) (hu : P.underlying t = some (.struct fields)) (hf : fields[f]? = some fd)
    (hs : sizeT P fd.type = some k) (hk : 0 < k) (hoff : fd.offset = off) (hrun : (EOp.fieldAddr off x).run lim h ev = some out)
    (hx : ∀ v, ev x = some v → VRel ρ v (a.eval x)) : OpRes K P a o w ρ h.length out := by
  simp only [EOp.run] at hrun
  split at hrun
  · rename_i b of hp
    obtain ⟨L, hL, hpe⟩ := (hx _ hp).ptr_inv
    have hkd := (hx _ hp).ptr_kind hL
    cases hrun
    unfold sizeT at hs
    cases hi : P.info? fd.type with
    | none => simp [hi] at hs
    | some i =>
      simp [hi] at hs
      refine .pure (v' := .pointer (some ⟨L.blk, L.off + (of + off), none⟩)) ?_ (.ptr hL) rfl
      simp [execOp, ho, hpe, Instr.fieldAt, run_underlying hu, hf, Instr.sureAddr, fieldPlace, sizeOf, typeInfo, hi, hs, Nat.ne_of_gt hk, add_addr, hoff, Nat.add_assoc]
  · cases hrun

theorem LRel.extract {xs ys : Array Value} (hr : LRel (VRel ρ) xs.toList ys.toList) (i j : Nat) : VRel ρ (.agg (xs.extract i j)) (.agg (ys.extract i j)) := by
  have := VRel.agg_mk ((hr.drop i).take (j - i))
  rw [show xs.extract i j = ((xs.toList.drop i).take (j - i)).toArray from Array.ext' (by simp)]
  rw [show ys.extract i j = ((ys.toList.drop i).take (j - i)).toArray from Array.ext' (by simp)]
  exact this

theorem run_part {t : TypeId} {g : Bool} {k : Nat} (hg : isAggT P t = some g) (hs : sizeT P t = some k) {xs ys : Array Value} (hr : LRel (VRel ρ) xs.toList ys.toList) (off : Nat) {v : Value}
    (hv : (if g then some (Value.agg (xs.extract off (off + k))) else xs[off]?) = some v) : ∃ v', (part t ys off).run P w = .ok v' w ∧ VRel ρ v v' := by
  unfold sizeT at hs
  cases hi : P.info? t with
  | none => simp [hi] at hs
  | some i =>
    simp [hi] at hs
    unfold isAggT at hg
    cases hu : P.underlying t with
    | none => simp [hu] at hg
    | some d =>
      cases g with
      | true =>
        simp at hv; subst hv
        refine ⟨.agg (ys.extract off (off + k)), ?_, LRel.extract hr _ _⟩
        cases d <;> simp [hu] at hg <;> simp [part, isAgg, run_underlying hu, sizeOf, typeInfo, hi, hs]
      | false =>
        simp at hv
        obtain ⟨v', hv', r⟩ := hr.get (i := off) (x := v) (by simpa using hv)
        refine ⟨v', ?_, r⟩
        have hv2 : ys[off]? = some v' := by simpa using hv'
        cases d <;> simp [hu] at hg <;> simp [part, isAgg, run_underlying hu, hv2]

theorem sound_field {t : TypeId} {f off k : Nat} {g : Bool} {fields : Array Field} {fd : Field} {x : Operand} (ho : o.op = .field t x f) (hu : P.underlying t = some (.struct fields)) (hf : fields[f]? = some fd)
    (hg : isAggT P fd.type = some g) (hs : sizeT P fd.type = some k) (hoff : fd.offset = off) (hrun : (EOp.field g off k x).run lim h ev = some out)
    (hx : ∀ v, ev x = some v → VRel ρ v (a.eval x)) : OpRes K P a o w ρ h.length out := by
  simp only [EOp.run] at hrun
  split at hrun
  · rename_i cs hp
    obtain ⟨ys, hpe, hr⟩ := (hx _ hp).agg_inv
    have key : ∃ v, (if g then some (Value.agg (cs.extract off (off + k))) else cs[off]?) = some v ∧ out = ⟨v, [], .none⟩ := by
      cases g
      · simp at hrun; obtain ⟨v, h1, h2⟩ := hrun; exact ⟨v, by simpa using h1, h2.symm⟩
      · simp at hrun; exact ⟨_, rfl, hrun.symm⟩
    obtain ⟨v, hv, rfl⟩ := key
    obtain ⟨v', hrun', r⟩ := run_part (P := P) (w := w) hg hs hr off hv
    refine .pure (v' := v') ?_ r rfl
    simp [execOp, ho, hpe, Instr.field, run_underlying hu, hf, asAgg, hoff, hrun']
  · cases hrun

theorem sizeT_run {t : TypeId} {k : Nat} (hs : sizeT P t = some k) : (sizeOf t).run P w = .ok k w := by
  unfold sizeT at hs
  cases hi : P.info? t with
  | none => simp [hi] at hs
  | some i => simp [hi] at hs; simp [sizeOf, typeInfo, hi, hs]

theorem sound_indexArr {t e : TypeId} {n s : Nat} {x y : Operand} (ho : o.op = .indexAddr t x y) (hu : P.underlying t = some (.array n e)) (hs : sizeT P e = some s)
    (hrun : (EOp.indexAddr (some n) s x y).run lim h ev = some out) (hx : ∀ v, ev x = some v → VRel ρ v (a.eval x)) (hy : ∀ v, ev y = some v → VRel ρ v (a.eval y)) : OpRes K P a o w ρ h.length out := by
  simp only [EOp.run] at hrun
  split at hrun
  · rename_i b of k i hp hi
    obtain ⟨L, hL, hpe⟩ := (hx _ hp).ptr_inv
    have hkd := (hx _ hp).ptr_kind hL
    have hie := (hy _ hi).int_inv
    split at hrun
    · rename_i hc
      cases hrun
      refine .pure (v' := .pointer (some ⟨L.blk, L.off + (of + i.toNat * s), none⟩)) ?_ (.ptr hL) rfl
      simp [execOp, ho, hpe, hie, Instr.indexAt, asIntOf, run_underlying hu, Instr.sureAddr, hc.1, hc.2, sizeT_run hs, add_addr, Nat.add_assoc]
    · cases hrun
  · simp at hrun
  · cases hrun

theorem sound_indexSlice {t e : TypeId} {s : Nat} {x y : Operand} (ho : o.op = .indexAddr t x y) (hu : P.underlying t = some (.slice e)) (hs : sizeT P e = some s)
    (hrun : (EOp.indexAddr none s x y).run lim h ev = some out) (hx : ∀ v, ev x = some v → VRel ρ v (a.eval x)) (hy : ∀ v, ev y = some v → VRel ρ v (a.eval y)) : OpRes K P a o w ρ h.length out := by
  simp only [EOp.run] at hrun
  split at hrun
  · simp at hrun
  · rename_i b of ln s' k i hp hi
    obtain ⟨L, ad, cap, hL, hpe, hn, ha, hsp, _, hc, _⟩ := (hx _ hp).slice_inv
    have hkd := (hx _ hp).slice_kind hL
    have hie := (hy _ hi).int_inv
    split at hrun
    · rename_i hcd
      cases hrun
      obtain ⟨hoff, _⟩ := hc (by omega)
      replace hsp := hsp (by omega)
      obtain ⟨ab, ao, as⟩ := ad
      simp only at ha hsp hoff
      subst ha hsp hoff
      refine .pure (v' := .pointer (some ⟨L.blk, L.off + (of + i.toNat * s), none⟩)) ?_ (.ptr hL) rfl
      simp [execOp, ho, hpe, hie, Instr.indexAt, asIntOf, run_underlying hu, hcd.1, hcd.2.1, sizeT_run hs, add_addr, Nat.add_assoc]
    · cases hrun
  · cases hrun

theorem sound_index {t e : TypeId} {n s : Nat} {g : Bool} {x y : Operand} (ho : o.op = .index t x y) (hu : P.underlying t = some (.array n e)) (hg : isAggT P e = some g) (hs : sizeT P e = some s)
    (hrun : (EOp.index n s g x y).run lim h ev = some out) (hx : ∀ v, ev x = some v → VRel ρ v (a.eval x)) (hy : ∀ v, ev y = some v → VRel ρ v (a.eval y)) : OpRes K P a o w ρ h.length out := by
  simp only [EOp.run] at hrun
  split at hrun
  · rename_i cs k i hp hi
    obtain ⟨ys, hpe, hr⟩ := (hx _ hp).agg_inv
    have hie := (hy _ hi).int_inv
    split at hrun
    · rename_i hc
      have key : ∃ v, (if g then some (Value.agg (cs.extract (i.toNat * s) (i.toNat * s + s))) else cs[i.toNat * s]?) = some v ∧ out = ⟨v, [], .none⟩ := by
        cases g
        · simp at hrun; obtain ⟨v, h1, h2⟩ := hrun; exact ⟨v, by simpa using h1, h2.symm⟩
        · simp at hrun; exact ⟨_, rfl, hrun.symm⟩
      obtain ⟨v, hv, rfl⟩ := key
      obtain ⟨v', hrun', r⟩ := run_part (P := P) (w := w) hg hs hr _ hv
      refine .pure (v' := v') ?_ r rfl
      simp [execOp, ho, hpe, hie, Instr.index, asIntOf, run_underlying hu, hc.1, hc.2, sizeT_run hs, hrun']
    · cases hrun
  · cases hrun

theorem sound_strIndex {t : TypeId} {x y : Operand} (ho : o.op = .index t x y) (hu : P.underlying t = some .string)
    (hrun : (EOp.strIndex x y).run lim h ev = some out) (hx : ∀ v, ev x = some v → VRel ρ v (a.eval x)) (hy : ∀ v, ev y = some v → VRel ρ v (a.eval y)) : OpRes K P a o w ρ h.length out := by
  simp only [EOp.run] at hrun
  split at hrun
  · rename_i s k i hp hi
    have hpe := (hx _ hp).string_inv
    have hie := (hy _ hi).int_inv
    split at hrun
    · rename_i hc
      simp only [Option.map_eq_some_iff] at hrun
      obtain ⟨c, hcc, rfl⟩ := hrun
      refine .pure (v' := .int .u8 c.toNat) ?_ (.plain rfl) rfl
      have hcc' : s[i.toNat]? = some c := by
        rw [ByteArray.toList_eq] at hcc
        have e : s[i.toNat]? = s.data[i.toNat]? := by
          rw [getElem?_def, getElem?_def]; rfl
        rw [e]; simpa using hcc
      simp [execOp, ho, hpe, hie, Instr.index, asIntOf, run_underlying hu, hc, hcc']
    · cases hrun
  · cases hrun
end
end Go.Abs
/- Each operation of the abstract evaluator is what the program's operation does: comparisons of structs and arrays. -/
namespace Go.Abs
variable {K : LoopKind}

theorem eqCells_len : ∀ (ks : List CK) (a b : List Value) {r : Bool}, E.eqCells ks a b = some r → a.length = ks.length ∧ b.length = ks.length
  | [], [], [], _, _ => ⟨rfl, rfl⟩
  | .int k :: ks, a, b, r, h => by
    unfold E.eqCells at h
    split at h <;> rename_i h1 <;> first | (cases h1; done) | (cases h; done) | skip
    cases h1
    split at h
    · simp only [Option.map_eq_some_iff] at h
      obtain ⟨r0, h0, _⟩ := h
      have := eqCells_len _ _ _ h0
      simp [this.1, this.2]
    · cases h
  | .bool :: ks, a, b, r, h => by
    unfold E.eqCells at h
    split at h <;> rename_i h1 <;> first | (cases h1; done) | (cases h; done) | skip
    simp only [Option.map_eq_some_iff] at h
    obtain ⟨r0, h0, _⟩ := h
    cases h1
    have := eqCells_len _ _ _ h0
    simp [this.1, this.2]
  | .str :: ks, a, b, r, h => by
    unfold E.eqCells at h
    split at h <;> rename_i h1 <;> first | (cases h1; done) | (cases h; done) | skip
    simp only [Option.map_eq_some_iff] at h
    obtain ⟨r0, h0, _⟩ := h
    cases h1
    have := eqCells_len _ _ _ h0
    simp [this.1, this.2]
  | [], _ :: _, _, _, h => by simp [E.eqCells] at h
  | [], [], _ :: _, _, h => by simp [E.eqCells] at h

theorem eqCells_append : ∀ (ks : List CK) {ls : List CK} {a c : List Value} {r : Bool}, E.eqCells (ks ++ ls) a c = some r →
    ∃ r1 r2, E.eqCells ks (a.take ks.length) (c.take ks.length) = some r1 ∧ E.eqCells ls (a.drop ks.length) (c.drop ks.length) = some r2 ∧ r = (r1 && r2)
  | [], ls, a, c, r, h => ⟨true, r, by simp [E.eqCells], by simpa using h, by simp⟩
  | k :: ks, ls, a, c, r, h => by
    simp only [List.cons_append] at h
    unfold E.eqCells at h
    split at h
    · rename_i h1; cases h1
    · rename_i h1
      cases h1
      split at h
      · rename_i hk
        simp only [Option.map_eq_some_iff] at h
        obtain ⟨r0, h0, rfl⟩ := h
        obtain ⟨r1, r2, e1, e2, rfl⟩ := eqCells_append ks h0
        exact ⟨_, r2, by simp [E.eqCells, hk, e1]; rfl, by simpa using e2, by rw [Bool.and_assoc]⟩
      · cases h
    · rename_i h1
      cases h1
      simp only [Option.map_eq_some_iff] at h
      obtain ⟨r0, h0, rfl⟩ := h
      obtain ⟨r1, r2, e1, e2, rfl⟩ := eqCells_append ks h0
      exact ⟨_, r2, by simp [E.eqCells, e1]; rfl, by simpa using e2, by rw [Bool.and_assoc]⟩
    · rename_i h1
      cases h1
      simp only [Option.map_eq_some_iff] at h
      obtain ⟨r0, h0, rfl⟩ := h
      obtain ⟨r1, r2, e1, e2, rfl⟩ := eqCells_append ks h0
      exact ⟨_, r2, by simp [E.eqCells, e1]; rfl, by simpa using e2, by rw [Bool.and_assoc]⟩
    · cases h

/-- A value of type t, by its cells. -/
def pv (P : Program) (t : TypeId) (xs : List Value) : Value :=
  if isAggT P t = some true then .agg xs.toArray else xs.headD undef

def aggD : TypeDesc → Bool
  | .struct _ | .array _ _ => true
  | _ => false

theorem isAggT_of {P : Program} {t : TypeId} {d : TypeDesc} (hu : P.underlying t = some d) : isAggT P t = some (aggD d) := by
  unfold isAggT; rw [hu]; cases d <;> rfl

theorem eqCells_int {k : IntKind} {xs ys : List Value} {r : Bool} (h : E.eqCells [.int k] xs ys = some r) : ∃ a b, xs = [.int k a] ∧ ys = [.int k b] ∧ r = (a == b) := by
  have hl := eqCells_len _ _ _ h
  match xs, ys, hl with
  | [x], [y], _ =>
    cases x <;> cases y <;> simp [E.eqCells] at h
    obtain ⟨⟨rfl, rfl⟩, rfl⟩ := h
    exact ⟨_, _, rfl, rfl, rfl⟩

theorem eqCells_bool {xs ys : List Value} {r : Bool} (h : E.eqCells [.bool] xs ys = some r) : ∃ a b, xs = [.bool a] ∧ ys = [.bool b] ∧ r = (a == b) := by
  have hl := eqCells_len _ _ _ h
  match xs, ys, hl with
  | [x], [y], _ =>
    cases x <;> cases y <;> simp [E.eqCells] at h
    subst h
    exact ⟨_, _, rfl, rfl, rfl⟩

theorem eqCells_str {xs ys : List Value} {r : Bool} (h : E.eqCells [.str] xs ys = some r) : ∃ a b, xs = [.string a] ∧ ys = [.string b] ∧ r = (a.toList == b.toList) := by
  have hl := eqCells_len _ _ _ h
  match xs, ys, hl with
  | [x], [y], _ =>
    cases x <;> cases y <;> simp [E.eqCells] at h
    subst h
    exact ⟨_, _, rfl, rfl, rfl⟩

theorem flatT_size {P : Program} {d : Nat} {t : TypeId} {ks : List CK} (h : flatT P d t = some ks) : sizeT P t = some ks.length ∧ (isAggT P t = some true ∨ (isAggT P t = some false ∧ ks.length = 1)) := by
  cases d with
  | zero => simp [flatT] at h
  | succ d =>
    unfold flatT at h
    split at h
    · rename_i hu; split at h <;> cases h; rename_i hs; exact ⟨hs, .inr ⟨isAggT_of hu, rfl⟩⟩
    · rename_i hu; split at h <;> cases h; rename_i hs; exact ⟨hs, .inr ⟨isAggT_of hu, rfl⟩⟩
    · rename_i hu; split at h <;> cases h; rename_i hs; exact ⟨hs, .inr ⟨isAggT_of hu, rfl⟩⟩
    · rename_i hu
      split at h
      · cases h
      · split at h
        · split at h <;> cases h; rename_i hs; exact ⟨hs, .inl (isAggT_of hu)⟩
        · cases h
    · rename_i hu
      split at h
      · split at h <;> cases h; rename_i hs; exact ⟨by rw [hs]; simp, .inl (isAggT_of hu)⟩
      · cases h
    · cases h

theorem pv_part {P : Program} {w : World} {t : TypeId} {n : Nat} (hs : sizeT P t = some n) (xs : Array Value) (o : Nat) (hn : isAggT P t = some true ∨ (isAggT P t = some false ∧ n = 1 ∧ o < xs.size)) :
    (part t xs o).run P w = .ok (pv P t ((xs.toList.drop o).take n)) w := by
  have hsz := sizeT_run (P := P) (w := w) hs
  rcases hn with hg | ⟨hg, rfl, hx⟩
  · have hg' := hg
    unfold isAggT at hg
    cases hu : P.underlying t with
    | none => simp [hu] at hg
    | some d =>
      have e : xs.extract o (o + n) = (List.take n (List.drop o xs.toList)).toArray := Array.ext' (by simp)
      cases d <;> simp [hu] at hg <;> simp [part, isAgg, run_underlying hu, hsz, pv, hg', e]
  · have hg' := hg
    unfold isAggT at hg
    cases hu : P.underlying t with
    | none => simp [hu] at hg
    | some d =>
      have e : (List.take 1 (List.drop o xs.toList)) = [xs[o]] := by
        rw [List.drop_eq_getElem_cons (by simpa using hx)]; simp
      cases d <;> simp [hu] at hg <;> simp [part, isAgg, run_underlying hu, pv, hg', e, hx]

theorem run_eqFields_flat {P : Program} {w : World} {D : Nat} {flat : TypeId → Option (List CK)}
    (ih : ∀ (t : TypeId) (ks : List CK) (xs ys : List Value) (r : Bool), flat t = some ks → E.eqCells ks xs ys = some r →
      (sizeT P t = some ks.length ∧ (isAggT P t = some true ∨ (isAggT P t = some false ∧ ks.length = 1))) ∧ (Op.equalIn D t (pv P t xs) (pv P t ys)).run P w = .ok r w) (xs ys : Array Value) :
    ∀ (fs : List Field) (o : Nat) (ks : List CK) (r : Bool), flatFields P flat o fs = some ks → E.eqCells ks (xs.toList.drop o) (ys.toList.drop o) = some r → (Op.eqFields D xs ys fs).run P w = .ok r w
  | [], o, ks, r, h, hr => by
    simp only [flatFields, Option.some.injEq] at h
    subst h
    have hl := eqCells_len _ _ _ hr
    simp only [List.length_nil, List.length_eq_zero_iff] at hl
    rw [hl.1, hl.2] at hr
    simp [E.eqCells] at hr
    subst hr
    simp [Op.eqFields]
  | f :: fs, o, ks, r, h, hr => by
    unfold flatFields at h
    split at h
    · rename_i k1 hk1
      split at h
      · rename_i hc
        simp only [Option.map_eq_some_iff] at h
        obtain ⟨k2, h2, rfl⟩ := h
        have hl := eqCells_len _ _ _ hr
        simp at hl
        obtain ⟨r1, r2, e1, e2, rfl⟩ := eqCells_append _ hr
        obtain ⟨⟨hs, hor⟩, hrun⟩ := ih _ _ _ _ _ hk1 e1
        have hp1 := pv_part (P := P) (w := w) hs xs f.offset (hor.imp id fun q => ⟨q.1, q.2, by have := q.2; rw [hc.2]; omega⟩)
        have hp2 := pv_part (P := P) (w := w) hs ys f.offset (hor.imp id fun q => ⟨q.1, q.2, by have := q.2; rw [hc.2]; omega⟩)
        rw [hc.2] at hp1 hp2
        have hrec := run_eqFields_flat ih xs ys fs (o + k1.length) k2 r2 h2 (by simpa [List.drop_drop] using e2)
        simp only [Op.eqFields, if_pos hc.1, hc.2, Sem.run_bind, hp1, hp2, Result.andThen_ok, hrun]
        cases r1
        · simp
        · simpa using hrec
      · cases h
    · cases h

theorem run_eqItems_flat {P : Program} {w : World} {D : Nat} {e : TypeId} {ks : List CK} (hs : sizeT P e = some ks.length) (hor : isAggT P e = some true ∨ (isAggT P e = some false ∧ ks.length = 1))
    (ih : ∀ (xs ys : List Value) (r : Bool), E.eqCells ks xs ys = some r → (Op.equalIn D e (pv P e xs) (pv P e ys)).run P w = .ok r w) (xs ys : Array Value) :
    ∀ (n i : Nat) (r : Bool), E.eqCells (List.replicate n ks).flatten (xs.toList.drop (i * ks.length)) (ys.toList.drop (i * ks.length)) = some r →
      (Op.eqItems D e ks.length xs ys (List.range' i n)).run P w = .ok r w
  | 0, i, r, hr => by
    have hl := eqCells_len _ _ _ hr
    simp only [List.replicate_zero, List.flatten_nil, List.length_nil, List.length_eq_zero_iff] at hl hr
    rw [hl.1, hl.2] at hr
    simp [E.eqCells] at hr
    subst hr
    simp [Op.eqItems]
  | n + 1, i, r, hr => by
    rw [List.replicate_succ, List.flatten_cons] at hr
    have hl := eqCells_len _ _ _ hr
    simp only [List.length_drop, List.length_append, Array.length_toList] at hl
    obtain ⟨r1, r2, e1, e2, rfl⟩ := eqCells_append _ hr
    rw [List.drop_drop, List.drop_drop] at e2
    have hrec := run_eqItems_flat hs hor ih xs ys n (i + 1) r2 (by rw [Nat.add_one_mul]; exact e2)
    have hp1 := pv_part (P := P) (w := w) hs xs (i * ks.length) (hor.imp id fun q => ⟨q.1, q.2, by have := q.2; omega⟩)
    have hp2 := pv_part (P := P) (w := w) hs ys (i * ks.length) (hor.imp id fun q => ⟨q.1, q.2, by have := q.2; omega⟩)
    simp only [List.range'_succ, Op.eqItems, Sem.run_bind, hp1, hp2, Result.andThen_ok, ih _ _ _ e1]
    cases r1
    · simp
    · simpa using hrec

theorem run_equalIn_flat (P : Program) (w : World) : ∀ (d : Nat) (t : TypeId) (D : Nat) (ks : List CK) (xs ys : List Value) (r : Bool), flatT P d t = some ks → d ≤ D →
    E.eqCells ks xs ys = some r → (Op.equalIn D t (pv P t xs) (pv P t ys)).run P w = .ok r w := by
  intro d
  induction d with
  | zero => intro t D ks xs ys r h; simp [flatT] at h
  | succ d ih =>
    intro t D ks xs ys r h hD hr
    obtain ⟨D, rfl⟩ : ∃ D', D = D' + 1 := ⟨D - 1, by omega⟩
    have hl := eqCells_len _ _ _ hr
    unfold flatT at h
    split at h
    · rename_i k hu
      have hg := isAggT_of hu
      split at h <;> cases h
      obtain ⟨x, y, rfl, rfl, rfl⟩ := eqCells_int hr
      simp only [pv, hg, aggD, Option.some.injEq, Bool.false_eq_true, if_false, List.headD_cons]
      exact run_equalIn_int w D t _ _ _ _ hu
    · rename_i hu
      have hg := isAggT_of hu
      split at h <;> cases h
      obtain ⟨x, y, rfl, rfl, rfl⟩ := eqCells_bool hr
      simp only [pv, hg, aggD, Option.some.injEq, Bool.false_eq_true, if_false, List.headD_cons]
      exact run_equalIn_bool' w D t _ _ hu
    · rename_i hu
      have hg := isAggT_of hu
      split at h <;> cases h
      obtain ⟨x, y, rfl, rfl, rfl⟩ := eqCells_str hr
      simp only [pv, hg, aggD, Option.some.injEq, Bool.false_eq_true, if_false, List.headD_cons]
      exact run_equalIn_string w D t _ _ hu
    · rename_i fields hu
      have hg := isAggT_of hu
      simp only [aggD] at hg
      split at h
      · cases h
      · rename_i hst
        split at h
        · rename_i ks' hks
          split at h <;> cases h
          have hf : P.fieldsOf t = fields := by simp [Program.fieldsOf, hu]
          simp only [pv, hg, if_true]
          rw [run_equalIn_struct w D t _ _ (by rw [hf]; exact hu) (by simpa using hst), hf]
          refine run_eqFields_flat (flat := flatT P d) (fun t ks xs ys r h1 h2 => ⟨flatT_size h1, ih t D ks xs ys r h1 (by omega) h2⟩) _ _ _ 0 _ _ hks ?_
          simpa using hr
        · cases h
    · rename_i n e hu
      have hg := isAggT_of hu
      simp only [aggD] at hg
      split at h
      · rename_i ks' hks
        split at h <;> cases h
        obtain ⟨hs, hor⟩ := flatT_size hks
        simp only [pv, hg, if_true]
        have hs' := hs
        unfold sizeT at hs'
        cases hi : P.info? e with
        | none => simp [hi] at hs'
        | some i =>
          simp [hi] at hs'
          rw [run_equalIn_array w D _ _ hu hi]
          have hcs : P.cellsOf e = ks'.length := by simp [Program.cellsOf, hi, hs']
          rw [hcs, List.range_eq_range']
          refine run_eqItems_flat hs hor (fun xs ys r h2 => ih e D ks' xs ys r hks (by omega) h2) _ _ n 0 r ?_
          simpa using hr
      · cases h
    · cases h
end Go.Abs
/- Each operation of the abstract evaluator is what the program's operation does: numbers, strings, slices, calls of built-ins. -/
namespace Go.Abs
variable {K : LoopKind}
section
variable {P : Program} {a : Act} {o : Oper} {w : World} {ρ : Ren} {h : Heap} {lim : Nat} {ev : Operand → Option Value} {out : Out}

theorem E.bin_run {op : BinOp} {t : TypeId} {x y : Operand} {u v r : Value} (hr : E.bin op u v = some r) (P : Program) (w : World) :
    (do eqGuard op t x y u v; binOp op t u v : Sem Value).run P w = .ok r w ∧ plainV u = true ∧ plainV v = true := by
  unfold E.bin at hr
  split at hr
  · rename_i k n k' m
    refine ⟨?_, rfl, rfl⟩
    rw [eqGuard_at_int]
    have e : binOp op t (.int k n) (.int k' m) = binOp op 0 (.int k n) (.int k' m) := by cases op <;> rfl
    simp only [Sem.run_bind, Sem.run_pure, Result.andThen_ok, e]
    exact semPure_some hr P w
  · rename_i s s'
    refine ⟨?_, rfl, rfl⟩
    rw [eqGuard_at_string]
    have e : binOp op t (.string s) (.string s') = binOp op 0 (.string s) (.string s') := by cases op <;> rfl
    simp only [Sem.run_bind, Sem.run_pure, Result.andThen_ok, e]
    exact semPure_some hr P w
  · cases hr

theorem semPure_rt {e : RuntimeError} {v : Value} (h : semPure (runtimePanic e) = some v) : False := by
  cases h

theorem E.bin_plain {op : BinOp} {p q r : Value} (hr : E.bin op p q = some r) : plainV r = true := by
  unfold E.bin at hr
  split at hr
  · rename_i k n k' m
    cases op <;> simp only [binOp, Op.shift, Op.intArith, Op.intDiv, Op.intBits, Op.intCmp, ne_eq, ite_not] at hr <;>
      (repeat' split at hr) <;> first | (exact (semPure_rt hr).elim) | (cases hr; rfl) | (cases hr)
  · rename_i s s'
    cases op <;> simp only [binOp, Op.stringOp] at hr <;> (repeat' split at hr) <;> first | (cases hr; rfl) | (cases hr)
  · cases hr

theorem sound_bin {op : BinOp} {t u : TypeId} {x y : Operand} (ho : o.op = .binOp op t x y u) (hrun : (EOp.bin op x y).run lim h ev = some out)
    (hx : ∀ v, ev x = some v → VRel ρ v (a.eval x)) (hy : ∀ v, ev y = some v → VRel ρ v (a.eval y)) : OpRes K P a o w ρ h.length out := by
  simp only [EOp.run] at hrun
  split at hrun
  · rename_i p q hp hq
    simp only [Option.map_eq_some_iff] at hrun
    obtain ⟨v, hv, rfl⟩ := hrun
    obtain ⟨hr, h1, h2⟩ := E.bin_run (t := t) (x := x) (y := y) hv P w
    have e1 := (hx _ hp).plain_inv h1
    have e2 := (hy _ hq).plain_inv h2
    refine .pure (v' := v) ?_ (.plain (E.bin_plain hv)) rfl
    simp only [execOp, ho, e1, e2]
    simp only [Sem.run_bind] at hr ⊢
    rw [hr]; rfl
  · cases hrun

theorem sound_eqBool {op : BinOp} {neg : Bool} {t u : TypeId} {x y : Operand} (ho : o.op = .binOp op t x y u) (hop : op = if neg then .neq else .eql) (hu : P.underlying t = some .bool)
    (hrun : (EOp.eqBool neg x y).run lim h ev = some out) (hx : ∀ v, ev x = some v → VRel ρ v (a.eval x)) (hy : ∀ v, ev y = some v → VRel ρ v (a.eval y)) : OpRes K P a o w ρ h.length out := by
  simp only [EOp.run] at hrun
  split at hrun
  · rename_i p q hp hq
    cases hrun
    have e1 := (hx _ hp).bool_inv
    have e2 := (hy _ hq).bool_inv
    have hb := run_equal_bool (P := P) (w := w) t p q hu
    refine .pure (v' := .bool (if neg then !(p == q) else p == q)) ?_ (.plain rfl) rfl
    subst hop
    cases neg <;> simp [execOp, ho, e1, e2, eqGuard_at_bool, binOp, hb]
  · cases hrun

theorem run_equal_nilnil {t : TypeId} {ms : Array (String × TypeId)} (hu : P.underlying t = some (.interface ms)) (d : Nat) : (Op.equalIn (d + 1) t .nilIface .nilIface).run P w = .ok true w := by
  simp only [Op.equalIn, Sem.run_bind, run_underlying hu, Result.andThen_ok, Sem.run_pure]
theorem run_equal_ifnil {t : TypeId} {ms : Array (String × TypeId)} (hu : P.underlying t = some (.interface ms)) (d : Nat) (ty : TypeId) (v : Value) : (Op.equalIn (d + 1) t (.iface ty v) .nilIface).run P w = .ok false w := by
  simp only [Op.equalIn, Sem.run_bind, run_underlying hu, Result.andThen_ok, Sem.run_pure]

theorem sound_eqNil {op : BinOp} {neg : Bool} {t u : TypeId} {x : Operand} {ms : Array (String × TypeId)} (ho : o.op = .binOp op t x (.const .nilIface) u) (hop : op = if neg then .neq else .eql)
    (hu : P.underlying t = some (.interface ms)) (hrun : (EOp.eqNil neg x).run lim h ev = some out) (hx : ∀ v, ev x = some v → VRel ρ v (a.eval x)) : OpRes K P a o w ρ h.length out := by
  have ev0 : a.eval (.const .nilIface) = .nilIface := rfl
  simp only [EOp.run] at hrun
  split at hrun
  · rename_i hp
    cases hrun
    have e1 := (hx _ hp).plain_inv rfl
    refine .pure (v' := .bool (!neg)) ?_ (.plain rfl) rfl
    subst hop
    have he := run_equal_nilnil (P := P) (w := w) hu 9999
    cases neg
    · simp only [execOp, ho, e1, ev0, eqGuard_nil_constR, Sem.run_bind, Sem.run_pure, Result.andThen_ok, Bool.false_eq_true, if_false, binOp, Op.equal, Op.maxDepth, he]; rfl
    · simp only [execOp, ho, e1, ev0, eqGuard_nil_constR, Sem.run_bind, Sem.run_pure, Result.andThen_ok, if_true, binOp, Op.equal, Op.maxDepth, he]
  · rename_i ty v hp
    cases hrun
    obtain ⟨u', e1, _⟩ := (hx _ hp).iface_inv
    refine .pure (v' := .bool neg) ?_ (.plain rfl) rfl
    subst hop
    have he := run_equal_ifnil (P := P) (w := w) hu 9999 ty u'
    cases neg
    · simp only [execOp, ho, e1, ev0, eqGuard_at_iface, Sem.run_bind, Sem.run_pure, Result.andThen_ok, Bool.false_eq_true, if_false, binOp, Op.equal, Op.maxDepth, he]
    · simp only [execOp, ho, e1, ev0, eqGuard_at_iface, Sem.run_bind, Sem.run_pure, Result.andThen_ok, if_true, binOp, Op.equal, Op.maxDepth, he]; rfl
  · cases hrun

theorem run_equal_slnil {t e : TypeId} (hu : P.underlying t = some (.slice e)) (d n m : Nat) : (Op.equalIn (d + 1) t (.slice none n m) (.slice none 0 0)).run P w = .ok true w := by
  simp only [Op.equalIn, Sem.run_bind, run_underlying hu, Result.andThen_ok, Sem.run_pure]; rfl
theorem run_equal_slsome {t e : TypeId} (hu : P.underlying t = some (.slice e)) (d : Nat) (a : Addr) (n m : Nat) : (Op.equalIn (d + 1) t (.slice (some a) n m) (.slice none 0 0)).run P w = .ok false w := by
  simp only [Op.equalIn, Sem.run_bind, run_underlying hu, Result.andThen_ok, Sem.run_pure]
theorem sound_eqNilS {op : BinOp} {neg : Bool} {t u : TypeId} {x : Operand} {e : TypeId} (ho : o.op = .binOp op t x (.const (.slice none 0 0)) u) (hop : op = if neg then .neq else .eql)
    (hu : P.underlying t = some (.slice e)) (hrun : (EOp.eqNilS neg x).run lim h ev = some out) (hx : ∀ v, ev x = some v → VRel ρ v (a.eval x)) : OpRes K P a o w ρ h.length out := by
  have ev0 : a.eval (.const (.slice none 0 0)) = .slice none 0 0 := rfl
  simp only [EOp.run] at hrun
  split at hrun
  · rename_i hp
    cases hrun
    have e1 := (hx _ hp).plain_inv rfl
    refine .pure (v' := .bool (!neg)) ?_ (.plain rfl) rfl
    subst hop
    have he := run_equal_slnil (P := P) (w := w) hu 9999 0 0
    cases neg
    · simp only [execOp, ho, e1, ev0, eqGuard_at_slice, Sem.run_bind, Sem.run_pure, Result.andThen_ok, Bool.false_eq_true, if_false, binOp, Op.equal, Op.maxDepth, he]; rfl
    · simp only [execOp, ho, e1, ev0, eqGuard_at_slice, Sem.run_bind, Sem.run_pure, Result.andThen_ok, if_true, binOp, Op.equal, Op.maxDepth, he]
  · rename_i hp
    cases hrun
    obtain ⟨L, ad, cap, _, e1, _⟩ := (hx _ hp).slice_inv
    refine .pure (v' := .bool neg) ?_ (.plain rfl) rfl
    subst hop
    have he := fun n => run_equal_slsome (P := P) (w := w) hu 9999 ad n cap
    cases neg
    · simp only [execOp, ho, e1, ev0, eqGuard_at_slice, Sem.run_bind, Sem.run_pure, Result.andThen_ok, Bool.false_eq_true, if_false, binOp, Op.equal, Op.maxDepth, he]
    · simp only [execOp, ho, e1, ev0, eqGuard_at_slice, Sem.run_bind, Sem.run_pure, Result.andThen_ok, if_true, binOp, Op.equal, Op.maxDepth, he]; rfl
  · cases hrun

theorem LRel.eqCells : ∀ (ks : List CK) {xs ys xs' ys' : List Value} {r : Bool}, E.eqCells ks xs ys = some r → LRel (VRel ρ) xs xs' → LRel (VRel ρ) ys ys' → E.eqCells ks xs' ys' = some r := by
  intro ks
  induction ks with
  | nil =>
    intro xs ys xs' ys' r hr h1 h2
    have hl := eqCells_len _ _ _ hr
    have e1 := h1.len; have e2 := h2.len
    simp only [List.length_nil] at hl
    rw [List.length_eq_zero_iff] at hl
    obtain ⟨rfl, hl2⟩ := hl
    rw [List.length_eq_zero_iff] at hl2
    subst hl2
    rw [List.eq_nil_of_length_eq_zero e1.symm, List.eq_nil_of_length_eq_zero e2.symm]; exact hr
  | cons k ks ih =>
    intro xs ys xs' ys' r hr h1 h2
    have hl := eqCells_len _ _ _ hr
    match xs, ys, xs', ys', hl, h1, h2 with
    | x :: xs, y :: ys, x' :: xs', y' :: ys', _, h1, h2 =>
      unfold E.eqCells at hr
      split at hr <;> rename_i e0 <;> first | (cases e0; done) | skip
      · rename_i e1 e2; cases e0; cases e1; cases e2
        obtain rfl := h1.1.int_inv
        obtain rfl := h2.1.int_inv
        split at hr
        · rename_i hk
          simp only [Option.map_eq_some_iff] at hr
          obtain ⟨r0, h0, rfl⟩ := hr
          simp [E.eqCells, hk, ih h0 h1.2 h2.2]
        · cases hr
      · rename_i e1 e2; cases e0; cases e1; cases e2
        obtain rfl := h1.1.bool_inv
        obtain rfl := h2.1.bool_inv
        simp only [Option.map_eq_some_iff] at hr
        obtain ⟨r0, h0, rfl⟩ := hr
        simp [E.eqCells, ih h0 h1.2 h2.2]
      · rename_i e1 e2; cases e0; cases e1; cases e2
        obtain rfl := h1.1.string_inv
        obtain rfl := h2.1.string_inv
        simp only [Option.map_eq_some_iff] at hr
        obtain ⟨r0, h0, rfl⟩ := hr
        simp [E.eqCells, ih h0 h1.2 h2.2]
      · cases hr

theorem sound_eqAgg {op : BinOp} {neg : Bool} {t u : TypeId} {x y : Operand} {ks : List CK} (ho : o.op = .binOp op t x y u) (hop : op = if neg then .neq else .eql) (hg : isAggT P t = some true)
    (hf : flatT P 20 t = some ks) (hm : P.eqGuardType P.depth t = false)
    (hrun : (EOp.eqAgg neg ks x y).run lim h ev = some out) (hx : ∀ v, ev x = some v → VRel ρ v (a.eval x)) (hy : ∀ v, ev y = some v → VRel ρ v (a.eval y)) : OpRes K P a o w ρ h.length out := by
  simp only [EOp.run] at hrun
  split at hrun
  · rename_i xs ys hp hq
    simp only [Option.map_eq_some_iff] at hrun
    obtain ⟨r, hr, rfl⟩ := hrun
    obtain ⟨xs', e1, l1⟩ := (hx _ hp).agg_inv
    obtain ⟨ys', e2, l2⟩ := (hy _ hq).agg_inv
    have he := run_equalIn_flat P w 20 t 10000 ks _ _ r hf (by omega) (LRel.eqCells ks hr l1 l2)
    simp only [pv, hg, if_true, Array.toArray_toList] at he
    refine .pure (v' := .bool (if neg then !r else r)) ?_ (.plain rfl) rfl
    subst hop
    cases neg
    · simp only [execOp, ho, e1, e2, Sem.run_bind, Bool.false_eq_true, if_false, run_eqGuard_agg w _ _ _ _ _ _ hm, Result.andThen_ok, run_eql_struct, he, Sem.run_pure]
    · simp only [execOp, ho, e1, e2, Sem.run_bind, if_true, run_eqGuard_agg w _ _ _ _ _ _ hm, Result.andThen_ok, run_neq_struct, he, Sem.run_pure]
  · cases hrun

theorem E.un_run {op : UnOp} {u r : Value} (hr : E.un op u = some r) (P : Program) (w : World) : (Op.unary op u).run P w = .ok r w ∧ plainV u = true ∧ plainV r = true := by
  unfold E.un at hr
  split at hr
  · refine ⟨semPure_some hr P w, rfl, ?_⟩
    cases op <;> simp only [Op.unary, Op.intArith, Op.intBits] at hr <;> first | (cases hr; rfl) | (cases hr)
  · refine ⟨semPure_some hr P w, rfl, ?_⟩
    cases op <;> simp only [Op.unary] at hr <;> first | (cases hr; rfl) | (cases hr)
  · cases hr

theorem sound_un {op : UnOp} {t : TypeId} {x : Operand} (ho : o.op = .unOp op t x) (hrun : (EOp.un op x).run lim h ev = some out)
    (hx : ∀ v, ev x = some v → VRel ρ v (a.eval x)) : OpRes K P a o w ρ h.length out := by
  simp only [EOp.run] at hrun
  split at hrun
  · rename_i p hp
    simp only [Option.map_eq_some_iff] at hrun
    obtain ⟨v, hv, rfl⟩ := hrun
    obtain ⟨hr, h1, h2⟩ := E.un_run hv P w
    have e1 := (hx _ hp).plain_inv h1
    exact .pure (v' := v) (by simp [execOp, ho, e1, hr]) (.plain h2) rfl
  · cases hrun

theorem sound_conv {s d : TypeId} {k : IntKind} {x : Operand} {ds : TypeDesc} (ho : o.op = .convert s d x) (hs : P.underlying s = some ds) (hd : P.underlying d = some (.int k)) (hrun : (EOp.conv k x).run lim h ev = some out)
    (hx : ∀ v, ev x = some v → VRel ρ v (a.eval x)) : OpRes K P a o w ρ h.length out := by
  simp only [EOp.run] at hrun
  split at hrun
  · rename_i k' n hp
    cases hrun
    have e1 := (hx _ hp).int_inv
    exact .pure (v' := .int k (k.wrap n)) (by simp [execOp, ho, e1, convert, run_underlying hs, run_underlying hd, Conv.intToInt]) (.plain rfl) rfl
  · cases hrun

theorem sound_extract {x : Operand} {i : Nat} (ho : o.op = .extract x i) (hrun : (EOp.extract x i).run lim h ev = some out)
    (hx : ∀ v, ev x = some v → VRel ρ v (a.eval x)) : OpRes K P a o w ρ h.length out := by
  simp only [EOp.run] at hrun
  split at hrun
  · rename_i vs hp
    simp only [Option.map_eq_some_iff] at hrun
    obtain ⟨v, hv, rfl⟩ := hrun
    obtain ⟨vs', e1, l1⟩ := (hx _ hp).tuple_inv
    obtain ⟨v', hv', r⟩ := l1.get (i := i) (x := v) (by simpa using hv)
    have hv2 : vs'[i]? = some v' := by simpa using hv'
    exact .pure (v' := v') (by simp [execOp, ho, e1, Instr.extract, hv2]) r rfl
  · cases hrun

theorem sound_makeFunc {fn : FuncId} {first captured : Array Operand} (ho : o.op = .makeFunc (.func fn) first captured) (hf : first = #[]) (hrun : (EOp.makeFunc (.func fn) captured.toList).run lim h ev = some out)
    (hx : ∀ x ∈ captured.toList, ∀ v, ev x = some v → VRel ρ v (a.eval x)) : OpRes K P a o w ρ h.length out := by
  simp only [EOp.run, Option.map_eq_some_iff] at hrun
  obtain ⟨cs, hcs, rfl⟩ := hrun
  have key : ∀ (xs : List Operand) (cs : List Value), xs.mapM ev = some cs → (∀ x ∈ xs, ∀ v, ev x = some v → VRel ρ v (a.eval x)) → LRel (VRel ρ) cs (xs.map a.eval) := by
    intro xs
    induction xs with
    | nil => intro cs h1 _; simp at h1; subst h1; trivial
    | cons x xs ih =>
      intro cs h1 h2
      rw [List.mapM_cons] at h1
      simp only [bind, Option.bind_eq_some_iff, pure, Option.some.injEq] at h1
      obtain ⟨v, hv, r, hr, rfl⟩ := h1
      exact ⟨h2 x (by simp) v hv, ih r hr fun y hy => h2 y (by simp [hy])⟩
  have l := key _ _ hcs hx
  subst hf
  refine .pure (v' := .func (.func fn) #[] (captured.map a.eval)) (by simp [execOp, ho, Instr.makeFunc]) ?_ rfl
  refine .func rfl ?_ (fun i x y hx => by simp at hx) ?_
  · have := l.len; simp at this; simpa using this
  · intro i x y hx hy
    obtain ⟨z, hz, r⟩ := l.get (i := i) (x := x) (by simpa using hx)
    rw [Array.getElem?_map] at hy
    simp only [List.getElem?_map, Array.getElem?_toList] at hz
    rw [hz] at hy; cases hy; exact r

theorem mapM_rel {xs : List Operand} {cs : List Value} (h1 : xs.mapM ev = some cs) (h2 : ∀ x ∈ xs, ∀ v, ev x = some v → VRel ρ v (a.eval x)) : LRel (VRel ρ) cs (xs.map a.eval) := by
  induction xs generalizing cs with
  | nil => simp at h1; subst h1; trivial
  | cons x xs ih =>
    rw [List.mapM_cons] at h1
    simp only [bind, Option.bind_eq_some_iff, pure, Option.some.injEq] at h1
    obtain ⟨v, hv, r, hr, rfl⟩ := h1
    exact ⟨h2 x (by simp) v hv, ih hr fun y hy => h2 y (by simp [hy])⟩

theorem sound_makeIface {t : TypeId} {x : Operand} {d : TypeDesc} (ho : o.op = .makeInterface t x) (hd : P.underlying t = some d) (hni : ∀ ms, d ≠ .interface ms) (hrun : (EOp.makeIface t x).run lim h ev = some out)
    (hx : ∀ v, ev x = some v → VRel ρ v (a.eval x)) : OpRes K P a o w ρ h.length out := by
  simp only [EOp.run, Option.map_eq_some_iff] at hrun
  obtain ⟨v, hv, rfl⟩ := hrun
  refine .pure (v' := .iface t (a.eval x)) ?_ (.iface (hx v hv)) rfl
  cases d <;> first | (exact absurd rfl (hni _)) | simp [execOp, ho, Instr.makeInterface, run_underlying hd]

theorem E.minmax_run {f : Int → Int → Int} {g : Value → Value → Sem Value} (hg : ∀ (k k' : IntKind) (x y : Int), g (.int k x) (.int k' y) = pure (.int k (f x y))) (P : Program) (w : World) :
    ∀ (l : List Value) (k : IntKind) (n : Int) (r : Value), E.minmax f k n l = some r → (l.foldlM g (.int k n)).run P w = .ok r w ∧ plainV r = true ∧ l.all plainV = true
  | [], k, n, r, h => by simp [E.minmax] at h; subst h; simp [List.foldlM]; rfl
  | .int k' m :: l, k, n, r, h => by
    simp only [E.minmax] at h
    obtain ⟨h1, h2, h3⟩ := E.minmax_run hg P w l k _ r h
    refine ⟨?_, h2, by simp [h3, plainV]⟩
    simp only [List.foldlM_cons, hg, pure_bind]
    exact h1
  | .bool _ :: _, _, _, _, h => by cases h
  | .float .. :: _, _, _, _, h => by cases h
  | .complex .. :: _, _, _, _, h => by cases h
  | .string _ :: _, _, _, _, h => by cases h
  | .pointer _ :: _, _, _, _, h => by cases h
  | .slice .. :: _, _, _, _, h => by cases h
  | .map _ :: _, _, _, _, h => by cases h
  | .chan _ :: _, _, _, _, h => by cases h
  | .func .. :: _, _, _, _, h => by cases h
  | .nilFunc :: _, _, _, _, h => by cases h
  | .iface .. :: _, _, _, _, h => by cases h
  | .nilIface :: _, _, _, _, h => by cases h
  | .agg _ :: _, _, _, _, h => by cases h
  | .tuple _ :: _, _, _, _, h => by cases h

theorem LRel.plain_eq : ∀ {xs ys : List Value}, LRel (VRel ρ) xs ys → xs.all plainV = true → ys = xs
  | [], [], _, _ => rfl
  | x :: xs, y :: ys, h, hp => by
    simp only [List.all_cons, Bool.and_eq_true] at hp
    rw [h.1.plain_inv hp.1, LRel.plain_eq h.2 hp.2]
  | [], _ :: _, h, _ => h.elim
  | _ :: _, [], h, _ => h.elim

theorem sound_min {c : Call} (ho : o.op = .call c) (hc : c.callee = .builtin .min) (hrun : (EOp.min c.args.toList).run lim h ev = some out)
    (hx : ∀ x ∈ c.args.toList, ∀ v, ev x = some v → VRel ρ v (a.eval x)) : OpRes K P a o w ρ h.length out := by
  simp only [EOp.run] at hrun
  split at hrun
  · rename_i k n r hm
    simp only [Option.map_eq_some_iff] at hrun
    obtain ⟨v, hv, rfl⟩ := hrun
    have l := mapM_rel hm hx
    obtain ⟨h1, h2, h3⟩ := E.minmax_run (g := Builtin.min2) (fun _ _ _ _ => rfl) P w r k n v hv
    have e := l.plain_eq (by simp only [List.all_cons, h3, plainV, Bool.and_self])
    refine .pure (v' := v) ?_ (.plain h2) rfl
    simp [execOp, ho, resolve, hc, invoke, builtin, Builtin.min_, e, h1]
  · cases hrun

theorem sound_max {c : Call} (ho : o.op = .call c) (hc : c.callee = .builtin .max) (hrun : (EOp.max c.args.toList).run lim h ev = some out)
    (hx : ∀ x ∈ c.args.toList, ∀ v, ev x = some v → VRel ρ v (a.eval x)) : OpRes K P a o w ρ h.length out := by
  simp only [EOp.run] at hrun
  split at hrun
  · rename_i k n r hm
    simp only [Option.map_eq_some_iff] at hrun
    obtain ⟨v, hv, rfl⟩ := hrun
    have l := mapM_rel hm hx
    obtain ⟨h1, h2, h3⟩ := E.minmax_run (g := Builtin.max2) (fun _ _ _ _ => rfl) P w r k n v hv
    have e := l.plain_eq (by simp only [List.all_cons, h3, plainV, Bool.and_self])
    refine .pure (v' := v) ?_ (.plain h2) rfl
    simp [execOp, ho, resolve, hc, invoke, builtin, Builtin.max_, e, h1]
  · cases hrun

theorem sound_lenStr {c : Call} {x : Operand} {t : TypeId} (ho : o.op = .call c) (hc : c.callee = .builtin .len) (ha : c.args = #[x]) (ht : c.argTypes[0]? = some t) (hu : P.underlying t = some .string)
    (hrun : (EOp.len true x).run lim h ev = some out) (hx : ∀ v, ev x = some v → VRel ρ v (a.eval x)) : OpRes K P a o w ρ h.length out := by
  simp only [EOp.run] at hrun
  split at hrun
  · rename_i s hb hp
    cases hrun
    have e1 := (hx _ hp).string_inv
    refine .pure (v' := .int .i64 s.size) ?_ (.plain rfl) rfl
    simp [execOp, ho, resolve, hc, ha, invoke, builtin, Builtin.len_, ht, e1, run_underlying hu, goInt]
  · rename_i hb _; cases hb
  · rename_i hb _; cases hb
  · cases hrun

theorem sound_lenSlice {c : Call} {x : Operand} {t e : TypeId} (ho : o.op = .call c) (hc : c.callee = .builtin .len) (ha : c.args = #[x]) (ht : c.argTypes[0]? = some t) (hu : P.underlying t = some (.slice e))
    (hrun : (EOp.len false x).run lim h ev = some out) (hx : ∀ v, ev x = some v → VRel ρ v (a.eval x)) : OpRes K P a o w ρ h.length out := by
  simp only [EOp.run] at hrun
  split at hrun
  · rename_i hb _; cases hb
  · rename_i hb hp
    cases hrun
    have e1 := (hx _ hp).plain_inv rfl
    refine .pure (v' := .int .i64 0) ?_ (.plain rfl) rfl
    simp [execOp, ho, resolve, hc, ha, invoke, builtin, Builtin.len_, ht, e1, run_underlying hu, goInt]
  · rename_i b off n s hb hp
    cases hrun
    obtain ⟨L, ad, cap, _, e1, _⟩ := (hx _ hp).slice_inv
    refine .pure (v' := .int .i64 n) ?_ (.plain rfl) rfl
    simp [execOp, ho, resolve, hc, ha, invoke, builtin, Builtin.len_, ht, e1, run_underlying hu, goInt]
  · cases hrun
end
end Go.Abs
/- Each operation of the abstract evaluator is what the program's operation does: strings and bytes, slices, new memory, append. -/
namespace Go.Abs
variable {K : LoopKind}
section
variable {P : Program} {a : Act} {o : Oper} {w : World} {ρ : Ren} {h : Heap} {lim : Nat} {ev : Operand → Option Value} {out : Out}

theorem E.bytes_spec : ∀ {l : List Value} {r : List UInt8}, E.bytes l = some r → ∃ ns : List Int, l = ns.map (Value.int .u8) ∧ r = ns.map fun n => UInt8.ofNat n.toNat
  | [], r, h => by simp [E.bytes] at h; subst h; exact ⟨[], rfl, rfl⟩
  | v :: l, r, h => by
    unfold E.bytes at h
    split at h
    · rename_i h1; cases h1
    · rename_i n rest h1
      cases h1
      simp only [Option.map_eq_some_iff] at h
      obtain ⟨r0, h0, rfl⟩ := h
      obtain ⟨ns, rfl, rfl⟩ := E.bytes_spec h0
      exact ⟨n :: ns, rfl, rfl⟩
    · cases h

theorem foldl_push (ns : List Int) (acc : ByteArray) : ns.foldl (fun r n => r.push (UInt8.ofNat n.toNat)) acc = ⟨acc.data ++ (ns.map fun n => UInt8.ofNat n.toNat).toArray⟩ := by
  induction ns generalizing acc with
  | nil => simp
  | cons n ns ih =>
    rw [List.foldl_cons, ih]
    congr 1
    apply Array.ext'
    simp [ByteArray.push]

theorem sound_strMove {s d : TypeId} {x : Operand} (ho : o.op = .convert s d x) (hs : P.underlying s = some .string) (hd : P.underlying d = some .string) (hrun : (EOp.strMove x).run lim h ev = some out)
    (hx : ∀ v, ev x = some v → VRel ρ v (a.eval x)) : OpRes K P a o w ρ h.length out := by
  simp only [EOp.run] at hrun
  split at hrun
  · rename_i t hp
    cases hrun
    have e1 := (hx _ hp).string_inv
    exact .pure (v' := .string t) (by simp [execOp, ho, e1, convert, run_underlying hs, run_underlying hd]) (.plain rfl) rfl
  · cases hrun

theorem sound_strOf {s d e : TypeId} {x : Operand} (ho : o.op = .convert s d x) (hs : P.underlying s = some (.slice e)) (he : P.underlying e = some (.int .u8)) (hd : P.underlying d = some .string)
    (hrun : (EOp.strOf x).run lim h ev = some out) (hx : ∀ v, ev x = some v → VRel ρ v (a.eval x)) (hblk : ∀ i ∈ out.reads, ∀ b L, h.get i = some b → ρ i = some L → BlkOk K ρ L b w.heap[L.blk]?) : OpRes K P a o w ρ h.length out := by
  simp only [EOp.run] at hrun
  split at hrun
  · rename_i hp
    cases hrun
    have e1 := (hx _ hp).plain_inv rfl
    refine .pure (v' := .string .empty) ?_ (.plain rfl) rfl
    simp [execOp, ho, e1, run_convert_bytes_string w s d e none 0 0 hs he hd, Conv.bytesToString]
  · rename_i b off n st hp
    split at hrun
    · rename_i hst
      subst hst
      split at hrun
      · rename_i k hk
        split at hrun
        · rename_i hle
          simp only [Option.map_eq_some_iff] at hrun
          obtain ⟨l, hl, rfl⟩ := hrun
          obtain ⟨L, ad, cap, hL, e1, hn, ha, hsp, _, hc, _⟩ := (hx _ hp).slice_inv
          have hkd := (hx _ hp).slice_kind hL
          obtain ⟨ns, hns, rfl⟩ := E.bytes_spec hl
          obtain ⟨vs, r, hlen, hcell⟩ := (hblk b (by simp) k L hk hL).cells hkd hle
          rw [hns] at r
          have hvs : vs = ns.map (Value.int .u8) := r.plain_eq (by simp [plainV])
          subst hvs
          have hadr : n = 0 ∨ ad = ⟨L.blk, L.off + off, none⟩ := by
            rcases Nat.eq_zero_or_pos n with h0 | h0
            · exact .inl h0
            · right
              obtain ⟨hoff, _⟩ := hc (by omega)
              replace hsp := hsp (by omega)
              obtain ⟨ab, ao, as⟩ := ad
              simp only at ha hsp hoff
              subst ha hsp hoff; rfl
          have hlc : (loadCells ad n).run P w = .ok (ns.map (Value.int .u8)).toArray w := by
            rcases hadr with h0 | rfl
            · subst h0
              have : ns = [] := List.eq_nil_of_length_eq_zero (by simpa using hlen)
              subst this
              simp [loadCells, loadCellsFrom]
            · have := run_loadCells (P := P) (w := w) (c := L.blk) (o := L.off + off) (ns.map (Value.int .u8)) 0 #[] (by intro j v hv; rw [Nat.zero_add]; exact hcell j v hv)
              rw [hlen] at this
              simpa [loadCells] using this
          refine .pure (v' := .string ⟨(ns.map fun n => UInt8.ofNat n.toNat).toArray⟩) ?_ (.plain rfl) rfl
          have hr := run_bytesToString (P := P) w ad n cap ns hlc
          rw [foldl_push] at hr
          simp only [execOp, ho, e1]
          simp only [Sem.run_bind, run_convert_bytes_string w s d e _ _ _ hs he hd, hr, Result.andThen_ok, Sem.run_pure]
          simp
        · cases hrun
      · cases hrun
    · cases hrun
  · cases hrun

theorem E.bound_run {dflt : Nat} {x : Option Operand} {r y : Nat} (hb : E.bound ev dflt x = some r) (hx : ∀ z, x = some z → ∀ v, ev z = some v → VRel ρ v (a.eval z)) (code : BoundsCode) (hy : r ≤ y) :
    (match x.map a.eval with | some v => Instr.sliceBound v y code | none => pure dflt : Sem Nat).run P w = .ok r w := by
  unfold E.bound at hb
  split at hb
  · cases hb; rfl
  · rename_i z
    split at hb
    · rename_i k n hz
      have e := (hx z rfl _ hz).int_inv
      split at hb
      · rename_i h0
        cases hb
        have : 0 ≤ n ∧ n ≤ y := ⟨h0, by omega⟩
        simp [e, Instr.sliceBound, asIntOf, this]
      · cases hb
    · cases hb

theorem run_sliceBounds {isS : Bool} {ln cap l u : Nat} {lo hi : Option Operand} (hl : E.bound ev 0 lo = some l) (hu : E.bound ev ln hi = some u) (hlu : l ≤ u) (huc : u ≤ cap)
    (hx : ∀ z, lo = some z → ∀ v, ev z = some v → VRel ρ v (a.eval z)) (hy : ∀ z, hi = some z → ∀ v, ev z = some v → VRel ρ v (a.eval z)) :
    (Instr.sliceBounds isS ln cap (lo.map a.eval) (hi.map a.eval) none).run P w = .ok (l, u, cap) w := by
  have h1 := E.bound_run (P := P) (w := w) (y := cap) hu hy (if isS then .sliceAcap else .sliceAlen) huc
  have h2 := E.bound_run (P := P) (w := w) (y := u) hl hx .sliceB hlu
  unfold Instr.sliceBounds
  cases hi with
  | none =>
    have e : ln = u := by simpa [E.bound] using hu
    subst e
    cases lo with
    | none =>
      have e : 0 = l := by simpa [E.bound] using hl
      subst e
      rfl
    | some z =>
      simp only [Option.map_some] at h2
      simp [h2]
  | some y =>
    simp only [Option.map_some] at h1
    cases lo with
    | none =>
      have e : 0 = l := by simpa [E.bound] using hl
      subst e
      simp [h1]
    | some z =>
      simp only [Option.map_some] at h2
      simp [h1, h2]

theorem sound_slice {t e : TypeId} {s : Nat} {x : Operand} {lo hi : Option Operand} (ho : o.op = .slice t x lo hi none) (hu : P.underlying t = some (.slice e)) (hs : sizeT P e = some s) (hs0 : 0 < s)
    (hrun : (EOp.slice s x lo hi).run lim h ev = some out) (hx : ∀ v, ev x = some v → VRel ρ v (a.eval x))
    (hlo : ∀ z, lo = some z → ∀ v, ev z = some v → VRel ρ v (a.eval z)) (hhi : ∀ z, hi = some z → ∀ v, ev z = some v → VRel ρ v (a.eval z)) : OpRes K P a o w ρ h.length out := by
  simp only [EOp.run] at hrun
  split at hrun
  · rename_i hp
    have e1 := (hx _ hp).plain_inv rfl
    split at hrun
    · rename_i h1 h2
      cases hrun
      have hb := run_sliceBounds (P := P) (w := w) (isS := true) (cap := 0) h1 h2 (Nat.le_refl 0) (Nat.le_refl 0) hlo hhi
      refine .pure (v' := .slice none 0 0) ?_ (.plain rfl) rfl
      simp only [execOp, ho, e1, Instr.sliceAt, Instr.slice, Option.map_none]
      simp [run_underlying hu, hb, sizeT_run hs]
    · cases hrun
  · rename_i b off n st hp
    split at hrun
    · rename_i l u hl hu'
      split at hrun
      · rename_i hc
        obtain ⟨hlu, hun, rfl⟩ := hc
        cases hrun
        obtain ⟨L, ad, cap, hL, e1, hn, ha, hsp, hz, hcc, hm⟩ := (hx _ hp).slice_inv
        have hkd := (hx _ hp).slice_kind hL
        have hb := run_sliceBounds (P := P) (w := w) (isS := true) (cap := cap) hl hu' hlu (by omega) hlo hhi
        refine .pure (v' := .slice (some (if cap = l then ad else ad.add (l * st))) (u - l) (cap - l)) ?_ ?_ rfl
        · simp only [execOp, ho, e1, Instr.sliceAt, Instr.slice, Option.map_none]
          simp [run_underlying hu, hb, sizeT_run hs]
          split <;> rfl
        · refine .slice hL (by omega) ?_ ?_ (by omega) ?_ (by omega)
          · split
            · exact ha
            · unfold Addr.add; split <;> exact ha
          · intro hne
            replace hsp := hsp (by omega)
            split
            · exact hsp
            · unfold Addr.add; split
              · exact hsp
              · rfl
          · intro hne
            replace hsp := hsp (by omega)
            obtain ⟨hoff, hle⟩ := hcc (by omega)
            rw [if_neg (by omega)]
            have hmul : cap * st = (cap - l) * st + l * st := by rw [← Nat.add_mul]; congr 1; omega
            refine ⟨?_, by omega⟩
            obtain ⟨ab, ao, as⟩ := ad
            simp only at hsp hoff
            subst hsp hoff
            rw [add_addr]
            simp only; omega
      · cases hrun
    · cases hrun
  · cases hrun

theorem sound_sliceNone {t e : TypeId} {s : Nat} {x m : Operand} {lo hi : Option Operand} (ho : o.op = .slice t x lo hi (some m)) (hu : P.underlying t = some (.slice e)) (hs : sizeT P e = some s)
    (hm : isZero (some m) = true) (hh : isZero hi = true) (hl : lo = none ∨ isZero lo = true)
    (hrun : (EOp.sliceNone s x).run lim h ev = some out) (hx : ∀ v, ev x = some v → VRel ρ v (a.eval x)) : OpRes K P a o w ρ h.length out := by
  have z : ∀ y : Option Operand, isZero y = true → y = some (.const (.int .i64 0)) := by
    intro y hy; unfold isZero at hy; split at hy <;> first | rfl | cases hy
  have em : m = .const (.int .i64 0) := by simpa using z _ hm
  have eh := z _ hh
  subst em eh
  have hb : ∀ cap, (Instr.sliceBounds true cap cap (lo.map a.eval) (some (a.eval (.const (.int .i64 0)))) (some (a.eval (.const (.int .i64 0))))).run P w = .ok (0, 0, 0) w ∧
      ∀ n, (Instr.sliceBounds true n cap (lo.map a.eval) (some (a.eval (.const (.int .i64 0)))) (some (a.eval (.const (.int .i64 0))))).run P w = .ok (0, 0, 0) w := by
    intro cap
    have : ∀ n, (Instr.sliceBounds true n cap (lo.map a.eval) (some (a.eval (.const (.int .i64 0)))) (some (a.eval (.const (.int .i64 0))))).run P w = .ok (0, 0, 0) w := by
      intro n
      rcases hl with rfl | hl
      · simp [Instr.sliceBounds, Act.eval, Instr.sliceBound, asIntOf]
      · have el := z _ hl
        subst el
        simp [Instr.sliceBounds, Act.eval, Instr.sliceBound, asIntOf]
    exact ⟨this cap, this⟩
  simp only [EOp.run] at hrun
  split at hrun
  · rename_i hp
    cases hrun
    have e1 := (hx _ hp).plain_inv rfl
    refine .pure (v' := .slice none 0 0) ?_ (.plain rfl) rfl
    simp only [execOp, ho, e1, Instr.sliceAt, Instr.slice, Option.map_some]
    simp [run_underlying hu, (hb 0).2 0, sizeT_run hs]
  · rename_i b off n st hp
    cases hrun
    obtain ⟨L, ad, cap, hL, e1, hn, ha, hsp, hz, hcc, hmx⟩ := (hx _ hp).slice_inv
    have hkd := (hx _ hp).slice_kind hL
    refine .pure (v' := .slice (some ad) 0 0) ?_ (.slice hL (Nat.le_refl 0) ha (fun q => absurd rfl q) (fun _ => rfl) (fun q => absurd rfl q) (by simp)) rfl
    simp only [execOp, ho, e1, Instr.sliceAt, Instr.slice, Option.map_some]
    simp [run_underlying hu, (hb cap).2 n, sizeT_run hs]
  · cases hrun

theorem sound_strSlice {t : TypeId} {x : Operand} {lo hi : Option Operand} (ho : o.op = .slice t x lo hi none) (hu : P.underlying t = some .string)
    (hrun : (EOp.strSlice x lo hi).run lim h ev = some out) (hx : ∀ v, ev x = some v → VRel ρ v (a.eval x))
    (hlo : ∀ z, lo = some z → ∀ v, ev z = some v → VRel ρ v (a.eval z)) (hhi : ∀ z, hi = some z → ∀ v, ev z = some v → VRel ρ v (a.eval z)) : OpRes K P a o w ρ h.length out := by
  simp only [EOp.run] at hrun
  split at hrun
  · rename_i s hp
    have e1 := (hx _ hp).string_inv
    split at hrun
    · rename_i l u hl hu'
      split at hrun
      · rename_i hc
        cases hrun
        have hb := run_sliceBounds (P := P) (w := w) (isS := false) (cap := s.size) hl hu' hc.1 hc.2 hlo hhi
        refine .pure (v' := .string (s.extract l u)) ?_ (.plain rfl) rfl
        simp only [execOp, ho, e1, Instr.sliceAt, Instr.slice, Option.map_none]
        simp [run_underlying hu, hb]
      · cases hrun
    · cases hrun
  · cases hrun

theorem sound_arrSlice {t e : TypeId} {n s : Nat} {x : Operand} {lo hi : Option Operand} (ho : o.op = .slice t x lo hi none) (hu : P.underlying t = some (.array n e)) (hs : sizeT P e = some s)
    (hrun : (EOp.arrSlice n s x lo hi).run lim h ev = some out) (hx : ∀ v, ev x = some v → VRel ρ v (a.eval x)) (hblk : ∀ i ∈ out.reads, ∀ b L, h.get i = some b → ρ i = some L → BlkOk K ρ L b w.heap[L.blk]?)
    (hlo : ∀ z, lo = some z → ∀ v, ev z = some v → VRel ρ v (a.eval z)) (hhi : ∀ z, hi = some z → ∀ v, ev z = some v → VRel ρ v (a.eval z)) : OpRes K P a o w ρ h.length out := by
  simp only [EOp.run] at hrun
  split at hrun
  · rename_i b off hp
    obtain ⟨L, hL, e1⟩ := (hx _ hp).ptr_inv
    have hkd := (hx _ hp).ptr_kind hL
    split at hrun
    · rename_i l u k hl hu' hk
      split at hrun
      · rename_i hc
        obtain ⟨hlu, hun, hle, hs0, hnm⟩ := hc
        cases hrun
        have hb := run_sliceBounds (P := P) (w := w) (isS := false) (cap := n) hl hu' hlu hun hlo hhi
        obtain ⟨cur, e', fz, h1, h2, h3, _, _⟩ := (hblk b (by simp) k L hk hL).1 hkd
        refine .pure (v' := .slice (some (if n = l then ⟨L.blk, L.off + off, none⟩ else ⟨L.blk, L.off + off + l * s, none⟩)) (u - l) (n - l)) ?_ ?_ rfl
        · simp only [execOp, ho, e1, Instr.sliceAt, Option.map_none]
          simp [run_underlying hu, hb, sizeT_run hs, Instr.sureAddr, add_addr]
        · refine .slice hL (by omega) ?_ ?_ (by omega) ?_ (by omega)
          · split <;> rfl
          · intro _; split <;> rfl
          · intro hne
            rw [if_neg (by omega)]
            have hmul : n * s = (n - l) * s + l * s := by rw [← Nat.add_mul]; congr 1; omega
            exact ⟨by simp only; omega, by omega⟩
      · cases hrun
    · cases hrun
  · cases hrun
end
end Go.Abs
/- Each operation of the abstract evaluator is what the program's operation does: new memory, append. -/
namespace Go.Abs
variable {K : LoopKind}
section
variable {P : Program} {a : Act} {o : Oper} {w : World} {ρ : Ren} {h : Heap} {lim : Nat} {ev : Operand → Option Value} {out : Out}

theorem foldl_fill (off : Nat) : ∀ (vs : List Value) (k : Nat) (cs : Array Value), (List.foldl (fun (cs : Array Value) (x : Value × Nat) => cs.setIfInBounds (off + x.2) x.1) cs (vs.zipIdx k)).toList = splice cs.toList (off + k) vs
  | [], _, _ => rfl
  | v :: r, k, cs => by
    rw [List.zipIdx_cons, List.foldl_cons, foldl_fill off r (k + 1)]
    simp [splice, Nat.add_assoc]

theorem LRel.splice {R : Value → Value → Prop} : ∀ {us vs : List Value} {xs ys : List Value} (o : Nat), LRel R xs ys → LRel R us vs → LRel R (splice xs o us) (splice ys o vs)
  | [], [], _, _, _, h, _ => h
  | _ :: _, _ :: _, _, _, o, h, k => by
    simp only [Abs.splice]
    exact LRel.splice (o + 1) (h.set o k.1) k.2
  | [], _ :: _, _, _, _, _, k => k.elim
  | _ :: _, [], _, _, _, _, k => k.elim

theorem fill_run (place : Nat → Option (Nat × Nat)) : ∀ (parts : List (Nat × Operand)) (ps : List (Nat × Nat × Operand)) (cs : List Value) (cs' : Array Value) (r : List Value),
    LRel (VRel ρ) cs cs'.toList → parts.mapM (fun (i, x) => (place i).map fun q => (q.1, q.2, x)) = some ps → fillL ev cs ps = some r →
    (∀ x ∈ parts.map (·.2), ∀ v, ev x = some v → VRel ρ v (a.eval x)) →
    ∃ r', Instr.fill place cs' (parts.map fun (i, x) => (i, a.eval x)) = some r' ∧ LRel (VRel ρ) r r'.toList
  | [], ps, cs, cs', r, hl, hp, hr, _ => by
    simp at hp
    subst hp
    simp only [fillL, Option.some.injEq] at hr
    subst hr
    exact ⟨cs', rfl, hl⟩
  | (i, x) :: parts, ps, cs, cs', r, hl, hp, hr, hx => by
    rw [List.mapM_cons] at hp
    simp only [bind, Option.bind_eq_some_iff, pure, Option.some.injEq, Option.map_eq_some_iff] at hp
    obtain ⟨_, ⟨⟨off, sz⟩, hpl, rfl⟩, rest, hrest, rfl⟩ := hp
    simp only [fillL] at hr
    split at hr
    · rename_i v hv
      have hrel := hx x (by simp) v hv
      have hcl := hrel.cells
      have hlen := hcl.len
      simp only [Array.length_toList] at hlen
      split at hr
      · rename_i hc
        have hle := hl.len
        simp only [Array.length_toList] at hle
        have hsp := hl.splice off hcl
        have := fill_run place parts rest _ (List.foldl (fun (cs : Array Value) (x : Value × Nat) => cs.setIfInBounds (off + x.2) x.1) cs' ((a.eval x).cells.toList.zipIdx)) r
          (by rw [foldl_fill]; simpa using hsp) hrest hr (fun y hy => hx y (by simp at hy ⊢; exact .inr hy))
        obtain ⟨r', h1, h2⟩ := this
        refine ⟨r', ?_, h2⟩
        simp only [List.map_cons, Instr.fill, hpl]
        have n1 : ¬ ((a.eval x).cells.size ≠ sz) := by omega
        have n2 : ¬ (off + (a.eval x).cells.size > cs'.size) := by omega
        simp only [n1, n2, decide_false, Bool.or_self, Bool.false_eq_true, if_false]
        have e : (Array.zipIdx (a.eval x).cells).foldl (fun cs x => cs.setIfInBounds (off + x.2) x.1) cs' = List.foldl (fun (cs : Array Value) (x : Value × Nat) => cs.setIfInBounds (off + x.2) x.1) cs' ((a.eval x).cells.toList.zipIdx) := by
          rw [← Array.foldl_toList]; simp
        rw [← e] at h1
        simpa [n1, n2] using h1
      · cases hr
    · cases hr

theorem run_mapM_array {α β : Type} (f : α → Sem β) (g : α → β) (P : Program) (w : World) (xs : Array α) (h : ∀ x ∈ xs.toList, (f x).run P w = .ok (g x) w) : (xs.mapM f).run P w = .ok (xs.map g) w := by
  rw [Array.mapM_eq_mapM_toList]
  have key : ∀ l : List α, (∀ x ∈ l, (f x).run P w = .ok (g x) w) → (l.mapM f).run P w = .ok (l.map g) w := by
    intro l
    induction l with
    | nil => intro _; simp
    | cons x l ih =>
      intro hl
      rw [List.mapM_cons]
      simp [hl x (by simp), ih fun y hy => hl y (by simp [hy])]
  simp only [Sem.run_map, key xs.toList h, Result.andThen_ok]
  congr 1; exact Array.ext' (by simp)

theorem places_struct {t : TypeId} {fields : Array Field} {parts : List (Nat × Operand)} {ps : List (Nat × Nat × Operand)} (hu : P.underlying t = some (.struct fields)) (hp : places P t parts = some ps) :
    parts.mapM (fun (i, x) => ((fields[i]?).bind fun f => (sizeT P f.type).map fun s => (f.offset, s)).map fun q => (q.1, q.2, x)) = some ps := by
  unfold places at hp
  simp only [hu] at hp
  rw [← hp]
  congr 1
  funext ⟨i, x⟩
  simp only
  cases fields[i]? with
  | none => rfl
  | some f => simp [Function.comp_def]

theorem sound_build {t : TypeId} {parts : Array (Nat × Operand)} {z : List Value} {ps : List (Nat × Nat × Operand)} (ho : o.op = .build t parts) (hz : zeroT P t = some z) (hp : places P t parts.toList = some ps)
    (hok : fieldsOk P t = true) (hrun : (EOp.build z ps).run lim h ev = some out) (hx : ∀ x ∈ parts.toList.map (·.2), ∀ v, ev x = some v → VRel ρ v (a.eval x)) : OpRes K P a o w ρ h.length out := by
  obtain ⟨i, zv, hi, hzv, hs, rfl, hpl⟩ := zeroT_spec hz
  simp only [EOp.run, Option.map_eq_some_iff] at hrun
  obtain ⟨cs, hcs, rfl⟩ := hrun
  have hz0 : LRel (VRel ρ) zv.cells.toList zv.cells.toList := LRel.refl_plain (fun v hv => .plain hv) hpl
  have hzr : (zeroValue t).run P w = .ok zv w := by simp [zeroValue, typeInfo, hi, hzv]
  unfold fieldsOk at hok
  split at hok
  · rename_i fields hu
    have hp' := places_struct hu hp
    obtain ⟨r', h1, h2⟩ := fill_run (a := a) (ρ := ρ) (fun i => (fields[i]?).bind fun f => (sizeT P f.type).map fun s => (f.offset, s)) _ _ _ zv.cells _ hz0 hp' hcs hx
    refine .pure (v' := .agg r') ?_ (by have := VRel.agg_mk h2; simpa using this) rfl
    have hm : (fields.mapM fun f => do pure (f.offset, ← sizeOf f.type) : Sem (Array (Nat × Nat))).run P w = .ok (fields.map fun f => (f.offset, (sizeT P f.type).getD 0)) w := by
      refine run_mapM_array _ _ P w fields fun f hf => ?_
      have hfi := List.all_eq_true.1 hok f hf
      cases hfo : P.info? f.type with
      | none => simp [hfo] at hfi
      | some j => simp [sizeOf, typeInfo, hfo, sizeT]
    have hplace : ∀ i : Nat, ((fields.map fun (f : Field) => (f.offset, (sizeT P f.type).getD 0))[i]? : Option (Nat × Nat)) = (fields[i]?).bind fun (f : Field) => (sizeT P f.type).map fun s => (f.offset, s) := by
      intro i
      rw [Array.getElem?_map]
      cases hfi : fields[i]? with
      | none => rfl
      | some f =>
        have hmem : f ∈ fields.toList := by simpa using Array.mem_of_getElem? hfi
        have hfo := List.all_eq_true.1 hok f hmem
        cases hfo2 : P.info? f.type with
        | none => simp [hfo2] at hfo
        | some j => simp [sizeT, hfo2]
    simp only [execOp, ho, Instr.build]
    simp only [Sem.run_bind, hzr, Result.andThen_ok, run_underlying hu, hm]
    have e : (parts.map fun (i, x) => (i, a.eval x)).toList = parts.toList.map fun (i, x) => (i, a.eval x) := by simp
    rw [e]
    have e2 : (fun (x : Nat) => (fields.map fun (f : Field) => (f.offset, (sizeT P f.type).getD 0))[x]?) = fun i => (fields[i]?).bind fun (f : Field) => (sizeT P f.type).map fun s => (f.offset, s) := funext hplace
    rw [e2, h1]
    rfl
  · rename_i n elem hu
    unfold places at hp
    simp only [hu] at hp
    cases hs' : sizeT P elem with
    | none => simp [hs'] at hp
    | some s =>
      simp only [hs', Option.some.injEq] at hp
      have hp' : parts.toList.mapM (fun (i, x) => (some (i * s, s) : Option (Nat × Nat)).map fun q => (q.1, q.2, x)) = some ps := by
        rw [← hp]
        generalize parts.toList = l
        induction l with
        | nil => rfl
        | cons x l ih => rw [List.mapM_cons]; simp only [bind, Option.map_some, Option.bind_some] at ih ⊢; rw [ih]; rfl
      obtain ⟨r', h1, h2⟩ := fill_run (a := a) (ρ := ρ) (fun i => some (i * s, s)) _ _ _ zv.cells _ hz0 hp' hcs hx
      refine .pure (v' := .agg r') ?_ (by have := VRel.agg_mk h2; simpa using this) rfl
      simp only [execOp, ho, Instr.build]
      simp only [Sem.run_bind, hzr, Result.andThen_ok, run_underlying hu, sizeT_run hs']
      have e : (parts.map fun (i, x) => (i, a.eval x)).toList = parts.toList.map fun (i, x) => (i, a.eval x) := by simp
      rw [e, h1]
      rfl
  · cases hok

theorem zeros_get {z : List Value} {n i : Nat} {v : Value} (h : (zeros z n)[i]? = some v) (hz : z ≠ []) : i < n * z.length ∧ z[i % z.length]? = some v := by
  have key : ∀ n i, ((List.replicate n z).flatten)[i]? = some v → i < n * z.length ∧ z[i % z.length]? = some v := by
    intro n
    induction n with
    | zero => intro i h; simp at h
    | succ n ih =>
      intro i h
      rw [List.replicate_succ, List.flatten_cons] at h
      by_cases hi : i < z.length
      · rw [List.getElem?_append_left hi] at h
        refine ⟨?_, by rw [Nat.mod_eq_of_lt hi]; exact h⟩
        have : z.length ≤ (n + 1) * z.length := Nat.le_mul_of_pos_left _ (by omega)
        omega
      · rw [List.getElem?_append_right (by omega)] at h
        obtain ⟨h1, h2⟩ := ih _ h
        rw [Nat.add_one_mul]
        refine ⟨by omega, ?_⟩
        rw [Nat.mod_eq_sub_mod (by omega)]; exact h2
  unfold zeros at h
  split at h
  · rename_i u
    rw [List.getElem?_replicate] at h
    split at h
    · cases h
      exact ⟨by simpa, by simp [Nat.mod_one]⟩
    · cases h
  · exact key n i h

theorem zeros_length (z : List Value) (n : Nat) : (zeros z n).length = n * z.length := by
  unfold zeros
  split <;> simp

theorem madeCells_get {z : List Value} (hz : z ≠ []) {n m i : Nat} {v : Value} (h : (zeros z n)[i]? = some v) (hm : n * z.length ≤ m) :
    ((Array.range m).map (fun j => z.toArray[j % z.toArray.size]!))[i]? = some v := by
  obtain ⟨h1, h2⟩ := zeros_get h hz
  rw [Array.getElem?_map, Array.getElem?_range, if_pos (by omega)]
  simp only [Option.map_some, List.size_toArray]
  have : i % z.length < z.length := Nat.mod_lt _ (by have := List.length_pos_iff.2 hz; omega)
  simp [getElem!_pos, this]
  rw [List.getElem?_eq_getElem this] at h2
  simpa using h2

theorem zeros_plain {z : List Value} (hz : z.all plainV = true) (n : Nat) : (zeros z n).all plainV = true := by
  unfold zeros
  split
  · simp at hz; simp [hz]
  · rw [List.all_eq_true]
    intro x hx
    simp only [List.mem_flatten, List.mem_replicate] at hx
    obtain ⟨l, ⟨_, rfl⟩, hx⟩ := hx
    exact List.all_eq_true.1 hz x hx

theorem sound_makeSlice {t e : TypeId} {i : TypeInfo} {z : List Value} {l c : Operand} (ho : o.op = .makeSlice t l c) (hu : P.underlying t = some (.slice e)) (hi : P.info? e = some i) (hz : zeroT P e = some z) (hs0 : 0 < i.size)
    (hrun : (EOp.makeSlice i.size i.bytes z l c).run lim h ev = some out) (hl : ∀ v, ev l = some v → VRel ρ v (a.eval l)) (hc : ∀ v, ev c = some v → VRel ρ v (a.eval c)) : OpRes K P a o w ρ h.length out := by
  obtain ⟨i', zv, hi', hzv, hs, rfl, hpl⟩ := zeroT_spec hz
  rw [hi] at hi'
  cases hi'
  simp only [EOp.run] at hrun
  split at hrun
  · rename_i k1 n k2 m hn hm
    have e1 := (hl _ hn).int_inv
    have e2 := (hc _ hm).int_inv
    split at hrun
    · rename_i hcd
      obtain ⟨h0, h1, h2, h3⟩ := hcd
      cases hrun
      have hm0 : 0 ≤ m := by omega
      obtain ⟨m, rfl⟩ := Int.eq_ofNat_of_zero_le hm0
      obtain ⟨n, rfl⟩ := Int.eq_ofNat_of_zero_le h0
      have h3' : m ≤ maxLen := by exact_mod_cast h3
      have hmx : (m : Int) ≤ 9223372036854775807 := by simp only [maxLen] at h3'; omega
      have hrunm := run_make (P := P) w t e i zv hu hi hzv k1 k2 n m h0 h1 (by omega) hmx
      simp only [Int.toNat_natCast] at hrunm
      have hzne : zv.cells.toList ≠ [] := fun q => by
        have q2 : zv.cells.size = 0 := by rw [← Array.length_toList, q]; rfl
        omega
      refine .push (cs := zeros zv.cells.toList n) (cur := madeCells zv.cells (m * i.size)) (e := e) (fz := (0, 0)) (rw := true)
        (v' := .slice (some ⟨w.heap.size, 0, none⟩) n m) (w' := w.alloc (.cells (madeCells zv.cells (m * i.size)) e)) ?_ rfl ⟨rfl, rfl, rfl⟩ (by simp) (fun _ => rfl) ?_ ?_ ?_
      · simp [execOp, ho, e1, e2, hrunm]
      · simp [zeros_length, hs, size_madeCells]
        have : (n : Int) ≤ m := h1
        exact Nat.mul_le_mul_right _ (by omega)
      · intro j v hv
        refine ⟨v, ?_, .plain (List.all_eq_true.1 (zeros_plain hpl n) v (List.mem_of_getElem? hv))⟩
        have := madeCells_get hzne (m := m * i.size) hv (by simp [hs]; exact Nat.mul_le_mul_right _ (by omega))
        simpa [madeCells] using this
      · refine .slice (L := ⟨w.heap.size, 0, (madeCells zv.cells (m * i.size)).size, false⟩) (by simp [upd]) (by simp only [Int.toNat_natCast]; omega) rfl (fun _ => rfl) (by omega) (fun _ => ⟨by simp, by simp [size_madeCells]⟩) h3'
    · cases hrun
  · cases hrun
end
end Go.Abs
/- Each operation of the abstract evaluator is what the program's operation does: slices of parts, bytes of a string, append, a sum with carry. -/
namespace Go.Abs
variable {K : LoopKind}
section
variable {P : Program} {a : Act} {o : Oper} {w : World} {ρ : Ren} {h : Heap} {lim : Nat} {ev : Operand → Option Value} {out : Out}

theorem sound_buildSlice {t e : TypeId} {ln s : Nat} {parts : Array (Nat × Operand)} {z : List Value} (ho : o.op = .buildSlice t ln parts) (hu : P.underlying t = some (.slice e)) (hs : sizeT P e = some s) (hz : zeroT P e = some z)
    (hs0 : 0 < s) (h24 : ln * s ≤ 2 ^ 24) (hrun : (EOp.buildSlice s ln (zeros z ln) (parts.toList.map fun (i, x) => (i * s, s, x))).run lim h ev = some out)
    (hx : ∀ x ∈ parts.toList.map (·.2), ∀ v, ev x = some v → VRel ρ v (a.eval x)) : OpRes K P a o w ρ h.length out := by
  obtain ⟨i, zv, hi, hzv, hsz, rfl, hpl⟩ := zeroT_spec hz
  have hs' : i.size = s := by simpa [sizeT, hi] using hs
  simp only [EOp.run, Option.map_eq_some_iff] at hrun
  obtain ⟨cs, hcs, rfl⟩ := hrun
  have hzne : zv.cells.toList ≠ [] := fun q => by
    have q2 : zv.cells.size = 0 := by rw [← Array.length_toList, q]; rfl
    omega
  have hlen : (zeros zv.cells.toList ln).length = ln * s := by rw [zeros_length]; simp [hsz, hs']
  have e0 : (Array.range (ln * s)).map (fun j => zv.cells[j % zv.cells.size]!) = (zeros zv.cells.toList ln).toArray := by
    apply Array.ext
    · simp [hlen]
    · intro j h1 h2
      have hj : j < (zeros zv.cells.toList ln).length := by simpa using h2
      have hv := madeCells_get hzne (n := ln) (m := ln * s) (i := j) (v := (zeros zv.cells.toList ln)[j]) (by simp) (by simp [hsz, hs'])
      rw [Array.getElem?_eq_some_iff] at hv
      obtain ⟨_, hv⟩ := hv
      simpa using hv
  have hz0 : LRel (VRel ρ) (zeros zv.cells.toList ln) (zeros zv.cells.toList ln).toArray.toList := by
    simpa using LRel.refl_plain (R := VRel ρ) (fun v hv => .plain hv) (zeros_plain hpl ln)
  have hp' : parts.toList.mapM (fun (i, x) => (some (i * s, s) : Option (Nat × Nat)).map fun q => (q.1, q.2, x)) = some (parts.toList.map fun (i, x) => (i * s, s, x)) := by
    generalize parts.toList = l
    induction l with
    | nil => rfl
    | cons x l ih => rw [List.mapM_cons]; simp only [bind, Option.map_some, Option.bind_some] at ih ⊢; rw [ih]; rfl
  obtain ⟨r', h1, h2⟩ := fill_run (a := a) (ρ := ρ) (fun i => some (i * s, s)) _ _ _ (zeros zv.cells.toList ln).toArray _ hz0 hp' hcs hx
  have hlr := h2.len
  simp only [Array.length_toList] at hlr
  have hfl : ∀ (ps : List (Nat × Nat × Operand)) (c r : List Value), fillL ev c ps = some r → r.length = c.length := by
    intro ps
    induction ps with
    | nil => intro c r hr; simp [fillL] at hr; rw [hr]
    | cons q ps ih =>
      intro c r hr
      obtain ⟨a1, a2, a3⟩ := q
      simp only [fillL] at hr
      split at hr
      · split at hr
        · rw [ih _ _ hr, splice_length]
        · cases hr
      · cases hr
  have hcl := hfl _ _ _ hcs
  refine .push (cs := cs) (cur := r') (e := e) (fz := (0, 0)) (rw := true) (v' := .slice (some ⟨w.heap.size, 0, none⟩) ln ln) (w' := { w with heap := w.heap.push (.cells r' e) }) ?_ rfl ⟨rfl, rfl, rfl⟩ rfl (fun _ => rfl) (by omega) ?_ ?_
  · simp only [execOp, ho, Instr.buildSlice]
    have hzr : (zeroValue e).run P w = .ok zv w := by simp [zeroValue, typeInfo, hi, hzv]
    have hn24 : ¬ (ln * s > 2 ^ 24) := by omega
    simp only [Sem.run_bind, run_underlying hu, Result.andThen_ok, sizeT_run hs, hn24, if_false]
    have e : (parts.map fun (i, x) => (i, a.eval x)).toList = parts.toList.map fun (i, x) => (i, a.eval x) := by simp
    by_cases hq : ln * s = 0
    · have hl0 : ln = 0 := by
        rcases Nat.mul_eq_zero.1 hq with q | q
        · exact q
        · omega
      subst hl0
      have e0' : (zeros zv.cells.toList 0).toArray = #[] := by
        have : (zeros zv.cells.toList 0).length = 0 := by rw [zeros_length]; simp
        rw [List.eq_nil_of_length_eq_zero this]
      rw [e0'] at h1
      simp only [Nat.zero_mul, if_true, Sem.run_pure, Array.range_zero', e]
      simp [h1, newRow]
    · simp only [hq, if_false, Sem.run_bind, hzr, Result.andThen_ok, Sem.run_pure, e0, e, h1]
      simp [newRow]
  · intro j v hv
    obtain ⟨v', a1, a2⟩ := h2.get hv
    exact ⟨v', by simpa using a1, a2⟩
  · refine .slice (L := ⟨w.heap.size, 0, r'.size, false⟩) (by simp [upd]) (Nat.le_refl _) rfl (fun _ => rfl) (by omega) (fun _ => ⟨rfl, by simp only; omega⟩) ?_
    have : ln ≤ ln * s := Nat.le_mul_of_pos_right ln hs0
    unfold maxLen; omega

theorem push_modify {α : Type} (xs : Array α) (x : α) (f : α → α) : (xs.push x).modify xs.size f = xs.push (f x) := by
  apply Array.ext
  · simp
  · intro i h1 h2
    rw [Array.getElem_modify]
    by_cases hi : xs.size = i
    · subst hi; simp
    · have h3 : i < xs.size := by simp at h1; omega
      simp [hi, Array.getElem_push, h3]

theorem run_markStringish (P : Program) (w : World) (cells : Array Value) (e : TypeId) :
    (markStringish ⟨w.heap.size, 0, none⟩).run P (w.alloc (.cells cells e)) = .ok () (w.alloc (.cells cells e (cells.size, cells.size + 1))) := by
  have h0 := heap_alloc_new w (.cells cells e)
  have h1 : (w.alloc (.cells cells e)).shape? w.heap.size = some (e, cells.size) := by unfold World.shape?; rw [h0]
  have h2 : ((w.alloc (.cells cells e)).freeze ⟨w.heap.size, cells.size, none⟩ 1) = w.alloc (.cells cells e (cells.size, cells.size + 1)) := by
    unfold World.freeze World.alloc
    rw [if_neg (by omega)]
    simp only [push_modify]
    rfl
  unfold markStringish
  simp only [Sem.run_bind, run_shape, Result.andThen_ok]
  rw [h1]
  simp only [run_freeze]
  rw [h2]

theorem sound_bytesOf {s d e : TypeId} {x : Operand} (ho : o.op = .convert s d x) (hs : P.underlying s = some .string) (he : P.underlying e = some (.int .u8)) (hd : P.underlying d = some (.slice e))
    (hrun : (EOp.bytesOf x).run lim h ev = some out) (hx : ∀ v, ev x = some v → VRel ρ v (a.eval x)) : OpRes K P a o w ρ h.length out := by
  simp only [EOp.run] at hrun
  split at hrun
  · rename_i t hp
    split at hrun
    · rename_i hle
      cases hrun
      have e1 := (hx _ hp).string_inv
      have hcap := grownCap_ge w t.size 0 e
      have hmx := grownCap_le_maxLen w t.size 0 e hle
      let cur : Array Value := (t.data.map fun b => Value.int .u8 b.toNat) ++ Array.replicate (grownCap w t.size 0 e - t.size) (.int .u8 0)
      have hsz : cur.size = grownCap w t.size 0 e := by
        have : t.data.size = t.size := rfl
        simp [cur]; omega
      refine .push (cs := t.toList.map fun c => .int .u8 c.toNat) (cur := cur) (e := e) (fz := (cur.size, cur.size + 1)) (rw := false)
        (v' := .slice (some ⟨w.heap.size, 0, none⟩) t.size (grownCap w t.size 0 e)) (w' := (w.drew.alloc (.cells cur e (cur.size, cur.size + 1)))) ?_ rfl ⟨rfl, rfl, rfl⟩ rfl (fun q => by cases q) ?_ ?_ ?_
      · simp only [execOp, ho, e1]
        have : (convert s d (.string t)).run P w = .ok (.slice (some ⟨w.heap.size, 0, none⟩) t.size (grownCap w t.size 0 e)) (w.drew.alloc (.cells cur e (cur.size, cur.size + 1))) := by
          have hm := run_markStringish P w.drew cur e
          simp only [convert, Sem.run_bind, run_underlying hs, run_underlying hd, run_underlying he, Result.andThen_ok, Conv.stringToBytes, run_choose, Question.forced, Bool.false_eq_true, if_false, newRow, run_newObj]
          show ((markStringish ⟨w.drew.heap.size, 0, none⟩).run P (w.drew.alloc (.cells cur e))).andThen _ = _
          rw [hm]
          rfl
        simp [this]
      · simp [ByteArray.toList_eq, hsz]; have : t.data.size = t.size := rfl
        omega
      · intro i v hv
        refine ⟨v, ?_, .plain ?_⟩
        · simp only [cur]
          rw [ByteArray.toList_eq] at hv
          have hlt : i < t.data.size := by
            have := (List.getElem?_eq_some_iff.1 hv).1
            simpa using this
          rw [Array.getElem?_append_left (by simpa using hlt)]
          simpa using hv
        · have := List.mem_of_getElem? hv
          simp at this
          obtain ⟨c, _, rfl⟩ := this
          rfl
      · exact .slice (L := ⟨w.heap.size, 0, cur.size, false⟩) (by simp [upd]) hcap rfl (fun _ => rfl) (by omega) (fun _ => ⟨rfl, by simp only; omega⟩) hmx
    · cases hrun
  · cases hrun
/-- The cells that an append adds, in the program's own memory. -/
theorem added_spec {es : Nat} {x : Operand} {v : Value} {m : Nat} {xs : List Value} {rd : List Nat} (hes : 0 < es) (ha : E.added h es v = some (m, xs, rd)) (hv : VRel ρ v (a.eval x))
    (hblk : ∀ i ∈ rd, ∀ b L, h.get i = some b → ρ i = some L → BlkOk K ρ L b w.heap[L.blk]?) :
    (m = 0 ∧ xs = [] ∧ ((∃ c, a.eval x = .slice none 0 c) ∨ ∃ ad c, a.eval x = .slice (some ad) 0 c)) ∨
    (0 < m ∧ ∃ ad c news, a.eval x = .slice (some ad) m c ∧ news.length = m * es ∧ LRel (VRel ρ) xs news ∧ ∀ (j : Nat) u, news[j]? = some u → w.cell? (ad.add j) = some u) := by
  unfold E.added at ha
  split at ha
  · cases ha
    exact .inl ⟨rfl, rfl, .inl ⟨0, hv.plain_inv rfl⟩⟩
  · rename_i b off n s
    obtain ⟨L, ad, cap, hL, e1, hn, hab, hsp, hz, hc, _⟩ := hv.slice_inv
    have hkd := hv.slice_kind hL
    split at ha
    · rename_i h0
      cases ha
      subst h0
      exact .inl ⟨rfl, rfl, .inr ⟨ad, cap, e1⟩⟩
    · rename_i hn0
      split at ha
      · rename_i hse
        subst hse
        split at ha
        · rename_i k hk
          split at ha
          · rename_i hle
            cases ha
            obtain ⟨vs, r, hl, hcell⟩ := (hblk b (by simp) k L hk hL).cells hkd hle
            refine .inr ⟨by omega, ad, cap, vs, e1, hl, r, ?_⟩
            obtain ⟨hoff, _⟩ := hc (by omega)
            replace hsp := hsp (by omega)
            obtain ⟨ab, ao, as⟩ := ad
            simp only at hab hsp hoff
            subst hab hsp hoff
            intro j u hu
            rw [add_addr]
            exact hcell j u hu
          · cases ha
        · cases ha
      · cases ha
  · cases ha

theorem oneCell_rel {xs ys : List Value} (hr : LRel (VRel ρ) xs ys) (h1 : xs.all Value.oneCell' = true) : ∀ v ∈ ys, v.oneCell' = true := by
  intro v hv
  obtain ⟨i, hi, rfl⟩ := List.getElem_of_mem hv
  have hl := hr.len
  obtain ⟨y, hy, r⟩ := hr.get (i := i) (x := xs[i]'(by omega)) (by simp)
  rw [List.getElem?_eq_getElem hi] at hy
  cases hy
  rw [r.oneCell]
  exact List.all_eq_true.1 h1 _ (List.getElem_mem _)

theorem run_append_zero {t e ty : TypeId} {i : TypeInfo} (ht : P.underlying t = some (.slice e)) (hi : P.info? e = some i) {base : Option Addr} {n cap : Nat} (hn : n ≤ cap) {v : Value}
    (hv : (∃ c, v = .slice none 0 c) ∨ ∃ ad c, v = .slice (some ad) 0 c) : (Builtin.append_ #[t, t] ty #[.slice base n cap, v]).run P w = .ok (.slice base n cap) w := by
  rcases hv with ⟨c, rfl⟩ | ⟨ad, c, rfl⟩ <;> cases base <;>
    simp [Builtin.append_, run_underlying ht, sizeOf, typeInfo, hi, Builtin.lenOf, hn, Builtin.firstCells, loadCells, loadCellsFrom, storeCells]

theorem run_append_in {t e ty : TypeId} {i : TypeInfo} (ht : P.underlying t = some (.slice e)) (hi : P.info? e = some i) {g o sLen sCap m c : Nat} {cur : Array Value} {e' : TypeId} (hg : w.heap[g]? = some (.cells cur e' (0, 0)))
    {ad : Addr} {news : List Value} (hl : news.length = m * i.size) (hnews : ∀ (j : Nat) u, news[j]? = some u → w.cell? (ad.add j) = some u) (h1 : ∀ u ∈ news, u.oneCell' = true)
    (hroom : sLen + m ≤ sCap) (hfit : o + sLen * i.size + news.length ≤ cur.size) :
    (Builtin.append_ #[t, t] ty #[.slice (some ⟨g, o, none⟩) sLen sCap, .slice (some ad) m c]).run P w =
      .ok (.slice (some ⟨g, o, none⟩) (sLen + m) sCap) (w.setRow g (cur.toList.take (o + sLen * i.size) ++ news ++ cur.toList.drop (o + sLen * i.size + news.length)).toArray) := by
  have hf := run_firstCells_some (P := P) w i.size m ad m c news hl hnews
  have hst := run_storeCells_at P g (o + sLen * i.size) e' news 0 cur w hg (by simpa using hfit) h1
  simp only [Nat.add_zero] at hst
  simp [Builtin.append_, run_underlying ht, sizeOf, typeInfo, hi, Builtin.lenOf, hroom, hf, add_addr, hst]

theorem append_grown {t e ty : TypeId} {i : TypeInfo} {zv : Value} (ht : P.underlying t = some (.slice e)) (hi : P.info? e = some i) (hz : i.zero = some zv) (hzs : zv.cells.size = i.size)
    {b : Addr} {sLen sCap m c : Nat} {olds news : List Value} (hlo : olds.length = sLen * i.size) (holds : ∀ (j : Nat) v, olds[j]? = some v → w.cell? (b.add j) = some v)
    {ad : Addr} (hl : news.length = m * i.size) (hnews : ∀ (j : Nat) v, news[j]? = some v → w.cell? (ad.add j) = some v) (hg : sCap < sLen + m) (hmx : sLen + m ≤ maxLen) (hb : (sLen + m) * i.bytes ≤ 140737488355328) :
    ∃ cap cur, (Builtin.append_ #[t, t] ty #[.slice (some b) sLen sCap, .slice (some ad) m c]).run P w = .ok (.slice (some ⟨w.heap.size, 0, none⟩) (sLen + m) cap) (w.drew.alloc (.cells cur e)) ∧
      sLen + m ≤ cap ∧ cap ≤ maxLen ∧ cur.size = cap * i.size ∧ ∀ (j : Nat) v, (olds ++ news)[j]? = some v → cur[j]? = some v := by
  have hmx' : ((sLen + m : Nat) : Int) ≤ 9223372036854775807 := by simp only [maxLen] at hmx; omega
  refine ⟨_, _, run_append_grow (P := P) w t ty e i zv ht hi hz b sLen sCap olds hlo holds ad m c news hl hnews hg hmx' (growslice_fits hg hb), grownCap_ge _ _ _ _, grownCap_le_maxLen _ _ _ _ hmx, ?_, ?_⟩
  · have hge := grownCap_ge w (sLen + m) sCap e
    simp only [Array.size_append, List.size_toArray, size_zeroCells, hzs, hlo, hl, ← Nat.add_mul]
    congr 1; omega
  · intro j v hv
    have hj : j < (olds ++ news).length := (List.getElem?_eq_some_iff.1 hv).1
    rw [Array.getElem?_append_left (by simpa using hj)]
    simpa using hv

theorem append_grown_nil {t e ty : TypeId} {i : TypeInfo} {zv : Value} (ht : P.underlying t = some (.slice e)) (hi : P.info? e = some i) (hz : i.zero = some zv) (hzs : zv.cells.size = i.size)
    {m c : Nat} {news : List Value} {ad : Addr} (hl : news.length = m * i.size) (hnews : ∀ (j : Nat) v, news[j]? = some v → w.cell? (ad.add j) = some v) (hg : 0 < m) (hmx : m ≤ maxLen) (hb : m * i.bytes ≤ 140737488355328) :
    ∃ cap cur, (Builtin.append_ #[t, t] ty #[.slice none 0 0, .slice (some ad) m c]).run P w = .ok (.slice (some ⟨w.heap.size, 0, none⟩) m cap) (w.drew.alloc (.cells cur e)) ∧
      m ≤ cap ∧ cap ≤ maxLen ∧ cur.size = cap * i.size ∧ ∀ (j : Nat) v, news[j]? = some v → cur[j]? = some v := by
  have hmx' : (m : Int) ≤ 9223372036854775807 := by simp only [maxLen] at hmx; omega
  refine ⟨_, _, run_append_nil (P := P) w t ty e i zv ht hi hz ad m c news hl hnews hg hmx' (by omega), grownCap_ge _ _ _ _, grownCap_le_maxLen _ _ _ _ hmx, ?_, ?_⟩
  · have hge := grownCap_ge w m 0 e
    simp only [Array.size_append, List.size_toArray, size_zeroCells, hzs, hl, ← Nat.add_mul]
    congr 1; omega
  · intro j v hv
    have hj : j < news.length := (List.getElem?_eq_some_iff.1 hv).1
    rw [Array.getElem?_append_left (by simpa using hj)]
    simpa using hv

theorem OpRes.grown {m es cap : Nat} {xs news : List Value} {cur : Array Value} {e : TypeId} {rd : List Nat} (hrun : (execOp a.eval o).run P w = .ok (.value (.slice (some ⟨w.heap.size, 0, none⟩) m cap)) (w.drew.alloc (.cells cur e)))
    (hr : LRel (VRel ρ) xs news) (hes : 0 < es) (hl : news.length = m * es) (h1 : m ≤ cap) (h2 : cap ≤ maxLen) (h3 : cur.size = cap * es) (h4 : ∀ (j : Nat) v, news[j]? = some v → cur[j]? = some v) :
    OpRes K P a o w ρ h.length ⟨.slice (some ⟨h.length, 0, none⟩) m es, rd, .push ⟨xs, true⟩⟩ := by
  refine .push (cs := xs) (cur := cur) (e := e) (fz := (0, 0)) (rw := true) hrun rfl ⟨rfl, rfl, rfl⟩ rfl (fun _ => rfl) ?_ ?_ ?_
  · rw [hr.len, hl, h3]; exact Nat.mul_le_mul_right _ h1
  · intro j v hv
    obtain ⟨v', a1, a2⟩ := hr.get hv
    exact ⟨v', h4 j v' a1, a2⟩
  · exact .slice (L := ⟨w.heap.size, 0, cur.size, false⟩) (by simp [upd]) h1 rfl (fun _ => rfl) (by omega) (fun _ => ⟨rfl, by simp only; omega⟩) h2

theorem sound_append {c : Call} {s x : Operand} {t e : TypeId} {i : TypeInfo} {z : List Value} (ho : o.op = .call c) (hc : c.callee = .builtin .append) (hargs : c.args = #[s, x]) (hty : c.argTypes = #[t, t])
    (hu : P.underlying t = some (.slice e)) (hi : P.info? e = some i) (hz : zeroT P e = some z) (hs0 : 0 < i.size)
    (hrun : (EOp.append i.size i.bytes s x).run lim h ev = some out) (hs : ∀ v, ev s = some v → VRel ρ v (a.eval s)) (hx : ∀ v, ev x = some v → VRel ρ v (a.eval x))
    (hblk : ∀ i ∈ out.reads ++ out.eff.writes, ∀ b L, h.get i = some b → ρ i = some L → BlkOk K ρ L b w.heap[L.blk]?) : OpRes K P a o w ρ h.length out := by
  obtain ⟨i', zv, hi', hzv, hzs, rfl, hpl⟩ := zeroT_spec hz
  rw [hi] at hi'
  cases hi'
  have hexec : ∀ v' w', (Builtin.append_ #[t, t] o.type #[a.eval s, a.eval x]).run P w = .ok v' w' → (execOp a.eval o).run P w = .ok (.value v') w' := by
    intro v' w' hq
    simp [execOp, ho, resolve, hc, invoke, builtin, hargs, hty, hq]
  simp only [EOp.run] at hrun
  split at hrun
  · rename_i sv xv hsv hxv
    have hsr := hs _ hsv
    have hxr := hx _ hxv
    unfold E.append at hrun
    split at hrun
    · cases hrun
    · rename_i m xs rd hadd
      split at hrun
      · rename_i hone
        have hsub : ∀ {l : List Nat} {v : Value} {ef : Eff}, out = ⟨v, l, ef⟩ → (∀ j ∈ rd, j ∈ l) → (∀ j ∈ rd, ∀ b L, h.get j = some b → ρ j = some L → BlkOk K ρ L b w.heap[L.blk]?) := by
          intro l v ef e1 e2 j hj
          exact hblk j (by rw [e1]; simp; exact .inl (e2 j hj))
        split at hrun
        · -- nil
          have es := hsr.plain_inv rfl
          split at hrun
          · rename_i hm0
            cases hrun
            have had := added_spec hs0 hadd hxr (hsub rfl fun _ q => q)
            rcases had with ⟨_, _, hv⟩ | ⟨h0, _⟩
            · exact .pure (v' := .slice none 0 0) (hexec _ _ (by rw [es]; exact run_append_zero hu hi (Nat.le_refl 0) hv)) (.plain rfl) rfl
            · omega
          · rename_i hm0
            split at hrun
            · rename_i hcd
              cases hrun
              have had := added_spec hs0 hadd hxr (hsub rfl fun _ q => q)
              rcases had with ⟨h0, _⟩ | ⟨h0, ad, cc, news, ex, hl, hr, hcell⟩
              · omega
              · obtain ⟨cap, cur, r1, r2, r3, r4, r5⟩ := append_grown_nil (P := P) (w := w) (ty := o.type) (c := cc) hu hi hzv hzs hl hcell h0 hcd.2 hcd.1
                exact .grown (hexec _ _ (by rw [es, ex]; exact r1)) hr hs0 hl r2 r3 r4 r5
            · cases hrun
        · rename_i b off n st
          obtain ⟨L, ad0, cap0, hL, es, hn, hab, hsp, hz0, hcc, hcm⟩ := hsr.slice_inv
          have hkd := hsr.slice_kind hL
          split at hrun
          · rename_i hst0
            have hcap0 := hz0 hst0
            split at hrun
            · rename_i hn0
              subst hn0
              split at hrun
              · rename_i hm0
                cases hrun
                have had := added_spec hs0 hadd hxr (hsub rfl fun _ q => q)
                rcases had with ⟨_, _, hv⟩ | ⟨h0, _⟩
                · subst hcap0
                  refine .pure (v' := .slice (some ad0) 0 0) (hexec _ _ (by rw [es]; exact run_append_zero hu hi (Nat.le_refl 0) hv)) ?_ rfl
                  exact .slice hL (Nat.le_refl 0) hab (fun q => absurd rfl q) (fun _ => rfl) (fun q => absurd rfl q) (by simp)
                · omega
              · split at hrun
                · rename_i hcd
                  cases hrun
                  have had := added_spec hs0 hadd hxr (hsub rfl fun _ q => q)
                  rcases had with ⟨h0, _⟩ | ⟨h0, ad, cc, news, ex, hl, hr, hcell⟩
                  · omega
                  · subst hcap0
                    obtain ⟨cap, cur, r1, r2, r3, r4, r5⟩ := append_grown (P := P) (w := w) (ty := o.type) (c := cc) (b := ad0) (sLen := 0) (sCap := 0) (olds := []) hu hi hzv hzs (by simp) (by simp) hl hcell (by omega) (by simpa using hcd.2) (by simpa using hcd.1)
                    simp only [Nat.zero_add, List.nil_append] at r1 r2 r5
                    exact .grown (hexec _ _ (by rw [es, ex]; exact r1)) hr hs0 hl r2 r3 r4 r5
                · cases hrun
            · cases hrun
          · split at hrun
            · rename_i hst
              subst hst
              split at hrun
              · rename_i hm0
                cases hrun
                have had := added_spec hs0 hadd hxr (hsub rfl fun _ q => q)
                rcases had with ⟨_, _, hv⟩ | ⟨h0, _⟩
                · refine .pure (v' := .slice (some ad0) n cap0) (hexec _ _ (by rw [es]; exact run_append_zero hu hi hn hv)) ?_ rfl
                  exact .slice hL hn hab hsp hz0 hcc hcm
                · omega
              · split at hrun
                · rename_i k hk
                  split at hrun
                  · rename_i hcd
                    obtain ⟨hrw, hend, hbytes, hmx⟩ := hcd
                    cases hrun
                    have had := added_spec hs0 hadd hxr (hsub rfl fun _ q => by simp [q])
                    rcases had with ⟨h0, _⟩ | ⟨h0, ad, cc, news, ex, hl, hr, hcell⟩
                    · omega
                    · have hB := hblk b (by simp) k L hk hL
                      have hB' := hB.1 hkd
                      obtain ⟨cur, e', fz, c1, c2, c3, c4, c5⟩ := hB'
                      obtain rfl := c4 hrw
                      obtain ⟨olds, q1, q2, q3⟩ := hB.cells hkd (o := off) (n := n * i.size) (by omega)
                      have hdrop : (k.cells.drop off).take (n * i.size) = k.cells.drop off := List.take_of_length_le (by simp; omega)
                      rw [hdrop] at q1
                      have hcat : LRel (VRel ρ) (k.cells.drop off ++ xs) (olds ++ news) := q1.append hr
                      by_cases hroom : n + m ≤ cap0
                      · -- in place
                        obtain ⟨hoff, htot⟩ := hcc (by omega)
                        replace hsp := hsp (by omega)
                        obtain ⟨ab, ao, as⟩ := ad0
                        simp only at hab hsp hoff
                        subst hab hsp hoff
                        have hmul : (n + m) * i.size ≤ cap0 * i.size := Nat.mul_le_mul_right _ hroom
                        rw [Nat.add_mul] at hmul
                        have hrun' := run_append_in (P := P) (w := w) (ty := o.type) (c := cc) (sCap := cap0) hu hi c1 (o := L.off + off) (sLen := n) hl hcell (oneCell_rel hr hone) hroom (by omega)
                        refine ⟨.value _, .slice (some ⟨L.blk, L.off + off, none⟩) (n + m) cap0, _, upd ρ h.length ⟨L.blk, L.off + off, L.tot - off, false⟩, hexec _ _ (by rw [es, ex]; exact hrun'), ?_, ?_, ?_, ?_⟩
                        · rfl
                        · exact ⟨rfl, rfl, rfl⟩
                        · exact .slice (L := ⟨L.blk, L.off + off, L.tot - off, false⟩) (by simp [upd]) hroom rfl (fun _ => rfl) (by omega) (fun _ => ⟨rfl, by simp only; omega⟩) hcm
                        · refine ⟨L, ⟨L.blk, L.off + off, L.tot - off, false⟩, hL, rfl, .inl rfl, ?_, by simp, fun kk _ hne => setRow_other w _ _ _ hne, ?_⟩
                          · have := (Array.getElem?_eq_some_iff.1 c1).1
                            simpa using this
                          · refine CellsOk.ok ?_ rfl
                            refine ⟨_, e', (0, 0), setRow_heap w _ cur _ e' _ c1, ?_, ?_, fun _ => rfl, ?_⟩
                            · simp; omega
                            · have := hcat.len; simp at this ⊢; omega
                            · intro jj v hv
                              obtain ⟨v', p1, p2⟩ := hcat.get hv
                              refine ⟨v', ?_, p2⟩
                              simp only [List.getElem?_toArray, List.append_assoc]
                              by_cases hj : jj < olds.length
                              · rw [List.getElem?_append_left hj] at p1
                                have := q3 jj v' p1
                                rw [cell_at c1] at this
                                rw [List.getElem?_append_left (by simp; omega), List.getElem?_take, if_pos (by omega)]
                                simpa using this
                              · rw [List.getElem?_append_right (by omega)] at p1
                                have hjl : jj - olds.length < news.length := (List.getElem?_eq_some_iff.1 p1).1
                                rw [List.getElem?_append_right (by simp; omega), List.getElem?_append_left (by simp; omega), ← p1]
                                congr 1; simp; omega
                      · -- a new array
                        have holds : ∀ (j : Nat) v, olds[j]? = some v → w.cell? (ad0.add j) = some v := by
                          intro j v hv
                          have hn0 : 0 < n := by
                            rcases Nat.eq_zero_or_pos n with q | q
                            · subst q; simp at q2; subst q2; simp at hv
                            · exact q
                          obtain ⟨hoff, _⟩ := hcc (by omega)
                          replace hsp := hsp (by omega)
                          obtain ⟨ab, ao, as⟩ := ad0
                          simp only at hab hsp hoff
                          subst hab hsp hoff
                          rw [add_addr]; exact q3 j v hv
                        obtain ⟨cap, cur', r1, r2, r3, r4, r5⟩ := append_grown (P := P) (w := w) (ty := o.type) (c := cc) (b := ad0) (sLen := n) (sCap := cap0) (olds := olds) hu hi hzv hzs q2 holds hl hcell (by omega) hmx hbytes
                        refine ⟨.value _, .slice (some ⟨w.heap.size, 0, none⟩) (n + m) cap, _, upd ρ h.length ⟨w.heap.size, 0, cur'.size, false⟩, hexec _ _ (by rw [es, ex]; exact r1), ?_, ?_, ?_, ?_⟩
                        · rfl
                        · exact ⟨rfl, rfl, rfl⟩
                        · exact .slice (L := ⟨w.heap.size, 0, cur'.size, false⟩) (by simp [upd]) r2 rfl (fun _ => rfl) (by omega) (fun _ => ⟨rfl, by simp only; omega⟩) r3
                        · refine ⟨L, ⟨w.heap.size, 0, cur'.size, false⟩, hL, rfl, .inr rfl, by simp, by simp, fun kk hlt _ => by show (w.heap.push _)[kk]? = _; rw [Array.getElem?_push, if_neg (by omega)], ?_⟩
                          refine BlkOk.fresh (w := w) (cur := cur') (e := e) (fz := (0, 0)) (fun _ => rfl) ?_ ?_ rfl
                          · have := hcat.len; rw [this, List.length_append, q2, hl, r4, ← Nat.add_mul]; exact Nat.mul_le_mul_right _ r2
                          · intro jj v hv
                            obtain ⟨v', p1, p2⟩ := hcat.get hv
                            exact ⟨v', r5 jj v' p1, p2⟩
                  · cases hrun
                · cases hrun
            · cases hrun
        · cases hrun
      · cases hrun
  · cases hrun

theorem add64_next : Extern.allNextRows.lookup "math/bits.Add64" = none := by kernel_rfl
theorem origin_next : Extern.allNextRows.lookup "" = none := by kernel_rfl
theorem add64_gen : Extern.allGenericRows.lookup "math/bits.Add64" = none := by kernel_rfl
theorem add64_typed : Extern.allTypedRows.lookup "math/bits.Add64" = none := by kernel_rfl
theorem add64_row : Extern.allRows.lookup "math/bits.Add64" = some add64Entry := by kernel_rfl

theorem sound_add64 {c : Call} {f : FuncId} {fn : Func} {x y z : Operand} (ho : o.op = .call c) (hc : c.callee = .value (.func f)) (hargs : c.args = #[x, y, z]) (hf : P.funcs[f]? = some fn)
    (hn : fn.name = "math/bits.Add64") (hor : fn.origin = "") (hb : fn.body.isNone = true)
    (hrun : (EOp.add64 x y z).run lim h ev = some out) (hx : ∀ v, ev x = some v → VRel ρ v (a.eval x)) (hy : ∀ v, ev y = some v → VRel ρ v (a.eval y)) (hz : ∀ v, ev z = some v → VRel ρ v (a.eval z)) : OpRes K P a o w ρ h.length out := by
  simp only [EOp.run] at hrun
  split at hrun
  · rename_i p q r hp hq hr
    have e1 := (hx _ hp).int_inv
    have e2 := (hy _ hq).int_inv
    have e3 := (hz _ hr).int_inv
    split at hrun
    · rename_i hc01
      cases hrun
      have hrow : (add64Entry #[.int .u64 p, .int .u64 q, .int .u64 r]).run P w =
          .ok (.tuple #[.int .u64 (Int.ofNat ((p.toNat + q.toNat + r.toNat) % 2 ^ 64)), .int .u64 (Int.ofNat ((p.toNat + q.toNat + r.toNat) / 2 ^ 64))]) w := by
        rcases hc01 with rfl | rfl <;> rfl
      refine .pure (v' := .tuple #[.int .u64 (Int.ofNat ((p.toNat + q.toNat + r.toNat) % 2 ^ 64)), .int .u64 (Int.ofNat ((p.toNat + q.toNat + r.toNat) / 2 ^ 64))]) ?_ ?_ rfl
      · have hev : a.eval (.func f) = .func (.func f) #[] #[] := rfl
        have hnx : Extern.findNext fn = none := by simp [Extern.findNext, hn, hor, add64_next, origin_next]
        have hfd : Extern.find fn = some add64Entry := by simp [Extern.find, hn, add64_gen, add64_typed, add64_row]
        have hnum : (fn.name == "runtime.NumGoroutine") = false := by rw [hn]; decide
        have hcf : (callFunc f #[.int .u64 p, .int .u64 q, .int .u64 r]).run P w = .ok (.value (.tuple #[.int .u64 (Int.ofNat ((p.toNat + q.toNat + r.toNat) % 2 ^ 64)), .int .u64 (Int.ofNat ((p.toNat + q.toNat + r.toNat) / 2 ^ 64))])) w := by
          unfold callFunc
          simp only [Sem.run_bind, run_program, Result.andThen_ok, hf, hnum, hb, Bool.false_eq_true, if_false, if_true, run_mark, hnx, hfd, hrow, Sem.run_pure]
        simp only [execOp, ho, Sem.run_bind, resolve, hc, hargs, hev, Deferred.ofValue, invoke, Sem.run_pure, Result.andThen_ok, e1, e2, e3, List.map_toArray, List.map_cons, List.map_nil]
        simpa using hcf
      · refine .tuple rfl ?_
        intro i x y hx hy
        rw [hx] at hy
        cases hy
        refine .plain ?_
        rcases i with _ | _ | i
        · simp at hx; subst hx; rfl
        · simp at hx; subst hx; rfl
        · simp at hx
    · cases hrun
  · cases hrun
end
end Go.Abs
/- Maps: each operation of the abstract evaluator is what the program's operation does. -/
open Go.MapKept
namespace Go.Abs
variable {K : LoopKind}
section
variable {P : Program} {a : Act} {o : Oper} {w : World} {ρ : Ren} {lim : Nat} {h : Heap} {ev : Operand → Option Value} {out : Out}

/-- A map's pairs, as the concrete entries have them. -/
def PairsOk (ρ : Ren) (cs : List Value) (es : List MapEntry) : Prop :=
  cs.length = es.length ∧ ∀ (i : Nat) v, cs[i]? = some v → ∃ k x e, v = .tuple #[k, x] ∧ es[i]? = some e ∧ keyV k = true ∧ e.key = k ∧ VRel ρ v (.tuple #[k, e.val])

theorem MapOk.pairs {ρ : Ren} {b : Blk} {ob : Option Obj} (m : MapOk ρ b ob) : ∃ es clock, ob = some (.map es clock) ∧ PairsOk ρ b.cells es.toList := by
  obtain ⟨es, cl, h1, h2, h3⟩ := m
  exact ⟨es, cl, h1, by simpa using h2, fun i v hv => let ⟨k, x, e, a1, a2, a3, a4, a5⟩ := h3 i v hv; ⟨k, x, e, a1, by simpa using a2, a3, a4, a5⟩⟩
theorem PairsOk.ok {ρ : Ren} {cs : List Value} {rw : Bool} {es : Array MapEntry} {clock : Nat} (m : PairsOk ρ cs es.toList) : MapOk ρ ⟨cs, rw⟩ (some (.map es clock)) :=
  ⟨es, clock, rfl, by simpa using m.1, fun i v hv => let ⟨k, x, e, a1, a2, a3, a4, a5⟩ := m.2 i v hv; ⟨k, x, e, a1, by simpa using a2, a3, a4, a5⟩⟩

theorem sameKey_now {t : TypeDesc} {ck : CK} (hd : (∃ k, t = .int k ∧ ck = .int k) ∨ (t = .string ∧ ck = .str)) {key k : Value} {b : Bool} (hk : E.isKey ck key = true) (hs : E.sameKey key k = some b) :
    Instr.sameNow t key k = some b ∧ (b = true → k = key) := by
  unfold E.sameKey at hs
  split at hs
  · rename_i j x j' y
    split at hs
    · rename_i e; subst e; cases hs
      rcases hd with ⟨kk, rfl, rfl⟩ | ⟨rfl, rfl⟩
      · exact ⟨by simp [Instr.sameNow], fun q => by simp at q; rw [q]⟩
      · simp [E.isKey] at hk
    · cases hs
  · rename_i x y
    cases hs
    rcases hd with ⟨kk, rfl, rfl⟩ | ⟨rfl, rfl⟩
    · simp [E.isKey] at hk
    · exact ⟨by simp [Instr.sameNow], fun q => by rw [(bytes_beq x y).1 q]⟩
  · rcases hd with ⟨kk, rfl, rfl⟩ | ⟨rfl, rfl⟩ <;> simp [E.isKey] at hk
  · cases hs

theorem key_is {t : TypeDesc} {ck : CK} (hd : (∃ k, t = .int k ∧ ck = .int k) ∨ (t = .string ∧ ck = .str)) {key : Value} (hk : E.isKey ck key = true) : IsKey t key ∧ plainV key = true := by
  rcases hd with ⟨kk, rfl, rfl⟩ | ⟨rfl, rfl⟩
  · cases key <;> simp [E.isKey] at hk
    subst hk; exact ⟨by simp [IsKey], rfl⟩
  · cases key <;> simp [E.isKey] at hk
    exact ⟨by simp [IsKey], rfl⟩

theorem tuple2 {x y k : Value} (h : VRel ρ (.tuple #[k, x]) (.tuple #[k, y])) : VRel ρ x y := by
  obtain ⟨ys, e, r⟩ := h.tuple_inv
  cases e
  exact r.2.1
theorem tuple2_mk {x y k : Value} (hk : keyV k = true) (h : VRel ρ x y) : VRel ρ (.tuple #[k, x]) (.tuple #[k, y]) :=
  VRel.tuple_mk (xs := [k, x]) (ys := [k, y]) ⟨VRel.key_refl hk, h, trivial⟩

theorem eqCells_cons {k : CK} {ks : List CK} {x y : Value} {xs ys : List Value} {r : Bool} (h : E.eqCells (k :: ks) (x :: xs) (y :: ys) = some r) :
    (∃ r0, E.eqCells ks xs ys = some r0) ∧ ((∃ kk a b, k = .int kk ∧ x = .int kk a ∧ y = .int kk b) ∨ (k = .bool ∧ ∃ a b, x = .bool a ∧ y = .bool b) ∨ (k = .str ∧ ∃ a b, x = .string a ∧ y = .string b)) := by
  unfold E.eqCells at h
  split at h <;> rename_i e0 <;> first | (cases e0; done) | skip
  · rename_i e1 e2; cases e0; cases e1; cases e2
    split at h
    · rename_i hk
      simp only [Option.map_eq_some_iff] at h
      obtain ⟨r0, h0, _⟩ := h
      exact ⟨⟨r0, h0⟩, .inl ⟨_, _, _, rfl, by rw [hk.1], by rw [hk.2]⟩⟩
    · cases h
  · rename_i e1 e2; cases e0; cases e1; cases e2
    simp only [Option.map_eq_some_iff] at h
    obtain ⟨r0, h0, _⟩ := h
    exact ⟨⟨r0, h0⟩, .inr (.inl ⟨rfl, _, _, rfl, rfl⟩)⟩
  · rename_i e1 e2; cases e0; cases e1; cases e2
    simp only [Option.map_eq_some_iff] at h
    obtain ⟨r0, h0, _⟩ := h
    exact ⟨⟨r0, h0⟩, .inr (.inr ⟨rfl, _, _, rfl, rfl⟩)⟩
  · cases h

/-- Cells that are compared by their kinds. -/
theorem cellsSame_eq : ∀ (ks : List CK) {xs ys : List Value} {b r : Bool}, E.eqCells ks xs xs = some r → E.cellsSame xs ys = some b → E.eqCells ks xs ys = some b ∧ (b = true → ys = xs)
  | [], xs, ys, b, r, h, hs => by
    have hl := eqCells_len _ _ _ h
    simp only [List.length_nil, List.length_eq_zero_iff] at hl
    rw [hl.1] at hs ⊢
    cases ys with
    | nil => simp [E.cellsSame] at hs; subst hs; exact ⟨rfl, fun _ => rfl⟩
    | cons y ys => simp [E.cellsSame] at hs
  | k :: ks, [], ys, b, r, h, hs => by
    have hl := eqCells_len _ _ _ h
    simp at hl
  | k :: ks, x :: xs, [], b, r, h, hs => by
    exfalso
    cases x <;> simp [E.cellsSame] at hs
  | k :: ks, x :: xs, y :: ys, b, r, h, hs => by
    obtain ⟨⟨r0, h0⟩, q⟩ := eqCells_cons h
    rcases q with ⟨kk, a, b', rfl, rfl, _⟩ | ⟨rfl, a, b', rfl, _⟩ | ⟨rfl, a, b', rfl, _⟩
    · cases y with
      | int k2 c =>
        unfold E.cellsSame at hs
        split at hs
        · rename_i e; subst e
          simp only [Option.map_eq_some_iff] at hs
          obtain ⟨b0, hb0, rfl⟩ := hs
          obtain ⟨q1, q2⟩ := cellsSame_eq ks h0 hb0
          exact ⟨by unfold E.eqCells; rw [if_pos ⟨rfl, rfl⟩, q1]; rfl, fun q => by rw [Bool.and_eq_true, beq_iff_eq] at q; rw [q.1, q2 q.2]⟩
        · cases hs
      | _ => simp [E.cellsSame] at hs
    · cases y with
      | bool c =>
        unfold E.cellsSame at hs
        simp only [Option.map_eq_some_iff] at hs
        obtain ⟨b0, hb0, rfl⟩ := hs
        obtain ⟨q1, q2⟩ := cellsSame_eq ks h0 hb0
        exact ⟨by unfold E.eqCells; rw [q1]; rfl, fun q => by rw [Bool.and_eq_true, beq_iff_eq] at q; rw [q.1, q2 q.2]⟩
      | _ => simp [E.cellsSame] at hs
    · cases y with
      | string c =>
        unfold E.cellsSame at hs
        simp only [Option.map_eq_some_iff] at hs
        obtain ⟨b0, hb0, rfl⟩ := hs
        obtain ⟨q1, q2⟩ := cellsSame_eq ks h0 hb0
        exact ⟨by unfold E.eqCells; rw [q1]; rfl, fun q => by
          rw [Bool.and_eq_true, beq_iff_eq] at q
          have e : ∀ (x y : ByteArray), x.toList = y.toList → y = x := fun x y h => by
            rw [ByteArray.toList_eq, ByteArray.toList_eq] at h
            cases x; cases y
            simp only [ByteArray.mk.injEq]
            exact (Array.toList_inj.1 h).symm
          rw [e _ _ q.1, q2 q.2]⟩
      | _ => simp [E.cellsSame] at hs

/-- What a key must do. -/
structure KeyLaw (P : Program) (w : World) (kt : TypeId) (key : Value) : Prop where
  v : keyV key = true
  chk : ∀ em, (Instr.checkKey em 10000 kt key).run P w = .ok () w
  stay : (Instr.keyThatStays key key).run P w = .ok key w
  find : ∀ (ρ : Ren) (cs : List Value) (es : List MapEntry) (r : Option (Nat × Value)), PairsOk ρ cs es → E.mapFind key cs 0 = some r →
      match r with
      | none => (Instr.findKey kt key es).run P w = .ok none w
      | some (j, x) => ∃ e, (Instr.findKey kt key es).run P w = .ok (some (j, e.val)) w ∧ VRel ρ x e.val ∧ es[j]? = some e ∧ e.key = key

theorem find_rel {t : TypeDesc} {ck : CK} (hd : (∃ k, t = .int k ∧ ck = .int k) ∨ (t = .string ∧ ck = .str)) {key : Value} (hk : E.isKey ck key = true) :
    ∀ (cs : List Value) (es : List MapEntry) (i : Nat) (r : Option (Nat × Value)), PairsOk ρ cs es → E.mapFind key cs i = some r →
      match r with
      | none => Instr.findNow t key es i = some none
      | some (j, x) => ∃ e n, j = i + n ∧ Instr.findNow t key es i = some (some (j, e.val)) ∧ VRel ρ x e.val ∧ es[n]? = some e ∧ e.key = key
  | [], es, i, r, m, hf => by
    simp only [E.mapFind, Option.some.injEq] at hf; subst hf
    have : es = [] := List.eq_nil_of_length_eq_zero (by rw [← m.1]; rfl)
    subst this; rfl
  | c :: cs, es, i, r, m, hf => by
    obtain ⟨k, x, e, rfl, he, hp, hke, hv⟩ := m.2 0 c rfl
    match es, he with
    | e' :: es, he =>
      simp at he; subst he
      have m' : PairsOk ρ cs es := ⟨by have := m.1; simpa using this, fun j v q => by
        obtain ⟨k2, x2, e2, a1, a2, a3⟩ := m.2 (j + 1) v (by simpa using q)
        exact ⟨k2, x2, e2, a1, by simpa using a2, a3⟩⟩
      simp only [E.mapFind] at hf
      split at hf
      · rename_i hs
        cases hf
        obtain ⟨s1, s2⟩ := sameKey_now hd hk hs
        exact ⟨e', 0, rfl, by simp [Instr.findNow, hke, s1], by rw [← hke] at hv; exact tuple2 hv, rfl, by rw [hke]; exact s2 rfl⟩
      · rename_i hs
        obtain ⟨s1, _⟩ := sameKey_now hd hk hs
        have ih := find_rel hd hk cs es (i + 1) r m' hf
        rcases r with _ | ⟨j, y⟩
        · simp only at ih ⊢; simp [Instr.findNow, hke, s1, ih]
        · obtain ⟨e2, n, q1, q2, q3, q4, q5⟩ := ih
          exact ⟨e2, n + 1, by omega, by simp [Instr.findNow, hke, s1, q2], q3, by simpa using q4, q5⟩
      · cases hf

/-- Where a struct's key stands. -/
theorem ask_rel {kt : TypeId} {ks : List CK} {xs : Array Value} {r0 : Bool} (hks : E.eqCells ks xs.toList xs.toList = some r0)
    (heq : ∀ (ys : Array Value) (r : Bool), E.eqCells ks xs.toList ys.toList = some r → (Op.equal kt (.agg xs) (.agg ys)).run P w = .ok r w) :
    ∀ (cs : List Value) (es : List MapEntry) (i : Nat) (r : Option (Nat × Value)), PairsOk ρ cs es → E.mapFind (.agg xs) cs i = some r →
      match r with
      | none => (Instr.findAsking kt (.agg xs) es i).run P w = .ok none w
      | some (j, x) => ∃ e n, j = i + n ∧ (Instr.findAsking kt (.agg xs) es i).run P w = .ok (some (j, e.val)) w ∧ VRel ρ x e.val ∧ es[n]? = some e ∧ e.key = .agg xs
  | [], es, i, r, m, hf => by
    simp only [E.mapFind, Option.some.injEq] at hf; subst hf
    have : es = [] := List.eq_nil_of_length_eq_zero (by rw [← m.1]; rfl)
    subst this
    simp [Instr.findAsking]
  | c :: cs, es, i, r, m, hf => by
    obtain ⟨k, x, e, rfl, he, hp, hke, hv⟩ := m.2 0 c rfl
    match es, he with
    | e' :: es, he =>
      simp at he; subst he
      have m' : PairsOk ρ cs es := ⟨by have := m.1; simpa using this, fun j v q => by
        obtain ⟨k2, x2, e2, a1, a2, a3⟩ := m.2 (j + 1) v (by simpa using q)
        exact ⟨k2, x2, e2, a1, by simpa using a2, a3⟩⟩
      simp only [E.mapFind] at hf
      split at hf
      · rename_i hs
        cases hf
        unfold E.sameKey at hs
        split at hs <;> rename_i e0 <;> first | (cases e0; done) | skip
        · rename_i ys; cases e0
          obtain ⟨q1, q2⟩ := cellsSame_eq ks hks hs
          have q3 := heq ys _ q1
          have q4 : ys = xs := Array.toList_inj.1 (q2 rfl)
          exact ⟨e', 0, rfl, by simp [Instr.findAsking, hke, q3, Result.andThen], by rw [← hke] at hv; exact tuple2 hv, rfl, by rw [hke, q4]⟩
        · cases hs
      · rename_i hs
        unfold E.sameKey at hs
        split at hs <;> rename_i e0 <;> first | (cases e0; done) | skip
        · rename_i ys; cases e0
          obtain ⟨q1, _⟩ := cellsSame_eq ks hks hs
          have q3 := heq ys _ q1
          have ih := ask_rel hks heq cs es (i + 1) r m' hf
          rcases r with _ | ⟨j, y⟩
          · simp only at ih ⊢; simp [Instr.findAsking, hke, q3, Result.andThen, ih]
          · obtain ⟨e2, n, p1, p2, p3, p4, p5⟩ := ih
            exact ⟨e2, n + 1, by omega, by simp [Instr.findAsking, hke, q3, Result.andThen, p2], p3, by simpa using p4, p5⟩
        · cases hs
      · cases hf

/-- A key of flat cells may be looked at. -/
theorem run_checkFields_flat {D : Nat} {em : Bool} {flat : TypeId → Option (List CK)}
    (ih : ∀ (t : TypeId) (ks : List CK) (xs : List Value) (r : Bool), flat t = some ks → E.eqCells ks xs xs = some r →
      (sizeT P t = some ks.length ∧ (isAggT P t = some true ∨ (isAggT P t = some false ∧ ks.length = 1))) ∧ (Instr.checkKey em D t (pv P t xs)).run P w = .ok () w) (xs : Array Value) :
    ∀ (fs : List Field) (o : Nat) (ks : List CK) (r : Bool), flatFields P flat o fs = some ks → E.eqCells ks (xs.toList.drop o) (xs.toList.drop o) = some r →
      (forIn (m := Sem) fs PUnit.unit fun f _ => if f.name ≠ "_" then (do let x ← part f.type xs f.offset; Instr.checkKey em D f.type x; pure (ForInStep.yield PUnit.unit)) else pure (ForInStep.yield PUnit.unit)).run P w = .ok PUnit.unit w
  | [], o, ks, r, h, hr => by simp
  | f :: fs, o, ks, r, h, hr => by
    unfold flatFields at h
    split at h
    · rename_i k1 hk1
      split at h
      · rename_i hc
        simp only [Option.map_eq_some_iff] at h
        obtain ⟨k2, h2, rfl⟩ := h
        have hl := eqCells_len _ _ _ hr
        simp at hl
        obtain ⟨r1, r2, e1, e2, rfl⟩ := eqCells_append _ hr
        obtain ⟨⟨hs, hor⟩, hrun⟩ := ih _ _ _ _ hk1 e1
        have hp1 := pv_part (P := P) (w := w) hs xs f.offset (hor.imp id fun q => ⟨q.1, q.2, by have := q.2; rw [hc.2]; omega⟩)
        rw [hc.2] at hp1
        have hrec := run_checkFields_flat ih xs fs (o + k1.length) k2 r2 h2 (by simpa [List.drop_drop] using e2)
        rw [List.forIn_cons]
        simp only [if_pos hc.1, hc.2, Sem.run_bind, hp1, Result.andThen_ok, hrun, Sem.run_pure, bind_assoc, pure_bind]
        exact hrec
      · cases h
    · cases h

theorem run_checkKey_flat (em : Bool) {d D : Nat} {t : TypeId} {fields : Array Field} {ks : List CK} {xs : Array Value} {r : Bool} (hu : P.underlying t = some (.struct fields)) (h : flatT P (d + 1) t = some ks) (hr : E.eqCells ks xs.toList xs.toList = some r)
    (ih : ∀ (t : TypeId) (ks : List CK) (xs : List Value) (r : Bool), flatT P d t = some ks → E.eqCells ks xs xs = some r → (Instr.checkKey em D t (pv P t xs)).run P w = .ok () w) :
    (Instr.checkKey em (D + 1) t (.agg xs)).run P w = .ok () w := by
  unfold flatT at h
  rw [hu] at h
  simp only at h
  split at h
  · cases h
  · split at h
    · rename_i ks' hks
      split at h <;> cases h
      have k := run_checkFields_flat (w := w) (D := D) (em := em) (flat := flatT P d) (fun t ks xs r h1 h2 => ⟨flatT_size h1, ih t ks xs r h1 h2⟩) xs fields.toList 0 ks r hks (by simpa using hr)
      unfold Instr.checkKey
      simp only [Sem.run_bind, run_underlying hu, Result.andThen_ok]
      rw [← Array.forIn_toList, k]
      rfl
    · cases h
theorem eqCells_plain : ∀ (ks : List CK) {xs : List Value} {r : Bool}, E.eqCells ks xs xs = some r → xs.all plainV = true
  | [], xs, r, h => by
    have hl := eqCells_len _ _ _ h
    simp only [List.length_nil, List.length_eq_zero_iff] at hl
    rw [hl.1]; rfl
  | k :: ks, [], r, h => rfl
  | k :: ks, x :: xs, r, h => by
    obtain ⟨⟨r0, h0⟩, q⟩ := eqCells_cons h
    have ih := eqCells_plain ks h0
    rw [List.all_cons, ih]
    rcases q with ⟨kk, a, b', rfl, rfl, _⟩ | ⟨rfl, a, b', rfl, _⟩ | ⟨rfl, a, b', rfl, _⟩ <;> rfl
theorem sameBits_cells (n : Nat) : ∀ (ks : List CK) {xs : List Value} {r : Bool}, E.eqCells ks xs xs = some r → ((xs.zip xs).all fun (x, y) => Instr.sameBits n x y) = true
  | [], xs, r, h => by
    have hl := eqCells_len _ _ _ h
    simp only [List.length_nil, List.length_eq_zero_iff] at hl
    rw [hl.1]; rfl
  | k :: ks, [], r, h => rfl
  | k :: ks, x :: xs, r, h => by
    obtain ⟨⟨r0, h0⟩, q⟩ := eqCells_cons h
    have ih := sameBits_cells n ks h0
    rw [List.zip_cons_cons, List.all_cons, ih, Bool.and_true]
    rcases q with ⟨kk, a, b', rfl, rfl, _⟩ | ⟨rfl, a, b', rfl, _⟩ | ⟨rfl, a, b', rfl, _⟩
    · cases n <;> simp [Instr.sameBits]
    · cases n <;> simp [Instr.sameBits]
    · have : (a == a) = true := (bytes_beq a a).2 rfl
      cases n <;> simp [Instr.sameBits, this]
theorem key_law {kt : TypeId} {ck : CK} {key : Value} (h : keyKind P kt = some ck) (hk : E.isKey ck key = true) : KeyLaw P w kt key := by
  have two : ∀ {t : TypeDesc}, P.underlying kt = some t → ((∃ k, t = .int k ∧ ck = .int k) ∨ (t = .string ∧ ck = .str)) → KeyLaw P w kt key := fun {t} hu hd => by
    obtain ⟨i1, i2⟩ := key_is hd hk
    refine ⟨by simp [keyV, i2], fun em => MapKept.run_checkKey hu i1 em 9999, run_keyThatStays i1, fun ρ cs es r m hf => ?_⟩
    have q := find_rel hd hk cs es 0 r m hf
    rcases r with _ | ⟨j, x⟩
    · exact MapKept.run_findKey hu q
    · obtain ⟨e, n, q1, q2, q3, q4, q5⟩ := q
      have hj : j = n := by omega
      subst hj
      exact ⟨e, MapKept.run_findKey hu q2, q3, q4, q5⟩
  unfold keyKind at h
  split at h
  · rename_i k e; cases h; exact two e (.inl ⟨k, rfl, rfl⟩)
  · rename_i e; cases h; exact two e (.inr ⟨rfl, rfl⟩)
  · rename_i fields hu
    simp only [Option.map_eq_some_iff] at h
    obtain ⟨ks, hks, rfl⟩ := h
    cases key with
    | agg xs =>
      simp only [E.isKey, Option.isSome_iff_exists] at hk
      obtain ⟨r0, hr0⟩ := hk
      have hg : isAggT P kt = some true := isAggT_of hu
      have heq : ∀ (ys : Array Value) (r : Bool), E.eqCells ks xs.toList ys.toList = some r → (Op.equal kt (.agg xs) (.agg ys)).run P w = .ok r w := fun ys r h2 => by
        have he := run_equalIn_flat P w 2 kt 10000 ks _ _ r hks (by omega) h2
        simp only [pv, hg, if_true, Array.toArray_toList] at he
        exact he
      refine ⟨by simp [keyV, eqCells_plain ks hr0], fun em => ?_, ?_, fun ρ cs es r m hf => ?_⟩
      · refine run_checkKey_flat (d := 1) (D := 9999) em hu hks hr0 fun t ks xs r h1 h2 => ?_
        have h1' := h1
        unfold flatT at h1
        split at h1
        · rename_i k hu2
          have hg := isAggT_of hu2
          split at h1 <;> cases h1
          obtain ⟨x, y, rfl, _, _⟩ := eqCells_int h2
          simp only [pv, hg, aggD, Option.some.injEq, Bool.false_eq_true, if_false, List.headD_cons]
          exact MapKept.run_checkKey hu2 (by simp [IsKey]) em 9998
        · rename_i hu2
          have hg := isAggT_of hu2
          split at h1 <;> cases h1
          obtain ⟨x, y, rfl, _, _⟩ := eqCells_bool h2
          simp only [pv, hg, aggD, Option.some.injEq, Bool.false_eq_true, if_false, List.headD_cons]
          exact MapKept.run_checkKey hu2 (by simp [IsKey]) em 9998
        · rename_i hu2
          have hg := isAggT_of hu2
          split at h1 <;> cases h1
          obtain ⟨x, y, rfl, _, _⟩ := eqCells_str h2
          simp only [pv, hg, aggD, Option.some.injEq, Bool.false_eq_true, if_false, List.headD_cons]
          exact MapKept.run_checkKey hu2 (by simp [IsKey]) em 9998
        · rename_i fields2 hu2
          have hg : isAggT P t = some true := isAggT_of hu2
          simp only [pv, hg, if_true]
          exact run_checkKey_flat (d := 0) (D := 9998) em hu2 h1' (by simpa using h2) (fun _ _ _ _ h => by simp [flatT] at h)
        · simp [flatT] at h1
        · cases h1
      · have := sameBits_cells 9999 ks hr0
        simp only [Instr.keyThatStays]
        rw [if_pos (by simp only [Instr.sameBits]; simp only [beq_self_eq_true, Bool.true_and]; exact this)]
        rfl
      · have q := ask_rel (P := P) (w := w) (kt := kt) hr0 heq cs es 0 r m hf
        cases es with
        | nil =>
          have hc : cs = [] := List.eq_nil_of_length_eq_zero m.1
          subst hc
          simp only [E.mapFind, Option.some.injEq] at hf; subst hf
          exact MapKept.run_findKey hu rfl
        | cons e es =>
          have fn : Instr.findNow (.struct fields) (.agg xs) (e :: es) 0 = none := by simp [Instr.findNow, Instr.sameNow]
          have fk : (Instr.findKey kt (.agg xs) (e :: es)).run P w = (Instr.findAsking kt (.agg xs) (e :: es) 0).run P w := by
            simp [Instr.findKey, run_underlying hu, Result.andThen, fn]
          rw [fk]
          rcases r with _ | ⟨j, x⟩
          · exact q
          · obtain ⟨e2, n, q1, q2, q3, q4, q5⟩ := q
            have hj : j = n := by omega
            subst hj
            exact ⟨e2, q2, q3, q4, q5⟩
    | _ => simp [E.isKey] at hk
  · cases h

theorem zeroV_spec {t : TypeId} {z : Value} (h : zeroV P t = some z) : ((zeroValue t).run P w = .ok z w) ∧ VRel ρ z z := by
  unfold zeroV at h
  split at h
  · rename_i i hi
    split at h
    · rename_i z' hz
      split at h
      · rename_i hc
        cases h
        refine ⟨by simp [zeroValue, typeInfo, hi, hz], ?_⟩
        unfold zeroOk at hc
        split at hc
        · rename_i cs
          have := VRel.agg_mk (ρ := ρ) (xs := cs.toList) (ys := cs.toList) (LRel.refl_plain (fun v q => .plain q) hc)
          simpa using this
        · exact .plain hc
      · cases h
    · cases h
  · cases h

theorem sound_makeMap {t : TypeId} (ho : o.op = .makeMap t none) (hrun : EOp.makeMap.run lim h ev = some out) : OpRes K P a o w ρ h.length out := by
  simp only [EOp.run, Option.some.injEq] at hrun
  subst hrun
  refine ⟨.value (.map (some w.heap.size)), _, w.alloc (.map #[] 0), upd ρ h.length ⟨w.heap.size, 0, 0, true⟩, ?_, rfl, ⟨rfl, rfl, rfl⟩, .map (L := ⟨w.heap.size, 0, 0, true⟩) (by simp [upd]) rfl rfl, ?_⟩
  · simp [execOp, ho, Instr.makeMap, Result.andThen]
  · refine ⟨_, rfl, rfl, ?_, fun k hk => (heap_alloc w _).2 k hk, MapOk.ok ?_ ⟨rfl, rfl⟩⟩
    · show w.heap.size < (w.heap.push _).size; simp
    · rw [(heap_alloc w _).1]
      exact PairsOk.ok ⟨rfl, fun i v hv => by simp at hv⟩

theorem sound_capZ {c : Call} {x : Operand} {t e : TypeId} (ho : o.op = .call c) (hc : c.callee = .builtin .cap) (ha : c.args = #[x]) (ht : c.argTypes[0]? = some t) (hu : P.underlying t = some (.slice e))
    (hrun : (EOp.capZ x).run lim h ev = some out) (hx : ∀ v, ev x = some v → VRel ρ v (a.eval x)) : OpRes K P a o w ρ h.length out := by
  simp only [EOp.run] at hrun
  split at hrun
  · rename_i hp
    cases hrun
    have e1 := (hx _ hp).plain_inv rfl
    refine .pure (v' := .int .i64 0) ?_ (.plain rfl) rfl
    simp [execOp, ho, resolve, hc, ha, invoke, builtin, Builtin.cap_, ht, e1, run_underlying hu, goInt]
  · rename_i b off hp
    cases hrun
    obtain ⟨L, ad, cap, _, e1, _, _, _, hz, _⟩ := (hx _ hp).slice_inv
    have := hz rfl
    subst this
    refine .pure (v' := .int .i64 0) ?_ (.plain rfl) rfl
    simp [execOp, ho, resolve, hc, ha, invoke, builtin, Builtin.cap_, ht, e1, run_underlying hu, goInt]
  · cases hrun
theorem sound_lenMap {c : Call} {x : Operand} {t kt e : TypeId} (ho : o.op = .call c) (hc : c.callee = .builtin .len) (ha : c.args = #[x]) (ht : c.argTypes[0]? = some t) (hu : P.underlying t = some (.map kt e))
    (hrun : (EOp.lenMap x).run lim h ev = some out) (hx : ∀ v, ev x = some v → VRel ρ v (a.eval x)) (hblk : ∀ i ∈ out.reads, ∀ b L, h.get i = some b → ρ i = some L → BlkOk K ρ L b w.heap[L.blk]?) : OpRes K P a o w ρ h.length out := by
  simp only [EOp.run] at hrun
  split at hrun
  · rename_i r hp
    simp only [Option.map_eq_some_iff] at hrun
    obtain ⟨b, hb, rfl⟩ := hrun
    obtain ⟨L, hL, hk, e1⟩ := (hx _ hp).map_inv
    obtain ⟨es, cl, h1, h2⟩ := ((hblk r (by simp) b L hb hL).2.1 hk.1 hk.2).pairs
    have hl : b.cells.length = es.size := by simpa using h2.1
    refine .pure (v' := .int .i64 b.cells.length) ?_ (.plain rfl) rfl
    simp [execOp, ho, resolve, hc, ha, invoke, builtin, Builtin.len_, ht, e1, run_underlying hu, goInt, MapKept.run_getObj_map h1, hl]
  · cases hrun

theorem sound_mapGet {t kt e : TypeId} {m k : Operand} {ok : Bool} {z : Value} {ck : CK} (ho : o.op = .lookup t m k ok) (hu : P.underlying t = some (.map kt e)) (hz : zeroV P e = some z) (hck : keyKind P kt = some ck)
    (hrun : (EOp.mapGet ck z ok m k).run lim h ev = some out) (hm : ∀ v, ev m = some v → VRel ρ v (a.eval m)) (hkv : ∀ v, ev k = some v → VRel ρ v (a.eval k))
    (hblk : ∀ i ∈ out.reads, ∀ b L, h.get i = some b → ρ i = some L → BlkOk K ρ L b w.heap[L.blk]?) : OpRes K P a o w ρ h.length out := by
  obtain ⟨hz1, hz2⟩ := zeroV_spec (w := w) (ρ := ρ) hz
  simp only [EOp.run] at hrun
  split at hrun
  · rename_i r key hp hq
    split at hrun
    · rename_i b hb
      split at hrun
      · rename_i hik
        obtain ⟨L, hL, hk, e1⟩ := (hm _ hp).map_inv
        have kl := key_law (w := w) hck hik
        have i2 := kl.v
        have e2 := (hkv _ hq).key_inv i2
        split at hrun
        · rename_i j x hf
          cases hrun
          obtain ⟨es, cl, h1, h2⟩ := ((hblk r (by simp) b L hb hL).2.1 hk.1 hk.2).pairs
          obtain ⟨en, q2, q3, q4, q5⟩ := kl.find ρ b.cells es.toList _ h2 hf
          refine .pure (v' := if ok then .tuple #[en.val, .bool true] else en.val) ?_ ?_ rfl
          · simp [execOp, ho, e1, e2, Instr.lookup, run_underlying hu, MapKept.run_getObj_map h1, kl.chk, q2, Result.andThen]
          · cases ok
            · exact q3
            · exact VRel.tuple_mk (xs := [x, .bool true]) (ys := [en.val, .bool true]) ⟨q3, .plain rfl, trivial⟩
        · rename_i hf
          cases hrun
          obtain ⟨es, cl, h1, h2⟩ := ((hblk r (by simp) b L hb hL).2.1 hk.1 hk.2).pairs
          have q2 := kl.find ρ b.cells es.toList _ h2 hf
          simp only at q2
          refine .pure (v' := if ok then .tuple #[z, .bool false] else z) ?_ ?_ rfl
          · simp [execOp, ho, e1, e2, Instr.lookup, run_underlying hu, MapKept.run_getObj_map h1, kl.chk, q2, hz1, Result.andThen]
          · cases ok
            · exact hz2
            · exact VRel.tuple_mk (xs := [z, .bool false]) (ys := [z, .bool false]) ⟨hz2, .plain rfl, trivial⟩
        · cases hrun
      · cases hrun
    · cases hrun
  · cases hrun

theorem sound_assertT {t xt : TypeId} {x : Operand} {z : Value} {d : TypeDesc} (ho : o.op = .typeAssert x xt t true) (hd : P.underlying t = some d) (hni : ∀ ms, d ≠ .interface ms) (hz : zeroV P t = some z)
    (hrun : (EOp.assertT t z x).run lim h ev = some out) (hx : ∀ v, ev x = some v → VRel ρ v (a.eval x)) : OpRes K P a o w ρ h.length out := by
  obtain ⟨hz1, hz2⟩ := zeroV_spec (w := w) (ρ := ρ) hz
  simp only [EOp.run] at hrun
  split at hrun
  · rename_i u v hp
    cases hrun
    obtain ⟨v', e1, hv⟩ := (hx _ hp).iface_inv
    by_cases q : u = t
    · refine .pure (v' := .tuple #[v', .bool true]) ?_ ?_ rfl
      · cases d <;> first | (exact absurd rfl (hni _)) | simp [execOp, ho, e1, Instr.typeAssert, run_underlying hd, q]
      · rw [if_pos q]
        exact VRel.tuple_mk (xs := [v, .bool true]) (ys := [v', .bool true]) ⟨hv, .plain rfl, trivial⟩
    · refine .pure (v' := .tuple #[z, .bool false]) ?_ ?_ rfl
      · cases d <;> first | (exact absurd rfl (hni _)) | simp [execOp, ho, e1, Instr.typeAssert, run_underlying hd, q, hz1, Result.andThen]
      · rw [if_neg q]
        exact VRel.tuple_mk (xs := [z, .bool false]) (ys := [z, .bool false]) ⟨hz2, .plain rfl, trivial⟩
  · rename_i hp
    cases hrun
    have e1 := (hx _ hp).plain_inv rfl
    refine .pure (v' := .tuple #[z, .bool false]) ?_ ?_ rfl
    · cases d <;> first | (exact absurd rfl (hni _)) | simp [execOp, ho, e1, Instr.typeAssert, run_underlying hd, hz1, Result.andThen]
    · exact VRel.tuple_mk (xs := [z, .bool false]) (ys := [z, .bool false]) ⟨hz2, .plain rfl, trivial⟩
  · cases hrun

theorem sound_mapSet {t kt e : TypeId} {m k x : Operand} {ck : CK} (ho : o.op = .mapUpdate t m k x ∨ o.op = .insert t m k x) (hu : P.underlying t = some (.map kt e)) (hck : keyKind P kt = some ck)
    (hrun : (EOp.mapSet ck m k x).run lim h ev = some out) (hm : ∀ v, ev m = some v → VRel ρ v (a.eval m)) (hkv : ∀ v, ev k = some v → VRel ρ v (a.eval k)) (hx : ∀ v, ev x = some v → VRel ρ v (a.eval x))
    (hblk : ∀ i ∈ out.eff.writes, ∀ b L, h.get i = some b → ρ i = some L → BlkOk K ρ L b w.heap[L.blk]?) : OpRes K P a o w ρ h.length out := by
  have hex : ∀ w', (Instr.mapUpdate t (a.eval m) (a.eval k) (a.eval x)).run P w = .ok () w' → (execOp a.eval o).run P w = .ok .skip w' := fun w' hr => by
    rcases ho with ho | ho <;> simp [execOp, ho, hr, Result.andThen]
  simp only [EOp.run] at hrun
  split at hrun
  · rename_i r key xv hp hq hr
    split at hrun
    · rename_i b hb
      split at hrun
      · rename_i hc
        obtain ⟨hrw, hik, _⟩ := hc
        simp only [Option.map_eq_some_iff] at hrun
        obtain ⟨cs, hcs, rfl⟩ := hrun
        obtain ⟨L, hL, hk, e1⟩ := (hm _ hp).map_inv
        have kl := key_law (w := w) hck hik
        have i2 := kl.v
        have e2 := (hkv _ hq).key_inv i2
        have hv := hx _ hr
        obtain ⟨es, cl, h1, h2⟩ := ((hblk r (by simp [Eff.writes]) b L hb hL).2.1 hk.1 hk.2).pairs
        have h1' : w.heap[L.blk]? = some (.map es cl) := h1
        unfold E.mapPut at hcs
        split at hcs
        · rename_i j y hf
          cases hcs
          obtain ⟨en, q2, q3, q4, q5⟩ := kl.find ρ b.cells es.toList _ h2 hf
          have q4' : es[j]? = some en := by simpa using q4
          refine ⟨.skip, undef, { w with heap := w.heap.setIfInBounds L.blk (.map (es.modify j fun e => { e with key := key, val := a.eval x }) cl) }, ρ, ?_, rfl, ⟨rfl, rfl, rfl⟩, .tuple rfl (fun i x y hx => by simp at hx), rfl, L, hL, by simp, fun kk hne => (heap_set h1').2 kk hne, MapOk.ok ?_ hk⟩
          · refine hex _ ?_
            simp [e1, e2, Instr.mapUpdate, run_underlying hu, MapKept.run_getObj_map h1', kl.chk, q2, q4', q5, kl.stay, MapKept.run_setObj_map _ h1', Result.andThen]
          · rw [(heap_set h1').1]
            refine PairsOk.ok ⟨by simpa using h2.1, fun i v hv' => ?_⟩
            by_cases hi : j = i
            · subst hi
              have hlt : j < b.cells.length := by
                rw [h2.1]; exact (List.getElem?_eq_some_iff.1 q4).1
              rw [List.getElem?_set_self hlt] at hv'
              cases hv'
              exact ⟨key, xv, { en with key := key, val := a.eval x }, rfl, by simp [Array.getElem?_modify, q4'], i2, rfl, tuple2_mk i2 hv⟩
            · rw [List.getElem?_set_ne hi] at hv'
              obtain ⟨k2, x2, e3, a1, a2, a3, a4, a5⟩ := h2.2 i v hv'
              exact ⟨k2, x2, e3, a1, by simp only [Array.getElem?_toList] at a2 ⊢; simp [Array.getElem?_modify, hi, a2], a3, a4, a5⟩
        · rename_i hf
          cases hcs
          have q2 := kl.find ρ b.cells es.toList _ h2 hf
          simp only at q2
          refine ⟨.skip, undef, { w with heap := w.heap.setIfInBounds L.blk (.map (es.push { key := key, val := a.eval x, born := cl }) (cl + 1)) }, ρ, ?_, rfl, ⟨rfl, rfl, rfl⟩, .tuple rfl (fun i x y hx => by simp at hx), rfl, L, hL, by simp, fun kk hne => (heap_set h1').2 kk hne, MapOk.ok ?_ hk⟩
          · refine hex _ ?_
            simp [e1, e2, Instr.mapUpdate, run_underlying hu, MapKept.run_getObj_map h1', kl.chk, q2, MapKept.run_setObj_map _ h1', Result.andThen]
          · rw [(heap_set h1').1]
            have hl : b.cells.length = es.toList.length := h2.1
            refine PairsOk.ok ⟨by simp [hl], fun i v hv' => ?_⟩
            by_cases hi : i < b.cells.length
            · rw [List.getElem?_append_left hi] at hv'
              obtain ⟨k2, x2, e3, a1, a2, a3, a4, a5⟩ := h2.2 i v hv'
              exact ⟨k2, x2, e3, a1, by rw [Array.toList_push, List.getElem?_append_left (by omega)]; exact a2, a3, a4, a5⟩
            · rw [List.getElem?_append_right (by omega)] at hv'
              have hi0 : i - b.cells.length = 0 := by
                rcases Nat.eq_zero_or_pos (i - b.cells.length) with q | q
                · exact q
                · rw [List.getElem?_eq_none (by simp; omega)] at hv'; cases hv'
              rw [hi0] at hv'
              simp at hv'; subst hv'
              exact ⟨key, xv, _, rfl, by rw [Array.toList_push, List.getElem?_append_right (by omega), ← hl, hi0]; rfl, i2, rfl, tuple2_mk i2 hv⟩
        · cases hcs
      · cases hrun
    · cases hrun
  · cases hrun

theorem zeroCells_eq {z : Array Value} (hz : z.toList ≠ []) (n : Nat) : (Builtin.zeroCells z n).toList = zeros z.toList n := by
  have hlen : (zeros z.toList n).length = n * z.size := by rw [zeros_length]; simp
  have : Builtin.zeroCells z n = (zeros z.toList n).toArray := by
    unfold Builtin.zeroCells
    apply Array.ext
    · simp [hlen]
    · intro j h1 h2
      have hj : j < (zeros z.toList n).length := by simpa using h2
      have hv := madeCells_get hz (n := n) (m := n * z.size) (i := j) (v := (zeros z.toList n)[j]) (by simp) (by simp)
      rw [Array.getElem?_eq_some_iff] at hv
      obtain ⟨_, hv⟩ := hv
      simpa using hv
  rw [this]

theorem plain_one {v : Value} (h : plainV v = true) : v.oneCell' = true := by
  cases v <;> first | rfl | (simp [plainV] at h)

theorem sound_clear {c : Call} {x : Operand} {t e : TypeId} {s : Nat} {z : List Value} (ho : o.op = .call c) (hc : c.callee = .builtin .clear) (ha : c.args = #[x]) (ht : c.argTypes[0]? = some t) (hu : P.underlying t = some (.slice e)) (hz : zeroT P e = some z) (hs0 : 0 < s)
    (hrun : (EOp.clear s z x).run lim h ev = some out) (hx : ∀ v, ev x = some v → VRel ρ v (a.eval x)) (hblk : ∀ i ∈ out.eff.writes, ∀ b L, h.get i = some b → ρ i = some L → BlkOk K ρ L b w.heap[L.blk]?) : OpRes K P a o w ρ h.length out := by
  obtain ⟨i, zv, hi, hzv, hsz, rfl, hpl⟩ := zeroT_spec hz
  have ht0 : VRel ρ (.tuple #[]) (.tuple #[]) := .tuple rfl (fun i x y hx => by simp at hx)
  simp only [EOp.run] at hrun
  split at hrun
  · rename_i hp
    cases hrun
    have e1 := (hx _ hp).plain_inv rfl
    refine .pure (v' := .tuple #[]) ?_ ht0 rfl
    simp [execOp, ho, resolve, hc, ha, invoke, builtin, Builtin.clear_, ht, e1, run_underlying hu, Result.andThen]
  · rename_i b off n s' hp
    obtain ⟨L, a', cap, hL, e1, hn, hb, hsp, _, hoff, _⟩ := (hx _ hp).slice_inv
    have hkd := (hx _ hp).slice_kind hL
    split at hrun
    · rename_i hn0
      subst hn0
      cases hrun
      refine .pure (v' := .tuple #[]) ?_ ht0 rfl
      simp [execOp, ho, resolve, hc, ha, invoke, builtin, Builtin.clear_, ht, e1, run_underlying hu, Result.andThen]
    · rename_i hn0
      split at hrun
      · rename_i k hk
        split at hrun
        · rename_i hcd
          obtain ⟨hrw, rfl, hzl, hlen, hpl2⟩ := hcd
          cases hrun
          have hcap : cap ≠ 0 := by omega
          have ea : a' = ⟨L.blk, L.off + off, none⟩ := by
            obtain ⟨ab, ao, asp⟩ := a'
            have q1 := hsp hcap
            have q2 := (hoff hcap).1
            simp only at hb q1 q2
            subst hb q1 q2; rfl
          subst ea
          have hzp := zeros_plain hpl n
          have hzl2 : (zeros zv.cells.toList n).length = n * s' := by rw [zeros_length, hzl]
          have hzr : (zeroValue e).run P w = .ok zv w := by simp [zeroValue, typeInfo, hi, hzv]
          obtain ⟨w', g1, g2, g3, g4, g5⟩ := BlkOk.store (P := P) (hblk b (by simp [Eff.writes]) k L hk hL) hkd hrw (o := off) (LRel.refl_plain (R := VRel ρ) (fun v hv => .plain hv) hzp) (by omega)
            (by rw [List.all_eq_true] at hzp ⊢; exact fun v hv => plain_one (hzp v hv))
          have hzc := zeroCells_eq (z := zv.cells) (fun q => by rw [q] at hzl; simp at hzl; omega) n
          refine ⟨.value (.tuple #[]), .tuple #[], w', ρ, ?_, rfl, g2, ht0, rfl, L, hL, g3, g4, g5⟩
          obtain ⟨m, rfl⟩ : ∃ m, n = m + 1 := ⟨n - 1, by omega⟩
          simp [execOp, ho, resolve, hc, ha, invoke, builtin, Builtin.clear_, ht, e1, run_underlying hu, hzr, hzc, g1, Result.andThen]
        · cases hrun
      · cases hrun
  · cases hrun
end
end Go.Abs
