/- Each operation of the abstract evaluator is what the program's operation does. -/
import Derived.Test.YtjalhpdmdiimoaaDoorAbsCompile
import Derived.Laws.Append
import Derived.Laws.StructEq
import Derived.Laws.BytesString
set_option linter.unusedSimpArgs false
set_option linter.unusedVariables false
namespace Go.Abs

def upd (ρ : Ren) (i : Nat) (L : Loc) : Ren := fun j => if j = i then some L else ρ j

theorem le_upd {ρ : Ren} {i : Nat} {L : Loc} (h : ρ i = none) : ρ.le (upd ρ i L) := by
  intro j M e
  by_cases hj : j = i
  · subst hj; rw [h] at e; cases e
  · simp [upd, hj, e]

structure Same (w w' : World) : Prop where
  os : w'.os = w.os
  tape : w'.tape = w.tape
  output : w'.output = w.output

theorem Same.refl (w : World) : Same w w := ⟨rfl, rfl, rfl⟩

/-- What an effect has done to the world. -/
def EffOk (ρ : Ren) (id : Nat) (w w' : World) (ρ' : Ren) : Eff → Prop
  | .none => ρ' = ρ ∧ w'.heap = w.heap
  | .push b => ∃ L, ρ' = upd ρ id L ∧ L.blk = w.heap.size ∧ w.heap.size < w'.heap.size ∧ (∀ k, k < w.heap.size → w'.heap[k]? = w.heap[k]?) ∧ BlkOk ρ L b w'.heap[L.blk]?
  | .write i b => ρ' = ρ ∧ ∃ L, ρ i = some L ∧ w'.heap.size = w.heap.size ∧ (∀ k, k ≠ L.blk → w'.heap[k]? = w.heap[k]?) ∧ BlkOk ρ L b w'.heap[L.blk]?
  | .move i b => ∃ L M, ρ i = some L ∧ ρ' = upd ρ id M ∧ (M.blk = L.blk ∨ M.blk = w.heap.size) ∧ M.blk < w'.heap.size ∧ w.heap.size ≤ w'.heap.size ∧
      (∀ k, k < w.heap.size → k ≠ L.blk → w'.heap[k]? = w.heap[k]?) ∧ BlkOk ρ M b w'.heap[M.blk]?

def nextVal : Next → Option Value
  | .value v => some v
  | .skip => some undef
  | _ => none

structure OpRes (P : Program) (a : Act) (o : Oper) (w : World) (ρ : Ren) (id : Nat) (out : Out) : Prop where
  res : ∃ nx v' w' ρ', (execOp a.eval o).run P w = .ok nx w' ∧ nextVal nx = some v' ∧ Same w w' ∧ VRel ρ' out.val v' ∧ EffOk ρ id w w' ρ' out.eff

theorem OpRes.pure {P : Program} {a : Act} {o : Oper} {w : World} {ρ : Ren} {id : Nat} {out : Out} {v' : Value} (h : (execOp a.eval o).run P w = .ok (.value v') w)
    (hv : VRel ρ out.val v') (he : out.eff = .none) : OpRes P a o w ρ id out :=
  ⟨.value v', v', w, ρ, h, rfl, .refl w, hv, by rw [he]; exact ⟨rfl, rfl⟩⟩

theorem cell_at {w : World} {c o : Nat} {cur : Array Value} {e : TypeId} {fz : Nat × Nat} (h : w.heap[c]? = some (.cells cur e fz)) : w.cell? ⟨c, o, none⟩ = cur[o]? := by
  simp [World.cell?, h]

theorem add_addr (c o n : Nat) : (⟨c, o, none⟩ : Addr).add n = ⟨c, o + n, none⟩ := by
  unfold Addr.add; split <;> simp_all

theorem run_loadCells {P : Program} {w : World} {c o : Nat} : ∀ (vs : List Value) (i : Nat) (acc : Array Value), (∀ (j : Nat) v, vs[j]? = some v → w.cell? ⟨c, o + (i + j), none⟩ = some v) →
    (loadCellsFrom ⟨c, o, none⟩ i vs.length acc).run P w = .ok (acc ++ vs.toArray) w
  | [], i, acc, _ => by simp [loadCellsFrom]
  | v :: vs, i, acc, h => by
    have h0 : w.cell? ⟨c, o + i, none⟩ = some v := by simpa using h 0 v rfl
    have ih := run_loadCells (P := P) (w := w) (c := c) (o := o) vs (i + 1) (acc.push v) (fun j u e => by
      have := h (j + 1) u (by simpa using e)
      rw [show i + 1 + j = i + (j + 1) by omega]; exact this)
    simp only [List.length_cons, loadCellsFrom, Sem.run_bind, add_addr, run_load, h0, Result.andThen_ok, ih]
    simp

/-- The cells from o on, as the concrete block has them. -/
theorem BlkOk.cells {ρ : Ren} {L : Loc} {b : Blk} {w : World} (h : BlkOk ρ L b w.heap[L.blk]?) {o n : Nat} (hn : o + n ≤ b.cells.length) :
    ∃ vs, LRel (VRel ρ) ((b.cells.drop o).take n) vs ∧ vs.length = n ∧ ∀ (j : Nat) v, vs[j]? = some v → w.cell? ⟨L.blk, L.off + o + j, none⟩ = some v := by
  obtain ⟨cur, e, fz, h1, h2, h3, _, h5⟩ := h
  refine ⟨((cur.toList.drop (L.off + o)).take n), ?_, ?_, ?_⟩
  · refine LRel.of_get ?_ fun i x y hx hy => ?_
    · simp; omega
    · rw [List.getElem?_take] at hx hy
      split at hx
      · rename_i hi
        rw [if_pos hi] at hy
        rw [List.getElem?_drop] at hx hy
        obtain ⟨x', hx', r⟩ := h5 _ _ hx
        rw [show L.off + o + i = L.off + (o + i) by omega] at hy
        rw [Array.getElem?_toList, hx'] at hy
        cases hy; exact r
      · cases hx
  · simp; omega
  · intro j v hv
    rw [List.getElem?_take] at hv
    split at hv
    · rw [List.getElem?_drop] at hv
      rw [cell_at h1]; simpa using hv
    · cases hv

theorem run_loadVar_agg {P : Program} {w : World} {t : TypeId} {c o n : Nat} (ha : isAggT P t = some true) (hs : sizeT P t = some n) (vs : List Value) (hl : vs.length = n)
    (hc : ∀ (j : Nat) v, vs[j]? = some v → w.cell? ⟨c, o + j, none⟩ = some v) : (loadVar t ⟨c, o, none⟩).run P w = .ok (.agg vs.toArray) w := by
  unfold sizeT at hs
  cases hi : P.info? t with
  | none => simp [hi] at hs
  | some i =>
    simp [hi] at hs
    have hlc := run_loadCells (P := P) (w := w) (c := c) (o := o) vs 0 #[] (by simpa using hc)
    unfold isAggT at ha
    cases hu : P.underlying t with
    | none => simp [hu] at ha
    | some d => cases d <;> simp [hu] at ha <;> simp [loadVar, isAgg, run_underlying hu, sizeOf, typeInfo, hi, hs, loadCells, ← hl, hlc]

theorem run_loadVar_one {P : Program} {w : World} {t : TypeId} {c o : Nat} (ha : isAggT P t = some false) {v : Value} (hc : w.cell? ⟨c, o, none⟩ = some v) :
    (loadVar t ⟨c, o, none⟩).run P w = .ok v w := by
  unfold isAggT at ha
  cases hu : P.underlying t with
  | none => simp [hu] at ha
  | some d => cases d <;> simp [hu] at ha <;> simp [loadVar, isAgg, run_underlying hu, hc]

theorem splice_length : ∀ (vs cs : List Value) (o : Nat), (splice cs o vs).length = cs.length
  | [], _, _ => rfl
  | v :: r, cs, o => by simp [splice, splice_length r]

theorem splice_get : ∀ (vs cs : List Value) (o i : Nat), o + vs.length ≤ cs.length → (splice cs o vs)[i]? = if o ≤ i ∧ i < o + vs.length then vs[i - o]? else cs[i]?
  | [], cs, o, i, _ => by
    simp only [splice]; rw [if_neg (by simp only [List.length_nil]; omega)]
  | v :: r, cs, o, i, h => by
    simp only [List.length_cons] at h
    simp only [splice]
    rw [splice_get r (cs.set o v) (o + 1) i (by simp; omega)]
    by_cases h1 : o + 1 ≤ i ∧ i < o + 1 + r.length
    · rw [if_pos h1, if_pos (by simp; omega), show i - o = (i - (o + 1)) + 1 by omega]; simp
    · rw [if_neg h1]
      by_cases h2 : i = o
      · subst h2
        rw [if_pos (by simp), List.getElem?_set_self (by omega)]; simp
      · rw [if_neg (by simp; omega), List.getElem?_set_ne (by omega)]

/-- A store into an abstract block and into the concrete one. -/
theorem BlkOk.store {P : Program} {ρ : Ren} {L : Loc} {b : Blk} {w : World} (h : BlkOk ρ L b w.heap[L.blk]?) (hrw : b.rw = true) {o : Nat} {vs vs' : List Value}
    (hr : LRel (VRel ρ) vs vs') (ho : o + vs.length ≤ b.cells.length) (h1 : vs.all Value.oneCell' = true) :
    ∃ w', (storeCells ⟨L.blk, L.off + o, none⟩ vs' 0).run P w = .ok () w' ∧ Same w w' ∧ w'.heap.size = w.heap.size ∧ (∀ k, k ≠ L.blk → w'.heap[k]? = w.heap[k]?) ∧
      BlkOk ρ L ⟨splice b.cells o vs, true⟩ w'.heap[L.blk]? := by
  obtain ⟨cur, e, fz, h1', h2, h3, h4, h5⟩ := h
  obtain rfl := h4 hrw
  have hl := hr.len
  have hone : ∀ v ∈ vs', v.oneCell' = true := by
    intro v hv
    obtain ⟨i, hi, rfl⟩ := List.getElem_of_mem hv
    obtain ⟨y, hy, r⟩ := hr.get (i := i) (x := vs[i]'(by omega)) (by simp)
    rw [List.getElem?_eq_getElem hi] at hy
    cases hy
    rw [r.oneCell]
    exact List.all_eq_true.1 h1 _ (List.getElem_mem _)
  have hrun := run_storeCells_at P L.blk (L.off + o) e vs' 0 cur w h1' (by omega) hone
  refine ⟨_, hrun, ⟨rfl, rfl, rfl⟩, by simp, fun k hk => setRow_other w _ _ _ hk, ?_⟩
  refine ⟨_, e, (0, 0), setRow_heap w _ cur _ e _ h1', ?_, ?_, fun _ => rfl, ?_⟩
  · simp; omega
  · simp [splice_length]; exact h3
  · intro i v hv
    simp only at hv
    rw [splice_get _ _ _ _ ho] at hv
    simp only [Nat.add_zero, List.getElem?_toArray, List.append_assoc]
    by_cases hin : o ≤ i ∧ i < o + vs.length
    · rw [if_pos hin] at hv
      obtain ⟨y, hy, r⟩ := hr.get hv
      refine ⟨y, ?_, r⟩
      rw [List.getElem?_append_right (by simp; omega)]
      rw [List.getElem?_append_left (by simp; omega)]
      rw [← hy]; congr 1; simp; omega
    · rw [if_neg hin] at hv
      obtain ⟨y, hy, r⟩ := h5 i v hv
      refine ⟨y, ?_, r⟩
      have hib : i < b.cells.length := by
        rcases Nat.lt_or_ge i b.cells.length with k | k
        · exact k
        · rw [List.getElem?_eq_none k] at hv; cases hv
      by_cases hlt : i < o
      · rw [List.getElem?_append_left (by simp; omega), List.getElem?_take, if_pos (by omega)]; simpa using hy
      · rw [List.getElem?_append_right (by simp; omega), List.getElem?_append_right (by simp; omega), List.getElem?_drop, Array.getElem?_toList, ← hy]
        congr 1; simp; omega

/-- A new block. -/
theorem BlkOk.fresh {ρ : Ren} {w : World} {cs : List Value} {cur : Array Value} {e : TypeId} {fz : Nat × Nat} {rw : Bool} (hfz : rw = true → fz = (0, 0)) (hl : cs.length ≤ cur.size)
    (h : ∀ (i : Nat) v, cs[i]? = some v → ∃ v', cur[i]? = some v' ∧ VRel ρ v v') {w' : World} (hw : w'.heap = w.heap.push (.cells cur e fz)) :
    BlkOk ρ ⟨w.heap.size, 0, cur.size⟩ ⟨cs, rw⟩ w'.heap[w.heap.size]? := by
  refine ⟨cur, e, fz, by rw [hw]; simp, by simp, hl, hfz, fun i v hv => ?_⟩
  obtain ⟨v', a, b⟩ := h i v hv
  exact ⟨v', by simpa using a, b⟩

theorem OpRes.push {P : Program} {a : Act} {o : Oper} {w w' : World} {ρ : Ren} {id : Nat} {out : Out} {v' : Value} {cs : List Value} {cur : Array Value} {e : TypeId} {fz : Nat × Nat} {rw : Bool}
    (h : (execOp a.eval o).run P w = .ok (.value v') w') (hw : w'.heap = w.heap.push (.cells cur e fz)) (hsame : Same w w') (he : out.eff = .push ⟨cs, rw⟩)
    (hfz : rw = true → fz = (0, 0)) (hl : cs.length ≤ cur.size) (hc : ∀ (i : Nat) v, cs[i]? = some v → ∃ v', cur[i]? = some v' ∧ VRel ρ v v')
    (hv : VRel (upd ρ id ⟨w.heap.size, 0, cur.size⟩) out.val v') : OpRes P a o w ρ id out := by
  refine ⟨.value v', v', w', _, h, rfl, hsame, hv, ?_⟩
  rw [he]
  refine ⟨_, rfl, rfl, by rw [hw]; simp, fun k hk => ?_, BlkOk.fresh hfz hl hc hw⟩
  rw [hw, Array.getElem?_push, if_neg (by omega)]
end Go.Abs
