/- Each operation of the abstract evaluator is what the program's operation does: new memory, append. -/
import Derived.Test.YtjalhpdmdiimoaaDoorAbsOps5
import Derived.Laws.MakeOwn
set_option linter.unusedSimpArgs false
set_option linter.unusedVariables false
namespace Go.Abs
section
variable {P : Program} {a : Act} {o : Oper} {w : World} {ρ : Ren} {h : Heap} {lim : Nat} {ev : Operand → Option Value} {out : Out}

theorem foldl_fill (off : Nat) : ∀ (vs : List Value) (k : Nat) (cs : Array Value), (List.foldl (fun (cs : Array Value) (x : Value × Nat) => cs.setIfInBounds (off + x.2) x.1) cs (vs.zipIdx k)).toList = splice cs.toList (off + k) vs
  | [], _, _ => rfl
  | v :: r, k, cs => by
    rw [List.zipIdx_cons, List.foldl_cons, foldl_fill off r (k + 1)]
    simp [splice, Nat.add_assoc]

theorem LRel.splice {R : Value → Value → Prop} : ∀ {us vs : List Value} {xs ys : List Value} (o : Nat), LRel R xs ys → LRel R us vs → LRel R (splice xs o us) (splice ys o vs)
  | [], [], _, _, _, h, _ => h
  | _ :: _, _ :: _, _, _, o, h, k => by
    simp only [Abs.splice]
    exact LRel.splice (o + 1) (h.set o k.1) k.2
  | [], _ :: _, _, _, _, _, k => k.elim
  | _ :: _, [], _, _, _, _, k => k.elim

theorem fill_run (place : Nat → Option (Nat × Nat)) : ∀ (parts : List (Nat × Operand)) (ps : List (Nat × Nat × Operand)) (cs : List Value) (cs' : Array Value) (r : List Value),
    LRel (VRel ρ) cs cs'.toList → parts.mapM (fun (i, x) => (place i).map fun q => (q.1, q.2, x)) = some ps → fillL ev cs ps = some r →
    (∀ x ∈ parts.map (·.2), ∀ v, ev x = some v → VRel ρ v (a.eval x)) →
    ∃ r', Instr.fill place cs' (parts.map fun (i, x) => (i, a.eval x)) = some r' ∧ LRel (VRel ρ) r r'.toList
  | [], ps, cs, cs', r, hl, hp, hr, _ => by
    simp at hp
    subst hp
    simp only [fillL, Option.some.injEq] at hr
    subst hr
    exact ⟨cs', rfl, hl⟩
  | (i, x) :: parts, ps, cs, cs', r, hl, hp, hr, hx => by
    rw [List.mapM_cons] at hp
    simp only [bind, Option.bind_eq_some_iff, pure, Option.some.injEq, Option.map_eq_some_iff] at hp
    obtain ⟨_, ⟨⟨off, sz⟩, hpl, rfl⟩, rest, hrest, rfl⟩ := hp
    simp only [fillL] at hr
    split at hr
    · rename_i v hv
      have hrel := hx x (by simp) v hv
      have hcl := hrel.cells
      have hlen := hcl.len
      simp only [Array.length_toList] at hlen
      split at hr
      · rename_i hc
        have hle := hl.len
        simp only [Array.length_toList] at hle
        have hsp := hl.splice off hcl
        have := fill_run place parts rest _ (List.foldl (fun (cs : Array Value) (x : Value × Nat) => cs.setIfInBounds (off + x.2) x.1) cs' ((a.eval x).cells.toList.zipIdx)) r
          (by rw [foldl_fill]; simpa using hsp) hrest hr (fun y hy => hx y (by simp at hy ⊢; exact .inr hy))
        obtain ⟨r', h1, h2⟩ := this
        refine ⟨r', ?_, h2⟩
        simp only [List.map_cons, Instr.fill, hpl]
        have n1 : ¬ ((a.eval x).cells.size ≠ sz) := by omega
        have n2 : ¬ (off + (a.eval x).cells.size > cs'.size) := by omega
        simp only [n1, n2, decide_false, Bool.or_self, Bool.false_eq_true, if_false]
        have e : (Array.zipIdx (a.eval x).cells).foldl (fun cs x => cs.setIfInBounds (off + x.2) x.1) cs' = List.foldl (fun (cs : Array Value) (x : Value × Nat) => cs.setIfInBounds (off + x.2) x.1) cs' ((a.eval x).cells.toList.zipIdx) := by
          rw [← Array.foldl_toList]; simp
        rw [← e] at h1
        simpa [n1, n2] using h1
      · cases hr
    · cases hr

theorem run_mapM_array {α β : Type} (f : α → Sem β) (g : α → β) (P : Program) (w : World) (xs : Array α) (h : ∀ x ∈ xs.toList, (f x).run P w = .ok (g x) w) : (xs.mapM f).run P w = .ok (xs.map g) w := by
  rw [Array.mapM_eq_mapM_toList]
  have key : ∀ l : List α, (∀ x ∈ l, (f x).run P w = .ok (g x) w) → (l.mapM f).run P w = .ok (l.map g) w := by
    intro l
    induction l with
    | nil => intro _; simp
    | cons x l ih =>
      intro hl
      rw [List.mapM_cons]
      simp [hl x (by simp), ih fun y hy => hl y (by simp [hy])]
  simp only [Sem.run_map, key xs.toList h, Result.andThen_ok]
  congr 1; exact Array.ext' (by simp)

theorem places_struct {t : TypeId} {fields : Array Field} {parts : List (Nat × Operand)} {ps : List (Nat × Nat × Operand)} (hu : P.underlying t = some (.struct fields)) (hp : places P t parts = some ps) :
    parts.mapM (fun (i, x) => ((fields[i]?).bind fun f => (sizeT P f.type).map fun s => (f.offset, s)).map fun q => (q.1, q.2, x)) = some ps := by
  unfold places at hp
  simp only [hu] at hp
  rw [← hp]
  congr 1
  funext ⟨i, x⟩
  simp only
  cases fields[i]? with
  | none => rfl
  | some f => simp [Function.comp_def]

theorem sound_build {t : TypeId} {parts : Array (Nat × Operand)} {z : List Value} {ps : List (Nat × Nat × Operand)} (ho : o.op = .build t parts) (hz : zeroT P t = some z) (hp : places P t parts.toList = some ps)
    (hok : fieldsOk P t = true) (hrun : (EOp.build z ps).run lim h ev = some out) (hx : ∀ x ∈ parts.toList.map (·.2), ∀ v, ev x = some v → VRel ρ v (a.eval x)) : OpRes P a o w ρ h.length out := by
  obtain ⟨i, zv, hi, hzv, hs, rfl, hpl⟩ := zeroT_spec hz
  simp only [EOp.run, Option.map_eq_some_iff] at hrun
  obtain ⟨cs, hcs, rfl⟩ := hrun
  have hz0 : LRel (VRel ρ) zv.cells.toList zv.cells.toList := LRel.refl_plain (fun v hv => .plain hv) hpl
  have hzr : (zeroValue t).run P w = .ok zv w := by simp [zeroValue, typeInfo, hi, hzv]
  unfold fieldsOk at hok
  split at hok
  · rename_i fields hu
    have hp' := places_struct hu hp
    obtain ⟨r', h1, h2⟩ := fill_run (a := a) (ρ := ρ) (fun i => (fields[i]?).bind fun f => (sizeT P f.type).map fun s => (f.offset, s)) _ _ _ zv.cells _ hz0 hp' hcs hx
    refine .pure (v' := .agg r') ?_ (by have := VRel.agg_mk h2; simpa using this) rfl
    have hm : (fields.mapM fun f => do pure (f.offset, ← sizeOf f.type) : Sem (Array (Nat × Nat))).run P w = .ok (fields.map fun f => (f.offset, (sizeT P f.type).getD 0)) w := by
      refine run_mapM_array _ _ P w fields fun f hf => ?_
      have hfi := List.all_eq_true.1 hok f hf
      cases hfo : P.info? f.type with
      | none => simp [hfo] at hfi
      | some j => simp [sizeOf, typeInfo, hfo, sizeT]
    have hplace : ∀ i : Nat, ((fields.map fun (f : Field) => (f.offset, (sizeT P f.type).getD 0))[i]? : Option (Nat × Nat)) = (fields[i]?).bind fun (f : Field) => (sizeT P f.type).map fun s => (f.offset, s) := by
      intro i
      rw [Array.getElem?_map]
      cases hfi : fields[i]? with
      | none => rfl
      | some f =>
        have hmem : f ∈ fields.toList := by simpa using Array.mem_of_getElem? hfi
        have hfo := List.all_eq_true.1 hok f hmem
        cases hfo2 : P.info? f.type with
        | none => simp [hfo2] at hfo
        | some j => simp [sizeT, hfo2]
    simp only [execOp, ho, Instr.build]
    simp only [Sem.run_bind, hzr, Result.andThen_ok, run_underlying hu, hm]
    have e : (parts.map fun (i, x) => (i, a.eval x)).toList = parts.toList.map fun (i, x) => (i, a.eval x) := by simp
    rw [e]
    have e2 : (fun (x : Nat) => (fields.map fun (f : Field) => (f.offset, (sizeT P f.type).getD 0))[x]?) = fun i => (fields[i]?).bind fun (f : Field) => (sizeT P f.type).map fun s => (f.offset, s) := funext hplace
    rw [e2, h1]
    rfl
  · rename_i n elem hu
    unfold places at hp
    simp only [hu] at hp
    cases hs' : sizeT P elem with
    | none => simp [hs'] at hp
    | some s =>
      simp only [hs', Option.some.injEq] at hp
      have hp' : parts.toList.mapM (fun (i, x) => (some (i * s, s) : Option (Nat × Nat)).map fun q => (q.1, q.2, x)) = some ps := by
        rw [← hp]
        generalize parts.toList = l
        induction l with
        | nil => rfl
        | cons x l ih => rw [List.mapM_cons]; simp only [bind, Option.map_some, Option.bind_some] at ih ⊢; rw [ih]; rfl
      obtain ⟨r', h1, h2⟩ := fill_run (a := a) (ρ := ρ) (fun i => some (i * s, s)) _ _ _ zv.cells _ hz0 hp' hcs hx
      refine .pure (v' := .agg r') ?_ (by have := VRel.agg_mk h2; simpa using this) rfl
      simp only [execOp, ho, Instr.build]
      simp only [Sem.run_bind, hzr, Result.andThen_ok, run_underlying hu, sizeT_run hs']
      have e : (parts.map fun (i, x) => (i, a.eval x)).toList = parts.toList.map fun (i, x) => (i, a.eval x) := by simp
      rw [e, h1]
      rfl
  · cases hok

theorem zeros_get {z : List Value} {n i : Nat} {v : Value} (h : (zeros z n)[i]? = some v) (hz : z ≠ []) : i < n * z.length ∧ z[i % z.length]? = some v := by
  have key : ∀ n i, ((List.replicate n z).flatten)[i]? = some v → i < n * z.length ∧ z[i % z.length]? = some v := by
    intro n
    induction n with
    | zero => intro i h; simp at h
    | succ n ih =>
      intro i h
      rw [List.replicate_succ, List.flatten_cons] at h
      by_cases hi : i < z.length
      · rw [List.getElem?_append_left hi] at h
        refine ⟨?_, by rw [Nat.mod_eq_of_lt hi]; exact h⟩
        have : z.length ≤ (n + 1) * z.length := Nat.le_mul_of_pos_left _ (by omega)
        omega
      · rw [List.getElem?_append_right (by omega)] at h
        obtain ⟨h1, h2⟩ := ih _ h
        rw [Nat.add_one_mul]
        refine ⟨by omega, ?_⟩
        rw [Nat.mod_eq_sub_mod (by omega)]; exact h2
  unfold zeros at h
  split at h
  · rename_i u
    rw [List.getElem?_replicate] at h
    split at h
    · cases h
      exact ⟨by simpa, by simp [Nat.mod_one]⟩
    · cases h
  · exact key n i h

theorem zeros_length (z : List Value) (n : Nat) : (zeros z n).length = n * z.length := by
  unfold zeros
  split <;> simp

theorem madeCells_get {z : List Value} (hz : z ≠ []) {n m i : Nat} {v : Value} (h : (zeros z n)[i]? = some v) (hm : n * z.length ≤ m) :
    ((Array.range m).map (fun j => z.toArray[j % z.toArray.size]!))[i]? = some v := by
  obtain ⟨h1, h2⟩ := zeros_get h hz
  rw [Array.getElem?_map, Array.getElem?_range, if_pos (by omega)]
  simp only [Option.map_some, List.size_toArray]
  have : i % z.length < z.length := Nat.mod_lt _ (by have := List.length_pos_iff.2 hz; omega)
  simp [getElem!_pos, this]
  rw [List.getElem?_eq_getElem this] at h2
  simpa using h2

theorem zeros_plain {z : List Value} (hz : z.all plainV = true) (n : Nat) : (zeros z n).all plainV = true := by
  unfold zeros
  split
  · simp at hz; simp [hz]
  · rw [List.all_eq_true]
    intro x hx
    simp only [List.mem_flatten, List.mem_replicate] at hx
    obtain ⟨l, ⟨_, rfl⟩, hx⟩ := hx
    exact List.all_eq_true.1 hz x hx

theorem sound_makeSlice {t e : TypeId} {i : TypeInfo} {z : List Value} {l c : Operand} (ho : o.op = .makeSlice t l c) (hu : P.underlying t = some (.slice e)) (hi : P.info? e = some i) (hz : zeroT P e = some z) (hs0 : 0 < i.size)
    (hrun : (EOp.makeSlice i.size i.bytes z l c).run lim h ev = some out) (hl : ∀ v, ev l = some v → VRel ρ v (a.eval l)) (hc : ∀ v, ev c = some v → VRel ρ v (a.eval c)) : OpRes P a o w ρ h.length out := by
  obtain ⟨i', zv, hi', hzv, hs, rfl, hpl⟩ := zeroT_spec hz
  rw [hi] at hi'
  cases hi'
  simp only [EOp.run] at hrun
  split at hrun
  · rename_i k1 n k2 m hn hm
    have e1 := (hl _ hn).int_inv
    have e2 := (hc _ hm).int_inv
    split at hrun
    · rename_i hcd
      obtain ⟨h0, h1, h2, h3⟩ := hcd
      cases hrun
      have hm0 : 0 ≤ m := by omega
      obtain ⟨m, rfl⟩ := Int.eq_ofNat_of_zero_le hm0
      obtain ⟨n, rfl⟩ := Int.eq_ofNat_of_zero_le h0
      have h3' : m ≤ maxLen := by exact_mod_cast h3
      have hmx : (m : Int) ≤ 9223372036854775807 := by simp only [maxLen] at h3'; omega
      have hrunm := run_make (P := P) w t e i zv hu hi hzv k1 k2 n m h0 h1 (by omega) hmx
      simp only [Int.toNat_natCast] at hrunm
      have hzne : zv.cells.toList ≠ [] := fun q => by
        have q2 : zv.cells.size = 0 := by rw [← Array.length_toList, q]; rfl
        omega
      refine .push (cs := zeros zv.cells.toList n) (cur := madeCells zv.cells (m * i.size)) (e := e) (fz := (0, 0)) (rw := true)
        (v' := .slice (some ⟨w.heap.size, 0, none⟩) n m) (w' := w.alloc (.cells (madeCells zv.cells (m * i.size)) e)) ?_ rfl ⟨rfl, rfl, rfl⟩ (by simp) (fun _ => rfl) ?_ ?_ ?_
      · simp [execOp, ho, e1, e2, hrunm]
      · simp [zeros_length, hs, size_madeCells]
        have : (n : Int) ≤ m := h1
        exact Nat.mul_le_mul_right _ (by omega)
      · intro j v hv
        refine ⟨v, ?_, .plain (List.all_eq_true.1 (zeros_plain hpl n) v (List.mem_of_getElem? hv))⟩
        have := madeCells_get hzne (m := m * i.size) hv (by simp [hs]; exact Nat.mul_le_mul_right _ (by omega))
        simpa [madeCells] using this
      · refine .slice (L := ⟨w.heap.size, 0, (madeCells zv.cells (m * i.size)).size⟩) (by simp [upd]) (by simp only [Int.toNat_natCast]; omega) rfl (fun _ => rfl) (by omega) (fun _ => ⟨by simp, by simp [size_madeCells]⟩) h3'
    · cases hrun
  · cases hrun
end
end Go.Abs
