/- Each operation of the abstract evaluator is what the program's operation does: comparisons of structs and arrays. -/
import Derived.Test.YtjalhpdmdiimoaaDoorAbsOps2
import Derived.ChangeKeysEq
set_option linter.unusedSimpArgs false
set_option linter.unusedVariables false
namespace Go.Abs

theorem eqCells_len : ∀ (ks : List CK) (a b : List Value) {r : Bool}, E.eqCells ks a b = some r → a.length = ks.length ∧ b.length = ks.length
  | [], [], [], _, _ => ⟨rfl, rfl⟩
  | .int k :: ks, a, b, r, h => by
    unfold E.eqCells at h
    split at h <;> rename_i h1 <;> first | (cases h1; done) | (cases h; done) | skip
    cases h1
    split at h
    · simp only [Option.map_eq_some_iff] at h
      obtain ⟨r0, h0, _⟩ := h
      have := eqCells_len _ _ _ h0
      simp [this.1, this.2]
    · cases h
  | .bool :: ks, a, b, r, h => by
    unfold E.eqCells at h
    split at h <;> rename_i h1 <;> first | (cases h1; done) | (cases h; done) | skip
    simp only [Option.map_eq_some_iff] at h
    obtain ⟨r0, h0, _⟩ := h
    cases h1
    have := eqCells_len _ _ _ h0
    simp [this.1, this.2]
  | .str :: ks, a, b, r, h => by
    unfold E.eqCells at h
    split at h <;> rename_i h1 <;> first | (cases h1; done) | (cases h; done) | skip
    simp only [Option.map_eq_some_iff] at h
    obtain ⟨r0, h0, _⟩ := h
    cases h1
    have := eqCells_len _ _ _ h0
    simp [this.1, this.2]
  | [], _ :: _, _, _, h => by simp [E.eqCells] at h
  | [], [], _ :: _, _, h => by simp [E.eqCells] at h

theorem eqCells_append : ∀ (ks : List CK) {ls : List CK} {a c : List Value} {r : Bool}, E.eqCells (ks ++ ls) a c = some r →
    ∃ r1 r2, E.eqCells ks (a.take ks.length) (c.take ks.length) = some r1 ∧ E.eqCells ls (a.drop ks.length) (c.drop ks.length) = some r2 ∧ r = (r1 && r2)
  | [], ls, a, c, r, h => ⟨true, r, by simp [E.eqCells], by simpa using h, by simp⟩
  | k :: ks, ls, a, c, r, h => by
    simp only [List.cons_append] at h
    unfold E.eqCells at h
    split at h
    · rename_i h1; cases h1
    · rename_i h1
      cases h1
      split at h
      · rename_i hk
        simp only [Option.map_eq_some_iff] at h
        obtain ⟨r0, h0, rfl⟩ := h
        obtain ⟨r1, r2, e1, e2, rfl⟩ := eqCells_append ks h0
        exact ⟨_, r2, by simp [E.eqCells, hk, e1]; rfl, by simpa using e2, by rw [Bool.and_assoc]⟩
      · cases h
    · rename_i h1
      cases h1
      simp only [Option.map_eq_some_iff] at h
      obtain ⟨r0, h0, rfl⟩ := h
      obtain ⟨r1, r2, e1, e2, rfl⟩ := eqCells_append ks h0
      exact ⟨_, r2, by simp [E.eqCells, e1]; rfl, by simpa using e2, by rw [Bool.and_assoc]⟩
    · rename_i h1
      cases h1
      simp only [Option.map_eq_some_iff] at h
      obtain ⟨r0, h0, rfl⟩ := h
      obtain ⟨r1, r2, e1, e2, rfl⟩ := eqCells_append ks h0
      exact ⟨_, r2, by simp [E.eqCells, e1]; rfl, by simpa using e2, by rw [Bool.and_assoc]⟩
    · cases h

/-- A value of type t, by its cells. -/
def pv (P : Program) (t : TypeId) (xs : List Value) : Value :=
  if isAggT P t = some true then .agg xs.toArray else xs.headD undef

def aggD : TypeDesc → Bool
  | .struct _ | .array _ _ => true
  | _ => false

theorem isAggT_of {P : Program} {t : TypeId} {d : TypeDesc} (hu : P.underlying t = some d) : isAggT P t = some (aggD d) := by
  unfold isAggT; rw [hu]; cases d <;> rfl

theorem eqCells_int {k : IntKind} {xs ys : List Value} {r : Bool} (h : E.eqCells [.int k] xs ys = some r) : ∃ a b, xs = [.int k a] ∧ ys = [.int k b] ∧ r = (a == b) := by
  have hl := eqCells_len _ _ _ h
  match xs, ys, hl with
  | [x], [y], _ =>
    cases x <;> cases y <;> simp [E.eqCells] at h
    obtain ⟨⟨rfl, rfl⟩, rfl⟩ := h
    exact ⟨_, _, rfl, rfl, rfl⟩

theorem eqCells_bool {xs ys : List Value} {r : Bool} (h : E.eqCells [.bool] xs ys = some r) : ∃ a b, xs = [.bool a] ∧ ys = [.bool b] ∧ r = (a == b) := by
  have hl := eqCells_len _ _ _ h
  match xs, ys, hl with
  | [x], [y], _ =>
    cases x <;> cases y <;> simp [E.eqCells] at h
    subst h
    exact ⟨_, _, rfl, rfl, rfl⟩

theorem eqCells_str {xs ys : List Value} {r : Bool} (h : E.eqCells [.str] xs ys = some r) : ∃ a b, xs = [.string a] ∧ ys = [.string b] ∧ r = (a.toList == b.toList) := by
  have hl := eqCells_len _ _ _ h
  match xs, ys, hl with
  | [x], [y], _ =>
    cases x <;> cases y <;> simp [E.eqCells] at h
    subst h
    exact ⟨_, _, rfl, rfl, rfl⟩

theorem flatT_size {P : Program} {d : Nat} {t : TypeId} {ks : List CK} (h : flatT P d t = some ks) : sizeT P t = some ks.length ∧ (isAggT P t = some true ∨ (isAggT P t = some false ∧ ks.length = 1)) := by
  cases d with
  | zero => simp [flatT] at h
  | succ d =>
    unfold flatT at h
    split at h
    · rename_i hu; split at h <;> cases h; rename_i hs; exact ⟨hs, .inr ⟨isAggT_of hu, rfl⟩⟩
    · rename_i hu; split at h <;> cases h; rename_i hs; exact ⟨hs, .inr ⟨isAggT_of hu, rfl⟩⟩
    · rename_i hu; split at h <;> cases h; rename_i hs; exact ⟨hs, .inr ⟨isAggT_of hu, rfl⟩⟩
    · rename_i hu
      split at h
      · cases h
      · split at h
        · split at h <;> cases h; rename_i hs; exact ⟨hs, .inl (isAggT_of hu)⟩
        · cases h
    · rename_i hu
      split at h
      · split at h <;> cases h; rename_i hs; exact ⟨by rw [hs]; simp, .inl (isAggT_of hu)⟩
      · cases h
    · cases h

theorem pv_part {P : Program} {w : World} {t : TypeId} {n : Nat} (hs : sizeT P t = some n) (xs : Array Value) (o : Nat) (hn : isAggT P t = some true ∨ (isAggT P t = some false ∧ n = 1 ∧ o < xs.size)) :
    (part t xs o).run P w = .ok (pv P t ((xs.toList.drop o).take n)) w := by
  have hsz := sizeT_run (P := P) (w := w) hs
  rcases hn with hg | ⟨hg, rfl, hx⟩
  · have hg' := hg
    unfold isAggT at hg
    cases hu : P.underlying t with
    | none => simp [hu] at hg
    | some d =>
      have e : xs.extract o (o + n) = (List.take n (List.drop o xs.toList)).toArray := Array.ext' (by simp)
      cases d <;> simp [hu] at hg <;> simp [part, isAgg, run_underlying hu, hsz, pv, hg', e]
  · have hg' := hg
    unfold isAggT at hg
    cases hu : P.underlying t with
    | none => simp [hu] at hg
    | some d =>
      have e : (List.take 1 (List.drop o xs.toList)) = [xs[o]] := by
        rw [List.drop_eq_getElem_cons (by simpa using hx)]; simp
      cases d <;> simp [hu] at hg <;> simp [part, isAgg, run_underlying hu, pv, hg', e, hx]

theorem run_eqFields_flat {P : Program} {w : World} {D : Nat} {flat : TypeId → Option (List CK)}
    (ih : ∀ (t : TypeId) (ks : List CK) (xs ys : List Value) (r : Bool), flat t = some ks → E.eqCells ks xs ys = some r →
      (sizeT P t = some ks.length ∧ (isAggT P t = some true ∨ (isAggT P t = some false ∧ ks.length = 1))) ∧ (Op.equalIn D t (pv P t xs) (pv P t ys)).run P w = .ok r w) (xs ys : Array Value) :
    ∀ (fs : List Field) (o : Nat) (ks : List CK) (r : Bool), flatFields P flat o fs = some ks → E.eqCells ks (xs.toList.drop o) (ys.toList.drop o) = some r → (Op.eqFields D xs ys fs).run P w = .ok r w
  | [], o, ks, r, h, hr => by
    simp only [flatFields, Option.some.injEq] at h
    subst h
    have hl := eqCells_len _ _ _ hr
    simp only [List.length_nil, List.length_eq_zero_iff] at hl
    rw [hl.1, hl.2] at hr
    simp [E.eqCells] at hr
    subst hr
    simp [Op.eqFields]
  | f :: fs, o, ks, r, h, hr => by
    unfold flatFields at h
    split at h
    · rename_i k1 hk1
      split at h
      · rename_i hc
        simp only [Option.map_eq_some_iff] at h
        obtain ⟨k2, h2, rfl⟩ := h
        have hl := eqCells_len _ _ _ hr
        simp at hl
        obtain ⟨r1, r2, e1, e2, rfl⟩ := eqCells_append _ hr
        obtain ⟨⟨hs, hor⟩, hrun⟩ := ih _ _ _ _ _ hk1 e1
        have hp1 := pv_part (P := P) (w := w) hs xs f.offset (hor.imp id fun q => ⟨q.1, q.2, by have := q.2; rw [hc.2]; omega⟩)
        have hp2 := pv_part (P := P) (w := w) hs ys f.offset (hor.imp id fun q => ⟨q.1, q.2, by have := q.2; rw [hc.2]; omega⟩)
        rw [hc.2] at hp1 hp2
        have hrec := run_eqFields_flat ih xs ys fs (o + k1.length) k2 r2 h2 (by simpa [List.drop_drop] using e2)
        simp only [Op.eqFields, if_pos hc.1, hc.2, Sem.run_bind, hp1, hp2, Result.andThen_ok, hrun]
        cases r1
        · simp
        · simpa using hrec
      · cases h
    · cases h

theorem run_eqItems_flat {P : Program} {w : World} {D : Nat} {e : TypeId} {ks : List CK} (hs : sizeT P e = some ks.length) (hor : isAggT P e = some true ∨ (isAggT P e = some false ∧ ks.length = 1))
    (ih : ∀ (xs ys : List Value) (r : Bool), E.eqCells ks xs ys = some r → (Op.equalIn D e (pv P e xs) (pv P e ys)).run P w = .ok r w) (xs ys : Array Value) :
    ∀ (n i : Nat) (r : Bool), E.eqCells (List.replicate n ks).flatten (xs.toList.drop (i * ks.length)) (ys.toList.drop (i * ks.length)) = some r →
      (Op.eqItems D e ks.length xs ys (List.range' i n)).run P w = .ok r w
  | 0, i, r, hr => by
    have hl := eqCells_len _ _ _ hr
    simp only [List.replicate_zero, List.flatten_nil, List.length_nil, List.length_eq_zero_iff] at hl hr
    rw [hl.1, hl.2] at hr
    simp [E.eqCells] at hr
    subst hr
    simp [Op.eqItems]
  | n + 1, i, r, hr => by
    rw [List.replicate_succ, List.flatten_cons] at hr
    have hl := eqCells_len _ _ _ hr
    simp only [List.length_drop, List.length_append, Array.length_toList] at hl
    obtain ⟨r1, r2, e1, e2, rfl⟩ := eqCells_append _ hr
    rw [List.drop_drop, List.drop_drop] at e2
    have hrec := run_eqItems_flat hs hor ih xs ys n (i + 1) r2 (by rw [Nat.add_one_mul]; exact e2)
    have hp1 := pv_part (P := P) (w := w) hs xs (i * ks.length) (hor.imp id fun q => ⟨q.1, q.2, by have := q.2; omega⟩)
    have hp2 := pv_part (P := P) (w := w) hs ys (i * ks.length) (hor.imp id fun q => ⟨q.1, q.2, by have := q.2; omega⟩)
    simp only [List.range'_succ, Op.eqItems, Sem.run_bind, hp1, hp2, Result.andThen_ok, ih _ _ _ e1]
    cases r1
    · simp
    · simpa using hrec

theorem run_equalIn_flat (P : Program) (w : World) : ∀ (d : Nat) (t : TypeId) (D : Nat) (ks : List CK) (xs ys : List Value) (r : Bool), flatT P d t = some ks → d ≤ D →
    E.eqCells ks xs ys = some r → (Op.equalIn D t (pv P t xs) (pv P t ys)).run P w = .ok r w := by
  intro d
  induction d with
  | zero => intro t D ks xs ys r h; simp [flatT] at h
  | succ d ih =>
    intro t D ks xs ys r h hD hr
    obtain ⟨D, rfl⟩ : ∃ D', D = D' + 1 := ⟨D - 1, by omega⟩
    have hl := eqCells_len _ _ _ hr
    unfold flatT at h
    split at h
    · rename_i k hu
      have hg := isAggT_of hu
      split at h <;> cases h
      obtain ⟨x, y, rfl, rfl, rfl⟩ := eqCells_int hr
      simp only [pv, hg, aggD, Option.some.injEq, Bool.false_eq_true, if_false, List.headD_cons]
      exact run_equalIn_int w D t _ _ _ _ hu
    · rename_i hu
      have hg := isAggT_of hu
      split at h <;> cases h
      obtain ⟨x, y, rfl, rfl, rfl⟩ := eqCells_bool hr
      simp only [pv, hg, aggD, Option.some.injEq, Bool.false_eq_true, if_false, List.headD_cons]
      exact run_equalIn_bool' w D t _ _ hu
    · rename_i hu
      have hg := isAggT_of hu
      split at h <;> cases h
      obtain ⟨x, y, rfl, rfl, rfl⟩ := eqCells_str hr
      simp only [pv, hg, aggD, Option.some.injEq, Bool.false_eq_true, if_false, List.headD_cons]
      exact run_equalIn_string w D t _ _ hu
    · rename_i fields hu
      have hg := isAggT_of hu
      simp only [aggD] at hg
      split at h
      · cases h
      · rename_i hst
        split at h
        · rename_i ks' hks
          split at h <;> cases h
          have hf : P.fieldsOf t = fields := by simp [Program.fieldsOf, hu]
          simp only [pv, hg, if_true]
          rw [run_equalIn_struct w D t _ _ (by rw [hf]; exact hu) (by simpa using hst), hf]
          refine run_eqFields_flat (flat := flatT P d) (fun t ks xs ys r h1 h2 => ⟨flatT_size h1, ih t D ks xs ys r h1 (by omega) h2⟩) _ _ _ 0 _ _ hks ?_
          simpa using hr
        · cases h
    · rename_i n e hu
      have hg := isAggT_of hu
      simp only [aggD] at hg
      split at h
      · rename_i ks' hks
        split at h <;> cases h
        obtain ⟨hs, hor⟩ := flatT_size hks
        simp only [pv, hg, if_true]
        have hs' := hs
        unfold sizeT at hs'
        cases hi : P.info? e with
        | none => simp [hi] at hs'
        | some i =>
          simp [hi] at hs'
          rw [run_equalIn_array w D _ _ hu hi]
          have hcs : P.cellsOf e = ks'.length := by simp [Program.cellsOf, hi, hs']
          rw [hcs, List.range_eq_range']
          refine run_eqItems_flat hs hor (fun xs ys r h2 => ih e D ks' xs ys r hks (by omega) h2) _ _ n 0 r ?_
          simpa using hr
      · cases h
    · cases h
end Go.Abs
