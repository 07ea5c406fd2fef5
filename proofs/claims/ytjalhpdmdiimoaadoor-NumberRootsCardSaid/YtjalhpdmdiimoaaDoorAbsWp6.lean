/- Cells of the heap; slices whose place is not known. -/
import Derived.Test.YtjalhpdmdiimoaaDoorAbsWp5
set_option linter.unusedSimpArgs false
set_option linter.unusedVariables false
namespace Go.Abs
def cellL : Option (Option Blk) → Nat → Option Value
  | some (some k), o => k.cells[o]?
  | _, _ => none
def partL : Option (Option Blk) → Nat → Nat → Option Value
  | some (some k), o, n => if o + n ≤ k.cells.length then some (.agg ((k.cells.drop o).take n).toArray) else none
  | _, _, _ => none
@[simp] theorem cellL_some (cs : List Value) (rw : Bool) (o : Nat) : cellL (some (some ⟨cs, rw⟩)) o = cs[o]? := rfl
@[simp] theorem partL_some (cs : List Value) (rw : Bool) (o n : Nat) : partL (some (some ⟨cs, rw⟩)) o n = if o + n ≤ cs.length then some (.agg ((cs.drop o).take n).toArray) else none := rfl
theorem cell_get {h : Heap} {b o : Nat} {k : Blk} (e : h.get b = some k) : h.cell b o = k.cells[o]? := by simp [Heap.cell, e]
theorem part_get {h : Heap} {b o n : Nat} {k : Blk} (e : h.get b = some k) : h.part b o n = if o + n ≤ k.cells.length then some (.agg ((k.cells.drop o).take n).toArray) else none := by simp [Heap.part, e]
@[simp] theorem cell_base {h : Heap} {l : List (Option Blk)} {n j o : Nat} (e : n = h.length) : Heap.cell (h ++ l) (n + j) o = cellL l[j]? o := by
  unfold Heap.cell; rw [hget_base e]
  rcases l[j]? with _ | _ | k <;> rfl
@[simp] theorem cell_base0 {h : Heap} {l : List (Option Blk)} {n o : Nat} (e : n = h.length) : Heap.cell (h ++ l) n o = cellL l[0]? o := cell_base (j := 0) e
@[simp] theorem part_base {h : Heap} {l : List (Option Blk)} {n j o m : Nat} (e : n = h.length) : Heap.part (h ++ l) (n + j) o m = partL l[j]? o m := by
  unfold Heap.part; rw [hget_base e]
  rcases l[j]? with _ | _ | k <;> rfl
@[simp] theorem part_base0 {h : Heap} {l : List (Option Blk)} {n o m : Nat} (e : n = h.length) : Heap.part (h ++ l) n o m = partL l[0]? o m := part_base (j := 0) e
theorem get_freeze (h : Heap) (b : Nat) : Heap.get h.freeze b = (h.get b).map fun k => ⟨k.cells, false⟩ := by
  unfold Heap.get Heap.freeze
  rw [List.getElem?_map]
  rcases h[b]? with _ | _ | k <;> rfl
@[simp] theorem cell_freeze (h : Heap) (b o : Nat) : Heap.cell h.freeze b o = h.cell b o := by
  unfold Heap.cell; rw [get_freeze]; rcases h.get b with _ | k <;> rfl
@[simp] theorem part_freeze (h : Heap) (b o n : Nat) : Heap.part h.freeze b o n = h.part b o n := by
  unfold Heap.part; rw [get_freeze]; rcases h.get b with _ | k <;> rfl
theorem get_app {h : Heap} {l : List (Option Blk)} {b : Nat} (e : b < h.length) : Heap.get (h ++ l) b = h.get b := by
  unfold Heap.get; rw [List.getElem?_append_left e]
@[simp] theorem cell_app {h : Heap} {l : List (Option Blk)} {b o : Nat} (e : b < h.length) : Heap.cell (h ++ l) b o = h.cell b o := by
  unfold Heap.cell; rw [get_app e]
@[simp] theorem part_app {h : Heap} {l : List (Option Blk)} {b o n : Nat} (e : b < h.length) : Heap.part (h ++ l) b o n = h.part b o n := by
  unfold Heap.part; rw [get_app e]

/-- A slice of n elements of es cells: where it lies is not told. -/
structure Sl (es : Nat) (h : Heap) (v : Value) (n : Nat) (cs : List Value) : Prop where
  len : slN v = some n
  size : cs.length = n * es
  addr : n ≠ 0 → v = .slice (some ⟨slB v, slO v, none⟩) n es
  low : v = .slice none 0 0 ∨ ∃ b o m s, v = .slice (some ⟨b, o, none⟩) m s ∧ b < h.length
  cell : ∀ k, k < n * es → h.cell (slB v) (slO v + k) = cs[k]?

theorem Sl.lt {es : Nat} {h : Heap} {v : Value} {n : Nat} {cs : List Value} (s : Sl es h v n cs) (hn : n ≠ 0) : slB v < h.length := by
  rcases s.low with e | ⟨b, o, m, t, e, hb⟩
  · have := s.addr hn; rw [e] at this; cases this
  · rw [e]; exact hb
theorem Sl.lowV {es : Nat} {h : Heap} {v : Value} {n : Nat} {cs : List Value} (s : Sl es h v n cs) {k d : Nat} (e : k = h.length) : lowV k d v = true := by
  rcases s.low with e | ⟨b, o, m, t, e, hb⟩
  · subst e; simp
  · subst e; subst k; simp [hb]
theorem Sl.fewV {es : Nat} {h : Heap} {v : Value} {n : Nat} {cs : List Value} (s : Sl es h v n cs) {d : Nat} : fewV d v ≤ 1 := by
  rcases s.low with e | ⟨b, o, m, t, e, hb⟩
  · subst e; simp
  · subst e; simp
theorem Sl.at {es : Nat} {h : Heap} {v : Value} {n : Nat} {cs : List Value} (s : Sl es h v n cs) {k : IntKind} {i : Int} (h0 : 0 ≤ i) (h1 : i < n) : slAt es v (.int k i) = some (.pointer (some ⟨slB v, slO v + i.toNat * es, none⟩)) := by
  have hn : n ≠ 0 := by omega
  have := s.addr hn
  conv => lhs; rw [this]
  rw [slAt_some, if_pos ⟨h0, h1, rfl⟩]
@[simp] theorem Sl_freeze {es : Nat} {h : Heap} {v : Value} {n : Nat} {cs : List Value} : Sl es h.freeze v n cs ↔ Sl es h v n cs := by
  constructor
  · intro s; exact ⟨s.len, s.size, s.addr, by simpa using s.low, fun k hk => by rw [← cell_freeze]; exact s.cell k hk⟩
  · intro s; exact ⟨s.len, s.size, s.addr, by simpa using s.low, fun k hk => by rw [cell_freeze]; exact s.cell k hk⟩
theorem Sl.app {es : Nat} {h : Heap} {v : Value} {n : Nat} {cs : List Value} (s : Sl es h v n cs) (l : List (Option Blk)) : Sl es (h ++ l) v n cs :=
  ⟨s.len, s.size, s.addr, by
    rcases s.low with e | ⟨b, o, m, t, e, hb⟩
    · exact .inl e
    · exact .inr ⟨b, o, m, t, e, by simp; omega⟩, fun k hk => by
    have hn : n ≠ 0 := by rintro rfl; simp at hk
    rw [cell_app (s.lt hn)]; exact s.cell k hk⟩
@[simp] theorem Sl_app {es : Nat} {h : Heap} {v : Value} {n : Nat} {cs : List Value} {l : List (Option Blk)} (s : Sl es h v n cs) : Sl es (h ++ l) v n cs := s.app l
/-- The cells of an element. -/
theorem Sl.part {es : Nat} {h : Heap} {v : Value} {n : Nat} {cs : List Value} (s : Sl es h v n cs) {k m : Nat} (hk : k + m ≤ n * es) (hm : m ≠ 0) : h.part (slB v) (slO v + k) m = some (.agg ((cs.drop k).take m).toArray) := by
  have hn : n ≠ 0 := by rintro rfl; simp at hk; omega
  have hc := s.cell
  unfold Heap.cell at hc
  unfold Heap.part
  rcases e : h.get (slB v) with _ | b
  · have := hc k (by omega)
    rw [e] at this
    simp at this
    have := s.size; omega
  · rw [e] at hc
    simp only [Option.bind_some] at hc ⊢
    have hlen : slO v + k + m ≤ b.cells.length := by
      have := hc (k + m - 1) (by omega)
      have hlt : k + m - 1 < cs.length := by rw [s.size]; omega
      rw [List.getElem?_eq_getElem hlt] at this
      obtain ⟨q, _⟩ := List.getElem?_eq_some_iff.1 this
      omega
    rw [if_pos hlen]
    congr 3
    apply List.ext_getElem?
    intro i
    by_cases hi : i < m
    · rw [List.getElem?_take_of_lt hi, List.getElem?_take_of_lt hi, List.getElem?_drop, List.getElem?_drop, ← hc (k + i) (by omega)]
      congr 1; omega
    · rw [List.getElem?_eq_none (by simp; omega), List.getElem?_eq_none (by simp; omega)]
/-- What simp wants of a slice. -/
theorem Sl.rules {es : Nat} {h : Heap} {v : Value} {n : Nat} {cs : List Value} (s : Sl es h v n cs) :
    slN v = some n ∧ (∀ (k : IntKind) (i : Int), 0 ≤ i → i < n → slAt es v (.int k i) = some (.pointer (some ⟨slB v, slO v + i.toNat * es, none⟩))) ∧
    (∀ k, k < n * es → h.cell (slB v) (slO v + k) = cs[k]?) ∧ (∀ l k, k < n * es → Heap.cell (h ++ l) (slB v) (slO v + k) = cs[k]?) ∧ (∀ l k, k < n * es → Heap.cell (h.freeze ++ l) (slB v) (slO v + k) = cs[k]?) ∧
    (∀ k m, k + m ≤ n * es → m ≠ 0 → h.part (slB v) (slO v + k) m = some (.agg ((cs.drop k).take m).toArray)) ∧ (∀ l k m, k + m ≤ n * es → m ≠ 0 → Heap.part (h ++ l) (slB v) (slO v + k) m = some (.agg ((cs.drop k).take m).toArray)) ∧
    (∀ l k m, k + m ≤ n * es → m ≠ 0 → Heap.part (h.freeze ++ l) (slB v) (slO v + k) m = some (.agg ((cs.drop k).take m).toArray)) ∧
    (∀ k d, k = h.length → Go.Abs.lowV k d v = true) :=
  ⟨s.len, fun _ _ => s.at, s.cell, fun l => (s.app l).cell, fun l => ((Sl_freeze.2 s).app l).cell, fun _ _ => s.part, fun l _ _ => (s.app l).part, fun l _ _ => ((Sl_freeze.2 s).app l).part, fun _ _ => s.lowV⟩
end Go.Abs
namespace Go.Abs
@[simp ↓ high] theorem ptrAdd_ptr2 (k b o m : Nat) : ptrAdd k (.pointer (some ⟨b, o + m, none⟩)) = some (.pointer (some ⟨b, o + (m + k), none⟩)) := by simp [Nat.add_assoc]
/-- Lists of structs, cell by cell. -/
def cS {α : Type} (f : α → List Value) (l : List α) : List Value := l.flatMap f
theorem cS_len {α : Type} {f : α → List Value} {es : Nat} (hf : ∀ a, (f a).length = es) (l : List α) : (cS f l).length = l.length * es := by
  induction l with
  | nil => simp [cS]
  | cons a r ih => simp only [cS, List.flatMap_cons, List.length_append, hf, List.length_cons] at ih ⊢; rw [ih]; rw [Nat.add_mul]; omega
theorem cS_get {α : Type} {f : α → List Value} {es : Nat} (hf : ∀ a, (f a).length = es) : ∀ (l : List α) (i j : Nat) (hi : i < l.length) (_ : j < es), (cS f l)[i * es + j]? = (f l[i])[j]?
  | [], _, _, hi, _ => by simp at hi
  | a :: r, 0, j, _, hj => by simp only [cS, List.flatMap_cons]; rw [Nat.zero_mul, Nat.zero_add, List.getElem?_append_left (by rw [hf]; exact hj)]; rfl
  | a :: r, i + 1, j, hi, hj => by
    have := cS_get hf r i j (by simpa using hi) hj
    simp only [cS, List.flatMap_cons] at this ⊢
    rw [List.getElem?_append_right (by rw [hf, Nat.add_mul]; omega), hf]
    rw [show (i + 1) * es + j - es = i * es + j by rw [Nat.add_mul]; omega, this]; rfl
theorem cS_part {α : Type} {f : α → List Value} {es : Nat} (hf : ∀ a, (f a).length = es) (l : List α) (i : Nat) (hi : i < l.length) : ((cS f l).drop (i * es)).take es = f l[i] := by
  apply List.ext_getElem?
  intro j
  by_cases hj : j < es
  · rw [List.getElem?_take_of_lt hj, List.getElem?_drop, cS_get hf l i j hi hj]
  · rw [List.getElem?_eq_none (by simp; omega), List.getElem?_eq_none (by rw [hf]; omega)]
/-- A list of numbers. -/
def cI (l : List Int) : List Value := l.map (.int .i64)
@[simp] theorem cI_len (l : List Int) : (cI l).length = l.length := by simp [cI]
@[simp] theorem cI_get (l : List Int) (i : Nat) : (cI l)[i]? = (l[i]?).map (.int .i64) := by simp [cI]
end Go.Abs
