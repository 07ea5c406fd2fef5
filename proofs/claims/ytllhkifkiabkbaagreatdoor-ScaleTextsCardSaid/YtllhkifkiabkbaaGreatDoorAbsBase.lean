/- The abstract heap, the relation between abstract and concrete values, and what is kept by it. -/
import Derived.WalkKit
import Derived.Orders
set_option linter.unusedSimpArgs false
set_option linter.unusedVariables false
namespace Go.Abs

/-- A value of one cell that holds no address. -/
def plainV : Value → Bool
  | .bool _ | .int _ _ | .float _ _ | .complex _ _ _ | .string _ | .pointer none | .slice none 0 0 | .map none | .chan none | .nilFunc | .nilIface => true
  | _ => false

/-- A map's key: plain, or of plain cells. -/
def keyV (v : Value) : Bool := plainV v || match v with
  | .agg cs => cs.toList.all plainV
  | _ => false

/-- Where an abstract block lies: a concrete block, an offset, and how many cells from there on are its own. -/
structure Loc where
  blk : Nat
  off : Nat
  tot : Nat
  /-- It is a map (tot = 0) or a loop's record (tot = 1). -/
  map : Bool

abbrev Ren := Nat → Option Loc

def Ren.le (ρ ρ' : Ren) : Prop := ∀ i L, ρ i = some L → ρ' i = some L

def Ren.below (ρ : Ren) (n : Nat) : Ren := fun i => if i < n then ρ i else none
theorem Ren.below_some {ρ : Ren} {n i : Nat} {L : Loc} : ρ.below n i = some L ↔ i < n ∧ ρ i = some L := by
  unfold Ren.below; split
  · rename_i h; exact ⟨fun q => ⟨h, q⟩, fun q => q.2⟩
  · rename_i h; exact ⟨fun q => (by cases q), fun q => absurd q.1 h⟩
theorem Ren.below_le (ρ : Ren) (n : Nat) : (ρ.below n).le ρ := fun _ _ h => (Ren.below_some.1 h).2
theorem Ren.below_mono {ρ ρ' : Ren} (h : ρ.le ρ') {n m : Nat} (k : n ≤ m) : (ρ.below n).le (ρ'.below m) := fun i L e => by
  obtain ⟨a, b⟩ := Ren.below_some.1 e
  exact Ren.below_some.2 ⟨by omega, h i L b⟩
theorem Ren.le_below {ρ ρ' : Ren} (h : ρ.le ρ') {n : Nat} (k : ∀ i L, ρ i = some L → i < n) : ρ.le (ρ'.below n) := fun i L e => Ren.below_some.2 ⟨k i L e, h i L e⟩
theorem Ren.le_refl (ρ : Ren) : ρ.le ρ := fun _ _ h => h
theorem Ren.le_trans {a b c : Ren} (h : a.le b) (k : b.le c) : a.le c := fun i L e => k i L (h i L e)

/-- Abstract value, concrete value. The third part of an abstract slice is the size of an element (0: the capacity is 0). -/
inductive VRel (ρ : Ren) : Value → Value → Prop
  | plain {v : Value} (h : plainV v = true) : VRel ρ v v
  | ptr {b o : Nat} {L : Loc} (h : ρ b = some L) (hk : L.map = false := by first | rfl | assumption) : VRel ρ (.pointer (some ⟨b, o, none⟩)) (.pointer (some ⟨L.blk, L.off + o, none⟩))
  | slice {b o n s : Nat} {L : Loc} {a : Addr} {cap : Nat} (h : ρ b = some L) (hn : n ≤ cap) (ha : a.block = L.blk) (hs : cap ≠ 0 → a.spot = none)
      (hz : s = 0 → cap = 0) (hc : cap ≠ 0 → a.off = L.off + o ∧ o + cap * s ≤ L.tot) (hm : cap ≤ maxLen) (hk : L.map = false := by first | rfl | assumption) :
      VRel ρ (.slice (some ⟨b, o, none⟩) n s) (.slice (some a) n cap)
  | map {r : Nat} {L : Loc} (h : ρ r = some L) (hk : L.map = true := by first | rfl | assumption) (ht : L.tot = 0 := by first | rfl | assumption) : VRel ρ (.map (some r)) (.map (some L.blk))
  | yield {b : Nat} {L : Loc} (h : ρ b = some L) (hk : L.map = true) (ht : L.tot = 1) : VRel ρ (.func (.yield 0) #[.pointer (some ⟨b, 0, none⟩)] #[]) (.func (.yield L.blk) #[] #[])
  | func {g : FuncId} {f c f' c' : Array Value} (hf : f.size = f'.size) (hc : c.size = c'.size)
      (h1 : ∀ (i : Nat) x y, f[i]? = some x → f'[i]? = some y → VRel ρ x y) (h2 : ∀ (i : Nat) x y, c[i]? = some x → c'[i]? = some y → VRel ρ x y) :
      VRel ρ (.func (.func g) f c) (.func (.func g) f' c')
  | iface {t : TypeId} {v v' : Value} (h : VRel ρ v v') : VRel ρ (.iface t v) (.iface t v')
  | agg {xs ys : Array Value} (hs : xs.size = ys.size) (h : ∀ (i : Nat) x y, xs[i]? = some x → ys[i]? = some y → VRel ρ x y) : VRel ρ (.agg xs) (.agg ys)
  | tuple {xs ys : Array Value} (hs : xs.size = ys.size) (h : ∀ (i : Nat) x y, xs[i]? = some x → ys[i]? = some y → VRel ρ x y) : VRel ρ (.tuple xs) (.tuple ys)

/-- Lists, pointwise. -/
def LRel (R : Value → Value → Prop) : List Value → List Value → Prop
  | [], [] => True
  | x :: xs, y :: ys => R x y ∧ LRel R xs ys
  | _, _ => False

theorem LRel.len {R : Value → Value → Prop} : ∀ {xs ys : List Value}, LRel R xs ys → xs.length = ys.length
  | [], [], _ => rfl
  | _ :: _, _ :: _, h => by simp [LRel.len h.2]
  | [], _ :: _, h => h.elim
  | _ :: _, [], h => h.elim

theorem LRel.get {R : Value → Value → Prop} : ∀ {xs ys : List Value}, LRel R xs ys → ∀ {i : Nat} {x : Value}, xs[i]? = some x → ∃ y, ys[i]? = some y ∧ R x y
  | x :: xs, y :: ys, h, 0, _, e => by simp at e; subst e; exact ⟨y, rfl, h.1⟩
  | x :: xs, y :: ys, h, i + 1, _, e => by simp at e; obtain ⟨z, hz, r⟩ := LRel.get h.2 e; exact ⟨z, by simpa using hz, r⟩
  | [], [], _, _, _, e => by simp at e

theorem LRel.of_get {R : Value → Value → Prop} : ∀ {xs ys : List Value}, xs.length = ys.length → (∀ (i : Nat) x y, xs[i]? = some x → ys[i]? = some y → R x y) → LRel R xs ys
  | [], [], _, _ => trivial
  | x :: xs, y :: ys, hl, h => ⟨h 0 x y rfl rfl, LRel.of_get (by simpa using hl) fun i a b ha hb => h (i + 1) a b (by simpa using ha) (by simpa using hb)⟩
  | [], _ :: _, hl, _ => by simp at hl
  | _ :: _, [], hl, _ => by simp at hl

theorem LRel.mono {R S : Value → Value → Prop} (hRS : ∀ x y, R x y → S x y) : ∀ {xs ys : List Value}, LRel R xs ys → LRel S xs ys
  | [], [], _ => trivial
  | _ :: _, _ :: _, h => ⟨hRS _ _ h.1, LRel.mono hRS h.2⟩
  | [], _ :: _, h => h.elim
  | _ :: _, [], h => h.elim

theorem LRel.append {R : Value → Value → Prop} : ∀ {xs ys us vs : List Value}, LRel R xs ys → LRel R us vs → LRel R (xs ++ us) (ys ++ vs)
  | [], [], _, _, _, k => k
  | _ :: _, _ :: _, _, _, h, k => ⟨h.1, LRel.append h.2 k⟩
  | [], _ :: _, _, _, h, _ => h.elim
  | _ :: _, [], _, _, h, _ => h.elim

theorem LRel.drop {R : Value → Value → Prop} : ∀ {xs ys : List Value} (n : Nat), LRel R xs ys → LRel R (xs.drop n) (ys.drop n)
  | _, _, 0, h => by simpa using h
  | [], [], _ + 1, _ => by simp [LRel]
  | _ :: _, _ :: _, n + 1, h => by simpa using LRel.drop n h.2
  | [], _ :: _, _ + 1, h => h.elim
  | _ :: _, [], _ + 1, h => h.elim

theorem LRel.take {R : Value → Value → Prop} : ∀ {xs ys : List Value} (n : Nat), LRel R xs ys → LRel R (xs.take n) (ys.take n)
  | _, _, 0, h => by simp [LRel]
  | [], [], _ + 1, _ => by simp [LRel]
  | _ :: _, _ :: _, n + 1, h => by simpa [LRel] using ⟨h.1, LRel.take n h.2⟩
  | [], _ :: _, _ + 1, h => h.elim
  | _ :: _, [], _ + 1, h => h.elim

theorem LRel.set {R : Value → Value → Prop} : ∀ {xs ys : List Value} (n : Nat) {u v : Value}, LRel R xs ys → R u v → LRel R (xs.set n u) (ys.set n v)
  | [], [], _, _, _, _, _ => by simp [LRel]
  | _ :: _, _ :: _, 0, _, _, h, k => ⟨k, h.2⟩
  | _ :: _, _ :: _, n + 1, _, _, h, k => ⟨h.1, LRel.set n h.2 k⟩
  | [], _ :: _, _, _, _, h, _ => h.elim
  | _ :: _, [], _, _, _, h, _ => h.elim

theorem LRel.refl_plain {R : Value → Value → Prop} (hR : ∀ v, plainV v = true → R v v) : ∀ {xs : List Value}, xs.all plainV = true → LRel R xs xs
  | [], _ => trivial
  | x :: xs, h => by simp at h; exact ⟨hR x h.1, LRel.refl_plain hR (by simpa using h.2)⟩

theorem VRel.mono {ρ ρ' : Ren} (hle : ρ.le ρ') {v v' : Value} (h : VRel ρ v v') : VRel ρ' v v' := by
  induction h with
  | plain h => exact .plain h
  | ptr h hk => exact .ptr (hle _ _ h) hk
  | slice h a b c d e f hk => exact .slice (hle _ _ h) a b c d e f hk
  | map h hk ht => exact .map (hle _ _ h) hk ht
  | yield h hk ht => exact .yield (hle _ _ h) hk ht
  | func a b _ _ c d => exact .func a b (fun i x y hx hy => c i x y hx hy) (fun i x y hx hy => d i x y hx hy)
  | iface _ ih => exact .iface ih
  | agg a _ ih => exact .agg a (fun i x y hx hy => ih i x y hx hy)
  | tuple a _ ih => exact .tuple a (fun i x y hx hy => ih i x y hx hy)

section inv
variable {ρ : Ren}
theorem VRel.plain_inv {v v' : Value} (hp : plainV v = true) (h : VRel ρ v v') : v' = v := by
  cases h <;> first | rfl | (simp [plainV] at hp)
theorem LRel.plain_same : ∀ {xs ys : List Value}, xs.all plainV = true → LRel (VRel ρ) xs ys → ys = xs
  | [], [], _, _ => rfl
  | x :: xs, y :: ys, hp, h => by
    rw [List.all_cons, Bool.and_eq_true] at hp
    rw [h.1.plain_inv hp.1, LRel.plain_same hp.2 h.2]
  | [], _ :: _, _, h => h.elim
  | _ :: _, [], _, h => h.elim
theorem VRel.int_inv {k : IntKind} {n : Int} {v' : Value} (h : VRel ρ (.int k n) v') : v' = .int k n := h.plain_inv rfl
theorem VRel.bool_inv {b : Bool} {v' : Value} (h : VRel ρ (.bool b) v') : v' = .bool b := h.plain_inv rfl
theorem VRel.string_inv {s : ByteArray} {v' : Value} (h : VRel ρ (.string s) v') : v' = .string s := h.plain_inv rfl
theorem VRel.ptr_inv {b o : Nat} {v' : Value} (h : VRel ρ (.pointer (some ⟨b, o, none⟩)) v') : ∃ L, ρ b = some L ∧ v' = .pointer (some ⟨L.blk, L.off + o, none⟩) := by
  cases h with
  | plain h => simp [plainV] at h
  | ptr h => exact ⟨_, h, rfl⟩
theorem VRel.ptr_kind {b o : Nat} {v' : Value} {L : Loc} (h : VRel ρ (.pointer (some ⟨b, o, none⟩)) v') (hL : ρ b = some L) : L.map = false := by
  cases h with
  | plain h => simp [plainV] at h
  | ptr h hk => rw [hL] at h; cases h; exact hk
theorem VRel.slice_kind {b o n s : Nat} {v' : Value} {L : Loc} (h : VRel ρ (.slice (some ⟨b, o, none⟩) n s) v') (hL : ρ b = some L) : L.map = false := by
  cases h with
  | plain h => simp [plainV] at h
  | slice h _ _ _ _ _ _ hk => rw [hL] at h; cases h; exact hk
theorem VRel.map_inv {r : Nat} {v' : Value} (h : VRel ρ (.map (some r)) v') : ∃ L, ρ r = some L ∧ (L.map = true ∧ L.tot = 0) ∧ v' = .map (some L.blk) := by
  cases h with
  | plain h => simp [plainV] at h
  | map h hk ht => exact ⟨_, h, ⟨hk, ht⟩, rfl⟩
theorem VRel.yield_inv {n : Nat} {f c : Array Value} {v' : Value} (h : VRel ρ (.func (.yield n) f c) v') : ∃ b L, f = #[.pointer (some ⟨b, 0, none⟩)] ∧ ρ b = some L ∧ L.map = true ∧ L.tot = 1 ∧ v' = .func (.yield L.blk) #[] #[] := by
  cases h with
  | plain h => simp [plainV] at h
  | yield h hk ht => exact ⟨_, _, rfl, h, hk, ht, rfl⟩
theorem VRel.slice_inv {b o n s : Nat} {v' : Value} (h : VRel ρ (.slice (some ⟨b, o, none⟩) n s) v') : ∃ L a cap, ρ b = some L ∧ v' = .slice (some a) n cap ∧
    n ≤ cap ∧ a.block = L.blk ∧ (cap ≠ 0 → a.spot = none) ∧ (s = 0 → cap = 0) ∧ (cap ≠ 0 → a.off = L.off + o ∧ o + cap * s ≤ L.tot) ∧ cap ≤ maxLen := by
  cases h with
  | plain h => simp [plainV] at h
  | slice h a b c d e f => exact ⟨_, _, _, h, rfl, a, b, c, d, e, f⟩
theorem VRel.agg_inv {xs : Array Value} {v' : Value} (h : VRel ρ (.agg xs) v') : ∃ ys, v' = .agg ys ∧ LRel (VRel ρ) xs.toList ys.toList := by
  cases h with
  | plain h => simp [plainV] at h
  | agg hs h => exact ⟨_, rfl, LRel.of_get (by simpa using hs) fun i x y hx hy => h i x y (by simpa using hx) (by simpa using hy)⟩
theorem VRel.tuple_inv {xs : Array Value} {v' : Value} (h : VRel ρ (.tuple xs) v') : ∃ ys, v' = .tuple ys ∧ LRel (VRel ρ) xs.toList ys.toList := by
  cases h with
  | plain h => simp [plainV] at h
  | tuple hs h => exact ⟨_, rfl, LRel.of_get (by simpa using hs) fun i x y hx hy => h i x y (by simpa using hx) (by simpa using hy)⟩
theorem VRel.key_inv {v v' : Value} (hp : keyV v = true) (h : VRel ρ v v') : v' = v := by
  by_cases q : plainV v = true
  · exact h.plain_inv q
  · cases v with
    | agg xs =>
      have hc : xs.toList.all plainV = true := by simpa [keyV, plainV] using hp
      obtain ⟨ys, rfl, l⟩ := h.agg_inv
      have := LRel.plain_same hc l
      rw [← Array.toList_inj.1 this]
    | _ => simp only [keyV, q, Bool.false_or] at hp; cases hp
theorem VRel.key_refl {v : Value} (hp : keyV v = true) : VRel ρ v v := by
  by_cases q : plainV v = true
  · exact .plain q
  · cases v with
    | agg xs =>
      have hc : xs.toList.all plainV = true := by simpa [keyV, plainV] using hp
      refine .agg rfl fun i x y hx hy => ?_
      rw [hx] at hy; cases hy
      exact .plain (List.all_eq_true.1 hc x (by rw [← Array.getElem?_toList] at hx; exact List.mem_of_getElem? hx))
    | _ => simp only [keyV, q, Bool.false_or] at hp; cases hp
theorem VRel.iface_inv {t : TypeId} {v v' : Value} (h : VRel ρ (.iface t v) v') : ∃ u, v' = .iface t u ∧ VRel ρ v u := by
  cases h with
  | plain h => simp [plainV] at h
  | iface h => exact ⟨_, rfl, h⟩
theorem VRel.func_inv {g : FuncId} {f c : Array Value} {v' : Value} (h : VRel ρ (.func (.func g) f c) v') : ∃ f' c', v' = .func (.func g) f' c' ∧ LRel (VRel ρ) f.toList f'.toList ∧ LRel (VRel ρ) c.toList c'.toList := by
  cases h with
  | plain h => simp [plainV] at h
  | func hf hc h1 h2 => exact ⟨_, _, rfl, LRel.of_get (by simpa using hf) fun i x y hx hy => h1 i x y (by simpa using hx) (by simpa using hy), LRel.of_get (by simpa using hc) fun i x y hx hy => h2 i x y (by simpa using hx) (by simpa using hy)⟩
theorem VRel.agg_mk {xs ys : List Value} (h : LRel (VRel ρ) xs ys) : VRel ρ (.agg xs.toArray) (.agg ys.toArray) :=
  .agg (by simpa using h.len) fun i x y hx hy => by
    obtain ⟨z, hz, r⟩ := h.get (i := i) (x := x) (by simpa using hx)
    simp at hy; rw [hz] at hy; cases hy; exact r
theorem VRel.tuple_mk {xs ys : List Value} (h : LRel (VRel ρ) xs ys) : VRel ρ (.tuple xs.toArray) (.tuple ys.toArray) :=
  .tuple (by simpa using h.len) fun i x y hx hy => by
    obtain ⟨z, hz, r⟩ := h.get (i := i) (x := x) (by simpa using hx)
    simp at hy; rw [hz] at hy; cases hy; exact r
theorem VRel.cells {v v' : Value} (h : VRel ρ v v') : LRel (VRel ρ) v.cells.toList v'.cells.toList := by
  cases h with
  | agg hs h => exact LRel.of_get (by simpa [Value.cells] using hs) fun i x y hx hy => h i x y (by simpa [Value.cells] using hx) (by simpa [Value.cells] using hy)
  | plain h => cases v <;> first | exact ⟨.plain h, trivial⟩ | (simp [plainV] at h)
  | ptr h hk => exact ⟨.ptr h hk, trivial⟩
  | slice h a b c d e f hk => exact ⟨.slice h a b c d e f hk, trivial⟩
  | map h hk ht => exact ⟨.map h hk ht, trivial⟩
  | yield h hk ht => exact ⟨.yield h hk ht, trivial⟩
  | func a b c d => exact ⟨.func a b c d, trivial⟩
  | iface h => exact ⟨.iface h, trivial⟩
  | tuple a b => exact ⟨.tuple a b, trivial⟩
theorem VRel.oneCell {v v' : Value} (h : VRel ρ v v') : v'.oneCell' = v.oneCell' := by
  cases h <;> rfl
end inv

/-- A block of the abstract heap: cells, and whether it may be written. -/
structure Blk where
  cells : List Value
  rw : Bool

abbrev Heap := List (Option Blk)

def Heap.get (h : Heap) (i : Nat) : Option Blk := (h[i]?).getD none
def Heap.push (h : Heap) (b : Blk) : Heap := h ++ [some b]
def Heap.put (h : Heap) (i : Nat) (b : Option Blk) : Heap := h.set i b

@[simp] theorem Heap.length_push (h : Heap) (b : Blk) : (h.push b).length = h.length + 1 := by simp [Heap.push]
@[simp] theorem Heap.length_put (h : Heap) (i : Nat) (b : Option Blk) : (h.put i b).length = h.length := by simp [Heap.put]
theorem Heap.get_lt {h : Heap} {i : Nat} {b : Blk} (e : h.get i = some b) : i < h.length := by
  unfold Heap.get at e
  rcases Nat.lt_or_ge i h.length with k | k
  · exact k
  · rw [List.getElem?_eq_none k] at e; cases e
theorem Heap.get_push_lt {h : Heap} {i : Nat} (b : Blk) (k : i < h.length) : (h.push b).get i = h.get i := by
  simp [Heap.get, Heap.push, List.getElem?_append_left k]
@[simp] theorem Heap.get_push_eq (h : Heap) (b : Blk) : (h.push b).get h.length = some b := by simp [Heap.get, Heap.push]
theorem Heap.get_ge {h : Heap} {i : Nat} (k : h.length ≤ i) : h.get i = none := by simp [Heap.get, List.getElem?_eq_none k]
theorem Heap.get_put_eq {h : Heap} {i : Nat} (b : Option Blk) (k : i < h.length) : (h.put i b).get i = b := by
  simp [Heap.get, Heap.put, k]
theorem Heap.get_put_ne {h : Heap} {i j : Nat} (b : Option Blk) (k : i ≠ j) : (h.put i b).get j = h.get j := by
  simp [Heap.get, Heap.put, List.getElem?_set_ne k]

/-- What a concrete block of cells must show of an abstract one. -/
def CellsOk (ρ : Ren) (L : Loc) (b : Blk) (o : Option Obj) : Prop :=
  ∃ cur e fz, o = some (.cells cur e fz) ∧ L.off + L.tot ≤ cur.size ∧ b.cells.length ≤ L.tot ∧ (b.rw = true → fz = (0, 0)) ∧
    ∀ (i : Nat) v, b.cells[i]? = some v → ∃ v', cur[L.off + i]? = some v' ∧ VRel ρ v v'

/-- What a concrete map must show of an abstract one: its cells are pairs of a key and a value. -/
def MapOk (ρ : Ren) (b : Blk) (o : Option Obj) : Prop :=
  ∃ es clock, o = some (.map es clock) ∧ b.cells.length = es.size ∧
    ∀ (i : Nat) v, b.cells[i]? = some v → ∃ k x e, v = .tuple #[k, x] ∧ es[i]? = some e ∧ keyV k = true ∧ e.key = k ∧ VRel ρ v (.tuple #[k, e.val])

/-- What a loop's record is: of which function, the how many-th, its temporaries, parameters, codes, and the temporaries that matter. -/
abbrev LoopKind := FuncId → Nat → Array Value → Array Tmp → Code → Code → List Value → Prop

/-- The number of a record's state: 0 ready, -1 busy, 1 left by a return, 2 + n left by an exit. -/
def LoopSt (s : Int) (st : LoopState) (pe : Option Code) : Prop :=
  (s = 0 ∧ st = .ready ∧ pe = none) ∨ (s = -1 ∧ st = .busy) ∨ (s = 1 ∧ st = .done ∧ pe = some .ret) ∨ ∃ id : Nat, s = 2 + id ∧ st = .done ∧ pe = some (.exit id)

/-- What a concrete loop's record must show of an abstract one. -/
def LoopOk (K : LoopKind) (ρ : Ren) (b : Blk) (o : Option Obj) : Prop :=
  ∃ (r : Loop) (f i : Nat) (s : Int) (vs us : List Value), o = some (.loop r) ∧ b.cells = .int .i64 f :: .int .i64 i :: .int .i64 s :: vs ∧ K f i r.tmps r.params r.assign r.body us ∧ LRel (VRel ρ) vs us ∧ LoopSt s r.state r.pending

/-- What a concrete block must show of an abstract one. -/
def BlkOk (K : LoopKind) (ρ : Ren) (L : Loc) (b : Blk) (o : Option Obj) : Prop := (L.map = false → CellsOk ρ L b o) ∧ (L.map = true → L.tot = 0 → MapOk ρ b o) ∧ (L.map = true → L.tot ≠ 0 → LoopOk K ρ b o)

variable {K : LoopKind}

theorem CellsOk.ok {ρ : Ren} {L : Loc} {b : Blk} {o : Option Obj} (h : CellsOk ρ L b o) (hk : L.map = false) : BlkOk K ρ L b o := ⟨fun _ => h, fun q => absurd (hk.symm.trans q) (by decide), fun q => absurd (hk.symm.trans q) (by decide)⟩
theorem MapOk.ok {ρ : Ren} {L : Loc} {b : Blk} {o : Option Obj} (h : MapOk ρ b o) (hk : L.map = true ∧ L.tot = 0) : BlkOk K ρ L b o := ⟨fun q => absurd (hk.1.symm.trans q) (by decide), fun _ _ => h, fun _ q => absurd hk.2 q⟩
theorem LoopOk.ok {ρ : Ren} {L : Loc} {b : Blk} {o : Option Obj} (h : LoopOk K ρ b o) (hk : L.map = true) (ht : L.tot = 1) : BlkOk K ρ L b o := ⟨fun q => absurd (hk.symm.trans q) (by decide), fun _ q => absurd (ht.symm.trans q) (by decide), fun _ _ => h⟩

theorem BlkOk.mono {ρ ρ' : Ren} (hle : ρ.le ρ') {L : Loc} {b : Blk} {o : Option Obj} (h : BlkOk K ρ L b o) : BlkOk K ρ' L b o := by
  refine ⟨fun hk => ?_, fun hk ht => ?_, fun hk ht => ?_⟩
  · obtain ⟨cur, e, fz, h1, h2, h3, h4, h5⟩ := h.1 hk
    exact ⟨cur, e, fz, h1, h2, h3, h4, fun i v hv => let ⟨v', a, b⟩ := h5 i v hv; ⟨v', a, b.mono hle⟩⟩
  · obtain ⟨es, cl, h1, h2, h3⟩ := h.2.1 hk ht
    exact ⟨es, cl, h1, h2, fun i v hv => let ⟨k, x, e, a1, a2, a3, a4, a5⟩ := h3 i v hv; ⟨k, x, e, a1, a2, a3, a4, a5.mono hle⟩⟩
  · obtain ⟨r, f, i, s, vs, us, h1, h2, h3, h4, h5⟩ := h.2.2 hk ht
    exact ⟨r, f, i, s, vs, us, h1, h2, h3, h4.mono fun _ _ q => q.mono hle, h5⟩

theorem BlkOk.rel {ρ : Ren} {L : Loc} {b : Blk} {o : Option Obj} (h : BlkOk K ρ L b o) {v : Value} (hv : v ∈ b.cells) : ∃ v', VRel ρ v v' := by
  obtain ⟨j, hj, rfl⟩ := List.getElem_of_mem hv
  rcases e : L.map with _ | _
  · obtain ⟨cur, _, _, _, _, _, _, c5⟩ := h.1 e
    obtain ⟨v', _, q⟩ := c5 j _ (List.getElem?_eq_getElem hj)
    exact ⟨v', q⟩
  · by_cases ht : L.tot = 0
    · obtain ⟨es, _, _, _, c5⟩ := h.2.1 e ht
      obtain ⟨_, _, _, _, _, _, _, q⟩ := c5 j _ (List.getElem?_eq_getElem hj)
      exact ⟨_, q⟩
    · obtain ⟨r, f, i, s, vs, us, _, h2, _, h4, _⟩ := h.2.2 e ht
      have hm : b.cells[j] ∈ .int .i64 f :: .int .i64 i :: .int .i64 s :: vs := by rw [← h2]; exact List.getElem_mem hj
      simp only [List.mem_cons] at hm
      rcases hm with q | q | q | q
      · rw [q]; exact ⟨_, .plain rfl⟩
      · rw [q]; exact ⟨_, .plain rfl⟩
      · rw [q]; exact ⟨_, .plain rfl⟩
      · obtain ⟨k, hk, e2⟩ := List.getElem_of_mem q
        obtain ⟨y, _, r⟩ := h4.get (List.getElem?_eq_getElem hk)
        rw [e2] at r; exact ⟨y, r⟩

theorem BlkOk.there {ρ : Ren} {L : Loc} {b : Blk} {o : Option Obj} (h : BlkOk K ρ L b o) : ∃ x, o = .some x ∧ ∀ d, x ≠ .deferred d := by
  rcases e : L.map with _ | _
  · obtain ⟨cur, _, _, h1, _⟩ := h.1 e; exact ⟨_, h1, fun _ q => by cases q⟩
  · by_cases ht : L.tot = 0
    · obtain ⟨es, _, h1, _⟩ := h.2.1 e ht; exact ⟨_, h1, fun _ q => by cases q⟩
    · obtain ⟨r, _, _, _, _, _, h1, _⟩ := h.2.2 e ht; exact ⟨_, h1, fun _ q => by cases q⟩

/-- The abstract heap g, by the renaming ρ, is what the world w shows. Own: the concrete blocks that may be written. -/
structure Sim (K : LoopKind) (Own : Nat → Prop) (ρ : Ren) (g : Nat → Option Blk) (w : World) : Prop where
  blk : ∀ i b L, g i = some b → ρ i = some L → BlkOk K ρ L b w.heap[L.blk]?
  own : ∀ i b L, g i = some b → ρ i = some L → b.rw = true → Own L.blk
  excl : ∀ i j b c L M, i ≠ j → g i = some b → b.rw = true → g j = some c → ρ i = some L → ρ j = some M → L.blk ≠ M.blk

theorem Sim.lt {Own : Nat → Prop} {ρ : Ren} {g : Nat → Option Blk} {w : World} (s : Sim K Own ρ g w) (i : Nat) (b : Blk) (L : Loc) (h : g i = some b) (k : ρ i = some L) : L.blk < w.heap.size := by
  obtain ⟨x, h1, _⟩ := (s.blk i b L h k).there
  exact (Array.getElem?_eq_some_iff.1 h1).1

/-- Nothing but what may be written has turned. -/
structure Frame (Own : Nat → Prop) (w w' : World) : Prop where
  os : w'.os = w.os
  tape : w'.tape = w.tape
  output : w'.output = w.output
  size : w.heap.size ≤ w'.heap.size
  block : ∀ k, k < w.heap.size → ¬ Own k → w'.heap[k]? = w.heap[k]?

theorem Frame.refl (Own : Nat → Prop) (w : World) : Frame Own w w := ⟨rfl, rfl, rfl, Nat.le_refl _, fun _ _ _ => rfl⟩
theorem Frame.trans {Own : Nat → Prop} {a b c : World} (h : Frame Own a b) (k : Frame Own b c) : Frame Own a c :=
  ⟨k.os.trans h.os, k.tape.trans h.tape, k.output.trans h.output, Nat.le_trans h.size k.size, fun i hi ho => (k.block i (Nat.lt_of_lt_of_le hi h.size) ho).trans (h.block i hi ho)⟩
theorem Frame.weaken {Own Own' : Nat → Prop} {a b : World} (h : Frame Own a b) (k : ∀ i, i < a.heap.size → Own i → Own' i) : Frame Own' a b :=
  ⟨h.os, h.tape, h.output, h.size, fun i hi ho => h.block i hi fun x => ho (k i hi x)⟩

/-- The frame of slots: absent means: nothing is known. -/
abbrev AFrame := List (Nat × Value)
def AFrame.get : AFrame → Nat → Option Value
  | [], _ => none
  | (s, v) :: r, t => if s = t then some v else AFrame.get r t
def AFrame.put (f : AFrame) (d : Option Nat) (v : Value) : AFrame :=
  match d with
  | some d => (d, v) :: f
  | none => f

def FRel (ρ : Ren) (f : AFrame) (tmps : Array Value) : Prop := ∀ t v, f.get t = some v → ∃ v', tmps[t]? = some v' ∧ VRel ρ v v'

theorem FRel.mono {ρ ρ' : Ren} (hle : ρ.le ρ') {f : AFrame} {tmps : Array Value} (h : FRel ρ f tmps) : FRel ρ' f tmps :=
  fun t v e => let ⟨v', a, b⟩ := h t v e; ⟨v', a, b.mono hle⟩

theorem FRel.put {ρ : Ren} {f : AFrame} {a : Act} (h : FRel ρ f a.tmps) {d : Option Nat} {v v' : Value} (hd : ∀ t, d = some t → t < a.tmps.size) (hv : VRel ρ v v') :
    FRel ρ (f.put d v) (a.put d v').tmps := by
  cases d with
  | none => exact h
  | some d =>
    intro t u e
    simp only [AFrame.put, AFrame.get] at e
    simp only [Act.put]
    by_cases hdt : d = t
    · subst hdt
      simp at e; subst e
      exact ⟨v', by simp [hd d rfl], hv⟩
    · rw [if_neg hdt] at e
      obtain ⟨u', a1, a2⟩ := h t u e
      exact ⟨u', by rw [Array.getElem?_setIfInBounds_ne hdt]; exact a1, a2⟩

theorem put_size (a : Act) (d : Option Tmp) (v : Value) : (a.put d v).tmps.size = a.tmps.size := by
  cases d <;> simp [Act.put]
theorem put_defers' (a : Act) (d : Option Tmp) (v : Value) : (a.put d v).defers = a.defers := by
  cases d <;> rfl
end Go.Abs
