/- Chapter 7: numbers, small functions. -/
import Derived.Test.YtfbelnhibipndaaGreatDoorAbsZ3M
import Derived.Test.YtfbelnhibipndaaGreatDoorAbsZGM
import Derived.Test.YtfbelnhibipndaaGreatDoorAbsWpO
import Derived.Test.YtfbelnhibipndaaGreatDoorAbsWpN
set_option linter.unusedSimpArgs false
set_option linter.unusedVariables false
/- Chapter 7: numbers, small functions. -/
namespace Go.Abs
abbrev SlI' (h : Heap) (v : Value) (l : List Int) : Prop := Sl 1 h v l.length (cI l)
theorem SlI'_own {h : Heap} {b n : Nat} {l : List Int} {rw : Bool} (e : h.get b = some ⟨cI l, rw⟩) (hn : n = l.length) : SlI' h (.slice (some ⟨b, 0, none⟩) n 1) l := by
  subst hn
  exact ⟨by simp, by simp [cI], fun _ => rfl, .inr ⟨b, 0, l.length, 1, rfl, Heap.get_lt e⟩, fun k hk => by simp only [slB_some, slO_some, Nat.zero_add]; rw [cell_get e]⟩
theorem Sl_own {α : Type} {f : α → List Value} {es : Nat} (hf : ∀ a, (f a).length = es) {h : Heap} {b n : Nat} {l : List α} {rw : Bool} (e : h.get b = some ⟨cS f l, rw⟩) (hn : n = l.length) : Sl es h (.slice (some ⟨b, 0, none⟩) n es) l.length (cS f l) := by
  subst hn
  exact ⟨by simp, by rw [cS_len hf], fun _ => rfl, .inr ⟨b, 0, l.length, es, rfl, Heap.get_lt e⟩, fun k hk => by simp only [slB_some, slO_some, Nat.zero_add]; rw [cell_get e]⟩
theorem one_cI (l : List Int) : (cI l).all Value.oneCell' = true := by simp [cI, Value.oneCell']
theorem cI_set (l : List Int) (i : Nat) (x : Int) : (cI l).set i (i64 x) = cI (l.set i x) := by simp [cI, List.map_set]
theorem cI_at (l : List Int) {i : Nat} (h : i < l.length) : (cI l)[i]? = some (i64 l[i]) := by rw [cI_get, List.getElem?_eq_getElem h]; rfl
theorem qdiv_nn {a b : Int} (h : 0 ≤ a) : qdiv a b = a / b := by unfold qdiv; exact Int.tdiv_eq_ediv_of_nonneg h
namespace Z.U
set_option maxRecDepth 100000
set_option maxHeartbeats 0
theorem E_fuel' : E.fuel = 18446744073709551616 := rfl
abbrev W (n : Int) : Int := IntKind.wrap .i64 n
theorem w1 {i : Nat} (h : i < 1000000) : IntKind.wrap .i64 ((i : Int) + 1) = ((i + 1 : Nat) : Int) := by rw [wrap_eq (by omega) (by omega)]; rfl
def within (a b c : Int) : Bool := decide (b ≤ a ∧ a ≤ c)
theorem c54 {d lim : Nat} {h : Heap} {a b c : Int} : E.call (d + 1) lim 54 [i64 a, i64 b, i64 c] h = some (.bool (within a b c), h) := by
  refine call1 fn54 rfl (by simp [ef54]) ?_
  simp [ef54, within]
  grind
theorem c37 {d lim : Nat} {h : Heap} {a b c : Int} : E.call (d + 1) lim 37 [i64 a, i64 b, i64 c] h = some (.bool (within a b c), h) := by
  refine call1 fn37 rfl (by simp [ef37]) ?_
  simp [ef37, within]
  grind
end Z.U
end Go.Abs
/- Copies of what came in. -/
namespace Go.Abs
theorem freeze_freeze (h : Heap) : h.freeze.freeze = h.freeze := by
  unfold Heap.freeze
  rw [List.map_map]
  congr 1
  funext b
  cases b <;> rfl
end Go.Abs
/- Chapter 7: lists of pairs; the first error of a list. -/
namespace Go.Abs
namespace Z.U
set_option maxRecDepth 100000
set_option maxHeartbeats 0
/-- The first error. -/
def fstE (e : Nat → Int) (n i : Nat) : Int := if i < n then (if e i = 0 then fstE e n (i + 1) else e i) else 0
termination_by n - i
theorem fstE_lt {e : Nat → Int} {n i : Nat} (h : i < n) : fstE e n i = if e i = 0 then fstE e n (i + 1) else e i := by rw [fstE, if_pos h]
theorem fstE_ge {e : Nat → Int} {n i : Nat} (h : ¬ i < n) : fstE e n i = 0 := by rw [fstE, if_neg h]
theorem fstE_all {e : Nat → Int} {n : Nat} : ∀ (k i : Nat), n - i = k → (fstE e n i = 0 ↔ ∀ j, i ≤ j → j < n → e j = 0)
  | 0, i, hk => by
    rw [fstE_ge (by omega)]
    exact ⟨fun _ j h1 h2 => by omega, fun _ => rfl⟩
  | k + 1, i, hk => by
    rw [fstE_lt (by omega)]
    constructor
    · intro h j h1 h2
      split at h
      · rename_i h0
        rcases Nat.lt_or_ge i j with z | z
        · exact (fstE_all k (i + 1) (by omega)).1 h j z h2
        · rw [show j = i by omega]; exact h0
      · contradiction
    · intro h
      rw [if_pos (h i (by omega) (by omega))]
      exact (fstE_all k (i + 1) (by omega)).2 fun j h1 h2 => h j (by omega) h2
/-- Pairs: a day and a number. -/
abbrev P2 := Int × Int
def at2 (l : List P2) (i : Nat) : P2 := (l[i]?).getD (0, 0)
def enc2 (x : P2) : List Value := [i64 x.1, i64 x.2]
abbrev v2 (x : P2) : Value := .agg #[i64 x.1, i64 x.2]
theorem wm1 {i : Nat} (h : 0 < i) (h2 : i < 1000000) : IntKind.wrap .i64 ((i : Int) - 1) = ((i - 1 : Nat) : Int) := by rw [wrap_eq (by omega) (by omega)]; omega
end Z.U
end Go.Abs
/- Chapter 7: lists of triples; where something is first. -/
namespace Go.Abs
namespace Z.U
set_option maxRecDepth 100000
set_option maxHeartbeats 0
theorem c86 {d lim : Nat} {h : Heap} {a : Int} : E.call (d + 2) lim 86 [i64 a] h = some (.bool (within a 0 87), h) := by
  refine call1 fn86 rfl (by simp [ef86]) ?_
  simp [ef86, c37]
theorem c148 {d lim : Nat} {h : Heap} {a : Int} : E.call (d + 2) lim 148 [i64 a] h = some (.bool (within a 0 87), h) := by
  refine call1 fn148 rfl (by simp [ef148]) ?_
  simp [ef148, c54]
/-- Triples. -/
abbrev P3 := Int × Int × Int
def at3 (l : List P3) (i : Nat) : P3 := (l[i]?).getD (0, 0, 0)
theorem at3_get {l : List P3} {i : Nat} (h : i < l.length) : l[i] = at3 l i := by unfold at3; rw [List.getElem?_eq_getElem h]; rfl
def enc3 (x : P3) : List Value := [i64 x.1, i64 x.2.1, i64 x.2.2]
abbrev v3 (x : P3) : Value := .agg #[i64 x.1, i64 x.2.1, i64 x.2.2]
theorem c3_len (l : List P3) : (cS enc3 l).length = l.length * 3 := cS_len (f := enc3) (es := 3) (fun _ => rfl) l
theorem c3_part {l : List P3} {i : Nat} (h : i < l.length) : ((cS enc3 l).drop (i * 3)).take 3 = [i64 (at3 l i).1, i64 (at3 l i).2.1, i64 (at3 l i).2.2] := by
  rw [cS_part (f := enc3) (es := 3) (fun _ => rfl) l i h, at3_get h]; rfl
theorem c3_0 {l : List P3} {i : Nat} (h : i < l.length) : (cS enc3 l)[i * 3]? = some (i64 (at3 l i).1) := by
  have := cS_get (f := enc3) (es := 3) (fun _ => rfl) l i 0 h (by omega)
  rw [Nat.add_zero] at this
  rw [this, at3_get h]; rfl
abbrev Sl3 (h : Heap) (v : Value) (l : List P3) : Prop := Sl 3 h v l.length (cS enc3 l)
/-- The first number that has a property. -/
def fstI (p : Nat → Bool) (n i : Nat) : Nat := if i < n then (if p i then i else fstI p n (i + 1)) else n
termination_by n - i
theorem fstI_lt {p : Nat → Bool} {n i : Nat} (h : i < n) : fstI p n i = if p i then i else fstI p n (i + 1) := by rw [fstI, if_pos h]
theorem fstI_ge {p : Nat → Bool} {n i : Nat} (h : ¬ i < n) : fstI p n i = n := by rw [fstI, if_neg h]
theorem fstI_spec {p : Nat → Bool} {n : Nat} : ∀ (k i : Nat), n - i = k → i ≤ n → i ≤ fstI p n i ∧ fstI p n i ≤ n ∧ (fstI p n i < n → p (fstI p n i) = true) ∧ ∀ j, i ≤ j → j < fstI p n i → p j = false
  | 0, i, hk, hi => by
    rw [fstI_ge (by omega)]
    exact ⟨hi, Nat.le_refl _, fun h => by omega, fun j h1 h2 => by omega⟩
  | k + 1, i, hk, hi => by
    rw [fstI_lt (by omega)]
    split
    · rename_i h0
      exact ⟨Nat.le_refl _, hi, fun _ => h0, fun j h1 h2 => by omega⟩
    · rename_i h0
      obtain ⟨a, b, c, e⟩ := fstI_spec (p := p) (n := n) k (i + 1) (by omega) (by omega)
      refine ⟨by omega, b, c, fun j h1 h2 => ?_⟩
      rcases Nat.lt_or_ge i j with z | z
      · exact e j z h2
      · rw [show j = i by omega]; simpa using h0
end Z.U
end Go.Abs
