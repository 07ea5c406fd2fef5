/- Chapter 7: numbers, small functions. -/
import Derived.Test.YtllhkifkiabkbaaGreatDoorAbsH
import Derived.Test.YtllhkifkiabkbaaGreatDoorAbsHG
import Derived.Test.YtllhkifkiabkbaaGreatDoorAbsWpO
import Derived.Test.YtllhkifkiabkbaaGreatDoorAbsWpN
set_option linter.unusedSimpArgs false
set_option linter.unusedVariables false
/- Chapter 7: numbers, small functions. -/
namespace Go.Abs
abbrev SlI' (h : Heap) (v : Value) (l : List Int) : Prop := Sl 1 h v l.length (cI l)
theorem SlI'_own {h : Heap} {b n : Nat} {l : List Int} {rw : Bool} (e : h.get b = some ⟨cI l, rw⟩) (hn : n = l.length) : SlI' h (.slice (some ⟨b, 0, none⟩) n 1) l := by
  subst hn
  exact ⟨by simp, by simp [cI], fun _ => rfl, .inr ⟨b, 0, l.length, 1, rfl, Heap.get_lt e⟩, fun k hk => by simp only [slB_some, slO_some, Nat.zero_add]; rw [cell_get e]⟩
theorem Sl_own {α : Type} {f : α → List Value} {es : Nat} (hf : ∀ a, (f a).length = es) {h : Heap} {b n : Nat} {l : List α} {rw : Bool} (e : h.get b = some ⟨cS f l, rw⟩) (hn : n = l.length) : Sl es h (.slice (some ⟨b, 0, none⟩) n es) l.length (cS f l) := by
  subst hn
  exact ⟨by simp, by rw [cS_len hf], fun _ => rfl, .inr ⟨b, 0, l.length, es, rfl, Heap.get_lt e⟩, fun k hk => by simp only [slB_some, slO_some, Nat.zero_add]; rw [cell_get e]⟩
namespace H.U
set_option maxRecDepth 100000
set_option maxHeartbeats 0
theorem E_fuel' : E.fuel = 18446744073709551616 := rfl
abbrev W (n : Int) : Int := IntKind.wrap .i64 n
theorem w1 {i : Nat} (h : i < 1000000) : IntKind.wrap .i64 ((i : Int) + 1) = ((i + 1 : Nat) : Int) := by rw [wrap_eq (by omega) (by omega)]; rfl
def within (a b c : Int) : Bool := decide (b ≤ a ∧ a ≤ c)
theorem c90 {d lim : Nat} {h : Heap} {a b c : Int} : E.call (d + 1) lim 90 [i64 a, i64 b, i64 c] h = some (.bool (within a b c), h) := by
  refine call1 fn90 rfl (by simp [ef90]) ?_
  simp [ef90, within]
  grind
theorem c41 {d lim : Nat} {h : Heap} {a b c : Int} : E.call (d + 1) lim 41 [i64 a, i64 b, i64 c] h = some (.bool (within a b c), h) := by
  refine call1 fn41 rfl (by simp [ef41]) ?_
  simp [ef41, within]
  grind
theorem c94 {d lim : Nat} {h : Heap} {a : Int} : E.call (d + 2) lim 94 [i64 a] h = some (.bool (within a 0 100000), h) := by
  refine call1 fn94 rfl (by simp [ef94]) ?_
  simp [ef94, c90]
theorem c96 {d lim : Nat} {h : Heap} {n : Int} (h1 : -9223372036854775808 < n) (h2 : n < 9223372036854775808) : E.call (d + 1) lim 96 [i64 n] h = some (i64 (if n < 0 then -n else n), h) := by
  refine call1 fn96 rfl (by simp [ef96]) ?_
  by_cases q : n < 0
  · have w1 : IntKind.wrap .i64 (-n) = -n := wrap_eq (by omega) (by omega)
    simp [ef96, q, w1]
  · simp [ef96, q]
end H.U
end Go.Abs
/- Chapter 7: lists of pairs; the first error of a list. -/
namespace Go.Abs
namespace H.U
set_option maxRecDepth 100000
set_option maxHeartbeats 0
/-- The first error. -/
def fstE (e : Nat → Int) (n i : Nat) : Int := if i < n then (if e i = 0 then fstE e n (i + 1) else e i) else 0
termination_by n - i
theorem fstE_lt {e : Nat → Int} {n i : Nat} (h : i < n) : fstE e n i = if e i = 0 then fstE e n (i + 1) else e i := by rw [fstE, if_pos h]
theorem fstE_ge {e : Nat → Int} {n i : Nat} (h : ¬ i < n) : fstE e n i = 0 := by rw [fstE, if_neg h]
theorem fstE_all {e : Nat → Int} {n : Nat} : ∀ (k i : Nat), n - i = k → (fstE e n i = 0 ↔ ∀ j, i ≤ j → j < n → e j = 0)
  | 0, i, hk => by
    rw [fstE_ge (by omega)]
    exact ⟨fun _ j h1 h2 => by omega, fun _ => rfl⟩
  | k + 1, i, hk => by
    rw [fstE_lt (by omega)]
    constructor
    · intro h j h1 h2
      split at h
      · rename_i h0
        rcases Nat.lt_or_ge i j with z | z
        · exact (fstE_all k (i + 1) (by omega)).1 h j z h2
        · rw [show j = i by omega]; exact h0
      · contradiction
    · intro h
      rw [if_pos (h i (by omega) (by omega))]
      exact (fstE_all k (i + 1) (by omega)).2 fun j h1 h2 => h j (by omega) h2
/-- Pairs: a day and a number. -/
abbrev P2 := Int × Int
def enc2 (x : P2) : List Value := [i64 x.1, i64 x.2]
abbrev v2 (x : P2) : Value := .agg #[i64 x.1, i64 x.2]
end H.U
end Go.Abs
/- Copies of what came in. -/
namespace Go.Abs
theorem app_some {es bytes b n : Nat} {H : Heap} {v : Value} {cs : List Value} (s : Sl es H v n cs) (hn : n ≠ 0) (hes : 0 < es) (hb : H.get b = some ⟨[], true⟩) (h1 : cs.all Value.oneCell' = true) (hby : n * bytes ≤ 140737488355328) (hmx : n ≤ 9223372036854775807) :
    E.append H es bytes (.slice (some ⟨b, 0, none⟩) 0 es) v = some ⟨.slice (some ⟨H.length, 0, none⟩) n es, [b, slB v], .move b ⟨cs, true⟩⟩ := by
  obtain ⟨bv, o, k, rfl, g, h2, h3, h4⟩ := s.blk hn hes
  have hes' : es ≠ 0 := by omega
  have hmx' : n ≤ maxLen := by unfold maxLen; exact hmx
  unfold E.append E.added
  simp only [hn, if_false, if_true, g, h2, h3, h1, hes', hb]
  simp [hby, hmx']
theorem app_none {es bytes b : Nat} {H : Heap} {v : Value} {cs : List Value} (s : Sl es H v 0 cs) (hes : 0 < es) :
    E.append H es bytes (.slice (some ⟨b, 0, none⟩) 0 es) v = some ⟨.slice (some ⟨b, 0, none⟩) 0 es, [], .none⟩ := by
  have hes' : es ≠ 0 := by omega
  rcases s.low with rfl | ⟨bv, o, m, t, rfl, hb⟩
  · simp [E.append, E.added, hes']
  · obtain rfl : m = 0 := by have := s.len; simpa using this
    simp [E.append, E.added, hes']
theorem Blk_addrs_nil (rw : Bool) : Blk.addrs ⟨[], rw⟩ = some [] := rfl
theorem Blk_ren_nil (r : Nat → Nat) (rw : Bool) : Blk.ren r ⟨[], rw⟩ = ⟨[], rw⟩ := rfl
end Go.Abs
/- Chapter 7: lists of triples; where something is first. -/
namespace Go.Abs
namespace H.U
set_option maxRecDepth 100000
set_option maxHeartbeats 0
theorem c147 {d lim : Nat} {h : Heap} {a : Int} : E.call (d + 2) lim 147 [i64 a] h = some (.bool (within a 0 87), h) := by
  refine call1 fn147 rfl (by simp [ef147]) ?_
  simp [ef147, c41]
/-- Triples. -/
abbrev P3 := Int × Int × Int
def at3 (l : List P3) (i : Nat) : P3 := (l[i]?).getD (0, 0, 0)
abbrev v3 (x : P3) : Value := .agg #[i64 x.1, i64 x.2.1, i64 x.2.2]
/-- The first number that has a property. -/
def fstI (p : Nat → Bool) (n i : Nat) : Nat := if i < n then (if p i then i else fstI p n (i + 1)) else n
termination_by n - i
theorem fstI_lt {p : Nat → Bool} {n i : Nat} (h : i < n) : fstI p n i = if p i then i else fstI p n (i + 1) := by rw [fstI, if_pos h]
theorem fstI_ge {p : Nat → Bool} {n i : Nat} (h : ¬ i < n) : fstI p n i = n := by rw [fstI, if_neg h]
theorem fstI_spec {p : Nat → Bool} {n : Nat} : ∀ (k i : Nat), n - i = k → i ≤ n → i ≤ fstI p n i ∧ fstI p n i ≤ n ∧ (fstI p n i < n → p (fstI p n i) = true) ∧ ∀ j, i ≤ j → j < fstI p n i → p j = false
  | 0, i, hk, hi => by
    rw [fstI_ge (by omega)]
    exact ⟨hi, Nat.le_refl _, fun h => by omega, fun j h1 h2 => by omega⟩
  | k + 1, i, hk, hi => by
    rw [fstI_lt (by omega)]
    split
    · rename_i h0
      exact ⟨Nat.le_refl _, hi, fun _ => h0, fun j h1 h2 => by omega⟩
    · rename_i h0
      obtain ⟨a, b, c, e⟩ := fstI_spec (p := p) (n := n) k (i + 1) (by omega) (by omega)
      refine ⟨by omega, b, c, fun j h1 h2 => ?_⟩
      rcases Nat.lt_or_ge i j with z | z
      · exact e j z h2
      · rw [show j = i by omega]; simpa using h0
end H.U
end Go.Abs
