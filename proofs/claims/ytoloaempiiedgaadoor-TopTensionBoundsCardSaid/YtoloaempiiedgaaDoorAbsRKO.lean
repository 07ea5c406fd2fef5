--
import Derived.Test.YtoloaempiiedgaaDoorAbsRKM
import Derived.Test.YtoloaempiiedgaaDoorAbsRZ1
import Derived.Test.YtoloaempiiedgaaDoorAbsRVM
import Derived.Test.YtoloaempiiedgaaDoorAbsRKN
set_option linter.unusedSimpArgs false
set_option linter.unusedVariables false
namespace Go.Abs
namespace R
set_option maxRecDepth 100000
set_option maxHeartbeats 0
abbrev qI (l : List Int) : Option Blk := some ⟨cI l, true⟩
theorem erA_parts {t : Int} {wl : List Wi} {l : List Un} {L : Lm} {G : List Int} (h : erA t wl l L G = 0) : (stE t wl l).2 = 0 ∧ lmE L = 0 ∧ ggE G = 0 := by
 unfold erA at h
 by_cases a : (stE t wl l).2 ≠ 0
 ·rw [if_pos a] at h; exact absurd h a
 rw [if_neg a] at h
 by_cases b : lmE L ≠ 0
 ·rw [if_pos b] at h; exact absurd h b
 rw [if_neg b] at h
 exact ⟨by omega, by omega, h⟩
end R
end Go.Abs
namespace Go.Abs
namespace R
set_option maxRecDepth 100000
set_option maxHeartbeats 0
theorem cI_gxe {l : List Int} {k : Nat} (h : k < l.length) : ∀ hh, (cI l)[k]'hh = i64 (gx l k) := fun hh => by simp [cI, gx, List.getD_eq_getElem?_getD, List.getElem?_eq_getElem h]
end R
end Go.Abs
namespace Go.Abs
namespace R
set_option maxRecDepth 100000
set_option maxHeartbeats 0
def anyR (l : List Int) : Nat → Bool
 | 0 => false
 | g + 1 => anyR l g || decide (0 ≤ gx l g)
def bstF (l : List Int) : Nat → Int
 | 0 => -1
 | g + 1 => if 0 ≤ gx l g ∧ (bstF l g < 0 ∨ gx l g < bstF l g) then gx l g else bstF l g
def lastC (A : Nat → List Bool) (tg : Nat → Nat → Nat → Bool) (m n : Nat) : List Int := if n = 0 then [] else refC A tg m (n - 1)
def bstE (A : Nat → List Bool) (tg : Nat → Nat → Nat → Bool) (m n i : Nat) : Int × Int :=
 if i < n then (if anyR (refC A tg m i) m = true then bstE A tg m n (i + 1) else (0, i)) else (max (bstF (lastC A tg m n) (lastC A tg m n).length) 0, -1)
termination_by n - i
def CO (base : Nat) (A : Nat → List Bool) (tg : Nat → Nat → Nat → Bool) (m i : Nat) (L : List (Option Blk)) (cv : Value) : Prop :=
 (i = 0 ∧ cv = .slice none 0 0) ∨ ∃ j c, i = j + 1 ∧ cv = .slice (some ⟨base + c, 0, none⟩) m 1 ∧ L[c]? = some (some ⟨cI (refC A tg m j), true⟩)
structure I24 (B : Heap) (b0 : Nat) (gv av : Value) (A : Nat → List Bool) (tg : Nat → Nat → Nat → Bool) (m n : Nat) (R : Int × Int) (q : Nat) (st : St) : Prop where
 ex : ∃ (i : Nat) (L : List (Option Blk)) (cv : Value), q = n - i ∧ i ≤ n ∧ CO B.length A tg m i L cv ∧ bstE A tg m n i = R ∧
  st = ⟨[(2, gv), (3, pB b0), (4, pB (b0 + 1)), (8, av), (9, cv), (10, i64 (i : Int))], B ++ L⟩
structure I24g (B : Heap) (b0 : Nat) (gv av cv : Value) (row : List Int) (L : List (Option Blk)) (i m q : Nat) (st : St) : Prop where
 ex : ∃ g : Nat, q = m - g ∧ g ≤ m ∧
  st = ⟨[(2, gv), (3, pB b0), (4, pB (b0 + 1)), (8, av), (9, cv), (10, i64 (i : Int)), (11, .slice (some ⟨B.length + L.length, 0, none⟩) m 1), (12, .bool (anyR row g)), (13, i64 (g : Int))], B ++ (L ++ [some ⟨cI (fil 0 row g), true⟩])⟩
structure I24h (B : Heap) (b0 : Nat) (gv av cv : Value) (row prev : List Int) (tg : Nat → Nat → Bool) (L : List (Option Blk)) (i m g q : Nat) (st : St) : Prop where
 ex : ∃ k : Nat, q = m - k ∧ k ≤ m ∧
  st = ⟨[(2, gv), (3, pB b0), (4, pB (b0 + 1)), (8, av), (9, cv), (10, i64 (i : Int)), (11, .slice (some ⟨B.length + L.length, 0, none⟩) m 1), (12, .bool (anyR row g)), (13, i64 (g : Int)), (14, i64 (k : Int))], B ++ (L ++ [some ⟨cI ((fil 0 row g).set g (cstH prev tg g k)), true⟩])⟩
end R
end Go.Abs
