--
import Derived.Test.YtmjkdaloalaiiaaGreatDoorAbsMV4
import Derived.Test.YtmjkdaloalaiiaaGreatDoorAbsWpO
set_option linter.unusedSimpArgs false
set_option linter.unusedVariables false
namespace Go.Abs
namespace M
set_option maxRecDepth 100000
set_option maxHeartbeats 0
def cT (L : List (List UInt8)) : List Value := L.map tx
theorem cT_len (L : List (List UInt8)) : (cT L).length = L.length := by simp [cT]
theorem cT_snoc (L : List (List UInt8)) (x : List UInt8) : cT L ++ [tx x] = cT (L ++ [x]) := by simp [cT]
theorem cT_plain' (L : List (List UInt8)) : (cT L).all plainV = true := by simp [cT, plainV]
theorem cT_get {L : List (List UInt8)} {i : Nat} {x : List UInt8} (h : L[i]? = some x) : (cT L)[i]? = some (tx x) := by simp [cT, h]
def lVT (b : Nat) (L : List (List UInt8)) : Value := if L = [] then .slice none 0 0 else .slice (some ⟨b, 0, none⟩) L.length 1
def lBT (L : List (List UInt8)) : List (Option Blk) := if L = [] then [] else [some ⟨cT L, true⟩]
theorem cw_cnt (c : UInt8) (s : List UInt8) : ∀ i, (cw c s i).1.length ≤ i
 | 0 => Nat.le_refl _
 | i + 1 => by
  have := cw_cnt c s i
  unfold cw
  split
  ·simp; exact this
  ·omega
theorem c19 {d lim : Nat} {h : Heap} {s : List UInt8} {c : UInt8} (hs : s.length < 1000000) :
  E.call (d + 1) lim 19 [tx s, .int .u8 c.toNat] h = some (lVT h.length (cutB c s), h ++ lBT (cutB c s)) := by
 rw [← cw_end]
 refine call_pure fn19 rfl (by simp [ef19]) ?_
 simp [ef19]
 refine wpC_loop (fun y st => ∃ (i : Nat), y = s.length + 1 - i ∧ i ≤ s.length + 1 ∧ st = ⟨[(0, tx s), (1, .int .u8 c.toNat), (5, lVT h.length (cw c s i).1), (6, i64 ((cw c s i).2 : Nat)), (7, i64 (i : Nat))], h.freeze ++ lBT (cw c s i).1⟩) (s.length + 1) (by show s.length + 1 < 2 ^ 64; omega) ?_ ?_
 ·simp [St.tidy]
  exact ⟨0, by omega, by omega, ⟨rfl, rfl, rfl⟩, rfl⟩
 ·rintro y hy _ ⟨i, rfl, hi, rfl⟩
  by_cases hl : i ≤ s.length
  ·have w1' : IntKind.i64.wrap ((i : Int) + 1) = ((i + 1 : Nat) : Int) := by rw [wrapR (by unfold R64; omega)]; rfl
   have fl := cw_le c s i hl
   have hl' : (i : Int) ≤ s.length := by omega
   have nxt : cw c s (i + 1) = if i = s.length ∨ s[i]? = some c then ((cw c s i).1 ++ [(s.take i).drop (cw c s i).2], i + 1) else cw c s i := rfl
   rcases hcw : cw c s i with ⟨W, fr⟩
   rw [hcw] at nxt fl
   simp only at nxt fl
   have sn := cT_snoc W ((s.take i).drop fr)
   have wl := cT_len W
   have wW : W.length ≤ i := by have := cw_cnt c s i; rw [hcw] at this; exact this
   by_cases il : i = s.length
   ·subst il
    rw [if_pos (Or.inl rfl)] at nxt
    rw [List.take_length] at nxt sn
    have cp := cT_plain' (W ++ [s.drop fr])
    by_cases e : W = []
    ·subst e
     simp [-collect_own1, lVT, lBT, fl, w1', fillL, zeros, E.append, E.added, St.tidy, collect_box]
     exact ⟨by decide, s.length + 1, by omega, by omega, by rw [nxt]; exact ⟨rfl, rfl, rfl⟩, by rw [nxt]; rfl⟩
    ·have e2 : ¬ W ++ [s.drop fr] = [] := by simp
     simp [-collect_own1, lVT, lBT, e, fl, w1', fillL, zeros, E.append, E.added, wl, sn, cp, St.tidy, collect_box]
     exact ⟨⟨by omega, by unfold maxLen; omega⟩, s.length + 1, by omega, by omega, by rw [nxt]; simp only [if_neg e2, List.length_append, List.length_singleton]; refine ⟨trivial, ?_, ?_⟩ <;> first | trivial | rfl | omega, by rw [nxt]; simp only [if_neg e2]⟩
   ·have lt : i < s.length := by omega
    have lt' : ¬ (i : Int) = s.length := by omega
    by_cases b : s[i] = c
    ·rw [if_pos (Or.inr (by rw [List.getElem?_eq_getElem lt, b]))] at nxt
     have b' : (s[i].toNat : Int) = c.toNat := by rw [b]
     have cp := cT_plain' (W ++ [(s.take i).drop fr])
     by_cases e : W = []
     ·subst e
      simp [-collect_own1, lVT, lBT, hl, hl', lt, lt', b', fl, w1', fillL, zeros, E.append, E.added, St.tidy, collect_box]
      exact ⟨by decide, s.length - i, by omega, i + 1, by omega, by omega, by rw [nxt]; exact ⟨rfl, rfl, rfl⟩, by rw [nxt]; rfl⟩
     ·have e2 : ¬ W ++ [(s.take i).drop fr] = [] := by simp
      simp [-collect_own1, lVT, lBT, e, hl, hl', lt, lt', b', fl, w1', fillL, zeros, E.append, E.added, wl, sn, cp, St.tidy, collect_box]
      exact ⟨⟨by omega, by unfold maxLen; omega⟩, s.length - i, by omega, i + 1, by omega, by omega, by rw [nxt]; simp only [if_neg e2, List.length_append, List.length_singleton]; refine ⟨trivial, ?_, ?_⟩ <;> first | trivial | rfl | omega, by rw [nxt]; simp only [if_neg e2]⟩
    ·rw [if_neg (by rw [not_or]; exact ⟨il, by rw [List.getElem?_eq_getElem lt]; exact fun q => b (Option.some.inj q)⟩)] at nxt
     have b' : ¬ (s[i].toNat : Int) = c.toNat := fun q => b (UInt8.toNat_inj.1 (by omega))
     have cp := cT_plain' W
     by_cases e : W = []
     ·subst e
      simp [-collect_own1, lVT, lBT, hl, hl', lt, lt', b', fl, w1', fillL, zeros, E.append, E.added, St.tidy, collect_box]
      exact ⟨s.length - i, by omega, i + 1, by omega, by omega, by rw [nxt]; exact ⟨rfl, rfl, by omega⟩, by rw [nxt]⟩
     ·simp [-collect_own1, lVT, lBT, e, hl, hl', lt, lt', b', fl, w1', fillL, zeros, E.append, E.added, wl, sn, cp, St.tidy, collect_box]
      exact ⟨s.length - i, by omega, i + 1, by omega, by omega, by rw [nxt]; simp only [if_neg e]; refine ⟨trivial, ?_, ?_⟩ <;> first | trivial | rfl | omega, by rw [nxt]; simp only [if_neg e]⟩
  ·obtain rfl : i = s.length + 1 := by omega
   have hl' : ¬ ((s.length + 1 : Nat) : Int) ≤ s.length := by omega
   have hl'' : ¬ (s.length : Int) + 1 ≤ s.length := by omega
   have e : ¬ (cw c s (s.length + 1)).1 = [] := by rw [cw_end]; exact cutB_ne c s
   have cp := cT_plain' (cw c s (s.length + 1)).1
   generalize cw c s (s.length + 1) = W at *
   simp [-collect_own1, lVT, lBT, e, cp, hl'', collect_box]
end M
end Go.Abs
