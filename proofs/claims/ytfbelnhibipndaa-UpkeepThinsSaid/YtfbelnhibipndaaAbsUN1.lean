/- Tests of some numbers. -/
import Derived.Test.YtfbelnhibipndaaAbsUMO
set_option linter.unusedSimpArgs false
set_option linter.unusedVariables false
namespace Go.Abs
namespace U
set_option maxRecDepth 100000
set_option maxHeartbeats 0
set_option linter.unusedSimpArgs false
def lV4 (b : Nat) (L : List P4) : Value := if L = [] then .slice none 0 0 else .slice (some ⟨b, 0, none⟩) L.length 4
def lB4 (L : List P4) : List (Option Blk) := if L = [] then [] else [some ⟨cS enc4 L, true⟩]
def ofK (l : List P4) (S : List Int) : Nat → List P4
  | 0 => []
  | k + 1 => ofK l S k ++ [at4 l (gI S k).toNat]
theorem ofK_len (l : List P4) (S : List Int) : ∀ k, (ofK l S k).length = k
  | 0 => rfl
  | k + 1 => by rw [ofK, List.length_append, ofK_len l S k]; rfl
def ofA (l : List P4) (S : List Int) : List P4 := ofK l S S.length
theorem cS4_snoc (L : List P4) (x : P4) : cS enc4 L ++ [i64 x.1, i64 x.2.1, i64 x.2.2.1, i64 x.2.2.2] = cS enc4 (L ++ [x]) := by simp [cS, enc4]
theorem c97 {d lim : Nat} {h : Heap} {v w : Value} {l : List P4} {S : List Int} (s : Sl4 h v l) (t : SlI' h w S) (hl : l.length ≤ 1000) (hs : S.length ≤ 1000) (hS : ∀ i, i < S.length → 0 ≤ gI S i ∧ gI S i < l.length) :
    E.call (d + 1) lim 97 [v, w] h = some (lV4 h.length (ofA l S), h ++ lB4 (ofA l S)) := by
  have r := s.rules2
  have r' := t.rules2
  refine call_pure fn97 rfl (by simp [ef97]) ?_
  simp [ef97]
  refine wpC_loop (fun q st => ∃ i : Nat, q = S.length - i ∧ i ≤ S.length ∧ st = ⟨[(0, v), (1, w), (5, lV4 h.length (ofK l S i)), (6, i64 (i : Int))], h.freeze ++ lB4 (ofK l S i)⟩) S.length (by show S.length < 2 ^ 64; omega) ?_ ?_
  · simp [St.tidy, r, r']
    exact ⟨0, by omega, by omega, ⟨by simp [ofK, lV4], rfl⟩, by simp [ofK, lB4]⟩
  · rintro q hq _ ⟨i, rfl, hi, rfl⟩
    have lenk := ofK_len l S i
    by_cases hlt : i < S.length
    · have hlti : (i : Int) < S.length := by omega
      have w1' := w1 (i := i) (by omega)
      obtain ⟨p1, p2, p3, p4, p5⟩ := ixL hlt
      obtain ⟨a0, a1⟩ := hS i hlt
      have ax : (gI S i).toNat < l.length := by omega
      have pt := c4_part ax
      have k4 : (gI S i).toNat * 4 + 4 ≤ l.length * 4 := by omega
      have hnx : ofK l S (i + 1) = ofK l S i ++ [at4 l (gI S i).toNat] := rfl
      have hsn := cS4_snoc (ofK l S i) (at4 l (gI S i).toNat)
      rw [← hnx] at hsn
      have cp := c4_plain (ofK l S (i + 1))
      have one := c4_one (ofK l S i)
      have cl := c4_len (ofK l S i)
      have lenk1 := ofK_len l S (i + 1)
      rw [lenk] at cl
      have ne1 : ¬ ofK l S (i + 1) = [] := fun z => by rw [z] at lenk1; cases lenk1
      rcases Nat.eq_zero_or_pos i with z0 | z0
      · subst z0
        have s0 : slAt 1 w (i64 0) = some (.pointer (some ⟨slB w, slO w, none⟩)) := by have := t.at (k := .i64) (i := 0) (by omega) (by omega); simpa using this
        have cc0 : h.cell (slB w) (slO w) = some (i64 (gI S 0)) := by
          have := t.cell 0 (by omega)
          rw [Nat.add_zero] at this
          rw [this, p2]
        rw [show ofK l S 0 = [] from rfl] at hsn ⊢
        rw [show cS enc4 [] = [] from rfl, List.nil_append] at hsn
        generalize gI S 0 = x at *
        simp [-collect_own1, lV4, lB4, hlt, s0, cc0, a0, a1, k4, pt, r, r', fillL, zeros, E.append, E.added, w1', St.tidy, collect_box, s.own, t.own]
        exact ⟨by decide, S.length - 1, by omega, 1, by omega, by omega, ⟨by rw [if_neg ne1, lenk1], rfl⟩, by rw [if_neg ne1]; exact congrArg (fun c => [some (Blk.mk c true)]) hsn⟩
      · have n0 : i ≠ 0 := by omega
        have ne : ¬ ofK l S i = [] := fun z => by rw [z] at lenk; exact n0 lenk.symm
        generalize gI S i = x at *
        simp [-collect_own1, lV4, lB4, ne, lenk, hlti, hlt, Nat.not_le.2 hlt, p1, p2, p3, p4, a0, a1, k4, pt, r, r', fillL, zeros, E.append, E.added, cl, hsn, cp, w1', St.tidy, collect_box, s.own, t.own]
        exact ⟨⟨by omega, by unfold maxLen; omega⟩, S.length - (i + 1), by omega, i + 1, by omega, by omega, ⟨by rw [if_neg ne1, lenk1], by omega⟩, by rw [if_neg ne1]⟩
    · obtain rfl : i = S.length := by omega
      have cp := c4_plain (ofK l S S.length)
      unfold ofA
      by_cases e : ofK l S S.length = []
      · rw [e] at *
        simp [lV4, lB4, r']
      · simp [lV4, lB4, e, cp, r', lenk]
end U
end Go.Abs
