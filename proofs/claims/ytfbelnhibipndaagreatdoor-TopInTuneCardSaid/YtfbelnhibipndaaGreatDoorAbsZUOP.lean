/- A part of a row is appended. -/
import Derived.Test.YtfbelnhibipndaaGreatDoorAbsZUAM
import Derived.Test.YtfbelnhibipndaaGreatDoorAbsZUON
set_option linter.unusedSimpArgs false
set_option linter.unusedVariables false
/- A part of a row is appended. -/
namespace Go.Abs
namespace Z.U
set_option maxRecDepth 100000
end Z.U
end Go.Abs
/- Sets of one note: the loop. -/
namespace Go.Abs
namespace Z.U
set_option maxRecDepth 100000
set_option maxHeartbeats 0
set_option linter.unusedSimpArgs false
/-- The blocks under the loop over sets. -/
structure LB (h : Heap) (v w : Value) (D N : List Int) (sz : Int) (out : Value) (L : List (Option Blk)) : Prop where
  e0 : L[0]? = some (some ⟨[v], true⟩)
  e1 : L[1]? = some (some ⟨[w], true⟩)
  e2 : L[2]? = some (some ⟨cI D, true⟩)
  e3 : L[3]? = some (some ⟨[out], true⟩)
  e4 : L[4]? = some (some ⟨[i64 sz], true⟩)
  e5 : L[5]? = some (some ⟨[vS (h.length + 2) N.length], true⟩)
  e6 : L[6]? = some (rec61 h.length 0)
  e7 : L[7]? = some (some ⟨[yieldVal (h.length + 6)], true⟩)
  e10 : L[10]? = some (some ⟨[f117 h.length], true⟩)
  len : 11 ≤ L.length
/-- What is kept when other blocks turn. -/
theorem LB.keep {h : Heap} {v w out : Value} {D N : List Int} {sz : Int} {L L' : List (Option Blk)} (B : LB h v w D N sz out L) (hl : 11 ≤ L'.length) (k : ∀ i, i < 11 → i ≠ 8 → i ≠ 9 → L'[i]? = L[i]?) : LB h v w D N sz out L' :=
  ⟨(k 0 (by omega) (by omega) (by omega)).trans B.e0, (k 1 (by omega) (by omega) (by omega)).trans B.e1, (k 2 (by omega) (by omega) (by omega)).trans B.e2, (k 3 (by omega) (by omega) (by omega)).trans B.e3, (k 4 (by omega) (by omega) (by omega)).trans B.e4,
   (k 5 (by omega) (by omega) (by omega)).trans B.e5, (k 6 (by omega) (by omega) (by omega)).trans B.e6, (k 7 (by omega) (by omega) (by omega)).trans B.e7, (k 10 (by omega) (by omega) (by omega)).trans B.e10, hl⟩
end Z.U
end Go.Abs
/- The smallest explanations: one note. -/
namespace Go.Abs
namespace Z.U
set_option maxRecDepth 100000
set_option maxHeartbeats 0
set_option linter.unusedSimpArgs false
abbrev L7 (h : Heap) (v w : Value) (D N : List Int) (sz : Int) : List (Option Blk) := [some ⟨[v], true⟩, some ⟨[w], true⟩, some ⟨cI D, true⟩, some ⟨[.slice none 0 0], true⟩, some ⟨[i64 sz], true⟩, some ⟨[vS (h.length + 2) N.length], true⟩, rec61 h.length 0]
abbrev L11 (h : Heap) (v w : Value) (D N : List Int) (sz : Int) : List (Option Blk) := [some ⟨[v], true⟩, some ⟨[w], true⟩, some ⟨cI D, true⟩, some ⟨[.slice none 0 0], true⟩, some ⟨[i64 sz], true⟩, some ⟨[vS (h.length + 2) N.length], true⟩, rec61 h.length 0,
  some ⟨[yieldVal (h.length + 6)], true⟩, some ⟨[], true⟩, some ⟨[vS (h.length + 8) 0], true⟩, some ⟨[f117 h.length], true⟩]
theorem c119 {d lim : Nat} {h : Heap} {v w : Value} {D N : List Int} {sz : Nat} {L' : List (Option Blk)} (hlim : lim ≤ h.length) (hs : sz ≤ 12) (k : E.call d lim 120 (a117 h.length 0) (h.freeze ++ L11 h v w D N sz) = some (.bool true, h.freeze ++ L')) :
    E.call (d + 1) lim 119 [yieldVal (h.length + 6), pB (h.length + 4), pB (h.length + 5)] (h.freeze ++ L7 h v w D N sz) = some (.tuple #[], h.freeze ++ L') := by
  refine call_full fn119 rfl (by simp [ef119]) ?_
  have l9 : lim ≤ h.length + 9 := by omega
  have l10 : lim ≤ h.length + 10 := by omega
  have zs : zeros [Value.int .i64 0] 0 = [] := rfl
  have mx : sz ≤ maxLen := by unfold maxLen; omega
  have by8 : 8 * (sz : Int) ≤ 140737488355328 := by omega
  have cy : (yieldVal (h.length + 6)).cells = #[yieldVal (h.length + 6)] := rfl
  unfold Value.cells at cy
  simp [ef119, zs, l9, l10, mx, cy]
  refine ⟨by8, ?_⟩
  rw [k]
  simp
end Z.U
end Go.Abs
/- The smallest explanations: nothing fails. -/
namespace Go.Abs
namespace Z.U
set_option maxRecDepth 100000
set_option maxHeartbeats 0
set_option linter.unusedSimpArgs false
theorem c40z {d lim : Nat} {h : Heap} {v w : Value} {l : List P4} {F : List Int} (s : Sl4 h v l) (t : SlI' h w F) (hf : F.length ≤ 1000) (hl : l.length ≤ 12) (e0 : cfE l F = 0) (l0 : l.length ≠ 0) (x0 : exE l F [] = 0) :
    E.call (d + 9) lim 40 [v, w] h = some (if (ntD l).length ≤ 12 then .tuple #[vS h.length 1, i64 0] else .tuple #[.slice none 0 0, i64 8], h ++ if (ntD l).length ≤ 12 then [some ⟨[vS (h.length + 1) 0], true⟩, some ⟨[], true⟩] else []) := by
  have r := s.rules2
  have r' := t.rules2
  obtain ⟨O, hr, AF⟩ := cfE_0 e0
  have k91 := fun (L : Heap) lim => c72 (d := d + 3) (lim := lim) ((Sl_freeze.2 s).app L) ((Sl_freeze.2 t).app L) hf
  have k85 := fun (L : Heap) lim => c73 (D := d) (lim := lim) ((Sl_freeze.2 s).app L) hl
  unfold ntV ntB at k85
  simp only [if_neg l0] at k85
  have nl : (ntD l).length ≤ 24 := by
    have := dd_len (ntS l) (ntS l).length
    have := ntS_len l
    unfold ntD; omega
  have hnil : ¬ l = [] := fun e => l0 (by rw [e]; rfl)
  generalize ntD l = N at *
  generalize ddz (ntS l) = D at *
  have cpD := cI_plain D
  refine call_pure fn40 rfl (by simp [ef40]) ?_
  have cv : v.cells = #[v] := by rcases s.low with e | ⟨b, o, n, k, e, hb⟩ <;> subst e <;> rfl
  have cw : w.cells = #[w] := by rcases t.low with e | ⟨b, o, n, k, e, hb⟩ <;> subst e <;> rfl
  unfold Value.cells at cv cw
  by_cases q12 : N.length ≤ 12
  case neg =>
    have q12i : (12 : Int) < N.length := by omega
    have q12j : ¬ (N.length : Int) ≤ 12 := by omega
    simp [ef40, cv, cw, k91, e0, k85, hnil, q12, q12i, q12j, Nat.lt_of_not_le q12]
  have q12i : ¬ (12 : Int) < N.length := by omega
  have w1' := w1 (i := N.length) (by omega)
  have q12j : (N.length : Int) ≤ 12 := by omega
  simp [-collect_own1, ef40, cv, cw, k91, e0, k85, hnil, q12, q12i, q12j, w1', Nat.not_lt.2 q12]
  refine wpC_loop (fun q st => q = 0 ∧ st = ⟨[(2, pB h.length), (3, pB (h.length + 1)), (7, vS (h.length + 2) N.length), (24, i64 ((N.length + 1 : Nat) : Int)), (25, i64 0)], h.freeze ++ [some ⟨[v], true⟩, some ⟨[w], true⟩, some ⟨cI D, true⟩]⟩) 0 (by show 0 < 2 ^ 64; decide) ?_ ?_
  · simp [-collect_own1, cpD, St.tidy, collect_box, s.own, t.own, r, r']
  · rintro q hq _ ⟨rfl, rfl⟩
    have k93 := fun (L : Heap) (b n : Nat) (x : Int) lim hb => c75 (d := d + 7) (lim := lim) (b := b) (n := n) (h := h.freeze ++ L) (k := x) hb
    have rr := r61y (d := d + 2) (lim := h.length) (c := 11) (m := 0) (rw_ := true) (S := []) (L := L11 h v w D N 0 ++ [some (Blk.mk [] true)]) s t AF (by omega) hf (by decide) rfl rfl rfl rfl rfl (by decide) rfl x0 (Nat.le_refl _)
    have q0 : E.call (d + 8) h.length 119 [yieldVal (h.length + 6), pB (h.length + 4), pB (h.length + 4 + 1)] (h.freeze ++ L7 h v w D N 0) = some (.tuple #[], h.freeze ++ ((L11 h v w D N 0 ++ [some (Blk.mk [] true)]).set 3 (some (Blk.mk [vS (h.length + 13) 1] true)) ++ [some ⟨[vS (h.length + 11) 0], true⟩, some ⟨[vS (h.length + 11) 0], true⟩])) :=
      c119 (d := d + 7) (sz := 0) (Nat.le_refl _) (by decide) (c120y (d := d + 2) (b := 8) (m := 0) (S := []) (rw_ := true) (by decide) rfl rfl rfl rfl rfl rr)
    have RE : ∀ f, rangeEnd (h.length + 6) f (h.freeze ++ ((L11 h v w D N 0 ++ [some (Blk.mk [] true)]).set 3 (some (Blk.mk [vS (h.length + 13) 1] true)) ++ [some ⟨[vS (h.length + 11) 0], true⟩, some ⟨[vS (h.length + 11) 0], true⟩])) = some (.normal, ⟨f, Heap.put (h.freeze ++ ((L11 h v w D N 0 ++ [some (Blk.mk [] true)]).set 3 (some (Blk.mk [vS (h.length + 13) 1] true)) ++ [some ⟨[vS (h.length + 11) 0], true⟩, some ⟨[vS (h.length + 11) 0], true⟩])) (h.length + 6) none⟩) := fun f => by
      rw [rangeEnd_get (s := 0) (by rw [hget_base (by simp)]; rfl)]; rfl
    simp [L7, L11, rec61] at q0 RE
    have ad : (Blk.mk [] true).addrs = some [] := rfl
    simp [k93, loopBlk, q0, RE, cpD, r, r', ad]
    rfl
end Z.U
end Go.Abs
