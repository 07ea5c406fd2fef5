--
import Derived.Test.YtmjkdaloalaiiaaGreatDoorAbsMWN
import Derived.Test.YtmjkdaloalaiiaaGreatDoorAbsNat3
set_option linter.unusedSimpArgs false
set_option linter.unusedVariables false
namespace Go.Abs
namespace M
set_option maxRecDepth 100000
set_option maxHeartbeats 0
def wdsL (P S : Nat → Int) : Nat → List (List UInt8)
 | 0 => []
 | k + 1 => wdsL P S k ++ [dec (P k), dec (S k)]
theorem wdsL_len (P S : Nat → Int) : ∀ k, (wdsL P S k).length = 2 * k
 | 0 => rfl
 | k + 1 => by rw [wdsL, List.length_append, wdsL_len P S k]; simp; omega
def prtL (nm : List UInt8) (P S : Nat → Int) : Nat → List UInt8
 | 0 => nm
 | k + 1 => prtL nm P S k ++ [32] ++ dec (P k) ++ [32] ++ dec (S k)
theorem joinTail_app (sep : List UInt8) (a b : List (List UInt8)) : Lib.joinTail sep (a ++ b) = Lib.joinTail sep a ++ Lib.joinTail sep b := by
 unfold Lib.joinTail; rw [List.map_append, List.flatten_append]
theorem join_prt (nm : List UInt8) (P S : Nat → Int) : ∀ k, Lib.join (nm :: wdsL P S k) [32] = prtL nm P S k
 | 0 => by rw [wdsL, Lib.join_one]; rfl
 | k + 1 => by
  have ih := join_prt nm P S k
  rw [Lib.join_cons] at ih ⊢
  rw [wdsL, joinTail_app, ← List.append_assoc, ih]
  rw [show prtL nm P S (k + 1) = prtL nm P S k ++ [32] ++ dec (P k) ++ [32] ++ dec (S k) from rfl]
  simp [Lib.joinTail]
theorem dec_len {n : Int} (hn : R64 n) : (dec n).length ≤ 21 := by
 have := (digs_len (n := n.natAbs) 20 (by decide)).2 (by unfold R64 at hn; omega)
 by_cases a : n < 0
 ·rw [dec_neg a, List.length_cons]; omega
 ·rw [dec_nn a]; omega
theorem prtL_len {nm : List UInt8} {P S : Nat → Int} (hR : ∀ i, i < 12 → R64 (P i) ∧ R64 (S i)) : ∀ k, k ≤ 12 → (prtL nm P S k).length ≤ nm.length + 44 * k
 | 0, _ => by simp [prtL]
 | k + 1, h => by
  have := prtL_len (nm := nm) hR k (by omega)
  have a := dec_len (hR k (by omega)).1
  have b := dec_len (hR k (by omega)).2
  unfold prtL
  simp
  omega
theorem cT_strs (L : List (List UInt8)) : strsOf (cT L) = some (L.map fun l => ⟨l.toArray⟩) := by
 have : cT L = (L.map fun l => (⟨l.toArray⟩ : ByteArray)).map .string := by simp [cT]
 rw [this, strsOf_map]
theorem c22 {d lim b n : Nat} {h : Heap} {L : List (List UInt8)} {sep : List UInt8} {rw : Bool} (hb : h.get b = some ⟨cT L, rw⟩) (hn : n = L.length) (h1 : n ≤ 1000) (h2 : (Lib.join L sep).length ≤ 100000) :
  E.call (d + 1) lim 22 [.slice (some ⟨b, 0, none⟩) n 1, tx sep] h = some (tx (Lib.join L sep), h) := by
 show natJoin [.slice (some ⟨b, 0, none⟩) n 1, tx sep] h = _
 have e : (List.map (fun l : List UInt8 => (⟨l.toArray⟩ : ByteArray)) L).map (fun x => x.data.toList) = L := by rw [List.map_map]; simp [Function.comp_def]
 have tk : ((cT L).drop 0).take n = cT L := by rw [List.drop_zero, List.take_of_length_le (by rw [cT_len]; omega)]
 unfold natJoin
 simp only [hb, tk, cT_strs]
 rw [if_pos ⟨by rw [List.length_map, hn], by omega, by rw [e]; show (Lib.join L sep).length ≤ _; omega⟩, e]
theorem c9 {d lim : Nat} {h : Heap} {C : List Value} {nm : List UInt8} {P S : Nat → Int} (t : Tm C ⟨nm.toArray⟩ P S) (hn : nm.length ≤ 1000) (hR : ∀ i, i < 12 → R64 (P i) ∧ R64 (S i)) :
  E.call (d + 5) lim 9 [.agg C.toArray] h = some (if chkT ⟨nm.toArray⟩ P S = 0 then .tuple #[tx (prtL nm P S 12), i64 0] else .tuple #[tx [], i64 (chkT ⟨nm.toArray⟩ P S)], h) := by
 refine call1 fn9 rfl (by simp [ef9]) ?_
 have k11 : ∀ L, E.call (d + 4) h.length 11 [.agg C.toArray] (h.freeze ++ L) = some (i64 (chkT ⟨nm.toArray⟩ P S), h.freeze ++ L) := fun L => c11 (d := d) t (by rw [tx_size]; omega)
 by_cases z : chkT ⟨nm.toArray⟩ P S = 0
 ·have cp := t.plain
  have tn : ∀ hh, C[0]'hh = tx nm := fun hh => t.name' hh
  have tl := t.len
  simp [-collect_own1, ef9, k11, z, t.take, tn, tl, fillL]
  refine wpC_loop (fun y st => ∃ i : Nat, y = 12 - i ∧ i ≤ 12 ∧ st = ⟨[(1, .pointer (some ⟨h.length, 0, none⟩)), (5, .slice (some ⟨h.length + 1, 0, none⟩) (1 + 2 * i) 1), (15, i64 (i : Nat))], h.freeze ++ [some ⟨C, true⟩, some ⟨cT (nm :: wdsL P S i), true⟩]⟩) 12 (by show 12 < 2 ^ 64; omega) ?_ ?_
  ·simp [-collect_own1, St.tidy, collect_box, cp]
   exact ⟨0, by omega, by omega, ⟨rfl, rfl⟩, rfl⟩
  ·rintro y hy _ ⟨i, rfl, hi, rfl⟩
   have wl := wdsL_len P S i
   have cw := cT_plain' (nm :: wdsL P S i)
   have cl := cT_len (nm :: wdsL P S i)
   rw [List.length_cons, wl] at cl
   by_cases hlt : i < 12
   ·have hlt' : (i : Int) < 12 := by omega
    have w1' : IntKind.i64.wrap ((i : Int) + 1) = ((i + 1 : Nat) : Int) := by rw [wrapR (by unfold R64; omega)]; rfl
    have p1 := t.p i hlt
    have s1 := t.s i hlt
    have d1 := fun H : Heap => c21 (d := d + 3) (lim := h.length) (h := H) (hR i hlt).1
    have d2 := fun H : Heap => c21 (d := d + 3) (lim := h.length) (h := H) (hR i hlt).2
    have sn : cT (nm :: wdsL P S i) ++ [tx (dec (P i)), tx (dec (S i))] = cT (nm :: wdsL P S (i + 1)) := by simp [cT, wdsL]
    have cw2 := cT_plain' (nm :: wdsL P S (i + 1))
    generalize cT (nm :: wdsL P S i) = K at *
    generalize hK2 : cT (nm :: wdsL P S (i + 1)) = K2 at *
    simp [-collect_own1, hlt, hlt', w1', p1, s1, d1, d2, fillL, zeros, E.append, E.added, sn, cw2, cl, cp, Nat.add_assoc, St.tidy, collect_box]
    exact ⟨⟨by omega, by omega, by unfold maxLen; omega⟩, 12 - (i + 1), by omega, i + 1, rfl, by omega, ⟨by omega, by omega⟩, hK2.symm⟩
   ·obtain rfl : i = 12 := by omega
    have jl := prtL_len (nm := nm) hR 12 (by omega)
    have j22 := fun (lim b : Nat) (H : Heap) (hb : H.get b = some ⟨cT (nm :: wdsL P S 12), true⟩) => c22 (d := d + 3) (lim := lim) (n := 25) (L := nm :: wdsL P S 12) (sep := [32]) hb (by rw [List.length_cons, wl]) (by omega) (by rw [join_prt]; omega)
    rw [join_prt] at j22
    have gb : Heap.get (h.freeze ++ [some ⟨C, true⟩, some ⟨cT (nm :: wdsL P S 12), true⟩]) (h.length + 1) = some ⟨cT (nm :: wdsL P S 12), true⟩ := by
     rw [hget_ge_app (by simp)]; simp
    have j := j22 h.length (h.length + 1) _ gb
    generalize cT (nm :: wdsL P S 12) = K at *
    simp [j]
 ·simp [ef9, k11, z, t.take, t.len]
end M
end Go.Abs
namespace Go.Abs
namespace M
set_option maxRecDepth 100000
set_option maxHeartbeats 0
theorem c12 {d lim : Nat} {h : Heap} {C : List Value} {nm : List UInt8} {P S : Nat → Int} (t : Tm C ⟨nm.toArray⟩ P S) (hn : nm.length ≤ 1000) (hR : ∀ i, i < 12 → R64 (P i) ∧ R64 (S i)) :
  E.call (d + 5) lim 12 [.agg C.toArray] h = some (tx (prtL nm P S 12), h) := by
 refine call1 fn12 rfl (by simp [ef12]) ?_
 have cp := t.plain
 have tn : ∀ hh, C[0]'hh = tx nm := fun hh => t.name' hh
 have tl := t.len
 simp [-collect_own1, ef12, tn, tl]
 refine wpC_loop (fun y st => ∃ i : Nat, y = 12 - i ∧ i ≤ 12 ∧ st = ⟨[(1, .pointer (some ⟨h.length, 0, none⟩)), (3, tx (prtL nm P S i)), (4, i64 (i : Nat))], h.freeze ++ [some ⟨C, true⟩]⟩) 12 (by show 12 < 2 ^ 64; omega) ?_ ?_
 ·simp [-collect_own1, St.tidy, collect_box, cp]
  exact ⟨0, by omega, by omega, ⟨rfl, rfl⟩⟩
 ·rintro y hy _ ⟨i, rfl, hi, rfl⟩
  by_cases hlt : i < 12
  ·have hlt' : (i : Int) < 12 := by omega
   have w1' : IntKind.i64.wrap ((i : Int) + 1) = ((i + 1 : Nat) : Int) := by rw [wrapR (by unfold R64; omega)]; rfl
   have p1 := t.p i hlt
   have s1 := t.s i hlt
   have d1 := fun H : Heap => c32 (d := d + 2) (lim := h.length) (h := H) (hR i hlt).1
   have d2 := fun H : Heap => c32 (d := d + 2) (lim := h.length) (h := H) (hR i hlt).2
   have l1 := dec_len (hR i hlt).1
   have l2 := dec_len (hR i hlt).2
   have pl := prtL_len (nm := nm) hR i (by omega)
   have nx : prtL nm P S (i + 1) = prtL nm P S i ++ [32] ++ dec (P i) ++ [32] ++ dec (S i) := rfl
   generalize dec (P i) = x at *
   generalize dec (S i) = z at *
   generalize prtL nm P S i = q at *
   have a1 : E.bin .add (tx q) (.string ⟨[32].toArray⟩) = some (tx (q ++ [32])) := bin_sadd (by simp; omega)
   have a2 : E.bin .add (tx (q ++ [32])) (tx x) = some (tx (q ++ [32] ++ x)) := bin_sadd (by simp; omega)
   have a3 : E.bin .add (tx (q ++ [32] ++ x)) (.string ⟨[32].toArray⟩) = some (tx (q ++ [32] ++ x ++ [32])) := bin_sadd (by simp; omega)
   have a4 : E.bin .add (tx (q ++ [32] ++ x ++ [32])) (tx z) = some (tx (q ++ [32] ++ x ++ [32] ++ z)) := bin_sadd (by simp; omega)
   rw [← nx] at a4
   generalize q ++ [32] ++ x ++ [32] = q3 at *
   generalize q ++ [32] ++ x = q2 at *
   generalize q ++ [32] = q1 at *
   generalize hp : prtL nm P S (i + 1) = p at *
   simp [-collect_own1, hlt, hlt', w1', p1, s1, d1, d2, a1, a2, a3, a4, cp, St.tidy, collect_box]
   exact ⟨12 - (i + 1), by omega, i + 1, rfl, by omega, hp.symm, by omega⟩
  ·obtain rfl : i = 12 := by omega
   simp
end M
end Go.Abs
