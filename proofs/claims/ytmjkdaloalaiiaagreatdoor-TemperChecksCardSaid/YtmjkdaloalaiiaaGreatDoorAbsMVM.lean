--
import Derived.Test.YtmjkdaloalaiiaaGreatDoorAbsMGM
import Derived.Test.YtmjkdaloalaiiaaGreatDoorAbsWp20
set_option linter.unusedSimpArgs false
set_option linter.unusedVariables false
namespace Go.Abs
namespace M
set_option maxRecDepth 100000
set_option maxHeartbeats 0
theorem c21 {d lim : Nat} {h : Heap} {n : Int} (hn : R64 n) : E.call (d + 1) lim 21 [i64 n] h = some (tx (dec n), h) := by
 show natItoa [i64 n] h = _
 unfold natItoa
 unfold R64 at hn
 simp only
 rw [if_pos (by omega)]
theorem c78 {d lim : Nat} {h : Heap} {l : List UInt8} {c : UInt8} : E.call (d + 1) lim 78 [tx l, tx [c]] h = some (i64 (Lib.indexByte l c), h) := rfl
end M
end Go.Abs
namespace Go.Abs
namespace M
set_option maxRecDepth 100000
set_option maxHeartbeats 0
def Er (h : Heap) : Prop := isErr h 1 = true ∧ isErr h 2 = true
theorem Er.freeze {h : Heap} (e : Er h) : Er h.freeze := by unfold Er; rw [isErr_freeze, isErr_freeze]; exact e
theorem isErr_app {h L : Heap} {i : Nat} (e : isErr h i = true) : isErr (h ++ L) i = true := by
 unfold isErr at e ⊢
 by_cases q : i < h.length
 ·rw [Heap.get_append_lt q]; exact e
 ·exfalso
  have : h.get i = none := Heap.get_ge (by omega)
  rw [this] at e; cases e
theorem Er.app {h L : Heap} (e : Er h) : Er (h ++ L) := ⟨isErr_app e.1, isErr_app e.2⟩
theorem c40 {d lim : Nat} {h : Heap} {l : List UInt8} (e : Er h) (hl : l.length < 1000000) : E.call (d + 1) lim 40 [tx l] h = match Lib.atoiAll l with
  | .ok v => some (.tuple #[i64 v, .nilIface], h)
  | .range => some (.tuple #[i64 (Lib.atoiSat l), .iface 126 (.pointer (some ⟨h.length, 0, none⟩))], h ++ [none])
  | _ => some (.tuple #[i64 0, .iface 126 (.pointer (some ⟨h.length, 0, none⟩))], h ++ [none]) := by
 show natAtoi 126 1 2 [tx l] h = _
 unfold natAtoi
 have hs : (ByteArray.mk l.toArray).size ≤ 281474976710656 := by rw [tx_size]; omega
 simp only [e.1, e.2, if_true]
 rw [if_pos hs]
 rcases Lib.atoiAll l with _ | _ | _ <;> rfl
theorem R64_ok {l : List UInt8} {n : Int} (h : Lib.atoiAll l = .ok n) : R64 n := by
 rcases l with _ | ⟨c, r⟩
 ·cases h
 ·unfold R64
  dsimp only [Lib.atoiAll] at h
  split at h
  ·cases h
  ·cases h
  ·split at h
   ·cases h
   ·split at h
    ·cases h
    ·injection h with h
     subst h
     split <;> omega
end M
end Go.Abs
namespace Go.Abs
namespace M
set_option maxRecDepth 100000
set_option maxHeartbeats 0
def DigR (n : Int) (m : Int) (l : List UInt8) : Prop := m.natAbs ≤ n.natAbs ∧ digs n.natAbs = (if m = 0 then [] else digs m.natAbs) ++ l
theorem DigR.len {n m : Int} {l : List UInt8} (hn : R64 n) (d : DigR n m l) : l.length ≤ 20 := by
 have q := congrArg List.length d.2
 have := (digs_len (n := n.natAbs) 20 (by decide)).2 (by unfold R64 at hn; omega)
 rw [List.length_append] at q; omega
theorem DigR.start {n : Int} (z : n ≠ 0) : DigR n n [] := ⟨Nat.le_refl _, by rw [if_neg z]; simp⟩
theorem DigR.end_ {n : Int} {l : List UInt8} (d : DigR n 0 l) : l = digs n.natAbs := by rw [d.2, if_pos rfl]; rfl
theorem q10 (m : Int) : absV (qmod m 10) = ((m.natAbs % 10 : Nat) : Int) := by
 have e : (qmod m 10).natAbs = m.natAbs % 10 := by unfold qmod; rw [Int.natAbs_tmod]; rfl
 unfold absV
 split
 ·rw [wrapR (by unfold R64; omega)]; omega
 ·omega
theorem d10 (m : Int) : (qdiv m 10).natAbs = m.natAbs / 10 := by
 unfold qdiv; rw [Int.natAbs_tdiv]; rfl
theorem DigR.step {n m : Int} {l : List UInt8} (z : m ≠ 0) (d : DigR n m l) : DigR n (qdiv m 10) (UInt8.ofNat (48 + m.natAbs % 10) :: l) := by
 have e := d10 m
 refine ⟨by have := d.1; omega, ?_⟩
 rw [d.2, if_neg z]
 by_cases q : m.natAbs < 10
 ·have : qdiv m 10 = 0 := by omega
  rw [if_pos this, digs_lt q, Nat.mod_eq_of_lt q]; rfl
 ·have : qdiv m 10 ≠ 0 := by omega
  rw [if_neg this, e, digs_ge q]; simp
theorem c32 {d lim : Nat} {h : Heap} {n : Int} (hn : R64 n) : E.call (d + 2) lim 32 [i64 n] h = some (tx (dec n), h) := by
 refine call1 fn32 rfl (by simp [ef32]) ?_
 by_cases z : n = 0
 ·subst z
  simp [ef32, dec, digs_lt]
 ·simp [ef32, z]
  refine wpC_loop (fun y st => ∃ (m : Int) (l : List UInt8), y = m.natAbs ∧ DigR n m l ∧ st = ⟨[(0, i64 n), (3, tx l), (4, i64 m)], h.freeze⟩) n.natAbs (by unfold R64 at hn; show _ < 2 ^ 64; omega) ?_ ?_
  ·simp [St.tidy]
   exact ⟨_, rfl, _, DigR.start z, rfl, rfl⟩
  ·rintro y hy _ ⟨m, l, rfl, hd, rfl⟩
   have hl := hd.len hn
   have s1 : ∀ c, E.bin .add (.string ⟨[c].toArray⟩) (tx l) = some (tx (c :: l)) := fun c => bin_sadd (by simp; omega)
   by_cases m0 : m = 0
   ·subst m0
    obtain rfl := hd.end_
    by_cases n0 : n < 0
    ·simp [s1, n0, dec]
    ·have n1 : 0 ≤ n := by omega
     simp [s1, n0, n1, dec]
   ·have st := hd.step m0
    obtain ⟨k, hk, ek⟩ : ∃ k : Nat, k < 10 ∧ m.natAbs % 10 = k := ⟨_, Nat.mod_lt _ (by decide), rfl⟩
    have q1 := q10 m
    rw [ek] at st q1
    have w1 : IntKind.u8.wrap (IntKind.i64.wrap (48 + (k : Int))) = 48 + (k : Int) := by
     rw [wrapR (by unfold R64; omega)]
     unfold IntKind.wrap
     simp [IntKind.signed, IntKind.bits]
     omega
    have w3 : (48 + (k : Int)).toNat = 48 + k := by omega
    have w2 : IntKind.i64.wrap (qdiv m 10) = qdiv m 10 := by
     have := d10 m
     have := hd.1
     rw [wrapR]
     unfold R64 at hn ⊢; omega
    have e := d10 m
    simp [m0, c51, q1, w1, w2, w3, s1, St.tidy]
    rw [UInt8.ofNat_add] at st
    exact ⟨(qdiv m 10).natAbs, by omega, qdiv m 10, rfl, _, st, rfl, rfl⟩
end M
end Go.Abs
