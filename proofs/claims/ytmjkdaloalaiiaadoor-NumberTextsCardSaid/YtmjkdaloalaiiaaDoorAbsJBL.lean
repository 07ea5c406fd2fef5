--
import Derived.Test.YtmjkdaloalaiiaaDoorAbsJA
set_option linter.unusedSimpArgs false
set_option linter.unusedVariables false
namespace Go.Abs
namespace J
set_option maxRecDepth 100000
set_option maxHeartbeats 0
theorem c41n {d lim : Nat} {h : Heap} {l : List UInt8} {c : UInt8} (n : c ∉ l) : E.call (d + 2) lim 41 [tx l, tx [c]] h = some (.tuple #[tx l, tx [], .bool false], h) := by
 refine call1 fn41 rfl (by simp [ef41]) ?_
 simp [ef41, c52, idx_no n]
theorem c41y {d lim : Nat} {h : Heap} {a b : List UInt8} {c : UInt8} (n : c ∉ a) (hl : a.length + b.length < 1000000) : E.call (d + 2) lim 41 [tx (a ++ c :: b), tx [c]] h = some (.tuple #[tx a, tx b, .bool true], h) := by
 refine call1 fn41 rfl (by simp [ef41]) ?_
 have w : IntKind.wrap .i64 ((a.length : Int) + 1) = ((a.length + 1 : Nat) : Int) := by rw [wrapR (by unfold R64; omega)]; rfl
 have t : List.drop (a.length + 1) (List.take (a.length + (b.length + 1)) (a ++ c :: b)) = b := by
  rw [List.take_of_length_le (by simp), ← List.drop_drop, List.drop_left]; rfl
 simp [ef41, c52, idx_at n, w, t]
 omega
theorem c15n {d lim : Nat} {h : Heap} {l : List UInt8} {c : UInt8} (n : c ∉ l) : E.call (d + 3) lim 15 [tx l, tx [c]] h = some (.tuple #[tx l, tx [], .bool false], h) := by
 refine call1 fn15 rfl (by simp [ef15]) ?_
 simp [ef15, c41n n]
theorem c15y {d lim : Nat} {h : Heap} {a b : List UInt8} {c : UInt8} (n : c ∉ a) (hl : a.length + b.length < 1000000) : E.call (d + 3) lim 15 [tx (a ++ c :: b), tx [c]] h = some (.tuple #[tx a, tx b, .bool true], h) := by
 refine call1 fn15 rfl (by simp [ef15]) ?_
 simp [ef15, c41y n hl]
def Er (h : Heap) : Prop := isErr h 1 = true ∧ isErr h 2 = true
theorem Er.freeze {h : Heap} (e : Er h) : Er h.freeze := by unfold Er; rw [isErr_freeze, isErr_freeze]; exact e
theorem isErr_app {h L : Heap} {i : Nat} (e : isErr h i = true) : isErr (h ++ L) i = true := by
 unfold isErr at e ⊢
 by_cases q : i < h.length
 ·rw [Heap.get_append_lt q]; exact e
 ·exfalso
  have : h.get i = none := Heap.get_ge (by omega)
  rw [this] at e; cases e
theorem Er.app {h L : Heap} (e : Er h) : Er (h ++ L) := ⟨isErr_app e.1, isErr_app e.2⟩
theorem c42 {d lim : Nat} {h : Heap} {l : List UInt8} (e : Er h) (hl : l.length < 1000000) : E.call (d + 1) lim 42 [tx l] h = match Lib.atoiAll l with
  | .ok v => some (.tuple #[i64 v, .nilIface], h)
  | .range => some (.tuple #[i64 (Lib.atoiSat l), .iface 111 (.pointer (some ⟨h.length, 0, none⟩))], h ++ [none])
  | _ => some (.tuple #[i64 0, .iface 111 (.pointer (some ⟨h.length, 0, none⟩))], h ++ [none]) := by
 show natAtoi 111 1 2 [tx l] h = _
 unfold natAtoi
 have hs : (ByteArray.mk l.toArray).size ≤ 281474976710656 := by rw [tx_size]; omega
 simp only [e.1, e.2, if_true]
 rw [if_pos hs]
 rcases Lib.atoiAll l with _ | _ | _ <;> rfl
theorem R64_ok {l : List UInt8} {n : Int} (h : Lib.atoiAll l = .ok n) : R64 n := by
 rcases l with _ | ⟨c, r⟩
 ·cases h
 ·unfold R64
  dsimp only [Lib.atoiAll] at h
  split at h
  ·cases h
  ·cases h
  ·split at h
   ·cases h
   ·split at h
    ·cases h
    ·injection h with h
     subst h
     split <;> omega
theorem c16 {d lim : Nat} {h : Heap} {l : List UInt8} (e : Er h) (hl : l.length < 1000000) : E.call (d + 4) lim 16 [tx l] h = some (.tuple #[i64 (whl 10 l).1, .bool (whl 10 l).2], h) := by
 refine call1 fn16 rfl (by simp [ef16]) ?_
 have q := c42 (d := d + 2) (lim := h.length) e.freeze hl
 unfold whl
 rcases ha : Lib.atoiAll l with v | _ | _
 ·rw [ha] at q
  simp only at q
  have r := R64_ok ha
  have t := trim_unsg l
  simp at t
  by_cases z : dec v = l
  ·simp [ef16, q, c20 r, z, c43, t]
   omega
  ·simp [ef16, q, c20 r, z]
 ·rw [ha] at q
  simp only at q
  simp [ef16, q]
 ·rw [ha] at q
  simp only at q
  simp [ef16, q]
end J
end Go.Abs
