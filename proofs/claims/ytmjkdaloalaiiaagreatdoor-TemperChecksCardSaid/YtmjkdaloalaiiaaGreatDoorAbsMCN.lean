--
import Derived.Test.YtmjkdaloalaiiaaGreatDoorAbsMCM
set_option linter.unusedSimpArgs false
set_option linter.unusedVariables false
namespace Go.Abs
namespace M
set_option maxRecDepth 100000
set_option maxHeartbeats 0
theorem c35 {d lim : Nat} {h : Heap} {C : List Value} {nm : ByteArray} {P S : Nat → Int} {v : Value} {l : List Bool} (t : Tm C nm P S) (hs : nm.size ≤ 1000) (s : SlBo h v l) (hl : l.length < 100000) (h0 : chkT nm P S = 0) (ha : l.all id = true) :
  E.call (d + 5) lim 35 [.agg C.toArray, v] h = some (.tuple #[.pointer (some ⟨h.length, 0, none⟩), i64 0], h ++ [some ⟨circK P S, true⟩]) := by
 have k51 := fun lim hh => c11 (d := d) (lim := lim) (h := hh) t hs
 have k112 := fun lim hh => c30 (d := d + 2) (lim := lim) (h := hh) t
 have k138 := fun lim L => c55 (d := d + 2) (lim := lim) ((Sl_freeze.2 s).app (l := L)) hl
 have kp := Cir.plain (K := circK P S) (P := P) (S := S) rfl
 refine call_pure fn35 rfl (by simp [ef35]) ?_
 simp [ef35, t.len, t.take, k51, h0, k138, ha, k112, kp]
theorem c35b {d lim : Nat} {h : Heap} {C : List Value} {nm : ByteArray} {P S : Nat → Int} {v : Value} (t : Tm C nm P S) (hs : nm.size ≤ 1000) (h0 : chkT nm P S ≠ 0) :
  E.call (d + 5) lim 35 [.agg C.toArray, v] h = some (.tuple #[.pointer none, i64 (chkT nm P S)], h) := by
 have k51 := fun lim hh => c11 (d := d) (lim := lim) (h := hh) t hs
 refine call1 fn35 rfl (by simp [ef35]) ?_
 simp [ef35, t.len, t.take, k51, h0]
theorem c35c {d lim : Nat} {h : Heap} {C : List Value} {nm : ByteArray} {P S : Nat → Int} {v : Value} {l : List Bool} (t : Tm C nm P S) (hs : nm.size ≤ 1000) (s : SlBo h v l) (hl : l.length < 100000) (h0 : chkT nm P S = 0) (ha : l.all id = false) :
  E.call (d + 5) lim 35 [.agg C.toArray, v] h = some (.tuple #[.pointer none, i64 2], h) := by
 have k51 := fun lim hh => c11 (d := d) (lim := lim) (h := hh) t hs
 have k138 := fun lim L => c55 (d := d + 2) (lim := lim) ((Sl_freeze.2 s).app (l := L)) hl
 refine call1 fn35 rfl (by simp [ef35]) ?_
 simp [ef35, t.len, t.take, k51, h0, k138, ha]
def noteX (P S : Nat → Int) (n : Nat) : X3 := plusX (clsX P S ((n + 9) % 12)) (((n + 9) / 12 : Nat) : Int) octX
def intX (P S : Nat → Int) (lo hi : Nat) : X3 := plusX (noteX P S hi) (-1) (noteX P S lo)
theorem w9 {n : Nat} (h : n < 1000000) : W ((n : Int) + 9) = ((n + 9 : Nat) : Int) := by unfold W; rw [wrap_eq (by omega) (by omega)]; rfl
theorem c91 {d lim : Nat} {h : Heap} {n : Nat} (hn : n < 1000) : E.call (d + 1) lim 91 [i64 n] h = some (.tuple #[i64 (((n + 9) % 12 : Nat) : Int), i64 (((n + 9) / 12 : Nat) : Int)], h) := by
 have e := w9 (n := n) (by omega)
 have w := wN (n := (n + 9) / 12) (by omega)
 have q1 := qm12 (n := n + 9)
 have q2 := qd12 (n := n + 9)
 simp only [W] at e w
 refine call1 fn91 rfl (by simp [ef91]) ?_
 generalize n + 9 = m at *
 generalize m % 12 = a at *
 generalize m / 12 = b at *
 simp [ef91, e, q1, q2, w]
theorem c71 {d lim : Nat} {h : Heap} {P S : Nat → Int} {b n : Nat} {rw : Bool} (hb : h.get b = some ⟨circK P S, rw⟩) (hn : n < 1000) : E.call (d + 2) lim 71 [.pointer (some ⟨b, 0, none⟩), i64 n] h = some (v3 (noteX P S n), h) := by
 have hlt := Heap.get_lt hb
 have cl := circK_len P S
 have k155 := fun lim hh => @c91 d lim hh n hn
 have l1 : (((n + 9) % 12 : Nat) : Int) < 12 := by omega
 have l0 : (0 : Int) ≤ (((n + 9) % 12 : Nat) : Int) := by omega
 have hp : h.part b (36 + (n + 9) % 12 * 3) 3 = some (v3 (clsX P S ((n + 9) % 12))) := by
  rw [part_get hb, if_pos (by simp only [cl]; omega)]
  have := over_get P S (k := (n + 9) % 12) (by omega)
  rw [List.drop_take, List.take_take, List.drop_drop, Nat.min_eq_left (by omega)] at this
  simp only [this]
 have hx : plusX (clsX P S ((n + 9) % 12)) (((n + 9) / 12 : Nat) : Int) octX = noteX P S n := rfl
 refine call1 fn71 rfl (by simp [ef71]) ?_
 generalize (n + 9) % 12 = a at *
 generalize (n + 9) / 12 = o at *
 simp [ef71, k155, l1, l0, hp, hlt, c50, c49, hx]
theorem c53 {d lim : Nat} {h : Heap} {P S : Nat → Int} {b lo hi : Nat} {rw : Bool} (hb : h.get b = some ⟨circK P S, rw⟩) (hl : lo < 1000) (hh : hi < 1000) : E.call (d + 3) lim 53 [.pointer (some ⟨b, 0, none⟩), i64 lo, i64 hi] h = some (v3 (intX P S lo hi), h) := by
 have hb2 : ∀ L, Heap.get (h.freeze ++ L) b = some ⟨circK P S, false⟩ := fun L => hget_append (hget_freeze hb)
 have k1 := fun lim L => c71 (d := d) (lim := lim) (hb2 L) hl
 have k2 := fun lim L => c71 (d := d) (lim := lim) (hb2 L) hh
 have hx : plusX (noteX P S hi) (-1) (noteX P S lo) = intX P S lo hi := rfl
 refine call1 fn53 rfl (by simp [ef53]) ?_
 simp [ef53, k1, k2, c49, hx]
end M
end Go.Abs
namespace Go.Abs
namespace M
set_option maxRecDepth 100000
set_option maxHeartbeats 0
theorem Weq {n : Int} (h : -1000000000000 ≤ n ∧ n ≤ 1000000000000) : W n = n := by unfold W; rw [wrap_eq (by omega) (by omega)]
structure Okt (P S : Nat → Int) : Prop where
 p : ∀ i, i < 12 → -48 ≤ P i ∧ P i ≤ 48
 s : ∀ i, i < 12 → -48 ≤ S i ∧ S i ≤ 48
 sp : sumW (l12 P) = 12
 ss : sumW (l12 S) = 0
 spr : mostN P S 3 ≤ 300
theorem okt {nm : ByteArray} {P S : Nat → Int} (h : chkT nm P S = 0) : Okt P S ∧ nameB nm = true := by
 unfold chkT at h
 split at h
 ·omega
 ·rename_i hn
  split at h
  ·omega
  ·rename_i ha
   split at h
   ·omega
   ·rename_i hs
    split at h
    ·omega
    ·rename_i hm
     have ha1 : (l12 P).any oddB = false := by
      cases q : (l12 P).any oddB
      ·rfl
      ·exact absurd (.inl q) ha
     have ha2 : (l12 S).any oddB = false := by
      cases q : (l12 S).any oddB
      ·rfl
      ·exact absurd (.inr q) ha
     have key : ∀ {Q : Nat → Int}, (l12 Q).any oddB = false → ∀ i, i < 12 → -48 ≤ Q i ∧ Q i ≤ 48 := fun {Q} hq i hi => by
      have : oddB (Q i) = false := by
       rw [Bool.eq_false_iff]; intro z
       have := l12_any.2 ⟨i, hi, z⟩
       rw [hq] at this; cases this
      unfold oddB at this; simp at this; omega
     exact ⟨⟨key ha1, key ha2, by omega, by omega, by omega⟩, by simpa using hn⟩
def B3 (x : X3) (M : Int) : Prop := (-M ≤ x.1 ∧ x.1 ≤ M) ∧ (-M ≤ x.2.1 ∧ x.2.1 ≤ M) ∧ (-M ≤ x.2.2 ∧ x.2.2 ≤ M)
def addZ (a : X3) (n : Int) (b : X3) : X3 := (a.1 + n * b.1, a.2.1 + n * b.2.1, a.2.2 + n * b.2.2)
theorem mulb {n b M N : Int} (hn : -N ≤ n ∧ n ≤ N) (hb : -M ≤ b ∧ b ≤ M) : -(N * M) ≤ n * b ∧ n * b ≤ N * M := by
 have h1 : n.natAbs ≤ N.natAbs := by omega
 have h2 : b.natAbs ≤ M.natAbs := by omega
 have h3 := Nat.mul_le_mul h1 h2
 rw [← Int.natAbs_mul, ← Int.natAbs_mul] at h3
 have hN : 0 ≤ N := by omega
 have hM : 0 ≤ M := by omega
 have := Int.mul_nonneg hN hM
 omega
theorem plusX_eq {a b : X3} {n M N K : Int} (ha : B3 a M) (hb : B3 b K) (hn : -N ≤ n ∧ n ≤ N) (h : M + N * K ≤ 1000000000000) (hM : 0 ≤ M) : plusX a n b = addZ a n b ∧ B3 (addZ a n b) (M + N * K) := by
 obtain ⟨a1, a2, a3⟩ := ha
 obtain ⟨b1, b2, b3⟩ := hb
 have m1 := mulb hn b1
 have m2 := mulb hn b2
 have m3 := mulb hn b3
 constructor
 ·unfold plusX addZ
  rw [Weq (n := n * b.1) (by omega), Weq (n := n * b.2.1) (by omega), Weq (n := n * b.2.2) (by omega), Weq (by omega), Weq (by omega), Weq (by omega)]
 ·unfold addZ; exact ⟨⟨by simp only; omega, by simp only; omega⟩, ⟨by simp only; omega, by simp only; omega⟩, ⟨by simp only; omega, by simp only; omega⟩⟩
def fifZ (p s : Int) : X3 := (-12 + 19 * p + 4 * s, 12 - 12 * p - 4 * s, s)
theorem fifX_eq {p s : Int} (hp : -48 ≤ p ∧ p ≤ 48) (hs : -48 ≤ s ∧ s ≤ 48) : fifX p s = fifZ p s ∧ B3 (fifZ p s) 1116 := by
 constructor
 ·unfold fifX fifZ
  rw [Weq (n := 19 * p) (by omega), Weq (n := 4 * s) (by omega), Weq (n := -12 + 19 * p) (by omega), Weq (by omega), Weq (n := 12 * p) (by omega), Weq (n := 12 - 12 * p) (by omega), Weq (by omega)]
 ·unfold fifZ; exact ⟨⟨by simp only; omega, by simp only; omega⟩, ⟨by simp only; omega, by simp only; omega⟩, ⟨by simp only; omega, by simp only; omega⟩⟩
def accZ (P S : Nat → Int) : Nat → X3
 | 0 => (0, 0, 0)
 | i + 1 => addZ (accZ P S i) 1 (fifZ (P i) (S i))
theorem accX_eq {P S : Nat → Int} (o : Okt P S) : ∀ i, i ≤ 12 → accX P S i = accZ P S i ∧ B3 (accZ P S i) (1116 * i)
 | 0, _ => ⟨rfl, by unfold accZ B3; simp⟩
 | i + 1, h => by
  obtain ⟨h1, h2⟩ := accX_eq o i (by omega)
  obtain ⟨f1, f2⟩ := fifX_eq (o.p i (by omega)) (o.s i (by omega))
  obtain ⟨g1, g2⟩ := plusX_eq (n := 1) (N := 1) h2 f2 (by omega) (by omega) (by omega)
  have e : accX P S (i + 1) = plusX (accX P S i) 1 (fifX (P i) (S i)) := rfl
  have e2 : accZ P S (i + 1) = addZ (accZ P S i) 1 (fifZ (P i) (S i)) := rfl
  rw [e, h1, f1, g1, e2]
  refine ⟨rfl, ?_⟩
  have : (1116 * ((i : Nat) : Int) + 1 * 1116) = 1116 * ((i + 1 : Nat) : Int) := by omega
  rw [this] at g2; exact g2
theorem B3.mono {x : X3} {M N : Int} (h : B3 x M) (k : M ≤ N) : B3 x N := by
 obtain ⟨⟨a, b⟩, ⟨c, d⟩, e, f⟩ := h
 exact ⟨⟨by omega, by omega⟩, ⟨by omega, by omega⟩, by omega, by omega⟩
def reaZ (P S : Nat → Int) (i : Nat) : X3 := addZ (accZ P S i) (-((7 * i / 12 : Nat) : Int)) octX
def clsZ (P S : Nat → Int) (k : Nat) : X3 := reaZ P S (7 * k % 12)
theorem B3_oct : B3 octX 12 := by simp [B3, octX]
theorem clsX_eq {P S : Nat → Int} (o : Okt P S) (k : Nat) : clsX P S k = clsZ P S k ∧ B3 (clsZ P S k) 20000 := by
 unfold clsX clsZ reaX reaZ
 have hm : 7 * k % 12 < 12 := by omega
 generalize 7 * k % 12 = i at *
 obtain ⟨h1, h2⟩ := accX_eq o i (by omega)
 obtain ⟨g1, g2⟩ := plusX_eq (n := -((7 * i / 12 : Nat) : Int)) (N := 7) h2 B3_oct (by omega) (by omega) (by omega)
 rw [h1, g1]
 exact ⟨rfl, g2.mono (by omega)⟩
theorem loN_le (f : Nat → Int) : ∀ (n c : Nat), c < n → loN f n ≤ f c
 | 0, _, h => by omega
 | n + 1, c, h => by
  show min (loN f n) (f n) ≤ f c
  by_cases e : c = n
  ·subst e; omega
  ·have := loN_le f n c (by omega); omega
theorem le_hiN (f : Nat → Int) : ∀ (n c : Nat), c < n → f c ≤ hiN f n
 | 0, _, h => by omega
 | n + 1, c, h => by
  show f c ≤ max (hiN f n) (f n)
  by_cases e : c = n
  ·subst e; omega
  ·have := le_hiN f n c (by omega); omega
theorem lohi_b {f : Nat → Int} {M : Int} (h : ∀ c, -M ≤ f c ∧ f c ≤ M) : ∀ n, (-M ≤ loN f n ∧ loN f n ≤ M) ∧ (-M ≤ hiN f n ∧ hiN f n ≤ M)
 | 0 => ⟨h 0, h 0⟩
 | n + 1 => by
  obtain ⟨h1, h2⟩ := lohi_b h n
  have := h n
  show (-M ≤ min (loN f n) (f n) ∧ min (loN f n) (f n) ≤ M) ∧ (-M ≤ max (hiN f n) (f n) ∧ max (hiN f n) (f n) ≤ M)
  omega
theorem c3_b {x : X3} {M : Int} (h : B3 x M) (k : Nat) : -M ≤ c3 x k ∧ c3 x k ≤ M := by
 obtain ⟨h1, h2, h3⟩ := h
 unfold c3; split
 ·exact h1
 ·split
  ·exact h2
  ·exact h3
theorem dif_le {P S : Nat → Int} (o : Okt P S) {k : Nat} (hk : k < 3) : dif P S k ≤ 300 := by
 have := o.spr
 simp only [mostN] at this
 match k, hk with
 | 0, _ => omega
 | 1, _ => omega
 | 2, _ => omega
theorem cls_near {P S : Nat → Int} (o : Okt P S) {a b k : Nat} (ha : a < 12) (hb : b < 12) (hk : k < 3) : c3 (clsZ P S a) k - c3 (clsZ P S b) k ≤ 300 := by
 have hB : ∀ c, -20000 ≤ cof P S k c ∧ cof P S k c ≤ 20000 := fun c => by
  obtain ⟨e, h⟩ := clsX_eq o c
  unfold cof; rw [e]; exact c3_b h k
 have h1 := le_hiN (cof P S k) 12 a ha
 have h2 := loN_le (cof P S k) 12 b hb
 obtain ⟨b1, b2⟩ := lohi_b hB 12
 have h3 := dif_le o hk
 unfold dif at h3
 rw [Weq (by omega)] at h3
 have e1 : cof P S k a = c3 (clsZ P S a) k := by unfold cof; rw [(clsX_eq o a).1]
 have e2 : cof P S k b = c3 (clsZ P S b) k := by unfold cof; rw [(clsX_eq o b).1]
 omega
def noteZ (P S : Nat → Int) (n : Nat) : X3 := addZ (clsZ P S ((n + 9) % 12)) (((n + 9) / 12 : Nat) : Int) octX
def intZ (P S : Nat → Int) (lo hi : Nat) : X3 := addZ (noteZ P S hi) (-1) (noteZ P S lo)
theorem noteX_eq {P S : Nat → Int} (o : Okt P S) {n : Nat} (hn : n ≤ 99) : noteX P S n = noteZ P S n ∧ B3 (noteZ P S n) 20200 := by
 unfold noteX noteZ
 obtain ⟨h1, h2⟩ := clsX_eq o ((n + 9) % 12)
 obtain ⟨g1, g2⟩ := plusX_eq (n := (((n + 9) / 12 : Nat) : Int)) (N := 9) h2 B3_oct (by omega) (by omega) (by omega)
 rw [h1, g1]
 exact ⟨rfl, g2.mono (by omega)⟩
theorem intX_eq {P S : Nat → Int} (o : Okt P S) {lo hi : Nat} (hl : lo ≤ 99) (hh : hi ≤ 99) : intX P S lo hi = intZ P S lo hi := by
 unfold intX intZ
 obtain ⟨h1, h2⟩ := noteX_eq o hl
 obtain ⟨h3, h4⟩ := noteX_eq o hh
 obtain ⟨g1, g2⟩ := plusX_eq (n := -1) (N := 1) h4 h2 (by omega) (by omega) (by omega)
 rw [h1, h3, g1]
theorem int_b {P S : Nat → Int} (o : Okt P S) {lo hi : Nat} (hl : lo ≤ 99) (hh : hi ≤ 99) (hd : ((hi + 9) / 12 : Nat) ≤ ((lo + 9) / 12 : Nat) + 8) (hd2 : ((lo + 9) / 12 : Nat) ≤ ((hi + 9) / 12 : Nat) + 8) :
  (-400 ≤ (intZ P S lo hi).1 ∧ (intZ P S lo hi).1 ≤ 400) ∧ (-300 ≤ (intZ P S lo hi).2.1 ∧ (intZ P S lo hi).2.1 ≤ 300) ∧ (-300 ≤ (intZ P S lo hi).2.2 ∧ (intZ P S lo hi).2.2 ≤ 300) := by
 have a := (lo + 9) % 12
 have n1 : ∀ k, k < 3 → c3 (clsZ P S ((hi + 9) % 12)) k - c3 (clsZ P S ((lo + 9) % 12)) k ≤ 300 := fun k hk => cls_near o (by omega) (by omega) hk
 have n2 : ∀ k, k < 3 → c3 (clsZ P S ((lo + 9) % 12)) k - c3 (clsZ P S ((hi + 9) % 12)) k ≤ 300 := fun k hk => cls_near o (by omega) (by omega) hk
 have p0 := n1 0 (by omega); have p1 := n1 1 (by omega); have p2 := n1 2 (by omega)
 have q0 := n2 0 (by omega); have q1 := n2 1 (by omega); have q2 := n2 2 (by omega)
 simp only [c3] at p0 p1 p2 q0 q1 q2
 simp at p0 p1 p2 q0 q1 q2
 simp only [intZ, noteZ, addZ, octX]
 omega
end M
end Go.Abs
namespace Go.Abs
namespace M
set_option maxRecDepth 100000
set_option maxHeartbeats 0
abbrev pit (x : X3) : Value := redV x.1 x.2.1 x.2.2 12
def R3 (x : X3) : Prop := R64 x.1 ∧ R64 x.2.1 ∧ R64 x.2.2
def isP (x : X3) : Bool := isPitch x.1 x.2.1 x.2.2 12
theorem c54 {d lim : Nat} {h : Heap} {x : X3} (r : isP x = true) : E.call (d + 4) lim 54 [v3 x] h = some (pit x, h) := by
 obtain ⟨a, b, c⟩ := x
 have k := fun lim hh => @c72 d lim hh a b c 12 r
 refine call1 fn54 rfl (by simp [ef54]) ?_
 simp [ef54, k]
theorem int_ok {P S : Nat → Int} (o : Okt P S) {lo hi : Nat} (hl : lo ≤ 87) (hh : hi ≤ 87) : isP (intX P S lo hi) = true ∧ R3 (intX P S lo hi) := by
 rw [intX_eq o (by omega) (by omega)]
 obtain ⟨h1, h2, h3⟩ := int_b o (lo := lo) (hi := hi) (by omega) (by omega) (by omega) (by omega)
 refine ⟨isPitch_mk h1 (by omega) (by omega) ⟨by omega, by omega⟩, ⟨by omega, by omega⟩, ⟨by omega, by omega⟩, ⟨by omega, by omega⟩⟩
theorem c8 {d lim : Nat} {h : Heap} {C : List Value} {nm : ByteArray} {P S : Nat → Int} (t : Tm C nm P S) : E.call (d + 1) lim 8 [.agg C.toArray] h = some (.bool (decide (nm.size ≤ 30)), h) := by
 refine call1 fn8 rfl (by simp [ef8]) ?_
 simp [ef8, t.name', t.len]
 omega
theorem SlBo2 {h : Heap} {b : Nat} {x y : Bool} {rw : Bool} (e : h.get b = some ⟨[.bool x, .bool y], rw⟩) : SlBo h (.slice (some ⟨b, 0, none⟩) 2 1) [x, y] :=
 ⟨rfl, rfl, fun _ => rfl, .inr ⟨b, 0, 2, 1, rfl, Heap.get_lt e⟩, fun k _ => by simp only [slB_some, slO_some, Nat.zero_add]; rw [cell_get e]; rfl⟩
def intV (nm : ByteArray) (P S : Nat → Int) (lo hi : Int) : Value × Int :=
 if chkT nm P S ≠ 0 then (pt 0 0 0 0, chkT nm P S) else if isNote lo = true ∧ isNote hi = true then (pit (intX P S lo.toNat hi.toNat), 0) else (pt 0 0 0 0, 2)
theorem isNote_nat {n : Int} (h : isNote n = true) : ∃ m : Nat, n = m ∧ m ≤ 87 := by
 unfold isNote within at h
 simp at h
 exact ⟨n.toNat, by omega, by omega⟩
theorem c33 {d lim : Nat} {h : Heap} {C : List Value} {nm : ByteArray} {P S : Nat → Int} {lo hi : Int} (t : Tm C nm P S) (hs : nm.size ≤ 1000) :
  E.call (d + 6) lim 33 [.agg C.toArray, i64 lo, i64 hi] h = some (.tuple #[(intV nm P S lo hi).1, i64 (intV nm P S lo hi).2], h) := by
 have gb : Heap.get (h.freeze ++ [some ⟨C, true⟩, some ⟨[i64 0, i64 0, i64 0, i64 0], true⟩, some ⟨[.bool (isNote lo), .bool (isNote hi)], true⟩]) (h.length + 2) = some ⟨[.bool (isNote lo), .bool (isNote hi)], true⟩ := by rw [hget_base (by simp)]; rfl
 have sl := SlBo2 gb
 refine call1 fn33 rfl (by simp [ef33]) ?_
 by_cases h0 : chkT nm P S = 0
 ·obtain ⟨o, _⟩ := okt h0
  by_cases ha : isNote lo = true
  ·by_cases hb : isNote hi = true
   ·obtain ⟨m, rfl, hm⟩ := isNote_nat ha
    obtain ⟨n, rfl, hn⟩ := isNote_nat hb
    have k84 := fun lim => c35 (d := d) (lim := lim) t hs sl (by simp) h0 (by simp [ha, hb])
    obtain ⟨q1, q2⟩ := int_ok o hm hn
    have gk : ∀ L, Heap.get (h.freeze ++ (some ⟨C, true⟩ :: some ⟨[i64 0, i64 0, i64 0, i64 0], true⟩ :: some ⟨[.bool true, .bool true], true⟩ :: some ⟨circK P S, true⟩ :: L)) (h.length + 3) = some ⟨circK P S, true⟩ := fun L => by rw [hget_base (by simp)]; rfl
    have k86 := fun lim L => c53 (d := d + 2) (lim := lim) (gk L) (lo := m) (hi := n) (by omega) (by omega)
    have k87 := fun lim hh => c54 (d := d + 1) (lim := lim) (h := hh) q1
    simp only [ha, hb, List.length_append, Heap.length_freeze, List.length_cons, List.length_nil, List.append_assoc, List.cons_append, List.nil_append] at k84
    simp [ef33, t.len, t.take, c52, ha, hb, k84, k86, k87, intV, h0]
   ·have k84 := fun lim => c35c (d := d) (lim := lim) t hs sl (by simp) h0 (by simp [ha, hb])
    simp only [Bool.not_eq_true] at hb
    simp only [ha, hb] at k84
    simp [ef33, t.len, t.take, c52, ha, hb, k84, intV, h0]
  ·have k84 := fun lim => c35c (d := d) (lim := lim) t hs sl (by simp) h0 (by simp [ha])
   simp only [Bool.not_eq_true] at ha
   simp only [ha] at k84
   simp [ef33, t.len, t.take, c52, ha, k84, intV, h0]
 ·have k84 := fun lim hh v => c35b (d := d) (lim := lim) (h := hh) (v := v) t hs h0
  simp [ef33, t.len, t.take, c52, k84, intV, h0]
theorem c13 {d lim : Nat} {h : Heap} {C : List Value} {nm : ByteArray} {P S : Nat → Int} {n : Int} (t : Tm C nm P S) (hs : nm.size ≤ 1000) :
  E.call (d + 7) lim 13 [.agg C.toArray, i64 n] h = some (.tuple #[(intV nm P S 48 n).1, i64 (intV nm P S 48 n).2], h) := by
 have k := fun lim hh => c33 (d := d) (lim := lim) (h := hh) (lo := 48) (hi := n) t hs
 have hv : ∃ a b c e, (intV nm P S 48 n).1 = pt a b c e := by
  unfold intV; split
  ·exact ⟨_, _, _, _, rfl⟩
  ·split
   ·exact ⟨_, _, _, _, rfl⟩
   ·exact ⟨_, _, _, _, rfl⟩
 obtain ⟨a, b, c, e, hv⟩ := hv
 rw [hv] at k ⊢
 refine call1 fn13 rfl (by simp [ef13]) ?_
 simp [ef13, t.len, t.take, k]
end M
end Go.Abs
