/- Enclose: the program's. -/
import Derived.Test.YtjalhpdmdiimoaaDoorAbsNB17
import Derived.Test.YtjalhpdmdiimoaaDoorAbsNI
set_option linter.unusedSimpArgs false
set_option linter.unusedVariables false
namespace Go.Abs
namespace N
set_option maxRecDepth 100000
set_option maxHeartbeats 0
/-- That a number is at most the multiple. -/
def encP (a b c e : Int) (t n : Nat) : Prop := n ^ e.toNat * numV (-a) (-b) (-c) 3 ≤ t ^ e.toNat * numV a b c 3
def encQ (a b c e : Int) (t n : Nat) : Prop := n ^ e.toNat * numV (-a) (-b) (-c) 3 = t ^ e.toNat * numV a b c 3
/-- The greatest whole number that is at most the multiple, and the least one that is at least the multiple. -/
structure EncS (a b c e : Int) (t L H : Nat) : Prop where
  le : L ≤ 1000000000000001
  iff : ∀ n, n ≤ 1000000000000001 → (encP a b c e t n ↔ n ≤ L)
  on : encQ a b c e t L → H = L
  off : ¬ encQ a b c e t L → H = L + 1
theorem numV_pos (a b c : Int) : 0 < numV a b c 3 := by
  rw [numV_eq]; exact Nat.mul_pos (Nat.mul_pos (Nat.pow_pos (by decide)) (Nat.pow_pos (by decide))) (Nat.pow_pos (by decide))
theorem numV_scale (g : Nat) (a b c : Int) : numV (a * g) (b * g) (c * g) 3 = (numV a b c 3) ^ g := by
  have s : ∀ x : Int, (x * (g : Int)).toNat = x.toNat * g := fun x => by
    rcases Int.le_total 0 x with z | z
    · obtain ⟨k, rfl⟩ : ∃ k : Nat, x = k := ⟨x.toNat, by omega⟩
      rw [← Int.natCast_mul, Int.toNat_natCast, Int.toNat_natCast]
    · have h1 : x * (g : Int) ≤ 0 := Int.mul_nonpos_of_nonpos_of_nonneg z (by omega)
      have h2 : x.toNat = 0 := by omega
      rw [h2, Nat.zero_mul]; omega
  rw [numV_eq, numV_eq, s, s, s, Nat.mul_pow, Nat.mul_pow, Nat.pow_mul, Nat.pow_mul, Nat.pow_mul]
theorem toNat_mul {e : Int} (g : Nat) (he : 0 ≤ e) : (e * (g : Int)).toNat = e.toNat * g := by
  obtain ⟨k, rfl⟩ : ∃ k : Nat, e = k := ⟨e.toNat, by omega⟩
  rw [← Int.natCast_mul, Int.toNat_natCast, Int.toNat_natCast]
theorem enc_scale {g : Nat} (hg : 0 < g) {a b c e : Int} (he : 0 ≤ e) (t n : Nat) : (encP (a * g) (b * g) (c * g) (e * g) t n ↔ encP a b c e t n) ∧ (encQ (a * g) (b * g) (c * g) (e * g) t n ↔ encQ a b c e t n) := by
  have e0 : n ^ (e.toNat * g) * (numV (-a) (-b) (-c) 3) ^ g = (n ^ e.toNat * numV (-a) (-b) (-c) 3) ^ g := by rw [Nat.mul_pow, Nat.pow_mul]
  have e1 : t ^ (e.toNat * g) * (numV a b c 3) ^ g = (t ^ e.toNat * numV a b c 3) ^ g := by rw [Nat.mul_pow, Nat.pow_mul]
  unfold encP encQ
  rw [← Int.neg_mul, ← Int.neg_mul, ← Int.neg_mul, numV_scale, numV_scale, toNat_mul g he, e0, e1, Nat.pow_le_pow_iff_left (by omega)]
  exact ⟨Iff.rfl, ⟨fun h => Nat.le_antisymm ((Nat.pow_le_pow_iff_left (by omega)).1 (Nat.le_of_eq h)) ((Nat.pow_le_pow_iff_left (by omega)).1 (Nat.le_of_eq h.symm)), fun h => by rw [h]⟩⟩
theorem enc_red {a b c e : Int} (h : isPitch a b c e = true) (t n : Nat) : (encP (red a b c e a) (red a b c e b) (red a b c e c) (red a b c e e) t n ↔ encP a b c e t n) ∧ (encQ (red a b c e a) (red a b c e b) (red a b c e c) (red a b c e e) t n ↔ encQ a b c e t n) := by
  obtain ⟨r1, r2, r3, r4⟩ := isPitch_R h
  have d := rG_dvd a b c e
  have e0 : 0 < e := by omega
  have hp := red_pos (R4_Rb r1) (R4_Rb r2) (R4_Rb r3) (Dn_Rb r4) e0
  obtain ⟨_, m1, _⟩ := red_eq (R4_Rb r1) (R4_Rb r2) (R4_Rb r3) (Dn_Rb r4) e0 (R4_Rb r1) d.1
  obtain ⟨_, m2, _⟩ := red_eq (R4_Rb r1) (R4_Rb r2) (R4_Rb r3) (Dn_Rb r4) e0 (R4_Rb r2) d.2.1
  obtain ⟨_, m3, _⟩ := red_eq (R4_Rb r1) (R4_Rb r2) (R4_Rb r3) (Dn_Rb r4) e0 (R4_Rb r3) d.2.2.1
  obtain ⟨_, m4, _⟩ := red_eq (R4_Rb r1) (R4_Rb r2) (R4_Rb r3) (Dn_Rb r4) e0 (Dn_Rb r4) d.2.2.2
  have s := enc_scale (a := red a b c e a) (b := red a b c e b) (c := red a b c e c) (e := red a b c e e) (rG_pos (a := a) (b := b) (c := c) e0) (by omega) t n
  rw [m1, m2, m3, m4] at s
  exact ⟨s.1.symm, s.2.symm⟩
theorem encP_mono {a b c e : Int} {t n m : Nat} (h : n ≤ m) (k : encP a b c e t m) : encP a b c e t n :=
  Nat.le_trans (Nat.mul_le_mul_right _ (Nat.pow_le_pow_left h _)) k
theorem exL {P : Nat → Prop} (mono : ∀ n m, n ≤ m → P m → P n) (h0 : P 0) : ∀ M : Nat, ∃ L, L ≤ M ∧ ∀ n, n ≤ M → (P n ↔ n ≤ L)
  | 0 => ⟨0, by omega, fun n hn => by
      have : n = 0 := by omega
      subst this
      exact ⟨fun _ => by omega, fun _ => h0⟩⟩
  | M + 1 => by
    obtain ⟨L, l1, l2⟩ := exL mono h0 M
    by_cases q : P (M + 1)
    · exact ⟨M + 1, by omega, fun n hn => ⟨fun _ => hn, fun _ => mono _ _ hn q⟩⟩
    · refine ⟨L, by omega, fun n hn => ?_⟩
      by_cases e : n = M + 1
      · subst e; exact ⟨fun h => absurd h q, fun h => by omega⟩
      · exact l2 n (by omega)
theorem encS (a b c e : Int) (he : 1 ≤ e) (t : Nat) : ∃ L H, EncS a b c e t L H := by
  obtain ⟨L, l1, l2⟩ := exL (P := encP a b c e t) (fun n m h k => encP_mono h k) (by unfold encP; rw [Nat.zero_pow (by omega), Nat.zero_mul]; omega) 1000000000000001
  by_cases q : encQ a b c e t L
  · exact ⟨L, L, l1, l2, fun _ => rfl, fun h => absurd q h⟩
  · exact ⟨L, L + 1, l1, l2, fun h => absurd h q, fun _ => rfl⟩
theorem c81n {l : List Nat} {b n c : Nat} (hl : Num l c) (h0 : 0 < b) (hb : b < 18446744073709551616) (hn : 0 < n) (hs : l.length + n < 100000) :
    ∃ P, Num P (c * b ^ n) ∧ P.length ≤ l.length + n ∧ ∀ (d lim : Nat) (h : Heap) (v : Value), SlU h v l →
      E.call (d + 3) lim 81 [.int .u64 (b : Int), i64 n, v] h = some (.slice (some ⟨h.length, 0, none⟩) P.length 1, h ++ [some ⟨cU P, true⟩]) := by
  obtain ⟨g1, g2⟩ := powF_num h0 hb n n (Nat.le_refl _) hl
  exact ⟨_, g1, g2, fun d lim h v s => c81 s hl.dig h0 hb hn hs⟩
theorem mul_comm' (a b : Nat) : a * b = b * a := Nat.mul_comm a b
/-- The comparison with a multiple. -/
theorem c82 {d lim : Nat} {h : Heap} {A : Option Blk} {L : List (Option Blk)} {x y z w : Int} {NL DL : List Nat} {N D n : Nat} (hN : Num NL N) (hD : Num DL D) (lN : NL.length < 90000) (lD : DL.length < 90000) (hn : 0 < n) (hn2 : n < 18446744073709551616) (hw : 1 ≤ w ∧ w ≤ 12) :
    E.call (d + 4) lim 82 [i64 n, .pointer (some ⟨h.length + 1, 0, none⟩), .pointer (some ⟨h.length + 2, 0, none⟩)]
      (h ++ A :: some ⟨[i64 x, i64 y, i64 z, i64 w], true⟩ :: some ⟨[.slice (some ⟨h.length + 3, 0, none⟩) NL.length 1, .slice (some ⟨h.length + 4, 0, none⟩) DL.length 1], true⟩ :: some ⟨cU NL, true⟩ :: some ⟨cU DL, true⟩ :: L) =
    some (i64 (cmpN (n ^ w.toNat * D) N), h ++ A :: some ⟨[i64 x, i64 y, i64 z, i64 w], true⟩ :: some ⟨[.slice (some ⟨h.length + 3, 0, none⟩) NL.length 1, .slice (some ⟨h.length + 4, 0, none⟩) DL.length 1], true⟩ :: some ⟨cU NL, true⟩ :: some ⟨cU DL, true⟩ :: L) := by
  obtain ⟨P, p1, p2, p3⟩ := c81n (n := w.toNat) hD hn hn2 (by omega) (by omega)
  have hw' : ((w.toNat : Nat) : Int) = w := by omega
  rw [hw'] at p3
  have hc : cmpL P NL = cmpN (n ^ w.toNat * D) N := by
    rw [cmpL_val (B := 18446744073709551616) (by decide) p1.dig hN.dig p1.top hN.top, p1.val, hN.val, Nat.mul_comm D]
  generalize hH : (h ++ A :: some ⟨[i64 x, i64 y, i64 z, i64 w], true⟩ :: some ⟨[.slice (some ⟨h.length + 3, 0, none⟩) NL.length 1, .slice (some ⟨h.length + 4, 0, none⟩) DL.length 1], true⟩ :: some ⟨cU NL, true⟩ :: some ⟨cU DL, true⟩ :: L : Heap) = H
  have g1 : H.get (h.length + 1) = some ⟨[i64 x, i64 y, i64 z, i64 w], true⟩ := by rw [← hH, hget_base rfl]; rfl
  have g2 : H.get (h.length + 2) = some ⟨[.slice (some ⟨h.length + 3, 0, none⟩) NL.length 1, .slice (some ⟨h.length + 4, 0, none⟩) DL.length 1], true⟩ := by rw [← hH, hget_base rfl]; rfl
  have g3 : H.get (h.length + 3) = some ⟨cU NL, true⟩ := by rw [← hH, hget_base rfl]; rfl
  have g4 : H.get (h.length + 4) = some ⟨cU DL, true⟩ := by rw [← hH, hget_base rfl]; rfl
  have s1 : SlU H.freeze (.slice (some ⟨h.length + 4, 0, none⟩) DL.length 1) DL := Sl_freeze.2 (SlU_own (rw := true) (Heap.get_lt g4) g4)
  have s1' : SlU H.freeze.freeze (.slice (some ⟨h.length + 4, 0, none⟩) DL.length 1) DL := Sl_freeze.2 s1
  have s2 : SlU (H.freeze ++ [some ⟨cU P, true⟩]) (.slice (some ⟨h.length + 3, 0, none⟩) NL.length 1) NL := (Sl_freeze.2 (SlU_own (rw := true) (Heap.get_lt g3) g3)).app _
  have s3 : SlU (H.freeze ++ [some ⟨cU P, true⟩]) (.slice (some ⟨H.length, 0, none⟩) P.length 1) P := SlU_own (rw := true) (by simp) (by rw [hget_base0 (by simp)]; rfl)
  have q81 := fun lim => p3 d lim _ _ s1'
  have q83 := fun lim => c83 (d := d + 2) (lim := lim) s3 s2 (by omega) (by omega)
  rw [hc] at q83
  have k1 := cell_get (o := 3) g1
  have k2 := cell_get (o := 0) g2
  have k3 := cell_get (o := 1) g2
  have l1 := Heap.get_lt g1
  have l2 := Heap.get_lt g2
  refine call1 fn82 rfl (by simp [ef82]) ?_
  simp only [Heap.length_freeze] at q81
  simp [ef82, k1, k2, k3, l1, l2, wrapUn hn2, q81, q83]
end N
end Go.Abs
