--
import Derived.Test.YtmjkdaloalaiiaaGreatDoorAbsMBL
set_option linter.unusedSimpArgs false
set_option linter.unusedVariables false
namespace Go.Abs
end Go.Abs
namespace Go.Abs
namespace M
set_option maxRecDepth 100000
set_option maxHeartbeats 0
abbrev LowS (h : Heap) (v : Value) : Prop := v = .slice none 0 0 ∨ ∃ b o m t, v = .slice (some ⟨b, o, none⟩) m t ∧ b < h.length
end M
end Go.Abs
namespace Go.Abs
end Go.Abs
namespace Go.Abs
namespace M
set_option maxRecDepth 100000
set_option maxHeartbeats 0
end M
end Go.Abs
namespace Go.Abs
namespace M
set_option maxRecDepth 100000
set_option maxHeartbeats 0
end M
end Go.Abs
namespace Go.Abs
namespace M
theorem cmpN_nonpos {a b : Nat} : cmpN a b ≤ 0 ↔ a ≤ b := by unfold cmpN; split <;> (try split) <;> omega
theorem cmpN_zero {a b : Nat} : cmpN a b = 0 ↔ a = b := by unfold cmpN; split <;> (try split) <;> omega
theorem numV_eq (a b c : Int) : numV a b c 3 = 2 ^ a.toNat * 3 ^ b.toNat * 5 ^ c.toNat := by
 simp [numV, P3, E3]
def rG (a b c e : Int) : Nat := Int.gcd (Int.gcd a b) (Int.gcd c e)
theorem rG_dvd (a b c e : Int) : (rG a b c e : Int) ∣ a ∧ (rG a b c e : Int) ∣ b ∧ (rG a b c e : Int) ∣ c ∧ (rG a b c e : Int) ∣ e := by
 have h1 : (rG a b c e : Int) ∣ (Int.gcd a b : Int) := Int.gcd_dvd_left ..
 have h2 : (rG a b c e : Int) ∣ (Int.gcd c e : Int) := Int.gcd_dvd_right ..
 exact ⟨Int.dvd_trans h1 (Int.gcd_dvd_left ..), Int.dvd_trans h1 (Int.gcd_dvd_right ..), Int.dvd_trans h2 (Int.gcd_dvd_left ..), Int.dvd_trans h2 (Int.gcd_dvd_right ..)⟩
theorem rG_pos {a b c e : Int} (h : 0 < e) : 0 < rG a b c e := by
 rcases Nat.eq_zero_or_pos (rG a b c e) with z | z
 ·have := (rG_dvd a b c e).2.2.2; rw [z] at this
  have := Int.zero_dvd.1 this; omega
 ·exact z
def Rb (x : Int) : Prop := -1000000000000 ≤ x ∧ x ≤ 1000000000000
theorem gcd_le_b {a b : Int} (ha : Rb a) (hb : Rb b) : (Int.gcd a b : Int) ≤ 1000000000000 := by
 obtain ⟨a1, a2⟩ := ha; obtain ⟨b1, b2⟩ := hb
 by_cases h : a = 0
 ·subst h; rw [Int.gcd_zero_left]; omega
 ·have := Int.gcd_le_natAbs_left b h; omega
theorem redG_eq {a b c e : Int} (ha : Rb a) (hb : Rb b) (hc : Rb c) (he : Rb e) : redG a b c e = rG a b c e := by
 have r : ∀ {x}, Rb x → R64 x := fun h => ⟨by have := h.1; omega, by have := h.2; omega⟩
 unfold redG rG
 have g1 := gcd_le_b ha hb
 have g2 := gcd_le_b hc he
 rw [gcdL_eq (r ha) (r hb), gcdL_eq (r hc) (r he), wrap_eq (by omega) (by omega), wrap_eq (by omega) (by omega), gcdL_eq (r ⟨by omega, g1⟩) (r ⟨by omega, g2⟩)]
 have g3 := gcd_le_b (a := (Int.gcd a b : Int)) (b := (Int.gcd c e : Int)) ⟨by omega, g1⟩ ⟨by omega, g2⟩
 rw [wrap_eq (by omega) (by omega)]
theorem red_eq {a b c e x : Int} (ha : Rb a) (hb : Rb b) (hc : Rb c) (he : Rb e) (h0 : 0 < e) (hx : Rb x) (hd : (rG a b c e : Int) ∣ x) : red a b c e x = x / rG a b c e ∧ red a b c e x * rG a b c e = x ∧ Rb (red a b c e x) := by
 have p := rG_pos (a := a) (b := b) (c := c) h0
 have e1 : qdiv x (rG a b c e) = x / rG a b c e := by unfold qdiv; rw [Int.tdiv_eq_ediv_of_dvd hd]
 have e2 : x / rG a b c e * rG a b c e = x := Int.ediv_mul_cancel hd
 have b1 : Rb (x / rG a b c e) := by
  generalize x / (rG a b c e : Int) = q at *
  generalize (rG a b c e) = g at *
  obtain ⟨h1, h2⟩ := hx
  have hg : (1 : Int) ≤ g := by omega
  constructor
  ·rcases Int.le_total 0 q with z | z
   ·omega
   ·have := Int.mul_le_mul_of_nonpos_left (a := q) z hg
    rw [Int.mul_one] at this; omega
  ·rcases Int.le_total 0 q with z | z
   ·have := Int.mul_le_mul_of_nonneg_left hg z
    rw [Int.mul_one] at this; omega
   ·omega
 have : red a b c e x = x / rG a b c e := by
  unfold red
  rw [redG_eq ha hb hc he, e1, wrap_eq (by have := b1.1; omega) (by have := b1.2; omega)]
 rw [this]
 exact ⟨rfl, e2, b1⟩
theorem red_pos {a b c e : Int} (ha : Rb a) (hb : Rb b) (hc : Rb c) (he : Rb e) (h0 : 0 < e) : 0 < red a b c e e := by
 obtain ⟨_, m, _⟩ := red_eq ha hb hc he h0 he (rG_dvd a b c e).2.2.2
 have p := rG_pos (a := a) (b := b) (c := c) h0
 rcases Int.lt_or_le 0 (red a b c e e) with z | z
 ·exact z
 ·have := Int.mul_le_mul_of_nonneg_right z (show (0 : Int) ≤ rG a b c e by omega)
  rw [Int.zero_mul] at this; omega
theorem red_le {a b c e x M : Int} (ha : Rb a) (hb : Rb b) (hc : Rb c) (he : Rb e) (h0 : 0 < e) (hx : Rb x) (hd : (rG a b c e : Int) ∣ x) (hM : -M ≤ x ∧ x ≤ M) : -M ≤ red a b c e x ∧ red a b c e x ≤ M := by
 obtain ⟨_, m, _⟩ := red_eq ha hb hc he h0 hx hd
 have p := rG_pos (a := a) (b := b) (c := c) h0
 generalize red a b c e x = q at *
 generalize (rG a b c e) = g at *
 have hg : (1 : Int) ≤ g := by omega
 constructor
 ·rcases Int.le_total 0 q with z | z
  ·omega
  ·have := Int.mul_le_mul_of_nonpos_left (a := q) z hg
   rw [Int.mul_one] at this; omega
 ·rcases Int.le_total 0 q with z | z
  ·have := Int.mul_le_mul_of_nonneg_left hg z
   rw [Int.mul_one] at this; omega
  ·omega
end M
end Go.Abs
namespace Go.Abs
namespace M
set_option maxRecDepth 100000
set_option maxHeartbeats 0
def Sm (x : Int) : Prop := -100000 ≤ x ∧ x ≤ 100000
def Dn (x : Int) : Prop := 1 ≤ x ∧ x ≤ 12
structure Two (a b c e f g i j : Int) : Prop where
 pa : Sm a
 pb : Sm b
 pc : Sm c
 pe : Dn e
 pf : Sm f
 pg : Sm g
 pi : Sm i
 pj : Dn j
 px : R2 (a * j - f * e)
 py : R2 (b * j - g * e)
 pz : R2 (c * j - i * e)
end M
end Go.Abs
