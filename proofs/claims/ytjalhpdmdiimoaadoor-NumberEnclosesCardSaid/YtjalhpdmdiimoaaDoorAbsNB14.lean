/- The orders of pitches: both. -/
import Derived.Test.YtjalhpdmdiimoaaDoorAbsNB13
set_option linter.unusedSimpArgs false
set_option linter.unusedVariables false
namespace Go.Abs
namespace N
set_option maxRecDepth 100000
set_option maxHeartbeats 0
/-- Small enough to be joined. -/
def Sm (x : Int) : Prop := -100000 ≤ x ∧ x ≤ 100000
def Dn (x : Int) : Prop := 1 ≤ x ∧ x ≤ 12
theorem mul_sm {a j : Int} (ha : Sm a) (hj : Dn j) : -1200000 ≤ a * j ∧ a * j ≤ 1200000 := by
  obtain ⟨a1, a2⟩ := ha; obtain ⟨j1, j2⟩ := hj
  have h1 := Int.mul_le_mul_of_nonneg_right a1 (show 0 ≤ j by omega)
  have h2 := Int.mul_le_mul_of_nonneg_right a2 (show 0 ≤ j by omega)
  omega
theorem jn_m {a f e j : Int} (ha : Sm a) (hf : Sm f) (he : Dn e) (hj : Dn j) : jn a f (-1) e j = a * j - f * e := by
  have h1 := mul_sm ha hj
  have h2 := mul_sm hf he
  have e1 : -1 * f = -f := by omega
  unfold jn
  rw [e1, wrap_eq (n := -f) (by have := hf.2; omega) (by have := hf.1; omega), Int.neg_mul, wrap_eq (n := -(f * e)) (by omega) (by omega), wrap_eq (n := a * j) (by omega) (by omega), wrap_eq (by omega) (by omega)]; omega
theorem jn_p {a f e j : Int} (ha : Sm a) (hf : Sm f) (he : Dn e) (hj : Dn j) : jn a f 1 e j = a * j + f * e := by
  have h1 := mul_sm ha hj
  have h2 := mul_sm hf he
  unfold jn
  rw [Int.one_mul, wrap_eq (n := f) (by have := hf.1; omega) (by have := hf.2; omega), wrap_eq (n := f * e) (by omega) (by omega), wrap_eq (n := a * j) (by omega) (by omega), wrap_eq (by omega) (by omega)]
theorem mul_dn {e j : Int} (he : Dn e) (hj : Dn j) : 1 ≤ e * j ∧ e * j ≤ 144 := by
  obtain ⟨e1, e2⟩ := he; obtain ⟨j1, j2⟩ := hj
  have h1 := Int.mul_le_mul e1 j1 (by omega) (by omega)
  have h2 := Int.mul_le_mul e2 j2 (by omega) (by omega)
  omega
theorem wrap_dn {e j : Int} (he : Dn e) (hj : Dn j) : IntKind.wrap .i64 (e * j) = e * j := by
  have := mul_dn he hj
  rw [wrap_eq (by omega) (by omega)]
/-- The order of two pitches, as a number. -/
def ordP (a b c e f g i j : Int) : Int := ordE (a * j - f * e) (b * j - g * e) (c * j - i * e)
structure Two (a b c e f g i j : Int) : Prop where
  pa : Sm a
  pb : Sm b
  pc : Sm c
  pe : Dn e
  pf : Sm f
  pg : Sm g
  pi : Sm i
  pj : Dn j
  px : R2 (a * j - f * e)
  py : R2 (b * j - g * e)
  pz : R2 (c * j - i * e)
theorem R2_Rb {x : Int} (h : R2 x) : Rb x := ⟨by have := h.1; omega, by have := h.2; omega⟩
theorem c113' {d lim : Nat} {h : Heap} {a b c e f g i j : Int} (sp : SlU h (.slice (some ⟨0, 0, none⟩) 3 1) [2, 3, 5]) (T : Two a b c e f g i j) :
    E.call (d + 5) lim 113 [pt a b c e, pt f g i j] h = some (i64 (ordP a b c e f g i j), h) := by
  have m := mul_dn T.pe T.pj
  have w := wrap_dn T.pe T.pj
  have hb : Rb (e * j) := ⟨by omega, by omega⟩
  have j1 := jn_m T.pa T.pf T.pe T.pj
  have j2 := jn_m T.pb T.pg T.pe T.pj
  have j3 := jn_m T.pc T.pi T.pe T.pj
  have dv := rG_dvd (a * j - f * e) (b * j - g * e) (c * j - i * e) (e * j)
  have l1 := red_le (R2_Rb T.px) (R2_Rb T.py) (R2_Rb T.pz) hb (by omega) (R2_Rb T.px) dv.1 T.px
  have l2 := red_le (R2_Rb T.px) (R2_Rb T.py) (R2_Rb T.pz) hb (by omega) (R2_Rb T.py) dv.2.1 T.py
  have l3 := red_le (R2_Rb T.px) (R2_Rb T.py) (R2_Rb T.pz) hb (by omega) (R2_Rb T.pz) dv.2.2.1 T.pz
  rw [c113 (d := d) sp (by omega) (by rw [j1, j2, j3, w]) (by rw [j1, j2, j3, w]) (by rw [j1, j2, j3, w]) l1 l2 l3, ordE_red (R2_Rb T.px) (R2_Rb T.py) (R2_Rb T.pz) hb (by omega)]
  rfl
theorem c54 {d lim : Nat} {h : Heap} {a b c e f g i j : Int} (sp : SlU h (.slice (some ⟨0, 0, none⟩) 3 1) [2, 3, 5]) (h1 : isPitch a b c e = true) (h2 : isPitch f g i j = true) (T : Two a b c e f g i j) :
    E.call (d + 6) lim 54 [pt a b c e, pt f g i j] h = some (.tuple #[i64 (ordP a b c e f g i j), i64 0], h) := by
  have hp : pit2 a b c e f g i j = 0 := by unfold pit2; rw [check0.2 h1, check0.2 h2]; rfl
  have spA : ∀ L, SlU (h.freeze ++ L) (.slice (some ⟨0, 0, none⟩) 3 1) [2, 3, 5] := (Sl_freeze.2 sp).app
  have q := fun lim L => c113' (d := d) (lim := lim) (spA L) T
  refine call1 fn54 rfl (by simp [ef54]) ?_
  simp [ef54, c109, hp, q]
theorem c54b {d lim : Nat} {h : Heap} {a b c e f g i j : Int} (h1 : pit2 a b c e f g i j ≠ 0) :
    E.call (d + 6) lim 54 [pt a b c e, pt f g i j] h = some (.tuple #[i64 0, i64 (pit2 a b c e f g i j)], h) := by
  refine call1 fn54 rfl (by simp [ef54]) ?_
  simp [ef54, c109, h1]
theorem c55 {d lim : Nat} {h : Heap} {a b c e f g i j : Int} (T : Two a b c e f g i j) :
    E.call (d + 4) lim 55 [pt a b c e, pt f g i j] h = some (i64 (ordP a b c e f g i j), h) := by
  have m := mul_dn T.pe T.pj
  have w := wrap_dn T.pe T.pj
  have hb : Rb (e * j) := ⟨by omega, by omega⟩
  have j1 := jn_m T.pa T.pf T.pe T.pj
  have j2 := jn_m T.pb T.pg T.pe T.pj
  have j3 := jn_m T.pc T.pi T.pe T.pj
  have dv := rG_dvd (a * j - f * e) (b * j - g * e) (c * j - i * e) (e * j)
  have l1 := red_le (R2_Rb T.px) (R2_Rb T.py) (R2_Rb T.pz) hb (by omega) (R2_Rb T.px) dv.1 T.px
  have l2 := red_le (R2_Rb T.px) (R2_Rb T.py) (R2_Rb T.pz) hb (by omega) (R2_Rb T.py) dv.2.1 T.py
  have l3 := red_le (R2_Rb T.px) (R2_Rb T.py) (R2_Rb T.pz) hb (by omega) (R2_Rb T.pz) dv.2.2.1 T.pz
  have ho := ordE_red (R2_Rb T.px) (R2_Rb T.py) (R2_Rb T.pz) hb (by omega)
  have k52 := fun lim hh => @c52 d lim hh (a * j - f * e) (b * j - g * e) (c * j - i * e) (e * j) ⟨by have := T.px.1; omega, by have := T.px.2; omega⟩ ⟨by have := T.py.1; omega, by have := T.py.2; omega⟩ ⟨by have := T.pz.1; omega, by have := T.pz.2; omega⟩ ⟨by omega, by omega⟩ (by omega)
  simp only [redV] at k52
  generalize red (a * j - f * e) (b * j - g * e) (c * j - i * e) (e * j) (a * j - f * e) = X at *
  generalize red (a * j - f * e) (b * j - g * e) (c * j - i * e) (e * j) (b * j - g * e) = Y at *
  generalize red (a * j - f * e) (b * j - g * e) (c * j - i * e) (e * j) (c * j - i * e) = Z at *
  generalize red (a * j - f * e) (b * j - g * e) (c * j - i * e) (e * j) (e * j) = W at *
  have k112 := fun lim hh => @c112 (d + 2) lim hh (-1) a b c e f g i j
  simp only [joinV, j1, j2, j3, w] at k112
  have lN := numV_len l1.2 l2.2 l3.2 (Nat.le_refl 3)
  have lD := numV_len (a := -X) (b := -Y) (c := -Z) (by omega) (by omega) (by omega) (Nat.le_refl 3)
  obtain ⟨y, z, k86⟩ := c86 (d := d) (lim := h.length) (h := h.freeze ++ [some ⟨[i64 a, i64 b, i64 c, i64 e], true⟩, some ⟨[i64 f, i64 g, i64 i, i64 j], true⟩, some ⟨[i64 X, i64 Y, i64 Z, i64 W], true⟩]) l1 l2 l3
  have hord : cmpL (dgs (numV X Y Z 3)) (dgs (numV (-X) (-Y) (-Z) 3)) = ordE X Y Z := by
    rw [cmpL_val (B := 10000) (by decide) (dgs_dig _) (dgs_dig _) (dgs_topped _) (dgs_topped _), dgs_val, dgs_val]; rfl
  have k90 : ∀ (lim : Nat) (A B C : Option Blk), E.call (d + 3) lim 90 [sW (h.length + 3) (numV X Y Z 3), sW (h.length + 4) (numV (-X) (-Y) (-Z) 3)] (h.freeze ++ [A, B, C, bW (numV X Y Z 3) y, bW (numV (-X) (-Y) (-Z) 3) z]) =
      some (i64 (ordE X Y Z), h.freeze ++ [A, B, C, bW (numV X Y Z 3) y, bW (numV (-X) (-Y) (-Z) 3) z]) := fun lim A B C => by
    rw [← hord]
    exact c90 (d := d + 2) (SlW_bW (z := y) (by simp) (by rw [hget_base (by simp)]; rfl)) (SlW_bW (z := z) (by simp) (by rw [hget_base (by simp)]; rfl)) (by omega) (by omega)
  simp only [List.length_append, Heap.length_freeze, List.length_cons, List.length_nil, List.append_assoc, List.cons_append, List.nil_append] at k86
  simp only [ordP, ← ho]
  refine call1 fn55 rfl (by simp [ef55]) ?_
  simp [ef55, k112, k52, k86, k90]
end N
end Go.Abs
