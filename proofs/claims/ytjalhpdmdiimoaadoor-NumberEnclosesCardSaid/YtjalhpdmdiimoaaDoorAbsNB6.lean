/- The order of two pitches. -/
import Derived.Test.YtjalhpdmdiimoaaDoorAbsNB5
import Derived.Test.YtjalhpdmdiimoaaDoorAbsNJ
set_option linter.unusedSimpArgs false
set_option linter.unusedVariables false
namespace Go.Abs
namespace N
set_option maxRecDepth 100000
set_option maxHeartbeats 0
def numV (a b c : Int) : Nat → Nat
  | 0 => 1
  | i + 1 => numV a b c i * P3 i ^ (E3 a b c i).toNat
theorem P3_pos (i : Nat) : 0 < P3 i ∧ P3 i < 18446744073709551616 := by
  match i with
  | 0 => decide
  | 1 => decide
  | _ + 2 => exact ⟨by simp [P3], by simp [P3]⟩
theorem numD_spec {a b c : Int} (ha : a ≤ 20000) (hb : b ≤ 20000) (hc : c ≤ 20000) : ∀ i, Num (numD a b c i) (numV a b c i) ∧ (numD a b c i).length ≤ 20000 * i + 1
  | 0 => ⟨Num.one, by simp [numD]⟩
  | i + 1 => by
    obtain ⟨h1, h2⟩ := numD_spec ha hb hc i
    have rE : E3 a b c i ≤ 20000 := by
      match i with
      | 0 => exact ha
      | 1 => exact hb
      | _ + 2 => exact hc
    have e1 : numD a b c (i + 1) = putP (P3 i) (E3 a b c i) (numD a b c i) := rfl
    have e2 : numV a b c (i + 1) = numV a b c i * P3 i ^ (E3 a b c i).toNat := rfl
    rw [e1, e2, putP]
    by_cases q : 0 < E3 a b c i
    · rw [if_pos q]
      obtain ⟨g1, g2⟩ := powF_num (P3_pos i).1 (P3_pos i).2 (E3 a b c i).toNat (E3 a b c i).toNat (Nat.le_refl _) h1
      exact ⟨g1, by omega⟩
    · rw [if_neg q]
      have : (E3 a b c i).toNat = 0 := by omega
      rw [this]
      exact ⟨by simpa using h1, by omega⟩
def R2 (x : Int) : Prop := -20000 ≤ x ∧ x ≤ 20000
theorem c79' {d lim : Nat} {h : Heap} {a b c : Int} (sp : SlU h (.slice (some ⟨0, 0, none⟩) 3 1) [2, 3, 5]) (ha : R2 a) (hb : R2 b) (hc : R2 c) :
    E.call (d + 4) lim 79 [.agg #[i64 a, i64 b, i64 c]] h = some (.agg #[.slice (some ⟨h.length, 0, none⟩) (numD a b c 3).length 1, .slice (some ⟨h.length + 1, 0, none⟩) (numD (-a) (-b) (-c) 3).length 1],
      h ++ [some ⟨cU (numD a b c 3), true⟩, some ⟨cU (numD (-a) (-b) (-c) 3), true⟩]) := by
  obtain ⟨a1, a2⟩ := ha; obtain ⟨b1, b2⟩ := hb; obtain ⟨c1, c2⟩ := hc
  have s1 := numD_spec a2 b2 c2
  have s2 := numD_spec (a := -a) (b := -b) (c := -c) (by omega) (by omega) (by omega)
  exact c79 sp ⟨a1, a2⟩ ⟨b1, b2⟩ ⟨c1, c2⟩ (fun i => (s1 i).1.dig) (fun i => (s2 i).1.dig) (fun i _ => (s1 i).2) (fun i _ => (s2 i).2)
/-- How the number with these exponents stands to one. -/
def ordE (a b c : Int) : Int := cmpN (numV a b c 3) (numV (-a) (-b) (-c) 3)
theorem c113 {d lim : Nat} {h : Heap} {a b c e f g i j x y z : Int} (sp : SlU h (.slice (some ⟨0, 0, none⟩) 3 1) [2, 3, 5]) (h0 : IntKind.wrap .i64 (e * j) ≠ 0)
    (hx : red (jn a f (-1) e j) (jn b g (-1) e j) (jn c i (-1) e j) (IntKind.wrap .i64 (e * j)) (jn a f (-1) e j) = x)
    (hy : red (jn a f (-1) e j) (jn b g (-1) e j) (jn c i (-1) e j) (IntKind.wrap .i64 (e * j)) (jn b g (-1) e j) = y)
    (hz : red (jn a f (-1) e j) (jn b g (-1) e j) (jn c i (-1) e j) (IntKind.wrap .i64 (e * j)) (jn c i (-1) e j) = z)
    (rx : R2 x) (ry : R2 y) (rz : R2 z) :
    E.call (d + 5) lim 113 [pt a b c e, pt f g i j] h = some (i64 (ordE x y z), h) := by
  have nx : R2 (-x) := ⟨by have := rx.2; omega, by have := rx.1; omega⟩
  have ny : R2 (-y) := ⟨by have := ry.2; omega, by have := ry.1; omega⟩
  have nz : R2 (-z) := ⟨by have := rz.2; omega, by have := rz.1; omega⟩
  have s1 := numD_spec rx.2 ry.2 rz.2 3
  have s2 := numD_spec nx.2 ny.2 nz.2 3
  have spA : ∀ L, SlU (h.freeze ++ L) (.slice (some ⟨0, 0, none⟩) 3 1) [2, 3, 5] := (Sl_freeze.2 sp).app
  have c78' := fun lim hh => @c78 (d + 2) lim hh (jn a f (-1) e j) (jn b g (-1) e j) (jn c i (-1) e j) (IntKind.wrap .i64 (e * j)) (by simp [jn]) (by simp [jn]) (by simp [jn]) (by simp) h0
  simp only [redV, hx, hy, hz] at c78'
  have q79 := fun lim L => c79' (d := d) (lim := lim) (spA L) rx ry rz
  have hord : cmpL (numD x y z 3) (numD (-x) (-y) (-z) 3) = ordE x y z := by
    rw [cmpL_val (B := 18446744073709551616) (by decide) s1.1.dig s2.1.dig s1.1.top s2.1.top, s1.1.val, s2.1.val]; rfl
  generalize numD x y z 3 = N at *
  generalize numD (-x) (-y) (-z) 3 = D at *
  have q83 : ∀ (lim : Nat) (A B : Option Blk) (L : List (Option Blk)), E.call (d + 4) lim 83 [.slice (some ⟨h.length + 2, 0, none⟩) N.length 1, .slice (some ⟨h.length + 2 + 1, 0, none⟩) D.length 1] (h.freeze ++ A :: B :: some ⟨cU N, true⟩ :: some ⟨cU D, true⟩ :: L) =
      some (i64 (cmpL N D), h.freeze ++ A :: B :: some ⟨cU N, true⟩ :: some ⟨cU D, true⟩ :: L) := fun lim A B L =>
    c83 (d := d + 3) (SlU_own (rw := true) (by simp) (by rw [hget_base (by simp)]; rfl)) (SlU_own (rw := true) (by simp; omega) (by rw [Nat.add_assoc h.length 2 1, hget_base (by simp)]; rfl)) (by omega) (by omega)
  refine call1 fn113 rfl (by simp [ef113]) ?_
  simp [ef113, c110, c78', c80, q79, q83, hord]
end N
end Go.Abs
