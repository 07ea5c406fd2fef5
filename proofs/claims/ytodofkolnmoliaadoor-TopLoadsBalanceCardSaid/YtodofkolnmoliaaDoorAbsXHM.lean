/- Chapter 3: vectors, forces. -/
import Derived.Test.YtodofkolnmoliaaDoorAbsXT1
import Derived.Test.YtodofkolnmoliaaDoorAbsWpO
import Derived.Test.YtodofkolnmoliaaDoorAbsXZ4
set_option linter.unusedSimpArgs false
set_option linter.unusedVariables false
/- Chapter 3: vectors, forces. -/
namespace Go.Abs
namespace X
set_option maxRecDepth 100000
set_option maxHeartbeats 0
abbrev v3 (a b c : Int) : Value := .agg #[i64 a, i64 b, i64 c]
abbrev wr (n : Int) : Int := IntKind.wrap .i64 n
theorem c110 {d lim : Nat} {h : Heap} {a b c x y z k : Int} : E.call (d + 1) lim 110 [v3 a b c, v3 x y z, i64 k] h = some (v3 (wr (a + wr (k * x))) (wr (b + wr (k * y))) (wr (c + wr (k * z))), h) := by
  refine call1 fn110 rfl (by simp [ef110]) ?_
  simp [ef110]
  rw [wpC_unroll, wpI_step (by simp [E_fuel'])]
  simp [St.tidy]
  rw [wpI_step (by simp [E_fuel'])]
  simp [St.tidy]
  rw [wpI_step (by simp [E_fuel'])]
  simp [St.tidy]
  rw [wpI_step (by simp [E_fuel'])]
  simp [St.tidy]
def winB (n k : Int) : Bool := decide (wr (-k) ≤ n) && decide (n ≤ k)
theorem c159 {d lim : Nat} {h : Heap} {a k : Int} : E.call (d + 1) lim 159 [i64 a, i64 k] h = some (.bool (winB a k), h) := by
  refine call1 fn159 rfl (by simp [ef159]) ?_
  unfold winB
  by_cases q1 : wr (-k) ≤ a
  · by_cases q2 : a ≤ k
    · simp [ef159, q1, q2]
    · simp [ef159, q1, q2]
  · simp [ef159, q1]
theorem c158 {d lim b : Nat} {h : Heap} {a k : Int} (hb : b < h.length) (hc : h.cell b 0 = some (i64 k)) : E.call (d + 2) lim 158 [i64 a, .pointer (some ⟨b, 0, none⟩)] h = some (.bool (!winB a k), h) := by
  have k9 := fun lim hh => c159 (d := d) (lim := lim) (h := hh) (a := a) (k := k)
  refine call1 fn158 rfl (by simp [ef158]) ?_
  simp [ef158, hc, hb, k9]
def idx3 (x y z k : Int) : Int := if winB x k = false then 0 else if winB y k = false then 1 else if winB z k = false then 2 else -1
theorem c179 {d lim b b1 : Nat} {h : Heap} {x y z k : Int} (hb : b < h.length) (hb1 : b1 < h.length) (g0 : h.cell b 0 = some (i64 x)) (g1 : h.cell b 1 = some (i64 y)) (g2 : h.cell b 2 = some (i64 z)) (hc : h.cell b1 0 = some (i64 k)) :
    E.call (d + 3) lim 179 [.slice (some ⟨b, 0, none⟩) 3 1, .func (.func 158) #[] #[.pointer (some ⟨b1, 0, none⟩)]] h = some (i64 (idx3 x y z k), h) := by
  have kk := fun lim n => c158 (d := d) (lim := lim) (b := b1) (h := h.freeze) (a := n) (k := k) (by simpa using hb1) (by rw [cell_freeze]; exact hc)
  have f0 : h.freeze.cell b 0 = some (i64 x) := by rw [cell_freeze]; exact g0
  have f1 : h.freeze.cell b 1 = some (i64 y) := by rw [cell_freeze]; exact g1
  have f2 : h.freeze.cell b 2 = some (i64 z) := by rw [cell_freeze]; exact g2
  refine call1 fn179 rfl (by simp [ef179]) ?_
  unfold idx3
  simp [ef179]
  rw [wpC_unroll, wpI_step (by simp [E_fuel'])]
  rcases q0 : winB x k with _ | _
  · simp [St.tidy, hb, hb1, g0, f0, kk, q0]
  simp [St.tidy, hb, hb1, g0, f0, kk, q0]
  rw [wpI_step (by simp [E_fuel'])]
  rcases q1 : winB y k with _ | _
  · simp [St.tidy, hb, hb1, g1, f1, kk, q1]
  simp [St.tidy, hb, hb1, g1, f1, kk, q1]
  rw [wpI_step (by simp [E_fuel'])]
  rcases q2 : winB z k with _ | _
  · simp [St.tidy, hb, hb1, g2, f2, kk, q2]
  simp [St.tidy, hb, hb1, g2, f2, kk, q2]
  rw [wpI_step (by simp [E_fuel'])]
  simp [St.tidy, hb, hb1]
theorem c157 {d lim b b1 : Nat} {h : Heap} {x y z k : Int} (hb : b < h.length) (hb1 : b1 < h.length) (g0 : h.cell b 0 = some (i64 x)) (g1 : h.cell b 1 = some (i64 y)) (g2 : h.cell b 2 = some (i64 z)) (hc : h.cell b1 0 = some (i64 k)) :
    E.call (d + 4) lim 157 [.slice (some ⟨b, 0, none⟩) 3 1, .func (.func 158) #[] #[.pointer (some ⟨b1, 0, none⟩)]] h = some (.bool (decide (0 ≤ idx3 x y z k)), h) := by
  have kk := fun lim => c179 (d := d) (lim := lim) (h := h.freeze) (b := b) (b1 := b1) (x := x) (y := y) (z := z) (k := k) (by simpa using hb) (by simpa using hb1) (by rw [cell_freeze]; exact g0) (by rw [cell_freeze]; exact g1) (by rw [cell_freeze]; exact g2) (by rw [cell_freeze]; exact hc)
  refine call1 fn157 rfl (by simp [ef157]) ?_
  simp [ef157, kk]
theorem c112 {d lim : Nat} {h : Heap} {a b c k : Int} : E.call (d + 5) lim 112 [v3 a b c, i64 k] h = some (.bool (winB a k && winB b k && winB c k), h) := by
  have kk := fun lim => c157 (d := d) (lim := lim) (h := h.freeze ++ [some ⟨[i64 a, i64 b, i64 c], true⟩, some ⟨[i64 k], true⟩]) (b := h.length) (b1 := h.length + 1) (x := a) (y := b) (z := c) (k := k) (by simp) (by simp) (by simp) (by simp) (by simp) (by simp)
  refine call1 fn112 rfl (by simp [ef112]) ?_
  have e : (!decide (0 ≤ idx3 a b c k)) = (winB a k && winB b k && winB c k) := by
    unfold idx3
    rcases winB a k with _ | _ <;> rcases winB b k with _ | _ <;> rcases winB c k with _ | _ <;> simp
  rw [← e]
  simp [ef112, E.bound, kk, maxLen]
end X
end Go.Abs
/- Chapter 3: forces: checked, summed, their moment. -/
namespace Go.Abs
namespace X
set_option maxRecDepth 100000
set_option maxHeartbeats 0
theorem wr0 : IntKind.wrap .i64 0 = 0 := rfl
end X
end Go.Abs
/- Chapter 3: forces: moment, balance. -/
namespace Go.Abs
namespace X
set_option maxRecDepth 100000
set_option maxHeartbeats 0
end X
end Go.Abs
/- Chapter 3: girders and loads. -/
namespace Go.Abs
namespace X
set_option maxRecDepth 100000
set_option maxHeartbeats 0
def gE (l r c : Int) : Int := if within l (-20000) 20000 = false then 2 else if within r (-20000) 20000 = false then 2 else if within c 0 1000000000000 = false then 2 else if r ≤ l then 9 else 0
structure GdOk (l r c : Int) : Prop where
  bl : -20000 ≤ l ∧ l ≤ 20000
  br : -20000 ≤ r ∧ r ≤ 20000
  bc : 0 ≤ c ∧ c ≤ 1000000000000
  lr : l < r
theorem GdOk.of {l r c : Int} (h : gE l r c = 0) : GdOk l r c := by
  unfold gE at h
  split at h
  · cases h
  · rename_i q1
    split at h
    · cases h
    · rename_i q2
      split at h
      · cases h
      · rename_i q3
        split at h
        · cases h
        · simp only [Bool.not_eq_false, within] at q1 q2 q3
          simp at q1 q2 q3
          exact ⟨q1, q2, q3, by omega⟩
def ldI (l r : Int) (p : XR) : Bool := if within p.1 l r = false then false else within p.2 (-1000000) 1000000
def ldL (L : List XR) (l r : Int) (i : Nat) : Int := if i < L.length then (if ldI l r (atR L i) = true then ldL L l r (i + 1) else 2) else 0
termination_by L.length - i
theorem ldL_lt {L : List XR} {l r : Int} {i : Nat} (h : i < L.length) : ldL L l r i = if ldI l r (atR L i) = true then ldL L l r (i + 1) else 2 := by rw [ldL, if_pos h]
theorem ldL_all {L : List XR} {l r : Int} : ∀ (k i : Nat), L.length - i = k → ldL L l r i = 0 → ∀ j, i ≤ j → j < L.length → ldI l r (atR L j) = true
  | 0, i, hk, _, j, h1, h2 => by omega
  | k + 1, i, hk, h, j, h1, h2 => by
    rw [ldL_lt (by omega)] at h
    split at h
    · rename_i e
      rcases Nat.eq_or_lt_of_le h1 with rfl | h3
      · exact e
      · exact ldL_all k (i + 1) (by omega) h j h3 h2
    · cases h
def ldE (L : List XR) (l r : Int) : Int := if 100 < L.length then 8 else ldL L l r 0
structure LdOk (L : List XR) (l r : Int) : Prop where
  few : L.length ≤ 100
  b : ∀ i, i < L.length → (l ≤ (atR L i).1 ∧ (atR L i).1 ≤ r) ∧ -1000000 ≤ (atR L i).2 ∧ (atR L i).2 ≤ 1000000
theorem LdOk.of {L : List XR} {l r : Int} (h : ldE L l r = 0) : LdOk L l r := by
  unfold ldE at h
  split at h
  · cases h
  · refine ⟨by omega, fun i hi => ?_⟩
    have := ldL_all _ 0 rfl h i (by omega) hi
    unfold ldI at this
    split at this
    · cases this
    · rename_i q
      simp [within] at q this
      exact ⟨q, this⟩
theorem cR_j {l : List XR} {i : Nat} (h : i < l.length) : (cS encR l)[i * 2]? = some (i64 (atR l i).1) ∧ (cS encR l)[i * 2 + 1]? = some (i64 (atR l i).2) := by
  have a0 := cS_get (f := encR) (es := 2) (fun _ => rfl) l i 0 h (by omega)
  have a1 := cS_get (f := encR) (es := 2) (fun _ => rfl) l i 1 h (by omega)
  rw [atR_get h] at a0 a1
  exact ⟨by simpa [encR] using a0, by simpa [encR] using a1⟩
def plB (a b c : Int) : Bool := if within a (-1000000) 1000000 = false then false else if within b (-1000000) 1000000 = false then false else within c (-1000000) 1000000
theorem c48 {d lim : Nat} {h : Heap} {a b c : Int} : E.call (d + 3) lim 48 [v3 a b c] h = some (.bool (plB a b c), h) := by
  have k := fun lim hh a b c => c18 (d := d) (lim := lim) (h := hh) (a := a) (b := b) (c := c)
  have k100 : ∀ lim (hh : Heap), E.call (d + 2) lim 100 [v3 a b c, i64 1000000] hh = some (.bool (plB a b c), hh) := by
    intro lim hh
    refine call1 fn100 rfl (by simp [ef100]) ?_
    unfold plB
    have wn : IntKind.wrap .i64 (-1000000) = -1000000 := rfl
    simp [ef100]
    rw [wpC_unroll, wpI_step (by simp [E_fuel'])]
    rcases q1 : within a (-1000000) 1000000 with _ | _
    · simp [St.tidy, k, q1, wn]
    simp [St.tidy, k, q1, wn]
    rw [wpI_step (by simp [E_fuel'])]
    rcases q2 : within b (-1000000) 1000000 with _ | _
    · simp [St.tidy, k, q2, wn]
    simp [St.tidy, k, q2, wn]
    rw [wpI_step (by simp [E_fuel'])]
    rcases q3 : within c (-1000000) 1000000 with _ | _
    · simp [St.tidy, k, q3, wn]
    simp [St.tidy, k, q3, wn]
    rw [wpI_step (by simp [E_fuel'])]
    simp [St.tidy]
  refine call1 fn48 rfl (by simp [ef48]) ?_
  simp [ef48, k100]
theorem plB_ok {a b c : Int} (h : plB a b c = true) : (-1000000 ≤ a ∧ a ≤ 1000000) ∧ (-1000000 ≤ b ∧ b ≤ 1000000) ∧ -1000000 ≤ c ∧ c ≤ 1000000 := by
  unfold plB at h
  split at h
  · cases h
  · rename_i q1
    split at h
    · cases h
    · rename_i q2
      simp [within] at q1 q2 h
      exact ⟨q1, q2, h⟩
end X
end Go.Abs
