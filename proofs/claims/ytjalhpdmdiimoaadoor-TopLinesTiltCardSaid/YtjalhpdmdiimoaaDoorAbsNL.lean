/- Dots. -/
import Derived.Test.YtjalhpdmdiimoaaDoorAbsNF2
import Derived.Test.YtjalhpdmdiimoaaDoorAbsNT
import Derived.Test.YtjalhpdmdiimoaaDoorAbsArgs
import Derived.Test.YtjalhpdmdiimoaaDoorAbsWpM
set_option linter.unusedSimpArgs false
set_option linter.unusedVariables false
namespace Go.Abs.N
open Go Go.Abs
set_option maxRecDepth 100000
set_option maxHeartbeats 0
abbrev D2 := List (Int × Int)
def encD (p : Int × Int) : List Value := [.int .i64 p.1, .int .i64 p.2]
def cD (l : D2) : List Value := cS encD l
def dx (l : D2) (i : Nat) : Int := (l[i]?.getD (0, 0)).1
def dy (l : D2) (i : Nat) : Int := (l[i]?.getD (0, 0)).2
theorem cD_len (l : D2) : (cD l).length = l.length * 2 := cS_len (f := encD) (es := 2) (fun _ => rfl) l
theorem cD_x {l : D2} {i : Nat} (h : i < l.length) : (cD l)[i * 2]? = some (.int .i64 (dx l i)) := by
  have := cS_get (f := encD) (es := 2) (fun _ => rfl) l i 0 h (by omega)
  unfold cD dx; rw [Nat.add_zero] at this; rw [this, List.getElem?_eq_getElem h]; rfl
theorem cD_y {l : D2} {i : Nat} (h : i < l.length) : (cD l)[i * 2 + 1]? = some (.int .i64 (dy l i)) := by
  have := cS_get (f := encD) (es := 2) (fun _ => rfl) l i 1 h (by omega)
  unfold cD dy; rw [this, List.getElem?_eq_getElem h]; rfl
theorem cD_p {l : D2} {i : Nat} (h : i < l.length) : ((cD l).drop (i * 2)).take 2 = [.int .i64 (dx l i), .int .i64 (dy l i)] := by
  have := cS_part (f := encD) (es := 2) (fun _ => rfl) l i h
  unfold cD dx dy; rw [this, List.getElem?_eq_getElem h]; rfl
abbrev SlD (h : Heap) (v : Value) (l : D2) : Prop := Sl 2 h v l.length (cD l)
def dotsL (l : D2) (i : Nat) : Int := if i < l.length then (if within (dx l i) (-10000) 10000 = false ∨ within (dy l i) (-10000) 10000 = false then 2 else if 0 < i ∧ dx l i ≤ dx l (i - 1) then 9 else dotsL l (i + 1)) else 0
termination_by l.length - i
def dotsV (l : D2) : Int := if within l.length 3 60 = true then dotsL l 0 else 10
theorem wrapN {n : Nat} (h : n < 9223372036854775808) : IntKind.wrap .i64 (n : Int) = n := wrap_eq (by omega) (by omega)
theorem wrapN1 {n : Nat} (h : n < 9223372036854775807) : IntKind.wrap .i64 ((n : Int) + 1) = ((n + 1 : Nat) : Int) := by rw [wrap_eq (by omega) (by omega)]; rfl
theorem wrapN2 {n : Nat} (h : n < 9223372036854775807) (h0 : 0 < n) : IntKind.wrap .i64 ((n : Int) - 1) = ((n - 1 : Nat) : Int) := by rw [wrap_eq (by omega) (by omega)]; omega
theorem c24 {d lim : Nat} {h : Heap} {v : Value} {l : D2} (s : SlD h v l) : E.call (d + 2) lim 24 [v] h = some (i64 (dotsV l), h) := by
  refine call1 fn24 rfl (by simp [ef24]) ?_
  have r := s.rules2
  by_cases hw : within l.length 3 60 = true
  · have hlen : 3 ≤ l.length ∧ l.length ≤ 60 := by simp [within] at hw; omega
    simp [ef24, r, c22, hw]
    refine wpC_loop (fun m st => ∃ i : Nat, m = l.length - i ∧ i ≤ l.length ∧ dotsL l i = dotsV l ∧ st = ⟨[(0, v), (3, .int .i64 i)], h.freeze⟩) l.length (by show l.length < 2 ^ 64; omega) ?_ ?_
    · simp [St.tidy, r]
      exact ⟨0, by simp, by omega, by simp [dotsV, hw], by simp⟩
    · rintro m hm _ ⟨i, rfl, hi, hr, rfl⟩
      by_cases hlt : i < l.length
      · have w1 := wrapN1 (n := i) (by omega)
        have hx := cD_x hlt; have hy := cD_y hlt
        have k1 : i * 2 < l.length * 2 := by omega
        have k2 : i * 2 + 1 < l.length * 2 := by omega
        unfold dotsL at hr
        rw [if_pos hlt] at hr
        by_cases h0 : 0 < i
        · have w2 := wrapN2 (n := i) (by omega) h0
          have hx' := cD_x (show i - 1 < l.length by omega)
          have k3 : (i - 1) * 2 < l.length * 2 := by omega
          have k4 : i - 1 < l.length := by omega
          have e1 : ((i - 1 : Nat) : Int) < (l.length : Int) := by omega
          simp [St.tidy, r, c22, hlt, w1, w2, h0, hx, hy, k1, k2, hx', k3, e1]
          refine ⟨⟨fun a => ⟨fun b => ⟨fun c => ?_, fun c => ⟨l.length - (i + 1), by omega, i + 1, rfl, by omega, ?_, by omega⟩⟩, fun b => ?_⟩, fun a => ?_⟩, fun q => absurd q (by omega)⟩
          · simpa [a, b, c, h0] using hr
          · simpa [a, b, h0, show ¬ dx l i ≤ dx l (i - 1) by omega] using hr
          · simpa [a, b] using hr
          · simpa [a] using hr
        · have hi0 : (i : Int) ≤ 0 := by omega
          simp [St.tidy, r, c22, hlt, w1, h0, hx, hy, k1, k2]
          refine ⟨⟨fun a => ⟨fun b => ⟨l.length - (i + 1), by omega, i + 1, rfl, by omega, ?_, by omega⟩, fun b => ?_⟩, fun a => ?_⟩, fun q => absurd q (by omega)⟩
          · simpa [a, b, h0] using hr
          · simpa [a, b] using hr
          · simpa [a] using hr
      · have : i = l.length := by omega
        subst this
        unfold dotsL at hr
        simp at hr
        simp [St.tidy, r, hr]
  · simp at hw
    simp [ef24, r, c22, hw, dotsV]
theorem c91 {d lim : Nat} {h : Heap} {v : Value} {l : D2} (s : SlD h v l) : E.call (d + 2) lim 91 [v] h = some (i64 (dotsV l), h) := by
  refine call1 fn91 rfl (by simp [ef91]) ?_
  have r := s.rules2
  by_cases hw : within l.length 3 60 = true
  · have hlen : 3 ≤ l.length ∧ l.length ≤ 60 := by simp [within] at hw; omega
    simp [ef91, r, c77, hw]
    refine wpC_loop (fun m st => ∃ i : Nat, m = l.length - i ∧ i ≤ l.length ∧ dotsL l i = dotsV l ∧ st = ⟨[(0, v), (9, v), (10, .int .i64 l.length), (11, .int .i64 i)], h.freeze⟩) l.length (by show l.length < 2 ^ 64; omega) ?_ ?_
    · simp [St.tidy, r]
      exact ⟨0, by simp, by omega, by simp [dotsV, hw], by simp⟩
    · rintro m hm _ ⟨i, rfl, hi, hr, rfl⟩
      by_cases hlt : i < l.length
      · have w1 := wrapN1 (n := i) (by omega)
        have hx := cD_x hlt; have hp := cD_p hlt
        have k1 : i * 2 < l.length * 2 := by omega
        have k2 : i * 2 + 2 ≤ l.length * 2 := by omega
        unfold dotsL at hr
        rw [if_pos hlt] at hr
        by_cases h0 : 0 < i
        · have w2 := wrapN2 (n := i) (by omega) h0
          have hx' := cD_x (show i - 1 < l.length by omega)
          have k3 : (i - 1) * 2 < l.length * 2 := by omega
          have e1 : ((i - 1 : Nat) : Int) < (l.length : Int) := by omega
          simp [St.tidy, r, c77, hlt, w1, w2, h0, hp, k1, k2, hx', k3, e1]
          refine ⟨fun a => ⟨fun b => ⟨fun c => ?_, fun c => ⟨l.length - (i + 1), by omega, i + 1, rfl, by omega, ?_, by omega⟩⟩, fun b => ?_⟩, fun a => ?_⟩
          · simpa [a, b, c, h0] using hr
          · simpa [a, b, h0, show ¬ dx l i ≤ dx l (i - 1) by omega] using hr
          · simpa [a, b] using hr
          · simpa [a] using hr
        · simp [St.tidy, r, c77, hlt, w1, h0, hp, k1, k2]
          refine ⟨fun a => ⟨fun b => ⟨l.length - (i + 1), by omega, i + 1, rfl, by omega, ?_, by omega⟩, fun b => ?_⟩, fun a => ?_⟩
          · simpa [a, b, h0] using hr
          · simpa [a, b] using hr
          · simpa [a] using hr
      · have : i = l.length := by omega
        subst this
        unfold dotsL at hr
        simp at hr
        simp [St.tidy, r, hr]
  · simp at hw
    simp [ef91, r, c77, hw, dotsV]
end Go.Abs.N
