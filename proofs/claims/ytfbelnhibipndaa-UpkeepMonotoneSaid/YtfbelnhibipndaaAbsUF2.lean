/- Chapter 7: climates: the humidity of a day, one more reading; the law. -/
import Derived.Test.YtfbelnhibipndaaAbsUF1
import Derived.Test.YtfbelnhibipndaaAbsUT
set_option linter.unusedSimpArgs false
set_option linter.unusedVariables false
namespace Go.Abs
namespace U
set_option maxRecDepth 100000
set_option maxHeartbeats 0
theorem hum_low {l : List P2} (O : COk l) (day : Int) : humK l day - 1 = if fndB l day = true then lowK l day else lowK l day - 1 := by
  obtain ⟨a1, a2, a3⟩ := humK_spec O day
  obtain ⟨b1, b2, b3⟩ := lowK_spec O day
  unfold fndB
  by_cases q : lowK l day < l.length ∧ (at2 l (lowK l day)).1 = day
  · rw [decide_eq_true q, if_pos rfl]
    have h1 : lowK l day < humK l day := by
      rcases Nat.lt_or_ge (lowK l day) (humK l day) with z | z
      · exact z
      · have := a3 _ z q.1; omega
    have h2 : ¬ lowK l day + 1 < humK l day := fun z => by
      have := a2 _ z
      have := O.mono (i := lowK l day) (j := lowK l day + 1) (by omega) (by omega)
      omega
    omega
  · rw [decide_eq_false q, if_neg (by decide)]
    have h1 : humK l day ≤ lowK l day := by
      rcases Nat.lt_or_ge (lowK l day) (humK l day) with z | z
      · have h2 := a2 _ z
        have h3 := b3 _ (Nat.le_refl _) (by omega)
        exact absurd ⟨by omega, by omega⟩ q
      · exact z
    have h2 : lowK l day ≤ humK l day := by
      rcases Nat.lt_or_ge (humK l day) (lowK l day) with z | z
      · have h2 := b2 _ z
        have h3 := a3 _ (Nat.le_refl _) (by omega)
        omega
      · exact z
    omega
theorem c71 {d lim : Nat} {h : Heap} {v : Value} {l : List P2} {day : Int} (s : Sl2 h v l) (O : COk l) : E.call (d + 5) lim 71 [v, i64 day] h = some (i64 (humV l day), h) := by
  have r := s.rules2
  have l0 := O.pos
  have hl := O.len
  have k98 := fun lim => c98 (d := d) (lim := lim) (day := day) (Sl_freeze.2 s) O
  have hh := hum_low O day
  obtain ⟨b1, _, _⟩ := lowK_spec O day
  have hf : fndB l day = true → lowK l day < l.length := fun q => by unfold fndB at q; exact (of_decide_eq_true q).1
  refine call1 fn71 rfl (by simp [ef71]) ?_
  have e0 : humV l day = (at2 l (humK l day - 1)).2 := rfl
  rw [hh] at e0
  generalize humV l day = V at *
  generalize fndB l day = F at *
  generalize lowK l day = T at *
  cases F with
  | true =>
    rw [if_pos rfl] at e0
    have ht := hf rfl
    have hti : (T : Int) < l.length := by omega
    have p1 := c2_1 ht
    have k1 : T * 2 + 1 < l.length * 2 := by omega
    have mx : max (T : Int) 0 = T := by omega
    simp [ef71, k98, mx, r, hti, ht, Nat.not_le.2 ht, p1, k1, e0]
  | false =>
    rw [if_neg (by decide)] at e0
    have ht : T - 1 < l.length := by omega
    have hti : ((T - 1 : Nat) : Int) < l.length := by omega
    have p1 := c2_1 ht
    have k1 : (T - 1) * 2 + 1 < l.length * 2 := by omega
    have wm : IntKind.wrap .i64 ((T : Int) - 1) = (T : Int) - 1 := wrap_eq (by omega) (by omega)
    have mx : max ((T : Int) - 1) 0 = ((T - 1 : Nat) : Int) := by omega
    simp [ef71, k98, wm, mx, r, hti, ht, Nat.not_le.2 ht, p1, k1, e0]
def humE (l : List P2) (day : Int) : Int × Int := if chkC l = 0 then (if within day 0 100000 = true then (humV l day, 0) else (0, 2)) else (0, chkC l)
abbrev prC (x : Int × Int) : Value := .tuple #[i64 x.1, i64 x.2]
theorem c22 {d lim : Nat} {h : Heap} {v : Value} {l : List P2} {day : Int} (s : Sl2 h v l) : E.call (d + 6) lim 22 [v, i64 day] h = some (prC (humE l day), h) := by
  have k19 := fun lim => c19 (d := d + 1) (lim := lim) (Sl_freeze.2 s)
  refine call1 fn22 rfl (by simp [ef22]) ?_
  unfold humE
  by_cases q0 : chkC l = 0
  case neg => simp [ef22, k19, q0]
  by_cases q1 : within day 0 100000 = true
  case neg => simp [ef22, k19, q0, c70, q1]
  have k71 := fun lim => c71 (d := d) (lim := lim) (day := day) (Sl_freeze.2 s) (COk.of q0)
  simp [ef22, k19, q0, c70, q1, k71]
/-- Few readings. -/
def rdB (n most : Int) : Bool := decide (n ≤ most) || (decide (200 < n) && decide (n ≤ 203))
theorem c17 {d lim : Nat} {h : Heap} {v : Value} {l : List P2} {m : Int} (s : Sl2 h v l) : E.call (d + 1) lim 17 [v, i64 m] h = some (.bool (rdB l.length m), h) := by
  have r := s.rules2
  refine call1 fn17 rfl (by simp [ef17]) ?_
  unfold rdB
  simp [ef17, r]
  grind
theorem c20 {d lim : Nat} {h : Heap} {v : Value} {l : List P2} (s : Sl2 h v l) (hl : l.length ≤ 100000) :
    E.call (d + 1) lim 20 [v] h = some (.slice (some ⟨h.length, 0, none⟩) l.length 2, h ++ [some ⟨cS enc2 l, true⟩]) := by
  refine call_pure fn20 rfl (by simp [ef20]) ?_
  have A1 := fun (hn : l.length ≠ 0) => app_some (bytes := 16) (b := h.length) (H := h.freeze ++ [some ⟨[], true⟩]) ((Sl_freeze.2 s).app _) hn (by omega) (by rw [hget_base0 (by simp)]; rfl) (c2_one l) (by omega) (by omega)
  have A0 := fun (hn : l.length = 0) => app_none (es := 2) (bytes := 16) (b := h.length) (H := h.freeze ++ [some ⟨[], true⟩]) (cs := cS enc2 l) (by have := (Sl_freeze.2 s).app [some ⟨[], true⟩]; rwa [hn] at this) (by omega)
  have cp := c2_plain l
  rcases Nat.eq_zero_or_pos l.length with hz | hz
  · have e0 : cS enc2 l = [] := by rw [List.eq_nil_of_length_eq_zero hz]; rfl
    simp [ef20, zeros, fillL, A0, hz, e0, Blk_addrs_nil, Blk_ren_nil]
  · have n0 : l.length ≠ 0 := by omega
    simp [ef20, zeros, fillL, A1, n0, cp]
end U
end Go.Abs
