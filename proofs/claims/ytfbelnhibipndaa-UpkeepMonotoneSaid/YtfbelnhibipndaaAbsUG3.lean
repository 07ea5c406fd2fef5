/- Chapter 7: drift: the three answers and the reference's. -/
import Derived.Test.YtfbelnhibipndaaAbsUG2
set_option linter.unusedSimpArgs false
set_option linter.unusedVariables false
namespace Go.Abs
namespace U
set_option maxRecDepth 100000
def svcN (s m r t : Int) (l : List P2) (day : Nat) : Nat := fstI (fun n => stopD s r t n (mo s m l n)) day 0
theorem c27p {d lim : Nat} {h : Heap} {s m r t : Int} {day : Nat} {v : Value} {l : List P2} (sl : Sl2 h v l) (e0 : allE s m r t l day 1 = 0) :
    E.call (d + 8) lim 27 [vD s m r t, v, i64 (day : Int)] h = some (prC (svcN s m r t l day, 0), h) := by
  have e0' := e0
  unfold allE at e0
  by_cases q0 : drE s m r t = 0
  case neg => rw [if_neg q0] at e0; exact absurd e0 q0
  rw [if_pos q0] at e0
  by_cases q1 : chkC l = 0
  case neg => rw [if_neg q1] at e0; exact absurd e0 q1
  rw [if_pos q1] at e0
  have O := COk.of q1
  have qd : within s 0 1000 = true ∧ within m 1 365 = true ∧ within r 0 1000 = true ∧ within t 0 1000000 = true := by
    unfold drE at q0
    by_cases z : within s 0 1000 = true ∧ within m 1 365 = true ∧ within r 0 1000 = true ∧ within t 0 1000000 = true
    · exact z
    · rw [if_neg z] at q0; cases q0
  obtain ⟨s0, m0, r0, t0⟩ := qd
  have dy : within day 1 4000 = true := by
    by_cases z : within day 1 4000 = true
    · exact z
    · rw [if_neg z] at e0; cases e0
  have dy' := within_iffC.1 dy
  obtain ⟨f1, f2, f3, f4⟩ := fstI_spec (p := fun n => stopD s r t n (mo s m l n)) (n := day) _ 0 rfl (by omega)
  have eN : fstI (fun n => stopD s r t n (mo s m l n)) day 0 = svcN s m r t l day := rfl
  rw [eN] at f1 f2 f3 f4
  generalize svcN s m r t l day = N at *
  have hgo : ∀ k : Nat, k < N → (decide ((day : Int) ≤ k) || stopD s r t k (mo s m l k)) = false := fun k hk => by
    have := f4 k (by omega) hk
    simp only [this, Bool.or_false]
    exact decide_eq_false (by omega)
  have hst : (decide ((day : Int) ≤ N) || stopD s r t N (mo s m l N)) = true := by
    rcases Nat.lt_or_ge N day with z | z
    · have := f3 z; simp only [this, Bool.or_true]
    · rw [decide_eq_true (by omega)]; rfl
  have k72 := fun (L : Heap) lim => c72 (d := d + 2) (lim := lim) (s := s) (m := m) (r := r) (t := t) (day := day) (least := 1) ((Sl_freeze.2 sl).app L)
  have k75 := fun lim L => c75 (d := d + 6) (lim := lim) (s := s) (m := m) (r := r) (t := t) ((Sl_freeze.2 sl).app L)
  have k101 := fun lim => c101 (d := d) (lim := lim) (r := h.freeze.length + 6) (b1 := h.freeze.length + 4) (b2 := h.freeze.length + 4 + 1) (N := N) (h := H27 h.freeze s m r t day v 0 0) (h' := H27 h.freeze s m r t day v N 1)
    (by simp) (by rw [hget_base rfl]; rfl) (by rw [Nat.add_assoc, hget_base rfl]; rfl) ((Sl_freeze.2 sl).app _) O s0 m0 (by omega)
    (fun k hk => by have b := mo_bd (l := l) O s0 m0 k; rw [r27 s0 r0 b.1 b.2, hgo k hk]; rfl) (by have b := mo_bd (l := l) O s0 m0 N; rw [r27 s0 r0 b.1 b.2, hst]; rfl) (by simp)
  have RE : ∀ f, rangeEnd (h.length + 6) f (H27 h.freeze s m r t day v N 1) = some (.ret, ⟨f, (H27 h.freeze s m r t day v N 1).put (h.length + 6) none⟩) := fun f => by
    rw [rangeEnd_get (s := 1) (by rw [hget_base (by simp)]; rfl)]; rfl
  refine call1 fn27 rfl (by simp [ef27]) ?_
  simp [H27, rec27] at k101 RE
  simp [ef27, k72, e0', k75, k101, loopBlk, RE]
theorem c27e {d lim : Nat} {h : Heap} {s m r t day : Int} {v : Value} {l : List P2} (sl : Sl2 h v l) (e0 : allE s m r t l day 1 ≠ 0) :
    E.call (d + 8) lim 27 [vD s m r t, v, i64 day] h = some (prC (0, allE s m r t l day 1), h) := by
  have k72 := fun (L : Heap) lim => c72 (d := d + 2) (lim := lim) (s := s) (m := m) (r := r) (t := t) (day := day) (least := 1) ((Sl_freeze.2 sl).app L)
  have nx : noAddr (i64 (allE s m r t l day 1)) = true := rfl
  refine call1 fn27 rfl (by simp [ef27]) ?_
  simp [ef27, k72, e0, nx]
theorem allE_0 {s m r t day least : Int} {l : List P2} (e0 : allE s m r t l day least = 0) : (within s 0 1000 = true ∧ within m 1 365 = true ∧ within r 0 1000 = true ∧ within t 0 1000000 = true) ∧ chkC l = 0 ∧ within day least 4000 = true := by
  unfold allE at e0
  by_cases q0 : drE s m r t = 0
  case neg => rw [if_neg q0] at e0; exact absurd e0 q0
  rw [if_pos q0] at e0
  by_cases q1 : chkC l = 0
  case neg => rw [if_neg q1] at e0; exact absurd e0 q1
  rw [if_pos q1] at e0
  have qd : within s 0 1000 = true ∧ within m 1 365 = true ∧ within r 0 1000 = true ∧ within t 0 1000000 = true := by
    unfold drE at q0
    by_cases z : within s 0 1000 = true ∧ within m 1 365 = true ∧ within r 0 1000 = true ∧ within t 0 1000000 = true
    · exact z
    · rw [if_neg z] at q0; cases q0
  refine ⟨qd, q1, ?_⟩
  by_cases z : within day least 4000 = true
  · exact z
  · rw [if_neg z] at e0; cases e0
def moE (s m r t : Int) (l : List P2) (day : Int) : Int × Int := if allE s m r t l day 0 = 0 then (mo s m l day.toNat, 0) else (0, allE s m r t l day 0)
def ofE (s m r t : Int) (l : List P2) (day : Int) : Int × Int := if allE s m r t l day 0 = 0 then (offV s r (mo s m l day.toNat), 0) else (0, allE s m r t l day 0)
def svE (s m r t : Int) (l : List P2) (day : Int) : Int × Int := if allE s m r t l day 1 = 0 then (svcN s m r t l day.toNat, 0) else (0, allE s m r t l day 1)
theorem c27 {d lim : Nat} {h : Heap} {s m r t day : Int} {v : Value} {l : List P2} (sl : Sl2 h v l) : E.call (d + 8) lim 27 [vD s m r t, v, i64 day] h = some (prC (svE s m r t l day), h) := by
  unfold svE
  by_cases e0 : allE s m r t l day 1 = 0
  · rw [if_pos e0]
    obtain ⟨_, _, q⟩ := allE_0 e0
    have q := within_iffC.1 q
    obtain ⟨n, rfl⟩ := Int.eq_ofNat_of_zero_le (show 0 ≤ day by omega)
    exact c27p sl e0
  · rw [if_neg e0]; exact c27e sl e0
theorem c25 {d lim : Nat} {h : Heap} {s m r t day : Int} {v : Value} {l : List P2} (sl : Sl2 h v l) : E.call (d + 9) lim 25 [vD s m r t, v, i64 day] h = some (prC (moE s m r t l day), h) := by
  have k72 := fun (L : Heap) lim => c72 (d := d + 3) (lim := lim) (s := s) (m := m) (r := r) (t := t) (day := day) (least := 0) ((Sl_freeze.2 sl).app L)
  refine call1 fn25 rfl (by simp [ef25]) ?_
  unfold moE
  by_cases e0 : allE s m r t l day 0 = 0
  · rw [if_pos e0]
    obtain ⟨⟨s0, m0, _, _⟩, q1, q⟩ := allE_0 e0
    have q := within_iffC.1 q
    obtain ⟨n, rfl⟩ := Int.eq_ofNat_of_zero_le (show 0 ≤ day by omega)
    have k73 := fun (L : Heap) lim => c73 (d := d) (lim := lim) (r := r) (t := t) (n := n) ((Sl_freeze.2 sl).app L) (COk.of q1) s0 m0 (by omega)
    simp [ef25, k72, e0, k73]
  · simp [ef25, k72, e0]
theorem c26 {d lim : Nat} {h : Heap} {s m r t day : Int} {v : Value} {l : List P2} (sl : Sl2 h v l) : E.call (d + 9) lim 26 [vD s m r t, v, i64 day] h = some (prC (ofE s m r t l day), h) := by
  have k72 := fun (L : Heap) lim => c72 (d := d + 3) (lim := lim) (s := s) (m := m) (r := r) (t := t) (day := day) (least := 0) ((Sl_freeze.2 sl).app L)
  refine call1 fn26 rfl (by simp [ef26]) ?_
  unfold ofE
  by_cases e0 : allE s m r t l day 0 = 0
  · rw [if_pos e0]
    obtain ⟨⟨s0, m0, r0, _⟩, q1, q⟩ := allE_0 e0
    have q := within_iffC.1 q
    obtain ⟨n, rfl⟩ := Int.eq_ofNat_of_zero_le (show 0 ≤ day by omega)
    have b := mo_bd (l := l) (COk.of q1) s0 m0 n
    have k73 := fun (L : Heap) lim => c73 (d := d) (lim := lim) (h := (h.freeze ++ L).freeze) (r := r) (t := t) (n := n) (Sl_freeze.2 ((Sl_freeze.2 sl).app L)) (COk.of q1) s0 m0 (by omega)
    have k74 := fun lim H => c74 (d := d + 6) (lim := lim) (h := H) (m := m) (t := t) s0 r0 b.1 b.2
    simp [ef26, k72, e0, k73, k74]
  · simp [ef26, k72, e0]
end U
end Go.Abs
