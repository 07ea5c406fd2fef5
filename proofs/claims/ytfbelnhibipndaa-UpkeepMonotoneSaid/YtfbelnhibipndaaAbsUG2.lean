/- Chapter 7: drift: the moisture on a day, the offset, the day of service. -/
import Derived.Test.YtfbelnhibipndaaAbsUG1
set_option linter.unusedSimpArgs false
set_option linter.unusedVariables false
namespace Go.Abs
namespace U
set_option maxRecDepth 100000
abbrev fnM (n : Nat) : Value := .func (.func 101) #[] #[pt n, pt (n + 1)]
theorem c75 {d lim : Nat} {h : Heap} {s m r t : Int} {v : Value} {l : List P2} (sl : Sl2 h v l) : E.call (d + 1) lim 75 [vD s m r t, v] h = some (fnM h.length, h ++ [some ⟨[i64 s, i64 m, i64 r, i64 t], true⟩, some ⟨[v], true⟩]) := by
  refine call_pure fn75 rfl (by simp [ef75]) ?_
  rcases sl.low with e | ⟨b, o, n, k, e, hb⟩
  · subst e
    simp [ef75]
  · subst e
    simp [ef75, hb]
/-- The record of the loop in moisture. -/
abbrev rec73 (n : Nat) (st : Int) : Option Blk := some ⟨.int .i64 (73 : Nat) :: .int .i64 (0 : Nat) :: .int .i64 st :: [pt (n + 1), pt (n + 2)], true⟩
abbrev H73 (h : Heap) (s m r t day : Int) (v : Value) (x st : Int) : Heap := h ++ [some ⟨[i64 s, i64 m, i64 r, i64 t], true⟩, some ⟨[i64 day], true⟩, some ⟨[i64 x], true⟩, some ⟨[i64 s, i64 m, i64 r, i64 t], true⟩, some ⟨[v], true⟩, rec73 h.length st]
theorem r73 {d lim : Nat} {h : Heap} {s m r t day x n : Int} {v : Value} : EProg.roundOf E (E.call d) lim (h.length + 5) [i64 n, i64 x] (H73 h s m r t day v 0 0) = some (.bool (decide (n ≠ day)), if n = day then H73 h s m r t day v x 1 else H73 h s m r t day v 0 0) := by
  have key : ∃ w h', EProg.roundOf E (E.call d) lim (h.length + 5) [i64 n, i64 x] (H73 h s m r t day v 0 0) = some (w, h') ∧ w = .bool (decide (n ≠ day)) ∧ h' = if n = day then H73 h s m r t day v x 1 else H73 h s m r t day v 0 0 := by
    refine round1 (us := [pt (h.length + 1), pt (h.length + 2)]) (by rw [hget_base rfl]; rfl) fn73 rfl rfl ?_
    have tk : ∀ x st, List.take (h.length + 6) (H73 h s m r t day v x st) = H73 h s m r t day v x st := fun x st => List.take_of_length_le (by simp)
    have G : ∀ x st, (H73 h s m r t day v x st).get (h.length + 5) = rec73 h.length st := fun x st => by rw [hget_base rfl]; rfl
    have LS : ∀ x st, (H73 h s m r t day v x st).loopSt (h.length + 5) = some st := fun x st => loopSt_get (G x st)
    have SL : ∀ x st st', (H73 h s m r t day v x st).setLoop (h.length + 5) st' = some (H73 h s m r t day v x st') := fun x st st' => by rw [setLoop_get (G x st), hput_base rfl]; rfl
    have C1 : ∀ x st, (H73 h s m r t day v x st).cell (h.length + 1) 0 = some (i64 day) := fun x st => by rw [cell_base rfl]; rfl
    have C2 : ∀ x st, (H73 h s m r t day v x st).get (h.length + 2) = some ⟨[i64 x], true⟩ := fun x st => by rw [hget_base rfl]; rfl
    have P2 : ∀ x y st, (H73 h s m r t day v x st).put (h.length + 2) (some ⟨[i64 y], true⟩) = H73 h s m r t day v y st := fun x y st => by rw [hput_base rfl]; rfl
    by_cases q : n = day
    · have nx : noAddr (i64 x) = true := rfl
      simp [roundFrame, q, LS, SL, C1, C2, P2, tk, nx]
    · simp [roundFrame, q, LS, SL, C1, tk]
  obtain ⟨_, _, e, rfl, rfl⟩ := key
  exact e
theorem c73 {d lim : Nat} {h : Heap} {s m r t : Int} {n : Nat} {v : Value} {l : List P2} (sl : Sl2 h v l) (O : COk l) (s0 : within s 0 1000 = true) (m0 : within m 1 365 = true) (hn : n ≤ 4000) :
    E.call (d + 8) lim 73 [vD s m r t, v, i64 (n : Int)] h = some (i64 (mo s m l n), h) := by
  have k75 := fun lim L => c75 (d := d + 6) (lim := lim) (s := s) (m := m) (r := r) (t := t) ((Sl_freeze.2 sl).app L)
  have k101 := fun lim => c101 (d := d) (lim := lim) (r := h.freeze.length + 5) (b1 := h.freeze.length + 3) (b2 := h.freeze.length + 3 + 1) (N := n) (h := H73 h.freeze s m r t n v 0 0) (h' := H73 h.freeze s m r t n v (mo s m l n) 1)
    (by simp) (by rw [hget_base rfl]; rfl) (by rw [Nat.add_assoc, hget_base rfl]; rfl) ((Sl_freeze.2 sl).app _) O s0 m0 hn (fun k hk => by rw [r73, if_neg (by omega), decide_eq_true (by omega)]) (by rw [r73, if_pos rfl, decide_eq_false (by omega)]) (by simp)
  refine call1 fn73 rfl (by simp [ef73]) ?_
  have k75' := fun lim => k75 lim [some ⟨[i64 s, i64 m, i64 r, i64 t], true⟩, some ⟨[i64 (n : Int)], true⟩, some ⟨[i64 0], true⟩]
  have RE : ∀ f, rangeEnd (h.length + 5) f (H73 h.freeze s m r t n v (mo s m l n) 1) = some (.ret, ⟨f, (H73 h.freeze s m r t n v (mo s m l n) 1).put (h.length + 5) none⟩) := fun f => by
    rw [rangeEnd_get (s := 1) (by rw [hget_base (by simp)]; rfl)]; rfl
  simp [H73, rec73] at k101 RE
  simp [ef73, k75, k101, loopBlk, RE]
abbrev rec27 (n : Nat) (st : Int) : Option Blk := some ⟨.int .i64 (27 : Nat) :: .int .i64 (0 : Nat) :: .int .i64 st :: [pt n, pt (n + 1), pt (n + 2), pt (n + 3)], true⟩
abbrev H27 (h : Heap) (s m r t day : Int) (v : Value) (x st : Int) : Heap := h ++ [some ⟨[i64 s, i64 m, i64 r, i64 t], true⟩, some ⟨[i64 day], true⟩, some ⟨[i64 x], true⟩, some ⟨[i64 0], true⟩, some ⟨[i64 s, i64 m, i64 r, i64 t], true⟩, some ⟨[v], true⟩, rec27 h.length st]
def absV (x : Int) : Int := if x < 0 then -x else x
def stopD (s r t : Int) (n x : Int) : Bool := decide (0 < n) && decide (t < absV (offV s r x))
theorem r27 {d lim : Nat} {h : Heap} {s m r t day x n : Int} {v : Value} (s0 : within s 0 1000 = true) (r0 : within r 0 1000 = true) (x0 : 0 ≤ x) (x1 : x ≤ 1000000) : EProg.roundOf E (E.call (d + 2)) lim (h.length + 6) [i64 n, i64 x] (H27 h s m r t day v 0 0) =
    some (.bool (!(decide (day ≤ n) || stopD s r t n x)), if (decide (day ≤ n) || stopD s r t n x) = true then H27 h s m r t day v n 1 else H27 h s m r t day v 0 0) := by
  have key : ∃ w h', EProg.roundOf E (E.call (d + 2)) lim (h.length + 6) [i64 n, i64 x] (H27 h s m r t day v 0 0) = some (w, h') ∧ w = .bool (!(decide (day ≤ n) || stopD s r t n x)) ∧ h' = if (decide (day ≤ n) || stopD s r t n x) = true then H27 h s m r t day v n 1 else H27 h s m r t day v 0 0 := by
    refine round1 (us := [pt h.length, pt (h.length + 1), pt (h.length + 2), pt (h.length + 3)]) (by rw [hget_base rfl]; rfl) fn27 rfl rfl ?_
    have tk : ∀ x st, List.take (h.length + 7) (H27 h s m r t day v x st) = H27 h s m r t day v x st := fun x st => List.take_of_length_le (by simp)
    have G : ∀ x st, (H27 h s m r t day v x st).get (h.length + 6) = rec27 h.length st := fun x st => by rw [hget_base rfl]; rfl
    have LS : ∀ x st, (H27 h s m r t day v x st).loopSt (h.length + 6) = some st := fun x st => loopSt_get (G x st)
    have SL : ∀ x st st', (H27 h s m r t day v x st).setLoop (h.length + 6) st' = some (H27 h s m r t day v x st') := fun x st st' => by rw [setLoop_get (G x st), hput_base rfl]; rfl
    have C1 : ∀ x st, (H27 h s m r t day v x st).cell (h.length + 1) 0 = some (i64 day) := fun x st => by rw [cell_base rfl]; rfl
    have C0 : ∀ x st, (H27 h s m r t day v x st).part h.length 0 4 = some (vD s m r t) := fun x st => by rw [part_base0 rfl]; rfl
    have C3 : ∀ x st, (H27 h s m r t day v x st).cell h.length 3 = some (i64 t) := fun x st => by rw [cell_base0 rfl]; rfl
    have G2 : ∀ x st, (H27 h s m r t day v x st).get (h.length + 2) = some ⟨[i64 x], true⟩ := fun x st => by rw [hget_base rfl]; rfl
    have P2 : ∀ x y st, (H27 h s m r t day v x st).put (h.length + 2) (some ⟨[i64 y], true⟩) = H27 h s m r t day v y st := fun x y st => by rw [hput_base rfl]; rfl
    have G3 : ∀ x st, (H27 h s m r t day v x st).get (h.length + 3) = some ⟨[i64 0], true⟩ := fun x st => by rw [hget_base rfl]; rfl
    have P3 : ∀ x st, (H27 h s m r t day v x st).put (h.length + 3) (some ⟨[i64 0], true⟩) = H27 h s m r t day v x st := fun x st => by rw [hput_base rfl]; rfl
    have k74 := fun lim H => c74 (d := d) (lim := lim) (h := H) (m := m) (t := t) s0 r0 x0 x1
    have ob := off_bd s0 r0 x0 x1
    have wn : IntKind.wrap .i64 (-offV s r x) = -offV s r x := wrap_eq (by unfold offV; omega) (by unfold offV; omega)
    have mx : max (offV s r x) (-offV s r x) = absV (offV s r x) := by unfold absV; split <;> omega
    have nx : noAddr (i64 n) = true := rfl
    have n0 : noAddr (i64 0) = true := rfl
    unfold stopD
    by_cases q : day ≤ n
    · simp [roundFrame, q, LS, SL, C0, C1, C3, G2, P2, G3, P3, tk, nx, n0, k74]
    by_cases q2 : 0 < n
    case neg => simp [roundFrame, q, q2, LS, SL, C0, C1, C3, G2, P2, G3, P3, tk, nx, n0, k74]
    by_cases q3 : t < absV (offV s r x)
    · simp [roundFrame, q, q2, q3, LS, SL, C0, C1, C3, G2, P2, G3, P3, tk, nx, n0, k74, wn, mx]
    · simp [roundFrame, q, q2, q3, LS, SL, C0, C1, C3, G2, P2, G3, P3, tk, nx, n0, k74, wn, mx]
  obtain ⟨_, _, e, rfl, rfl⟩ := key
  exact e
end U
end Go.Abs
