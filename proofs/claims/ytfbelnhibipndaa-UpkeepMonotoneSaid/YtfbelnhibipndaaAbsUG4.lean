/- Chapter 7: drift: the reference's moisture, offset, day of service. -/
import Derived.Test.YtfbelnhibipndaaAbsUG3
set_option linter.unusedSimpArgs false
set_option linter.unusedVariables false
namespace Go.Abs
namespace U
set_option maxRecDepth 100000
theorem c31 {d lim : Nat} {h : Heap} {s m r t : Int} {day : Nat} {v : Value} {l : List P2} (sl : Sl2 h v l) (O : COk l) (s0 : within s 0 1000 = true) (m0 : within m 1 365 = true) (hd : day ≤ 4000) :
    E.call (d + 2) lim 31 [vD s m r t, v, i64 (day : Int)] h = some (i64 (mo s m l day), h) := by
  have rr := sl.rules2
  have a := within_iffC.1 s0
  have b := within_iffC.1 m0
  have ws : IntKind.wrap .i64 (1000 * s) = mo s m l 0 := wrap_eq (by omega) (by omega)
  refine call1 fn31 rfl (by simp [ef31]) ?_
  simp [ef31, ws]
  refine wpC_loop (fun q st => ∃ n : Nat, q = day - n ∧ n ≤ day ∧ st = ⟨[(1, v), (2, i64 (day : Int)), (3, pt h.length), (7, i64 (mo s m l n)), (8, i64 ((n : Int) + 1))], h.freeze ++ [some ⟨[i64 s, i64 m, i64 r, i64 t], true⟩]⟩) day (by show day < 2 ^ 64; omega) ?_ ?_
  · simp [-collect_own1, St.tidy, collect_box, sl.own, rr]
    exact ⟨0, by omega, by omega, by simp⟩
  · rintro q hq _ ⟨n, rfl, hn, rfl⟩
    by_cases hlt : n < day
    · have mb := mo_bd (l := l) O s0 m0 n
      have hb := humV_bd O ((n : Int) + 1)
      have k24 := fun H lim => c24 (d := d) (lim := lim) (day := (n : Int) + 1) (Sl_freeze.2 ((Sl_freeze.2 sl).app H)) O
      have k76 := fun lim H => c76 (d := d) (lim := lim) (h := H) (n := 1000 * humV l ((n : Int) + 1) - mo s m l n) (m := m) (by omega) (by omega) (by omega)
      have e1 : IntKind.wrap .i64 ((n : Int) + 1 + 1) = ((n + 1 : Nat) : Int) + 1 := wrap_eq (by omega) (by omega)
      have e2 : IntKind.wrap .i64 (1000 * humV l ((n : Int) + 1)) = 1000 * humV l ((n : Int) + 1) := wrap_eq (by omega) (by omega)
      have e3 : IntKind.wrap .i64 (1000 * humV l ((n : Int) + 1) - mo s m l n) = 1000 * humV l ((n : Int) + 1) - mo s m l n := wrap_eq (by omega) (by omega)
      have mb2 := mo_bd (l := l) O s0 m0 (n + 1)
      have e5 : mo s m l n + (1000 * humV l ((n : Int) + 1) - mo s m l n) / m = mo s m l (n + 1) := rfl
      have e4 : IntKind.wrap .i64 (mo s m l (n + 1)) = mo s m l (n + 1) := wrap_eq (by omega) (by omega)
      have hle : (n : Int) + 1 ≤ day := by omega
      have hle' : n + 1 ≤ day := by omega
      simp [-collect_own1, hle, hle', hlt, e1, e2, e3, e4, e5, k24, k76, St.tidy, collect_box, sl.own, rr]
      exact ⟨day - (n + 1), by omega, n + 1, by omega, by omega, by simp⟩
    · obtain rfl : n = day := by omega
      have hle : ¬ (n : Int) + 1 ≤ n := by omega
      simp [hle]
theorem c32 {d lim : Nat} {h : Heap} {s m r t : Int} {day : Nat} {v : Value} {l : List P2} (sl : Sl2 h v l) (O : COk l) (s0 : within s 0 1000 = true) (m0 : within m 1 365 = true) (r0 : within r 0 1000 = true) (hd : day ≤ 4000) :
    E.call (d + 3) lim 32 [vD s m r t, v, i64 (day : Int)] h = some (i64 (offV s r (mo s m l day)), h) := by
  have a := within_iffC.1 s0
  have mb := mo_bd (l := l) O s0 m0 day
  have ob := off_bd s0 r0 mb.1 mb.2
  have k31 := fun H lim => c31 (d := d) (lim := lim) (r := r) (t := t) (Sl_freeze.2 ((Sl_freeze.2 sl).app H)) O s0 m0 hd
  have k76 := fun lim H => c76 (d := d + 1) (lim := lim) (h := H) (n := r * (mo s m l day - 1000 * s)) (m := 1000) (by omega) (by omega) (by omega)
  have w1 : IntKind.wrap .i64 (1000 * s) = 1000 * s := wrap_eq (by omega) (by omega)
  have w2 : IntKind.wrap .i64 (mo s m l day - 1000 * s) = mo s m l day - 1000 * s := wrap_eq (by omega) (by omega)
  have w3 : IntKind.wrap .i64 (r * (mo s m l day - 1000 * s)) = r * (mo s m l day - 1000 * s) := wrap_eq (by omega) (by omega)
  refine call1 fn32 rfl (by simp [ef32]) ?_
  simp [ef32, k31, k76, w1, w2, w3, offV]
theorem c33 {d lim : Nat} {h : Heap} {s m r t : Int} {day : Nat} {v : Value} {l : List P2} (sl : Sl2 h v l) (O : COk l) (s0 : within s 0 1000 = true) (m0 : within m 1 365 = true) (r0 : within r 0 1000 = true) (hd : day ≤ 4000) (hp : 1 ≤ day) :
    E.call (d + 2) lim 33 [vD s m r t, v, i64 (day : Int)] h = some (i64 (svcN s m r t l day : Int), h) := by
  have rr := sl.rules2
  have a := within_iffC.1 s0
  have b := within_iffC.1 m0
  have ws : IntKind.wrap .i64 (1000 * s) = mo s m l 0 := wrap_eq (by omega) (by omega)
  have e0 : svcN s m r t l day = fstI (fun n => stopD s r t n (mo s m l n)) day 1 := by
    unfold svcN
    rw [fstI_lt (by omega), if_neg (by simp [stopD])]
  rw [e0]
  generalize hI : fstI (fun n => stopD s r t n (mo s m l n)) day 1 = I
  refine call1 fn33 rfl (by simp [ef33]) ?_
  simp [ef33, ws]
  refine wpC_loop (fun q st => ∃ n : Nat, q = day - n ∧ n + 1 ≤ day ∧ fstI (fun n => stopD s r t n (mo s m l n)) day (n + 1) = I ∧ st = ⟨[(1, v), (2, i64 (day : Int)), (3, pt h.length), (7, i64 (mo s m l n)), (8, i64 ((n : Int) + 1))], h.freeze ++ [some ⟨[i64 s, i64 m, i64 r, i64 t], true⟩]⟩) day (by show day < 2 ^ 64; omega) ?_ ?_
  · simp [-collect_own1, St.tidy, collect_box, sl.own, rr]
    exact ⟨0, by omega, by omega, hI, by simp⟩
  · rintro q hq _ ⟨n, rfl, hn, hi, rfl⟩
    by_cases hlt : n + 1 < day
    · have mb := mo_bd (l := l) O s0 m0 n
      have hb := humV_bd O ((n : Int) + 1)
      have k24 := fun H lim => c24 (d := d) (lim := lim) (day := (n : Int) + 1) (Sl_freeze.2 ((Sl_freeze.2 sl).app H)) O
      have k76 := fun lim H => c76 (d := d) (lim := lim) (h := H) (n := 1000 * humV l ((n : Int) + 1) - mo s m l n) (m := m) (by omega) (by omega) (by omega)
      have e1 : IntKind.wrap .i64 ((n : Int) + 1 + 1) = ((n + 1 : Nat) : Int) + 1 := wrap_eq (by omega) (by omega)
      have e2 : IntKind.wrap .i64 (1000 * humV l ((n : Int) + 1)) = 1000 * humV l ((n : Int) + 1) := wrap_eq (by omega) (by omega)
      have e3 : IntKind.wrap .i64 (1000 * humV l ((n : Int) + 1) - mo s m l n) = 1000 * humV l ((n : Int) + 1) - mo s m l n := wrap_eq (by omega) (by omega)
      have mb2 := mo_bd (l := l) O s0 m0 (n + 1)
      have ob := off_bd s0 r0 mb2.1 mb2.2
      have k76b := fun lim H => c76 (d := d) (lim := lim) (h := H) (n := r * (mo s m l (n + 1) - 1000 * s)) (m := 1000) (by omega) (by omega) (by omega)
      have eo : r * (mo s m l (n + 1) - 1000 * s) / 1000 = offV s r (mo s m l (n + 1)) := rfl
      have k77 := fun lim H => c77 (d := d) (lim := lim) (h := H) (n := offV s r (mo s m l (n + 1))) (by unfold offV; omega) (by unfold offV; omega)
      rw [show (if offV s r (mo s m l (n + 1)) < 0 then -offV s r (mo s m l (n + 1)) else offV s r (mo s m l (n + 1))) = absV (offV s r (mo s m l (n + 1))) from rfl] at k77
      have w1 : IntKind.wrap .i64 (1000 * s) = 1000 * s := wrap_eq (by omega) (by omega)
      have w2 : IntKind.wrap .i64 (mo s m l (n + 1) - 1000 * s) = mo s m l (n + 1) - 1000 * s := wrap_eq (by omega) (by omega)
      have w3 : IntKind.wrap .i64 (r * (mo s m l (n + 1) - 1000 * s)) = r * (mo s m l (n + 1) - 1000 * s) := wrap_eq (by omega) (by omega)
      have e5 : mo s m l n + (1000 * humV l ((n : Int) + 1) - mo s m l n) / m = mo s m l (n + 1) := rfl
      have e4 : IntKind.wrap .i64 (mo s m l (n + 1)) = mo s m l (n + 1) := wrap_eq (by omega) (by omega)
      have hle : (n : Int) + 1 < day := by omega
      rw [fstI_lt hlt] at hi
      have es : stopD s r t ((n + 1 : Nat) : Int) (mo s m l (n + 1)) = decide (t < absV (offV s r (mo s m l (n + 1)))) := by unfold stopD; rw [decide_eq_true (show (0 : Int) < ((n + 1 : Nat) : Int) by omega)]; rfl
      simp only [es, decide_eq_true_eq] at hi
      by_cases q3 : t < absV (offV s r (mo s m l (n + 1)))
      · rw [if_pos q3] at hi
        subst hi
        simp [hle, hlt, e1, e2, e3, e4, e5, eo, k24, k76, k76b, k77, w1, w2, w3, q3]
      · rw [if_neg q3] at hi
        simp [-collect_own1, hle, hlt, e1, e2, e3, e4, e5, eo, k24, k76, k76b, k77, w1, w2, w3, q3, St.tidy, collect_box, sl.own, rr]
        exact ⟨day - (n + 1), by omega, n + 1, by omega, by omega, hi, by simp⟩
    · have hle : ¬ (n : Int) + 1 < day := by omega
      rw [fstI_ge (by omega)] at hi
      subst hi
      simp [hle, hlt]
end U
end Go.Abs
