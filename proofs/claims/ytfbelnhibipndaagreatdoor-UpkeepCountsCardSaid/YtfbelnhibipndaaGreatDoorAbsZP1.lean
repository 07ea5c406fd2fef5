/- Chapter 7: what is predicted of tests. -/
import Derived.Test.YtfbelnhibipndaaGreatDoorAbsZEM
import Derived.Test.YtfbelnhibipndaaGreatDoorAbsZUJM
set_option linter.unusedSimpArgs false
set_option linter.unusedVariables false
namespace Go.Abs
namespace Z.U
set_option maxRecDepth 100000
set_option maxHeartbeats 0
set_option linter.unusedSimpArgs false
theorem chkX_eq (n m p q : Int) : U.chkX n m p q = Z.chkX n m p q := by
  have a := Z.c47 (d := 1) (lim := 0) (h := []) (n := n) (m := m) (p := p) (q := q)
  have b := U.c47 (d := 0) (lim := 0) (h := []) (n := n) (m := m) (p := p) (q := q)
  have e := Option.some.inj (b.symm.trans a)
  have e2 := (Prod.mk.inj e).1
  exact (Value.int.inj e2).2
/-- The error of a temperament and a fork. -/
def tuE (nm : ByteArray) (P S : Nat → Int) (F : Int) : Int := if chkT nm P S = 0 then (if isFork F = true then 0 else 2) else chkT nm P S
theorem wi_eq (a b c : Int) : U.within a b c = Z.within a b c := rfl
theorem c50 {d lim : Nat} {h : Heap} {C : List Value} {nm : ByteArray} {P S : Nat → Int} {F : Int} (t : Tm C nm P S) (hs : nm.size ≤ 1000) : E.call (d + 5) lim 50 [.agg C.toArray, i64 F] h = some (i64 (tuE nm P S F), h) := by
  have k88 := fun lim hh => Z.c88 (d := d) (lim := lim) (h := hh) t hs
  have k54 := fun lim hh => U.c54 (d := d + 3) (lim := lim) (h := hh) (a := F) (b := 1) (c := 1000000)
  refine call1 fn50 rfl (by simp [ef50]) ?_
  unfold tuE isFork
  by_cases q0 : chkT nm P S = 0
  case neg => simp [ef50, t.len, t.take, k88, q0]
  by_cases q1 : within F 1 1000000 = true
  · have q2 := wi_eq F 1 1000000 ▸ q1
    simp [ef50, t.len, t.take, k88, q0, k54, q1, q2]
  · have q2 := wi_eq F 1 1000000 ▸ q1
    simp [ef50, t.len, t.take, k88, q0, k54, q1, q2]
theorem c15 {d lim : Nat} {h : Heap} {C : List Value} {nm : ByteArray} {P S : Nat → Int} {F : Int} (t : Tm C nm P S) : E.call (d + 6) lim 15 [.agg C.toArray, i64 F] h = some (i64 (tuE nm P S F), h) := by
  have k36 := fun lim hh => Z.c36 (d := d) (lim := lim) (h := hh) t
  have k52 := fun lim hh => Z.c52 (d := d + 3) (lim := lim) (h := hh) (n := F)
  refine call1 fn15 rfl (by simp [ef15]) ?_
  unfold tuE
  by_cases q0 : chkT nm P S = 0
  case neg => simp [ef15, t.len, t.take, k36, q0]
  by_cases q1 : isFork F = true
  · simp [ef15, t.len, t.take, k36, q0, k52, q1]
  · simp [ef15, t.len, t.take, k36, q0, k52, q1]
end Z.U
end Go.Abs
