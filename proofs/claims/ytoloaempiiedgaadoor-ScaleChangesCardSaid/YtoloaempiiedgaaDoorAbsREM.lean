--
import Derived.Test.YtoloaempiiedgaaDoorAbsRUN
import Derived.Test.YtoloaempiiedgaaDoorAbsRVM
import Derived.Test.YtoloaempiiedgaaDoorAbsRNM
set_option linter.unusedSimpArgs false
set_option linter.unusedVariables false
namespace Go.Abs
namespace R
set_option maxRecDepth 100000
set_option maxHeartbeats 0
noncomputable def erA (t : Int) (wl : List Wi) (l : List Un) (L : Lm) (G : List Int) : Int := if (stE t wl l).2 ≠ 0 then (stE t wl l).2 else if lmE L ≠ 0 then lmE L else ggE G
theorem c8 {d lim : Nat} {h : Heap} {v w g : Value} {wl : List Wi} {l : List Un} {t : Int} {L : Lm} {G : List Int} (s : SlW h v wl) (q : SlN h w l) (p : SlI' h g G) (hwl : wl.length ≤ 1000) :
  E.call (d + 7) lim 8 [stV t v w, lmV L, g] h = some (i64 (erA t wl l L G), h) := by
 have k30 := fun (M : Heap) lim => c24 (d := d) (lim := lim) (t := t) ((Sl_freeze.2 s).app M) ((Sl_freeze.2 q).app M) hwl
 have k31 := fun lim hh => c22 (d := d + 4) (lim := lim) (h := hh) (L := L)
 have k32 := fun (M : Heap) lim => c23 (d := d + 4) (lim := lim) ((Sl_freeze.2 p).app M)
 refine call1 fn8 rfl (by simp [ef8]) ?_
 unfold erA
 have a1 := s.low
 by_cases q1 : (stE t wl l).2 = 0
 ·by_cases q2 : lmE L = 0
  ·simp [ef8, k30, k31, k32, q1, q2]
  ·simp [ef8, k30, k31, k32, q1, q2]
 ·simp [ef8, k30, k31, k32, q1]
def cor (u : Un) (g : Int) : Un := { u with sd := { u.sd with core := g } }
end R
end Go.Abs
namespace Go.Abs
namespace R
set_option maxRecDepth 100000
set_option maxHeartbeats 0
noncomputable def alB (wl : List Wi) (t : Int) (u : Un) (L : Lm) (c : Int) : Bool := decide (sErr wl (cor u c).sd = 0) && kpB wl t (cor u c) L
end R
end Go.Abs
namespace Go.Abs
namespace R
set_option maxRecDepth 100000
set_option maxHeartbeats 0
structure NL (h : Heap) (v : Value) (n : Nat) (vs : Nat → Value) (f : Nat → List Int) : Prop where
 sl : Sl 1 h v n ((List.range n).map vs)
 row : ∀ i, i < n → SlI' h (vs i) (f i)
end R
end Go.Abs
