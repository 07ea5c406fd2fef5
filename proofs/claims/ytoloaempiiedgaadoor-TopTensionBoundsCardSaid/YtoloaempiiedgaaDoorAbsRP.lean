--
import Derived.Test.YtoloaempiiedgaaDoorAbsROk
import Derived.Test.YtoloaempiiedgaaDoorAbsRJ
import Derived.Test.YtoloaempiiedgaaDoorAbsRowM
import Derived.OpenShut
import Derived.JoinedOf
import Derived.Test.YtoloaempiiedgaaDoorRows
import Derived.Test.YtoloaempiiedgaaDoorTie
set_option linter.unusedSimpArgs false
set_option linter.unusedVariables false
namespace Go.Proofs.YtoloaempiiedgaaDoor
open Go.ChangeShapes Go.WideShapes Go.RowKit Go.Abs Go.ChangeAt Go.WideElems Go.WideMaps
set_option maxRecDepth 100000
theorem Tryd.own : ownKnob Tryd.prog.godebug = none := by kernel_rfl
theorem Tryd.laidOut : laidOutB Tryd.prog = true := by kernel_rfl
theorem Tryd.looksAll : true = Tryd.pinned.checked.prog.looks [] := by kernel_rfl
theorem gPrimes : Tryd.prog.globalNamed "agraffe/number.primes" = some 0 := by kernel_rfl
theorem tPrimes : (Tryd.prog.globals[0]?).map (·.type) = some 180 := by kernel_rfl
theorem uP : Tryd.prog.underlying 180 = some (.array 3 133) := by kernel_rfl
theorem uU : Tryd.prog.underlying 133 = some (.int .u64) := by kernel_rfl
theorem cU : Tryd.prog.cellsOf 133 = 1 := by kernel_rfl
theorem cP : Tryd.prog.cellsOf 180 = 3 := by kernel_rfl
theorem primes_of {W : World} (h : laidMetH Tryd.prog [("agraffe/number.primes", Rows.laid_agraffe_number_primes)] W) : ∃ cs e fz, W.heap[0]? = some (.cells cs e fz) ∧ cs.toList = [.int .u64 2, .int .u64 3, .int .u64 5] := by
 rw [MakeChecks.laidMetH_plain _ _ _ (by kernel_rfl)] at h
 obtain ⟨ps, ⟨g0, t0, cs0, f0, p0, q0, hg0, ht0, hv0, hd0, _, _⟩, _, _⟩ := h
 obtain rfl := Option.some.inj (gPrimes.symm.trans hg0)
 obtain rfl := Option.some.inj (tPrimes.symm.trans ht0)
 obtain ⟨xs, m1, rfl, hx1, hlen, hn3, hel⟩ := DataW.trod_array uP hd0
 rw [cP] at hlen
 have hget : ∃ e fz, W.heap[0]? = some (.cells cs0 e fz) := by
  simp only [World.var?, gPrimes, Option.bind_some] at hv0
  split at hv0
  ·rename_i cs e fz hh; cases hv0; exact ⟨e, fz, hh⟩
  ·cases hv0
 obtain ⟨e, fz, hh⟩ := hget
 refine ⟨cs0, e, fz, hh, ?_⟩
 have e0 := hel 0 (by decide); have e1 := hel 1 (by decide); have e2 := hel 2 (by decide)
 rw [cU] at e0 e1 e2
 simp only [Prod.mk.injEq] at hx1
 have hx := hx1.1
 unfold Rows.laid_agraffe_number_primes at hx
 match xs, hn3 with
 | [x0, x1, x2], _ =>
  match hc : cs0.toList, hlen with
  | [c0, c1, c2], _ =>
   rw [hc] at e0 e1 e2
   simp at e0 e1 e2 hx
   obtain ⟨n0, k0, j0, _⟩ := DataW.trod_int uU e0
   obtain ⟨n1, k1, j1, _⟩ := DataW.trod_int uU e1
   obtain ⟨n2, k2, j2, _⟩ := DataW.trod_int uU e2
   simp at k0 k1 k2
   rw [k0, k1, k2]
   rw [j0, j1, j2] at hx
   simp at hx
   obtain ⟨rfl, rfl, rfl⟩ := hx
   rfl
def ρ0 : Ren := fun i => if i = 0 then some ⟨0, 0, 3, false⟩ else none
theorem glob0 : GlobOk R.E.glob ρ0 := by
 intro g i h
 have : R.E.glob = [0] := rfl
 rw [this] at h
 simp only [globPos] at h
 split at h
 ·rename_i e; cases h; subst e; exact ⟨_, rfl, rfl, rfl, rfl⟩
 ·simp at h
theorem start_of {W : World} (h : laidMetH Tryd.prog [("agraffe/number.primes", Rows.laid_agraffe_number_primes)] W) : Inv W [R.primesB] ρ0 ∧ GlobOk R.E.glob ρ0 := by
 obtain ⟨cs, e, fz, hh, hc⟩ := primes_of h
 have hs : cs.size = 3 := by rw [← Array.length_toList, hc]; rfl
 refine ⟨⟨fun i L q => ?_, fun i b q => ?_⟩, glob0⟩
 ·unfold ρ0 at q
  split at q
  ·rename_i e; subst e; simp
  ·cases q
 ·match i with
  | 0 =>
   simp [Heap.get] at q; subst q
   refine ⟨rfl, fun L k => ?_⟩
   simp [ρ0] at k; subst k
   refine fun _ => CellsOk.ok ?_ rfl
   refine ⟨cs, e, fz, hh, by simp [hs], by simp, (fun q => by cases q), fun i v hv => ⟨v, ?_, ?_⟩⟩
   ·simp only [Nat.zero_add]
    rw [← Array.getElem?_toList, hc]; exact hv
   ·refine .plain ?_
    match i, hv with
    | 0, hv => simp at hv; subst hv; rfl
    | 1, hv => simp at hv; subst hv; rfl
    | 2, hv => simp at hv; subst hv; rfl
    | i + 3, hv => simp at hv
  | i + 1 => simp [Heap.get] at q
theorem trodAll_len {H : Type} {enc : TypeId × Value → H} {P : Program} {W : World} : ∀ {ts : List TypeId} {vs : List Value} {ds : List (DataW H)} {ps : List MemPlace}, DataW.TrodAll enc P W 0 (fun _ => true) true ts vs ds ps → ds.length = ts.length
 | [], [], [], _, _ => rfl
 | _ :: _, _ :: _, _ :: _, _, h => by obtain ⟨_, _, _, h2, _⟩ := h; simp [trodAll_len h2]
 | [], _ :: _, _, _, h => h.elim
 | [], [], _ :: _, _, h => h.elim
 | _ :: _, [], _, _, h => h.elim
 | _ :: _, _ :: _, [], _, h => h.elim
theorem door_met (os : Os) (args : Array Value) : laidMetH Tryd.prog [("agraffe/number.primes", Rows.laid_agraffe_number_primes)] ((World.doorLaid Tryd.prog 400 os).forCall (fun _ _ => 0) ⟨#[], args, []⟩).memory :=
 laidMetH_of_parts3 (fuel := 8) (laidMet_of_run' 8 (by kernel_rfl) (by kernel_rfl)) (by kernel_rfl) (by kernel_rfl)
theorem Tryd.c2 : mapsRowed Tryd.prog = true := by kernel_rfl
theorem Tryd.c3 : (Tryd.prog.stops == []) = true := by kernel_rfl
theorem Tryd.c4 : (Tryd.prog.stopKnobs == []) = true := by kernel_rfl
theorem Tryd.c9 : (Rows.scaleChangesRow.plainKeys == Tryd.prog.plainKeys) = true := by kernel_rfl
theorem Tryd.c10 : Tryd.prog.stopsHeard = true := by kernel_rfl
theorem Tryd.c11 : Tryd.prog.mayEnter = true := by kernel_rfl
theorem Tryd.c12 : (Rows.scaleChangesRow.lifted == Tryd.prog.liftsFinal) = true := by kernel_rfl
theorem Tryd.c13 : (Tryd.prog.make == some Rows.scaleChangesRow.make) = true := by kernel_rfl
theorem band {a b : Bool} (h : a = true) (k : b = true) : (a && b) = true := by rw [h, k]; rfl
end Go.Proofs.YtoloaempiiedgaaDoor
