/- A law's call, where something is known of its arguments' lengths. -/
import Derived.Test.YtllhkifkiabkbaaGreatDoorAbsRowM
set_option linter.unusedSimpArgs false
set_option linter.unusedVariables false
namespace Go.Abs
open Go.ChangeShapes Go.WideShapes Go.RowKit
section
variable {H : Type} {enc : TypeId × Value → H} {P : Program} {W : World}
theorem law_calls_b {E : EProg} (hE : ProgOk P E) {d dd : Nat} {f : FuncId} {ts : List TypeId} {cts : List (Bool × List CT)} (hcts : ts.mapM (ctArg P d) = some cts) {h0 : Heap} {ρ0 : Ren} (I0 : Inv W h0 ρ0) (hg : GlobOk E.glob ρ0) (hla : LaidOk P E.glob (W.heap.size ≤ ·) W) {Q : List Value → Prop}
    (hlaw : ∀ bs us, Q us → (h0 ++ bs).freeze = h0 ++ bs → (∀ n, ctBlocks (cts.flatMap (·.2)) = some n → bs.length = n) → ArgsV d (h0 ++ bs) cts us → ∃ h', E.call dd (h0 ++ bs).length f us (h0 ++ bs) = some (.bool true, h'))
    {base : Nat} {args : Array Value} {ds : List (DataW H)} {ps : List MemPlace} (hval : ∀ (j : Nat) t v, ts[j]? = some t → args[j]? = some v → Value.okWide P W .any base t v)
    (hA : DataW.TrodAll enc P W 0 (fun _ => true) true ts args.toList ds ps) (hQ : ∀ ρ us, LRel (VRel ρ) us args.toList → Q us) :
    Calls P f args W fun e W' => e = .returned (.bool true) ∧ Below W.heap.size W W' := by
  obtain ⟨bs, ρ, us, I, l, r, a, k⟩ := load_args ts cts args.toList ds ps hcts (fun j t v q1 q2 => hval j t v q1 (by simpa using q2)) hA h0 ρ0 I0
  obtain ⟨h', hc⟩ := hlaw bs us (hQ ρ us r) I.frozen k a
  exact calls_true hE hc (hg.le l) hla (I.sim _) I.dom r

/-- What is known of a slice's length. -/
def LenLe (B : Nat) (u : Value) : Prop := ∀ b o n s, u = .slice (some ⟨b, o, none⟩) n s → n ≤ B
theorem len_of_trod {ρ : Ren} {u v : Value} (r : VRel ρ u v) {t e : TypeId} {base fuel : Nat} {spare : Nat → Bool} {held : Bool} {d1 : DataW H} {p : List MemPlace} (ht : P.underlying t = some (.slice e))
    (h : DataW.trod enc P W base spare held fuel t v.cells.toList = some (d1, p)) {B : Nat} (hB : ∀ elems rest, d1 = .slice elems rest → elems.length ≤ B) : LenLe B u := by
  rintro b o n s rfl
  obtain ⟨L, a, cap, _, rfl, hn, _⟩ := r.slice_inv
  rcases DataW.trod_slice ht h with ⟨e1, _⟩ | ⟨a', len, cap', elems, rest, m, _, e1, e2, _, _, _, e3, _⟩
  · simp [Value.cells] at e1
  · simp [Value.cells] at e1
    obtain ⟨rfl, rfl, rfl⟩ := e1
    have := hB _ _ (Prod.mk.inj e2).1
    rw [List.length_map] at this
    omega
theorem trodAll_first3 {t0 t1 t2 : TypeId} {vs : List Value} {d0 d1 d2 : DataW H} {ps : List MemPlace} (h : DataW.TrodAll enc P W 0 (fun _ => true) true [t0, t1, t2] vs [d0, d1, d2] ps) :
    ∃ v0 v1 v2 p fuel, vs = [v0, v1, v2] ∧ DataW.trod enc P W 0 (fun _ => true) true fuel t0 v0.cells.toList = some (d0, p) := by
  match vs, h with
  | [v0, v1, v2], h =>
    obtain ⟨p, q, ⟨fuel, h1⟩, _, _⟩ := h
    exact ⟨v0, v1, v2, p, fuel, rfl, h1⟩
end
end Go.Abs
