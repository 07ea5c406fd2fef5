/- From what the evaluator gives for a law to what the law's row asks. -/
import Derived.Test.YtllhkifkiabkbaaGreatDoorAbsSoundM
import Derived.ProofKit
import Derived.LaidMore
set_option linter.unusedSimpArgs false
set_option linter.unusedVariables false
namespace Go.Abs
variable {K : LoopKind}
open Go.ChangeShapes Go.WideShapes Go.RowKit

theorem trodAll_stays {H : Type} {enc : TypeId × Value → H} {P : Program} (hl : laidOutB P = true) {W W' : World} {sp : Nat → Bool} (hb : Below W.heap.size W W') :
    ∀ (ts : List TypeId) (vs : List Value) (ds : List (DataW H)) (ps : List MemPlace), (∀ t ∈ ts, P.readableRec t = true ∧ t < P.types.size) → (∀ p ∈ ps, p.block < W.heap.size) → (∀ p ∈ ps, sp p.block = true) →
    DataW.TrodAll enc P W 0 (fun _ => true) true ts vs ds ps → DataW.TrodAll enc P W' 0 sp true ts vs ds ps
  | [], [], [], _, _, _, _, h => h
  | t :: ts, v :: vs, d :: ds, ps, hr, hlt, hs, h => by
    obtain ⟨p, q, h1, h2, rfl⟩ := h
    have a := hr t (by simp)
    exact ⟨p, q, WideElems.Trod_stays hl a.1 a.2 h1 (fun x hx => hb.same (hlt x (by simp [hx]))) (fun x hx => hs x (by simp [hx])),
      trodAll_stays hl hb ts vs ds q (fun u hu => hr u (by simp [hu])) (fun x hx => hlt x (by simp [hx])) (fun x hx => hs x (by simp [hx])) h2, rfl⟩
  | [], _ :: _, _, _, _, _, _, h => h.elim
  | [], [], _ :: _, _, _, _, _, h => h.elim
  | _ :: _, [], _, _, _, _, _, h => h.elim
  | _ :: _, _ :: _, [], _, _, _, _, h => h.elim

/-- What a law's row asks, where the law gave true and below the old heap nothing turned. -/
theorem post_true {H : Type} {enc : TypeId × Value → H} {P : Program} {fn : Func} {s : ChangeSpec} {apart fresh handsOn : Bool} {W W' : World} {args : Array Value} {ds : List (DataW H)} {before : List MemPlace} {tb : TypeId}
    (hl : laidOutB P = true) (hr : ∀ t ∈ fn.params.toList, P.readableRec t = true ∧ t < P.types.size) (hv : s.vars = []) (hres : fn.resultTypes = #[tb]) (htb : P.underlying tb = some .bool)
    (hs : s.fn H ds = { results := [.lit (.bool true)], args := ds }) (hW : DataW.Whole enc P fn.params.toList s.vars apart W args.toList ds [] before) (hb : Below W.heap.size W W') :
    s.post enc P fn apart fresh handsOn false W args (.bool true) W' := by
  have hlt := hW.lt
  have hW' := hW
  obtain ⟨p, q, hA, hV, rfl, _, _⟩ := hW'
  rw [hv] at hV
  have hq := (trodVars_none hV).2
  subst hq
  have e : s.fn H (ds ++ []) = { results := [.lit (.bool true)], args := ds } := by rw [List.append_nil]; exact hs
  refine ⟨ds, [], p ++ [], [], p, [], hW, ?_, ?_, ?_, hb.frame _, fun h => by cases h⟩
  · rw [e, hres]
    exact trodAll_mk1 ⟨1, by simp [DataW.trod, Value.cells, htb]⟩
  · rw [e]
    exact trodAll_stays hl hb _ _ _ _ hr (by simpa using hlt) (fun x hx => by simpa using hlt x (by simp [hx])) hA
  · rw [e, hv]; rfl

/-- From the evaluator: a law's call. -/
theorem calls_true {P : Program} {E : EProg} (hE : ProgOk P E) {d : Nat} {f : FuncId} {vs : List Value} {h h' : Heap} (hc : E.call d h.length f vs h = some (.bool true, h')) {W : World} {args : Array Value} {ρ : Ren}
    (hg : GlobOk E.glob ρ) (hla : LaidOk P E.glob (W.heap.size ≤ ·) W) (hs : Sim (E.kind P) (W.heap.size ≤ ·) ρ h.get W) (hd : ∀ i L, ρ i = some L → i < h.length) (ha : LRel (VRel ρ) vs args.toList) :
    Calls P f args W fun e W' => e = .returned (.bool true) ∧ Below W.heap.size W W' := by
  have := (prog_sound hE d h.length f vs h _ h' (Nat.le_refl _) hc).2.2.2 ρ W (W.heap.size ≤ ·) args.toList (fun _ hk => hk) ⟨hg, hla⟩ hs hd ha
  refine this.mono fun e W' ⟨v', ρ', he, _, hv, _, _, _, hf⟩ => ?_
  rw [hv.bool_inv] at he
  exact ⟨he, hf.os, hf.tape, hf.output, hf.size, fun k hk => hf.block k hk (by omega)⟩
end Go.Abs
