/- A law's arguments, all of them, and its call. -/
import Derived.Test.YtfbelnhibipndaaGreatDoorAbsLoad
set_option linter.unusedSimpArgs false
set_option linter.unusedVariables false
namespace Go.Abs
open Go.ChangeShapes Go.WideShapes Go.RowKit

def ctArg (P : Program) (d : Nat) (t : TypeId) : Option (Bool × List CT) :=
  match P.underlying t with
  | some (.struct _) | some (.array _ _) => (ctOf P d t).map (true, ·)
  | _ => (ctOf P d t).map (false, ·)
def ArgV (d : Nat) (h : Heap) : Bool × List CT → Value → Prop
  | (true, es), u => ∃ us : List Value, u = .agg us.toArray ∧ us.length = es.length ∧ TypL d h es us
  | (false, es), u => es.length = 1 ∧ TypL d h es [u]
def ArgsV (d : Nat) (h : Heap) : List (Bool × List CT) → List Value → Prop
  | [], [] => True
  | c :: cs, u :: us => ArgV d h c u ∧ ArgsV d h cs us
  | _, _ => False
theorem ArgV.app {d : Nat} {h : Heap} {l : List (Option Blk)} : ∀ {c : Bool × List CT} {u : Value}, ArgV d h c u → ArgV d (h ++ l) c u
  | (true, _), _, ⟨us, e, n, t⟩ => ⟨us, e, n, t.app⟩
  | (false, _), _, ⟨n, t⟩ => ⟨n, t.app⟩
theorem ArgsV.app {d : Nat} {h : Heap} {l : List (Option Blk)} : ∀ {cs : List (Bool × List CT)} {us : List Value}, ArgsV d h cs us → ArgsV d (h ++ l) cs us
  | [], [], _ => trivial
  | _ :: _, _ :: _, a => ⟨a.1.app, a.2.app⟩
  | [], _ :: _, a => a.elim
  | _ :: _, [], a => a.elim

section
variable {H : Type} {enc : TypeId × Value → H} {P : Program} {W : World}
theorem load_args {d base : Nat} : ∀ (ts : List TypeId) (cts : List (Bool × List CT)) (vs : List Value) (ds : List (DataW H)) (ps : List MemPlace), ts.mapM (ctArg P d) = some cts →
    (∀ (j : Nat) t v, ts[j]? = some t → vs[j]? = some v → Value.okWide P W .any base t v) → DataW.TrodAll enc P W 0 (fun _ => true) true ts vs ds ps →
    ∀ h ρ, Inv W h ρ → ∃ bs ρ' us, Inv W (h ++ bs) ρ' ∧ ρ.le ρ' ∧ LRel (VRel ρ') us vs ∧ ArgsV d (h ++ bs) cts us ∧ ∀ n, ctBlocks (cts.flatMap (·.2)) = some n → bs.length = n
  | [], cts, [], ds, ps, hc, _, _, h, ρ, I => by
    simp at hc; subst hc
    exact ⟨[], ρ, [], by simpa using I, ρ.le_refl, trivial, trivial, fun n hn => by cases hn; rfl⟩
  | t :: ts, cts, v :: vs, d1 :: ds, ps, hc, hval, ht, h, ρ, I => by
    rw [List.mapM_cons] at hc
    rcases hc1 : ctArg P d t with _ | ct
    · rw [hc1] at hc; cases hc
    rcases hc2 : ts.mapM (ctArg P d) with _ | cr
    · rw [hc1, hc2] at hc; cases hc
    rw [hc1, hc2] at hc
    have e : some (ct :: cr) = some cts := hc
    cases e
    obtain ⟨p, q, ⟨fuel, h1⟩, h2, _⟩ := ht
    have hv := hval 0 t v rfl rfl
    have one : ∃ es, ctOf P d t = some es ∧ ((ct = (true, es) ∧ ∃ cs, v = .agg cs) ∨ (ct = (false, es) ∧ v.cells.toList = [v])) := by
      unfold ctArg at hc1
      unfold Value.okWide at hv
      split at hc1
      · rename_i fs hu
        rw [hu] at hv
        simp only [Option.map_eq_some_iff] at hc1
        obtain ⟨es, he, rfl⟩ := hc1
        obtain ⟨cs, rfl, _⟩ := hv
        exact ⟨es, he, .inl ⟨rfl, cs, rfl⟩⟩
      · rename_i n e hu
        rw [hu] at hv
        simp only [Option.map_eq_some_iff] at hc1
        obtain ⟨es, he, rfl⟩ := hc1
        obtain ⟨cs, rfl, _⟩ := hv
        exact ⟨es, he, .inl ⟨rfl, cs, rfl⟩⟩
      · rename_i n1 n2
        simp only [Option.map_eq_some_iff] at hc1
        obtain ⟨es, he, rfl⟩ := hc1
        refine ⟨es, he, .inr ⟨rfl, ?_⟩⟩
        cases v with
        | agg cs =>
          exfalso
          split at hv
          · rename_i hu; exact n1 _ hu
          · rename_i hu; exact n2 _ _ hu
          · unfold Cell.okWide at hv
            split at hv <;> try contradiction
            unfold Cell.ok at hv
            split at hv <;> try contradiction
        | _ => rfl
    obtain ⟨es, hes, hcase⟩ := one
    obtain ⟨b1, ρ1, u1, I1, l1, n1, r1, t1, k1⟩ := load d t es hes fuel _ _ h1 h ρ I
    obtain ⟨b2, ρ2, u2, I2, l2, r2, a2, k2⟩ := load_args ts cr vs ds q hc2 (fun j t v a b => hval (j + 1) t v (by simpa using a) (by simpa using b)) h2 _ ρ1 I1
    have hblocks : ∀ n, ctBlocks ((ct :: cr).flatMap (·.2)) = some n → (b1 ++ b2).length = n := by
      intro n hn
      rw [List.flatMap_cons] at hn
      obtain ⟨k, l, q1, q2, q3⟩ := ctBlocks_app _ _ _ hn
      have hct : ct.2 = es := by rcases hcase with ⟨rfl, _⟩ | ⟨rfl, _⟩ <;> rfl
      rw [hct] at q1
      rw [List.length_append, k1 k q1, k2 l q2, q3]
    rcases hcase with ⟨rfl, cs, rfl⟩ | ⟨rfl, hcell⟩
    · refine ⟨b1 ++ b2, ρ2, .agg u1.toArray :: u2, by rw [← List.append_assoc]; exact I2, Ren.le_trans l1 l2, ⟨?_, r2⟩, ⟨⟨u1, rfl, n1, ?_⟩, ?_⟩, hblocks⟩
      · have := VRel.agg_mk (r1.mono fun _ _ x => x.mono l2)
        simpa [Value.cells] using this
      · rw [← List.append_assoc]; exact t1.app
      · rw [← List.append_assoc]; exact a2
    · rw [hcell] at r1
      match u1, r1 with
      | [u], r1 =>
        refine ⟨b1 ++ b2, ρ2, u :: u2, by rw [← List.append_assoc]; exact I2, Ren.le_trans l1 l2, ⟨r1.1.mono l2, r2⟩, ⟨⟨n1.symm, ?_⟩, ?_⟩, hblocks⟩
        · rw [← List.append_assoc]; exact t1.app
        · rw [← List.append_assoc]; exact a2
  | [], _, _ :: _, _, _, _, _, ht, _, _, _ => ht.elim
  | _ :: _, _, [], _, _, _, _, ht, _, _, _ => ht.elim

theorem Inv.frozen {h : Heap} {ρ : Ren} (I : Inv W h ρ) : h.freeze = h := by
  unfold Heap.freeze
  refine (List.map_congr_left fun o ho => ?_).trans (List.map_id h)
  obtain ⟨i, hi, rfl⟩ := List.getElem_of_mem ho
  rcases e : h[i] with _ | ⟨cs, rw⟩
  · rfl
  · have : h.get i = some ⟨cs, rw⟩ := by unfold Heap.get; rw [List.getElem?_eq_getElem hi, e]; rfl
    have := (I.blk i _ this).1
    simp only at this; subst this; rfl

theorem GlobOk.le {glob : List Nat} {ρ ρ' : Ren} (h : GlobOk glob ρ) (l : ρ.le ρ') : GlobOk glob ρ' := by
  intro g i e
  obtain ⟨L, a, b⟩ := h g i e
  exact ⟨L, l _ _ a, b⟩

/-- A law that the evaluator finds true at all arguments of its types. -/
theorem law_calls {E : EProg} (hE : ProgOk P E) {d dd : Nat} {f : FuncId} {ts : List TypeId} {cts : List (Bool × List CT)} (hcts : ts.mapM (ctArg P d) = some cts) {h0 : Heap} {ρ0 : Ren} (I0 : Inv W h0 ρ0) (hg : GlobOk E.glob ρ0)
    (hlaw : ∀ bs us, (h0 ++ bs).freeze = h0 ++ bs → (∀ n, ctBlocks (cts.flatMap (·.2)) = some n → bs.length = n) → ArgsV d (h0 ++ bs) cts us → ∃ h', E.call dd (h0 ++ bs).length f us (h0 ++ bs) = some (.bool true, h'))
    {base : Nat} {args : Array Value} {ds : List (DataW H)} {ps : List MemPlace} (hval : ∀ (j : Nat) t v, ts[j]? = some t → args[j]? = some v → Value.okWide P W .any base t v)
    (hA : DataW.TrodAll enc P W 0 (fun _ => true) true ts args.toList ds ps) :
    Calls P f args W fun e W' => e = .returned (.bool true) ∧ Below W.heap.size W W' := by
  obtain ⟨bs, ρ, us, I, l, r, a, k⟩ := load_args ts cts args.toList ds ps hcts (fun j t v q1 q2 => hval j t v q1 (by simpa using q2)) hA h0 ρ0 I0
  obtain ⟨h', hc⟩ := hlaw bs us I.frozen k a
  exact calls_true hE hc (hg.le l) (I.sim _) I.dom r
end
end Go.Abs
