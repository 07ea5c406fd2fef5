/- A region whose operations may come in more than one order: each order does what the text's order does. -/
import Derived.Test.YtjalhpdmdiimoaaDoorAbsDraw
set_option linter.unusedSimpArgs false
set_option linter.unusedVariables false
namespace Go.Abs

theorem E.append_live {h : Heap} {es bytes : Nat} {s x : Value} {out : Out} (hr : E.append h es bytes s x = some out) : ∀ i ∈ out.reads ++ out.eff.writes, ∃ b, h.get i = some b := by
  have had : ∀ {v : Value} {m : Nat} {xs : List Value} {rd : List Nat}, E.added h es v = some (m, xs, rd) → ∀ i ∈ rd, ∃ b, h.get i = some b := by
    intro v m xs rd ha i hi
    unfold E.added at ha
    repeat' (first | split at ha | (cases ha; done))
    all_goals (cases ha; first | (simp at hi; done) | (simp at hi; subst hi; exact ⟨_, by assumption⟩))
  unfold E.append at hr
  split at hr
  · cases hr
  · rename_i m xs rd ha
    have h1 := had ha
    repeat' (first | split at hr | (cases hr; done))
    all_goals
      cases hr
      intro i hi
      first
        | exact h1 i (by simpa [Eff.writes] using hi)
        | (simp [Eff.writes] at hi
           rcases hi with q | q | q
           · subst q; exact ⟨_, by assumption⟩
           · exact h1 i q
           · subst q; exact ⟨_, by assumption⟩)

theorem EOp.run_cls {lim : Nat} {h : Heap} {ev : Operand → Option Value} {e : EOp} {out : Out} (hr : e.run lim h ev = some out) :
    (∀ i ∈ out.reads ++ out.eff.writes, ∃ b, h.get i = some b) ∧
    (e.cls = .P → out.reads = [] ∧ out.eff = .none) ∧ (e.cls = .A → out.reads = [] ∧ out.eff.writes = []) ∧ (e.cls = .R → out.eff = .none) ∧ (e.cls = .W → out.reads = [] ∧ out.eff.pushes = false) ∧ e.cls ≠ .C ∧ e.cls ≠ .F := by
  cases e
  case append es bytes s x =>
    simp only [EOp.run] at hr
    split at hr
    · exact ⟨E.append_live hr, by simp [EOp.cls], by simp [EOp.cls], by simp [EOp.cls], by simp [EOp.cls], by simp [EOp.cls], by simp [EOp.cls]⟩
    · cases hr
  all_goals
    simp only [EOp.run, Option.map_eq_some_iff] at hr
    repeat' (first | split at hr | (cases hr; done))
    all_goals first
      | (obtain ⟨_, _, rfl⟩ := hr
         refine ⟨?_, by simp [EOp.cls], by simp [EOp.cls, Eff.writes], by simp [EOp.cls], by simp [EOp.cls, Eff.pushes], by simp [EOp.cls], by simp [EOp.cls]⟩
         intro i hi
         simp [Eff.writes] at hi
         try (subst hi; exact ⟨_, by assumption⟩))
      | (simp only [Option.map_eq_some_iff] at hr
         obtain ⟨_, _, rfl⟩ := hr
         refine ⟨?_, by simp [EOp.cls], by simp [EOp.cls, Eff.writes], by simp [EOp.cls], by simp [EOp.cls, Eff.pushes], by simp [EOp.cls], by simp [EOp.cls]⟩
         intro i hi
         simp [Eff.writes] at hi
         try (subst hi; exact ⟨_, by assumption⟩))
      | (cases hr
         refine ⟨?_, by simp [EOp.cls], by simp [EOp.cls, Eff.writes], by simp [EOp.cls], by simp [EOp.cls, Eff.pushes], by simp [EOp.cls], by simp [EOp.cls]⟩
         intro i hi
         simp [Eff.writes] at hi
         try (subst hi; exact ⟨_, by assumption⟩))

theorem Eff.get_other (h : Heap) (e : Eff) {i : Nat} (hi : i < h.length) (hw : i ∉ e.writes) : (e.apply h).get i = h.get i := by
  cases e with
  | none => rfl
  | push b => exact Heap.get_push_lt b hi
  | write j b => exact Heap.get_put_ne _ (fun q => hw (by simp [Eff.writes, q]))
  | move j b =>
    have : ((h.put j Option.none).push b).get i = (h.put j Option.none).get i := Heap.get_push_lt b (by simpa using hi)
    simp only [Eff.apply]
    rw [this]
    exact Heap.get_put_ne _ (fun q => hw (by simp [Eff.writes, q]))

/-- What one operation does, by its kind. -/
structure ExecFacts (C : Ctx) (f : AFrame) (e : EOper) (h h' : Heap) (v : Value) (rd wr : List Nat) : Prop where
  mono : h.length ≤ h'.length
  keep : e.kind = .P ∨ e.kind = .R ∨ e.kind = .W → h'.length = h.length
  wrk : ∀ x ∈ wr, e.kind = .W ∨ e.kind = .M
  rdk : ∀ x ∈ rd, e.kind = .R ∨ e.kind = .M
  live : ∀ x ∈ rd ++ wr, ∃ b, h.get x = some b
  other : ∀ x, x < h.length → x ∉ wr → e.kind ≠ .C → h'.get x = h.get x
  plain : e.kind ≠ .C → e.kind ≠ .F → ∃ out, e.op.run C.lim h (C.eval f) = some out ∧ v = out.val ∧ h' = out.eff.apply h ∧ rd = out.reads ∧ wr = out.eff.writes
  call : e.kind = .C ∨ e.kind = .F → e.op.cls = .C
  kept : Kept C.lim h h'

theorem exec_facts {P : Program} {X : Fix} {C : Ctx} (A : Around P X C) {e : EOper} {f : AFrame} {h h' : Heap} {v : Value} {rd wr : List Nat} (hx : e.op.exec C e.frz f h = some (v, h', rd, wr)) (hl : X.h0.length ≤ h.length) :
    ExecFacts C f e h h' v rd wr := by
  have hlim := A.lim
  have plain : e.op.cls ≠ .C → ∀ out, e.op.run C.lim h (C.eval f) = some out → v = out.val → h' = out.eff.apply h → rd = out.reads → wr = out.eff.writes → ExecFacts C f e h h' v rd wr := by
    intro hn out hr hv hh hrd hwr
    obtain ⟨c1, c2, c3, c4, c5, c6, c7⟩ := EOp.run_cls hr
    have hk : e.kind = e.op.cls := by unfold EOper.kind; rw [if_neg (fun q => hn q.1)]
    subst hh hrd hwr hv
    refine ⟨Eff.length_le _ _, ?_, ?_, ?_, c1, fun x h1 h2 _ => Eff.get_other h _ h1 h2, fun _ _ => ⟨out, hr, rfl, rfl, rfl, rfl⟩, ?_, ?_⟩
    · rw [hk, Eff.pushes_one]
      rintro (q | q | q)
      · rw [(c2 q).2]; rfl
      · rw [c4 q]; rfl
      · rw [(c5 q).2]; rfl
    · intro x hx
      rw [hk]
      cases hc : e.op.cls with
      | W => exact .inl rfl
      | M => exact .inr rfl
      | P => rw [(c2 hc).2] at hx; simp [Eff.writes] at hx
      | A => rw [(c3 hc).2] at hx; simp at hx
      | R => rw [c4 hc] at hx; simp [Eff.writes] at hx
      | F => exact absurd hc c7
      | C => exact absurd hc c6
    · intro x hx
      rw [hk]
      cases hc : e.op.cls with
      | W => rw [(c5 hc).1] at hx; simp at hx
      | M => exact .inr rfl
      | P => rw [(c2 hc).1] at hx; simp at hx
      | A => rw [(c3 hc).1] at hx; simp at hx
      | R => exact .inl rfl
      | F => exact absurd hc c7
      | C => exact absurd hc c6
    · rw [hk]; rintro (q | q)
      · exact q
      · exact absurd q c7
    · exact EOp.run_kept hr (by omega)
  have callcase : e.op.cls = .C → ∀ (gf : FuncId) (vs : List Value), C.callAt e.frz gf vs h = some (v, h') → rd = [] → wr = [] → ExecFacts C f e h h' v rd wr := by
    intro hcl gf vs hc h1 h2
    subst h1 h2
    obtain ⟨_, q2, q3, _⟩ := callAt_ok A.call (by omega) hc
    have hk : e.kind = if e.frz = true then .F else .C := by
      unfold EOper.kind; rw [hcl]
      cases e.frz <;> simp
    refine ⟨q2, ?_, by simp, by simp, by simp, ?_, ?_, fun _ => hcl, q3⟩
    · rw [hk]; split <;> simp
    · intro x hx _ hn
      have hfz : e.frz = true := by
        cases hf : e.frz with
        | true => rfl
        | false => rw [hk, hf] at hn; simp at hn
      rw [hfz] at hc
      unfold Ctx.callAt at hc
      rw [if_pos rfl] at hc
      simp only [Option.map_eq_some_iff] at hc
      obtain ⟨⟨u, k⟩, _, e⟩ := hc
      cases e
      exact Heap.get_append_lt (by assumption)
    · rw [hk]; split <;> simp
  cases hop : e.op
  case call gf args =>
    rw [hop] at hx
    simp only [EOp.exec] at hx
    split at hx
    · rename_i vs hvs
      simp only [Option.map_eq_some_iff] at hx
      obtain ⟨⟨u, k⟩, hc, hx⟩ := hx
      cases hx
      exact callcase (by rw [hop]; rfl) gf vs hc rfl rfl
    · cases hx
  case callVal x args =>
    rw [hop] at hx
    simp only [EOp.exec] at hx
    split at hx
    · rename_i gf first captured vs hxv hvs
      simp only [Option.map_eq_some_iff] at hx
      obtain ⟨⟨u, k⟩, hc, hx⟩ := hx
      cases hx
      exact callcase (by rw [hop]; rfl) gf _ hc rfl rfl
    · cases hx
  all_goals
    rw [hop] at hx
    simp only [EOp.exec, Option.map_eq_some_iff] at hx
    obtain ⟨out, hr, hx⟩ := hx
    cases hx
    have hr' : e.op.run C.lim h (C.eval f) = some out := by rw [hop]; exact hr
    exact plain (EOp.run_cls hr').2.2.2.2.2.1 out hr' rfl rfl rfl rfl

theorem put_get_ne {f : AFrame} {d : Option Nat} {v : Value} {t : Nat} (h : d ≠ some t) : (f.put d v).get t = f.get t := by
  cases d with
  | none => rfl
  | some d => simp only [AFrame.put, AFrame.get]; rw [if_neg (fun e => h (by rw [e]))]

theorem put_get_eq {f : AFrame} {v : Value} {t : Nat} : (f.put (some t) v).get t = some v := by
  simp [AFrame.put, AFrame.get]
end Go.Abs
