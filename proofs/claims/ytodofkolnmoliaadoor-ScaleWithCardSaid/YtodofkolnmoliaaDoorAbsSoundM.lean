/- Code, functions, programs: what the abstract evaluator gives, the program gives. -/
import Derived.Test.YtodofkolnmoliaaDoorAbsDrawM
import Derived.LoopN
set_option linter.unusedSimpArgs false
set_option linter.unusedVariables false
/- Code, functions, programs: what the abstract evaluator gives, the program gives. -/
namespace Go.Abs

def compileRegion (P : Program) (glob : List Nat) (n : Nat) (ops : Array Oper) (draw : Bool) : Option ECode :=
  match compileOps P glob n ops ops.toList with
  | some es => if draw = true then (if drawOk ops (decorate ops es) = true then some (.region true (decorate ops es)) else none) else some (.region false es)
  | none => none

def compileCode (P : Program) (glob : List Nat) (n : Nat) : Code → List (Option (List Nat)) → Option (ECode × List (Option (List Nat)))
  | .skip, hs => some (.skip, hs)
  | .region _ ops draw, hs => (compileRegion P glob n ops draw).map fun c => (c, hs)
  | .seq a b, hs => match compileCode P glob n a hs with
    | some (a', hs') => match compileCode P glob n b hs' with
      | some (b', hs'') => some (.seq a' b', hs'')
      | none => none
    | none => none
  | .cond c a b, hs => if opdOk glob c = true then match compileCode P glob n a hs with
    | some (a', hs') => match compileCode P glob n b hs' with
      | some (b', hs'') => some (.cond c a' b', hs'')
      | none => none
    | none => none else none
  | .block id b, hs => (compileCode P glob n b hs).map fun (b', hs') => (.block id b', hs')
  | .loop b, hs => match hs with
    | [] => none
    | l :: hs => (compileCode P glob n b hs).map fun (b', hs') => (.loop l b', hs')
  | .exit id, hs => some (.exit id, hs)
  | .ret, hs => some (.ret, hs)
  | _, _ => none

def compileRes (P : Program) : ResultVar → Option ERes
  | .tmp t => some (.tmp t)
  | .cell t ty => match isAggT P ty, sizeT P ty with
    | some g, some s => some (.cell t g s)
    | _, _ => none

def compileFun (P : Program) (glob : List Nat) (f : FuncId) (hints : List (Option (List Nat))) (mode : FMode) : Option EFun :=
  match P.funcs[f]? with
  | some fn => match fn.body with
    | some c => match compileCode P glob fn.ntmps c hints, fn.results.toList.mapM (compileRes P) with
      | some (code, []), some rs => if callable P f = true then some ⟨code, rs, mode, fn.ntmps⟩ else none
      | _, _ => none
    | none => none
  | none => none

theorem compileOps_spec {P : Program} {glob : List Nat} {n : Nat} {ops : Array Oper} : ∀ (l : List Oper) (es : List EOper), compileOps P glob n ops l = some es →
    es.length = l.length ∧ ∀ (j : Nat) o e, l[j]? = some o → es[j]? = some e → OperOk P glob n o e ∧ compileGuard ops o.guard = some e.guard ∧ e.conf = []
  | [], es, h => by simp [compileOps] at h; subst h; exact ⟨rfl, by simp⟩
  | o :: r, es, h => by
    unfold compileOps at h
    split at h
    · rename_i e g es' h1 h2 h3
      rw [Option.ite_none_right_eq_some] at h
      obtain ⟨hc, h⟩ := h
      have h := Option.some.inj h
      subst h
      obtain ⟨i1, i2⟩ := compileOps_spec r es' h3
      refine ⟨by simp [i1], fun j o' e' ho he => ?_⟩
      cases j with
      | zero =>
        simp at ho he; subst ho he
        refine ⟨⟨h1, fun x hx => List.all_eq_true.1 hc.1 x (by simpa using hx), rfl, fun t ht => ?_⟩, h2, rfl⟩
        have := hc.2
        rw [ht] at this
        simpa using this
      | succ j => exact i2 j o' e' (by simpa using ho) (by simpa using he)
    · cases h

theorem decorate_spec (ops : Array Oper) (es : List EOper) : (decorate ops es).length = es.length ∧ ∀ (j : Nat) e, (decorate ops es)[j]? = some e → ∃ e0, es[j]? = some e0 ∧ e.op = e0.op ∧ e.dst = e0.dst ∧ e.guard = e0.guard := by
  unfold decorate
  refine ⟨by simp, fun j e h => ?_⟩
  simp only [List.getElem?_map, List.getElem?_zipIdx, Option.map_map, Option.map_eq_some_iff, Nat.zero_add] at h
  obtain ⟨e0, h0, rfl⟩ := h
  exact ⟨e0, h0, rfl, rfl, rfl⟩

section
variable {P : Program} {X : Fix} {C : Ctx}

theorem wanted_text {ops : Array Oper} {o : Oper} {e : EOper} {f : AFrame} {a : Act} {ρ : Ren} {b : Bool} (hg : compileGuard ops o.guard = some e.guard) (hw : EOper.wanted f e.guard = some b) (hf : FRel ρ f a.tmps) :
    Region.wanted o (yielded ops a.tmps) = b := by
  unfold compileGuard at hg
  split at hg
  · rename_i hgo
    rw [← Option.some.inj hg] at hw
    simp only [EOper.wanted, Option.some.injEq] at hw
    unfold Region.wanted; rw [hgo, ← hw]
  · rename_i g b' hgo
    split at hg
    · rename_i og hog
      split at hg
      · rename_i d hd
        rw [← Option.some.inj hg] at hw
        simp only [EOper.wanted] at hw
        unfold Region.wanted
        rw [hgo]
        simp only
        split at hw
        · rename_i b'' hb
          obtain ⟨v', q1, q2⟩ := hf d _ hb
          obtain rfl := q2.bool_inv
          rw [← Option.some.inj hw]
          simp [yielded, hog, hd, q1]
        · rename_i cs hu
          split at hw
          · obtain ⟨v', q1, q2⟩ := hf d _ hu
            obtain ⟨ys, rfl, hy⟩ := q2.tuple_inv
            rw [← Option.some.inj hw]
            simp [yielded, hog, hd, q1]
          · cases hw
        · cases hw
      · cases hg
    · cases hg

theorem undef_rel {ρ : Ren} : VRel ρ undef undef := .tuple rfl (fun i x y hx => by simp at hx)

theorem CI.skip {st : St} {a : Act} {w : World} (I : CI X C st a w) {d : Option Nat} (hd : ∀ t, d = some t → t < X.n) : CI X C ⟨st.f.put d undef, st.h⟩ (a.put d undef) w := by
  obtain ⟨⟨ρ, hf, r⟩, h1, h2, h3, h4, h5⟩ := I
  exact ⟨⟨ρ, hf.put (fun t ht => by rw [h4]; exact hd t ht) undef_rel, r⟩, h1, h2, by rw [put_defers']; exact h3, by rw [put_size]; exact h4, h5⟩

/-- A region in the order of the text. -/
theorem text_sound (A : Around P X C) {ops : Array Oper} {es : List EOper} (hok : ∀ (j : Nat) o e, ops[j]? = some o → es[j]? = some e → OperOk P C.glob X.n o e ∧ compileGuard ops o.guard = some e.guard) (hlen : es.length = ops.size)
    {Q : Exit → Act → World → Prop} : ∀ (m k : Nat) (l : Log) (st st' : St) (a : Act) (w : World), k + m = ops.size → runOps C (es.drop k) k l st = some st' → CI X C st a w →
      (∀ a' w', CI X C st' a' w' → Q .normal a' w') → wpOps P ops Q (List.range' k m) a w := by
  intro m
  induction m with
  | zero =>
    intro k l st st' a w hk hr hI hQ
    have : es.drop k = [] := by apply List.drop_eq_nil_of_le; omega
    rw [this] at hr
    simp only [runOps, Option.some.injEq] at hr
    subst hr
    simpa [wpOps] using hQ a w hI
  | succ m ih =>
    intro k l st st' a w hk hr hI hQ
    have hkl : k < es.length := by omega
    have hko : k < ops.size := by omega
    rw [List.drop_eq_getElem_cons hkl] at hr
    have ho : ops[k]? = some ops[k] := by simp
    have he : es[k]? = some es[k] := by simp
    obtain ⟨hop, hg⟩ := hok k _ _ ho he
    rw [List.range'_succ, wpOps_cons]
    unfold wpOp
    rw [ho]
    simp only
    unfold runOps at hr
    have hI' := hI
    obtain ⟨⟨ρ, hf, _⟩, _⟩ := hI'
    split at hr
    · rename_i hw
      rw [wanted_text hg hw hf, if_pos rfl]
      split at hr
      · rename_i v hh rd wr hx
        split at hr
        · cases hr
        · left
          exact exec_sound A hop hx hI fun a' w' hI' => ih (k + 1) _ _ _ _ _ (by omega) hr hI' hQ
      · cases hr
    · rename_i hw
      rw [wanted_text hg hw hf, if_neg (by simp)]
      have hI2 := hI.skip (d := es[k].dst) (fun t ht => hop.fits t (by rw [← hop.dst]; exact ht))
      rw [hop.dst] at hI2 hr
      exact ih (k + 1) _ _ _ _ _ (by omega) hr hI2 hQ
    · cases hr

theorem unl_lt {l : Array Bool} {j : Nat} (hj : j < l.size) (hl : l.getD j false = false) : ∀ (L : List Nat), j ∈ L →
    (L.filter fun i => !(l.setIfInBounds j true).getD i false).length < (L.filter fun i => !l.getD i false).length := by
  have hle : ∀ (L : List Nat), (L.filter fun i => !(l.setIfInBounds j true).getD i false).length ≤ (L.filter fun i => !l.getD i false).length := by
    intro L
    induction L with
    | nil => simp
    | cons i L ih =>
      simp only [List.filter_cons]
      by_cases h : l.getD i false = true
      · have : (l.setIfInBounds j true).getD i false = true := (isL_set (i := i) hj).2 (.inl h)
        rw [h, this]; simpa using ih
      · have h' : l.getD i false = false := by simpa using h
        rw [h']
        simp only [Bool.not_false, if_true, List.length_cons]
        split
        · simp only [List.length_cons]; omega
        · omega
  intro L
  induction L with
  | nil => intro h; simp at h
  | cons i L ih =>
    intro h
    simp only [List.filter_cons]
    by_cases hij : i = j
    · subst hij
      have : (l.setIfInBounds i true).getD i false = true := (isL_set (i := i) hj).2 (.inr rfl)
      rw [this, hl]
      have := hle L
      simp only [Bool.not_true, Bool.false_eq_true, if_false, Bool.not_false, if_true, List.length_cons]
      omega
    · have hm : j ∈ L := by
        rcases List.mem_cons.1 h with q | q
        · exact absurd q.symm hij
        · exact q
      have := ih hm
      by_cases hi : l.getD i false = true
      · have h2 : (l.setIfInBounds j true).getD i false = true := (isL_set (i := i) hj).2 (.inl hi)
        rw [hi, h2]; simpa using this
      · have hi' : l.getD i false = false := by simpa using hi
        have h2 : (l.setIfInBounds j true).getD i false = false := by
          cases q : (l.setIfInBounds j true).getD i false with
          | false => rfl
          | true =>
            rcases (isL_set (i := i) hj).1 q with p | p
            · exact absurd p hi
            · exact absurd p hij
        rw [hi', h2]
        simp only [Bool.not_false, if_true, List.length_cons]; omega

theorem all_listed {ops : Array Oper} {l : Array Bool} (hs : l.size = ops.size) (he : edgesOk ops = true) (hr : Region.ready .any ops l = []) : ∀ i, i < ops.size → isL l i := by
  intro i
  induction i using Nat.strongRecOn with
  | _ i ih =>
    intro hi
    cases hl : l.getD i false with
    | true => exact hl
    | false =>
      exfalso
      have hmem : i ∈ Region.ready .any ops l := by
        unfold Region.ready
        rw [List.mem_filter]
        refine ⟨by simpa using hi, ?_⟩
        have ho : ops[i]? = some ops[i] := by simp
        rw [ho]
        simp only [Option.map_some, Option.getD_some, Bool.and_eq_true, Bool.not_eq_true']
        refine ⟨?_, ?_⟩
        · rw [Array.getD_eq_getD_getElem?, Array.getElem?_eq_getElem (by omega)] at hl ⊢
          simpa using hl
        · rw [Array.all_eq_true_iff_forall_mem]
          intro e hem
          cases hb : Region.binds .any e with
          | false => rfl
          | true =>
            have h1 := List.all_eq_true.1 he i (by simpa using hi)
            rw [ho] at h1
            have h2 := List.all_eq_true.1 h1 e (by simpa using hem)
            simp only [hb, Bool.not_true, Bool.false_or, decide_eq_true_eq] at h2
            have := ih e.on h2 (by omega)
            simpa [isL] using this
      rw [hr] at hmem; simp at hmem

theorem Reg.kept {ops : Array Oper} {es : List EOper} {st st' : St} (R : Reg P X C ops es st st') (hk : Kept C.lim X.h0 st.h) : ∀ j, j ≤ ops.size → Kept C.lim X.h0 (R.T.H j) := by
  intro j
  induction j with
  | zero => intro _; rw [R.T.H0]; exact hk
  | succ j ih =>
    intro hj
    obtain ⟨o, e, _, he, _, _⟩ := R.op (show j < ops.size by omega)
    have h1 := ih (by omega)
    cases hw : R.T.Wn j with
    | true => exact h1.trans (R.facts (by omega) he hw).kept
    | false => rw [(R.T.skip j e he hw).2.1]; exact h1

/-- A region in any order. -/
theorem any_sound {ops : Array Oper} {es : List EOper} {st st' : St} (R : Reg P X C ops es st st') (hkept : Kept C.lim X.h0 st.h) {Q : Exit → Act → World → Prop} (hQ : ∀ a' w', CI X C st' a' w' → Q .normal a' w') :
    ∀ (fuel : Nat) (l : Array Bool) (a : Act) (w : World), ((List.range ops.size).filter fun i => !l.getD i false).length ≤ fuel → DInv R l a w → wpAny P .any ops Q fuel l a w := by
  have hedges : edgesOk ops = true := by
    have := R.draw; unfold drawOk at this; simp only [Bool.and_eq_true] at this; exact this.1
  have fin : ∀ (l : Array Bool) (a : Act) (w : World), (∀ i, i < ops.size → isL l i) → DInv R l a w → Q .normal a w := by
    intro l a w hall I
    obtain ⟨⟨ρ, g, hF, hs, hg, hdom, h0, hnew, _⟩, _, _, hframe, hdef, hsize⟩ := I
    refine hQ a w ⟨⟨ρ, ?_, ?_, ?_, h0, hnew⟩, ?_, hframe, hdef, hsize, ?_⟩
    · intro t u hu
      rw [← R.T.Fn] at hu
      rw [R.len] at hu
      obtain ⟨v', q1, q2⟩ := hF ops.size t u (Nat.le_refl _) hu fun i o ho _ => by
        have := (Array.getElem?_eq_some_iff.1 ho).1
        exact ⟨fun _ => this, fun _ => hall i this⟩
      exact ⟨v', q1, q2.mono (Ren.below_le _ _)⟩
    · have sub : ∀ x b L, st'.h.get x = some b → ρ x = some L → g x = some b := by
        intro x b L q1 q2
        rw [← R.T.Hn, R.len] at q1
        exact (hg x ops.size b L (Nat.le_refl _) (fun i hi _ => ⟨fun _ => hi, fun _ => hall i hi⟩) q1 q2).1
      exact ⟨fun i b L q1 q2 => hs.blk i b L (sub i b L q1 q2) q2, fun i b L q1 q2 q3 => hs.own i b L (sub i b L q1 q2) q2 q3,
        fun i k b c L M q q1 q2 q3 q4 q5 => hs.excl i k b c L M q (sub i b L q1 q4) q2 (sub k c M q3 q5) q4 q5⟩
    · intro x L hx
      rw [← R.T.Hn, R.len]
      rcases hdom x L hx with q | ⟨j, q1, _, _, q4⟩
      · have := (R.base_le ops.size (Nat.le_refl _)).2 0 (by omega); omega
      · have := (R.base_le ops.size (Nat.le_refl _)).2 (j + 1) (by omega); omega
    · rw [← R.T.Hn, R.len]; exact R.kept hkept _ (Nat.le_refl _)
    · rw [← R.T.Hn, R.len]; exact (R.base_le ops.size (Nat.le_refl _)).1
  intro fuel
  induction fuel with
  | zero =>
    intro l a w hf I
    have hall : ∀ i, i < ops.size → isL l i := by
      intro i hi
      cases hl : l.getD i false with
      | true => exact hl
      | false =>
        have hm : i ∈ (List.range ops.size).filter fun i => !l.getD i false := by rw [List.mem_filter]; exact ⟨by simpa using hi, by rw [hl]; rfl⟩
        have := List.length_pos_of_mem hm
        omega
    refine ⟨?_, fin l a w hall I⟩
    unfold Region.ready
    rw [List.filter_eq_nil_iff]
    intro i hi
    have hi' : i < ops.size := by simpa using hi
    have h1 := hall i hi'
    unfold isL at h1
    have hsl := I.sizeL
    rw [Array.getD_eq_getD_getElem?, Array.getElem?_eq_getElem (by omega)] at h1
    simp only [Bool.and_eq_true, Bool.not_eq_true', not_and]
    intro h2
    rw [Array.getD_eq_getD_getElem?, Array.getElem?_eq_getElem (by omega)] at h2
    simp at h1 h2
    rw [h1] at h2; cases h2
  | succ fuel ih =>
    intro l a w hf I
    refine ⟨fun hr => fin l a w (all_listed I.sizeL hedges hr) I, fun i hi => ?_⟩
    have N := next_of_ready R hi I.sizeL
    refine R.step I hi fun a' w' I' => ih _ _ _ ?_ I'
    have hl : l.getD i false = false := by
      cases q : l.getD i false with
      | false => rfl
      | true => exact absurd q N.out
    have := unl_lt (l := l) (j := i) (by rw [I.sizeL]; exact N.lt) hl (List.range ops.size) (by simpa using N.lt)
    omega

theorem CI.drew {st : St} {a : Act} {w : World} (I : CI X C st a w) : CI X C st a { w with drawn := w.drawn + 1 } := by
  obtain ⟨⟨ρ, hf, hs, r⟩, h1, h2, h3, h4, h5⟩ := I
  exact ⟨⟨ρ, hf, ⟨hs.blk, hs.own, hs.excl⟩, r⟩, h1, ⟨h2.os, h2.tape, h2.output, h2.size, h2.block⟩, h3, h4, h5⟩

theorem region_sound (A : Around P X C) (hmix : P.follows .mixedOrders = true) {id : Nat} {ops : Array Oper} {draw : Bool} {c : ECode} (hc : compileRegion P C.glob X.n ops draw = some c) {st st' : St} {ex : Ex} (hr : c.run C st = some (ex, st'))
    {a : Act} {w : World} (I : CI X C st a w) {Q : Exit → Act → World → Prop} (hQ2 : ∀ a' w', CI X C st' a' w' → Q .normal a' w') : ex = .normal ∧ (Code.region id ops draw).wp P Q a w := by
  unfold compileRegion at hc
  split at hc
  · rename_i es hes
    obtain ⟨l1, l2⟩ := compileOps_spec _ _ hes
    have hok : ∀ (j : Nat) o e, ops[j]? = some o → es[j]? = some e → OperOk P C.glob X.n o e ∧ compileGuard ops o.guard = some e.guard := fun j o e h1 h2 => ⟨(l2 j o e (by simpa using h1) h2).1, (l2 j o e (by simpa using h1) h2).2.1⟩
    split at hc
    · rename_i hd
      subst hd
      split at hc
      · rename_i hdraw
        cases hc
        simp only [ECode.run, Option.map_eq_some_iff] at hr
        obtain ⟨st1, hr, he⟩ := hr
        cases he
        obtain ⟨d1, d2⟩ := decorate_spec ops es
        obtain ⟨T, hL, hlog⟩ := trace_of _ _ _ _ _ hr
        have hok' : ∀ (j : Nat) o e, ops[j]? = some o → (decorate ops es)[j]? = some e → OperOk P C.glob X.n o e ∧ compileGuard ops o.guard = some e.guard := by
          intro j o e h1 h2
          obtain ⟨e0, q1, q2, q3, q4⟩ := d2 j e h2
          obtain ⟨⟨p1, p2, p3, p4⟩, p5⟩ := hok j o e0 h1 q1
          exact ⟨⟨by rw [q2]; exact p1, p2, by rw [q3]; exact p3, p4⟩, by rw [q4]; exact p5⟩
        let R : Reg P X C ops (decorate ops es) st st' := ⟨A, T, by rw [d1, l1]; simp, hok', hdraw, fun j e q1 q2 q3 => by have := hlog j e q1 q2 q3; simpa using this, I.len⟩
        refine ⟨rfl, wp_region_any hmix ?_⟩
        refine any_sound R I.kept hQ2 ops.size _ _ _ ?_ ?_
        · have := List.length_filter_le (fun i => !(Array.replicate ops.size false).getD i false) (List.range ops.size)
          simpa using this
        · obtain ⟨⟨ρ, hf, hs, hdm, h0, hnew⟩, h1, h2, h3, h4, h5⟩ := I.drew
          have nol : ∀ i, ¬ isL (Array.replicate ops.size false) i := by
            intro i q
            unfold isL at q
            rw [Array.getD_eq_getD_getElem?, Array.getElem?_replicate] at q
            split at q <;> simp at q
          have hbel : ∀ j0, j0 ≤ ops.size → ρ.le (ρ.below (R.T.H j0).length) := fun j0 hj0 => Ren.le_below ρ.le_refl fun i L q => by
            have := hdm i L q
            have := (R.base_le j0 hj0).2 0 (by omega)
            rw [R.T.H0] at this; omega
          refine ⟨⟨ρ, st.h.get, ?_, hs, ?_, ?_, h0, hnew, fun i x _ q => absurd q (nol i)⟩, fun i o q => absurd q (nol i), by simp, h2, h3, h4⟩
          · intro j0 t u hj0 hu hct
            have : (R.T.F j0).get t = (R.T.F 0).get t := by
              refine unwritten_get (fun j e he => R.T.next j e he) R.len j0 (by omega) hj0 fun k e _ hk he hd => ?_
              obtain ⟨o, e', ho, he', hoo, _⟩ := R.op (show k < ops.size by omega)
              rw [he] at he'; cases he'
              exact nol k ((hct k o ho (by rw [← hoo.dst]; exact hd)).2 hk)
            rw [this, R.T.F0] at hu
            obtain ⟨v', q1, q2⟩ := hf t u hu
            exact ⟨v', q1, q2.mono (hbel j0 hj0)⟩
          · intro x j0 b L hj0 hct hb hLx
            suffices hst : st.h.get x = some b from ⟨hst, (hs.blk x b L hst hLx).mono (hbel j0 hj0)⟩
            have hx : ∀ k, 0 ≤ k → k < j0 → ¬ R.touch x k := fun k _ hk ht => nol k ((hct k (by omega) ht).2 hk)
            by_cases hx0 : x < (R.T.H 0).length
            · rw [R.untouched_range j0 (by omega) hj0 hx0 hx, R.T.H0] at hb; exact hb
            · exfalso
              have hlt := Heap.get_lt hb
              -- made on the way
              have born : ∀ j, j ≤ j0 → x < (R.T.H j).length → ∃ k, k < j ∧ (R.T.H k).length ≤ x ∧ x < (R.T.H (k + 1)).length := by
                intro j
                induction j with
                | zero => intro _ h; exact absurd h hx0
                | succ j ihj =>
                  intro hj h
                  by_cases hq : x < (R.T.H j).length
                  · obtain ⟨k, k1, k2⟩ := ihj (by omega) hq
                    exact ⟨k, by omega, k2⟩
                  · exact ⟨j, by omega, by omega, h⟩
              obtain ⟨k, k1, k2, k3⟩ := born j0 (Nat.le_refl _) hlt
              exact hx k (by omega) k1 (.inr (.inl ⟨k2, k3⟩))
          · intro x L hx; rw [R.T.H0]; exact .inl (hdm x L hx)
      · cases hc
    · rename_i hd
      have hd : draw = false := by simpa using hd
      subst hd
      cases hc
      simp only [ECode.run, Option.map_eq_some_iff] at hr
      obtain ⟨st1, hr, he⟩ := hr
      cases he
      refine ⟨rfl, wp_region ?_⟩
      rw [List.range_eq_range']
      exact text_sound A hok (by rw [l1]; simp) ops.size 0 [] st st' a w (by omega) (by simpa using hr) I hQ2
  · cases hc
end
end Go.Abs
/- Code, functions, programs: what the abstract evaluator gives, the program gives. -/
namespace Go.Abs

def exRel : Ex → Exit → Prop
  | .normal, .normal => True
  | .exit i, .exit j => i = j
  | .ret, .ret => True
  | _, _ => False

/-- Behind code. -/
def Post (X : Fix) (C : Ctx) (ex : Ex) (st : St) : Exit → Act → World → Prop := fun e a w => exRel ex e ∧ CI X C st a w

theorem only_rel {ρ : Ren} {f : AFrame} {tmps : Array Value} (hf : FRel ρ f tmps) : ∀ {l : List Nat} {vs : List Value}, f.only l = some vs → LRel (VRel ρ) vs (l.map fun t => tmps.getD t undef) ∧ ∀ t ∈ l, t < tmps.size
  | [], vs, h => by simp [AFrame.only] at h; subst h; exact ⟨trivial, by simp⟩
  | t :: l, vs, h => by
    unfold AFrame.only at h
    split at h
    · rename_i v vs' hv hvs
      cases h
      obtain ⟨h1, h2⟩ := only_rel hf hvs
      obtain ⟨v', q1, q2⟩ := hf t v hv
      have hlt := (Array.getElem?_eq_some_iff.1 q1).1
      refine ⟨⟨?_, h1⟩, ?_⟩
      · show VRel ρ v (tmps.getD t undef)
        rw [Array.getD_eq_getD_getElem?, q1]; exact q2
      · intro s hs
        rcases List.mem_cons.1 hs with rfl | q
        · exact hlt
        · exact h2 s q
    · cases h

theorem zip_rel {ρ : Ren} {tmps : Array Value} : ∀ {l : List Nat} {vs : List Value}, LRel (VRel ρ) vs (l.map fun t => tmps.getD t undef) → (∀ t ∈ l, t < tmps.size) → FRel ρ (l.zip vs) tmps
  | [], vs, _, _ => fun t v h => by simp [AFrame.get] at h
  | t :: l, [], h, _ => h.elim
  | t :: l, v :: vs, h, hs => by
    intro s u hu
    simp only [List.zip_cons_cons, AFrame.get] at hu
    by_cases q : t = s
    · subst q
      simp at hu; subst hu
      have := hs t (by simp)
      refine ⟨tmps[t], by simp [this], ?_⟩
      have h1 : VRel ρ v (tmps.getD t undef) := h.1
      rw [Array.getD_eq_getD_getElem?, Array.getElem?_eq_getElem this] at h1
      exact h1
    · rw [if_neg q] at hu
      exact zip_rel h.2 (fun x hx => hs x (by simp [hx])) s u hu

section
variable {P : Program} {X : Fix} {C : Ctx}

/-- What a function needs to know of the heap that it found. -/
structure Old (X : Fix) (C : Ctx) : Prop where
  gc : C.gc = true → C.lim = X.h0.length
  old : ∀ i b L, X.h0.get i = some b → X.ρ0 i = some L → ∀ v ∈ b.cells, ∃ v0, VRel X.ρ0 v v0

theorem tidy_sound (A : Around P X C) (O : Old X C) {live : Option (List Nat)} {st st' : St} (h : St.tidy C live st = some st') {a : Act} {w : World} (I : CI X C st a w) : CI X C st' a w := by
  unfold St.tidy at h
  split at h
  · cases h; exact I
  · rename_i l
    split at h
    · rename_i vs hvs
      obtain ⟨⟨ρ, hf, hs, hd, h0, hnew⟩, hk, hfr, hdef, hsz, hlen⟩ := I
      obtain ⟨r1, r2⟩ := only_rel hf hvs
      split at h
      · rename_i hgc
        split at h
        · rename_i vs' bs hc
          cases h
          rw [A.base] at hc ⊢
          have hk' : Kept X.h0.length X.h0 st.h := by rw [← O.gc hgc]; exact hk
          obtain ⟨ρ', q1, q2, q3, q4, q5⟩ := collect_spec hc hs hd hlen (fun i L e1 e2 => hnew i L e1 e2) r1 hk' h0 O.old A.dom
          refine ⟨⟨ρ', zip_rel q2 r2, q3, q4, fun i hi => by rw [q1 i hi]; exact h0 i hi, q5⟩, ?_, hfr, hdef, hsz, ?_⟩
          · have hkk : Kept X.h0.length st.h (st.h.take X.h0.length ++ bs) := Kept.of_same fun i hi => by
              rw [Heap.get_append_lt (by simp; omega)]
              simp [Heap.get, hi]
            exact hk.trans (hkk.mono A.lim)
          · simp; omega
        · cases h
      · cases h
        exact ⟨⟨ρ, zip_rel r1 r2, hs, hd, h0, hnew⟩, hk, hfr, hdef, hsz, hlen⟩
    · cases h

theorem code_sound (A : Around P X C) (O : Old X C) (hmix : P.follows .mixedOrders = true) : ∀ (c : Code) (hs hs' : List (Option (List Nat))) (ec : ECode), compileCode P C.glob X.n c hs = some (ec, hs') →
    ∀ (st st' : St) (ex : Ex), ec.run C st = some (ex, st') → ∀ a w, CI X C st a w → c.wp P (Post X C ex st') a w := by
  intro c
  induction c with
  | skip =>
    intro hs hs' ec hc st st' ex hr a w I
    simp only [compileCode, Option.some.injEq, Prod.mk.injEq] at hc
    obtain ⟨rfl, _⟩ := hc
    simp only [ECode.run, Option.some.injEq, Prod.mk.injEq] at hr
    obtain ⟨rfl, rfl⟩ := hr
    exact wp_skip ⟨trivial, I⟩
  | region id ops draw =>
    intro hs hs' ec hc st st' ex hr a w I
    simp only [compileCode, Option.map_eq_some_iff, Prod.mk.injEq] at hc
    obtain ⟨c', hc, rfl, _⟩ := hc
    obtain ⟨hex, _⟩ := region_sound A hmix (id := id) hc hr I (Q := fun _ _ _ => True) (fun _ _ _ => trivial)
    subst hex
    exact (region_sound A hmix (id := id) hc hr I (Q := Post X C .normal st') (fun a' w' I' => ⟨trivial, I'⟩)).2
  | seq x y ihx ihy =>
    intro hs hs' ec hc st st' ex hr a w I
    simp only [compileCode] at hc
    split at hc
    · rename_i x' hs1 hx
      split at hc
      · rename_i y' hs2 hy
        simp only [Option.some.injEq, Prod.mk.injEq] at hc
        obtain ⟨rfl, _⟩ := hc
        simp only [ECode.run] at hr
        split at hr
        · rename_i st1 h1
          refine wp_seq (wp_mono (ihx _ _ _ hx _ _ _ h1 a w I) ?_)
          rintro e a1 w1 ⟨he, I1⟩
          cases e <;> simp only [exRel] at he
          exact ihy _ _ _ hy _ _ _ hr a1 w1 I1
        · rename_i h1
          refine wp_seq (wp_mono (ihx _ _ _ hx _ _ _ hr a w I) ?_)
          rintro e a1 w1 ⟨he, I1⟩
          cases e with
          | normal =>
            exfalso
            cases ex <;> simp only [exRel] at he
            exact h1 _ hr
          | exit id => exact ⟨he, I1⟩
          | goto l => exact ⟨he, I1⟩
          | ret => exact ⟨he, I1⟩
          | panic ch => exact ⟨he, I1⟩
          | outgrown => exact ⟨he, I1⟩
      · cases hc
    · cases hc
  | cond cnd x y ihx ihy =>
    intro hs hs' ec hc st st' ex hr a w I
    simp only [compileCode] at hc
    split at hc
    · rename_i hopd
      split at hc
      · rename_i x' hs1 hx
        split at hc
        · rename_i y' hs2 hy
          simp only [Option.some.injEq, Prod.mk.injEq] at hc
          obtain ⟨rfl, _⟩ := hc
          simp only [ECode.run] at hr
          split at hr
          · rename_i t ht
            obtain ⟨⟨ρ, hf, _, _, h0, _⟩, _⟩ := id I
            have hv := (eval_rel hf (A.globOk h0) hopd ht).bool_inv
            refine wp_cond hv ?_
            cases t
            · exact ihy _ _ _ hy _ _ _ (by simpa using hr) a w I
            · exact ihx _ _ _ hx _ _ _ (by simpa using hr) a w I
          · cases hr
        · cases hc
      · cases hc
    · cases hc
  | block id b ih =>
    intro hs hs' ec hc st st' ex hr a w I
    simp only [compileCode, Option.map_eq_some_iff, Prod.mk.injEq] at hc
    obtain ⟨⟨b', hs1⟩, hb, rfl, _⟩ := hc
    simp only [ECode.run] at hr
    split at hr
    · rename_i j st1 h1
      refine wp_block (wp_mono (ih _ _ _ hb _ _ _ h1 a w I) ?_)
      rintro e a1 w1 ⟨he, I1⟩
      cases e <;> simp only [exRel] at he
      subst he
      simp only [Exit.inBlock]
      split at hr
      · rename_i hj
        cases hr
        rw [if_pos hj]; exact ⟨trivial, I1⟩
      · rename_i hj
        cases hr
        rw [if_neg hj]; exact ⟨rfl, I1⟩
    · rename_i h1
      refine wp_block (wp_mono (ih _ _ _ hb _ _ _ hr a w I) ?_)
      rintro e a1 w1 ⟨he, I1⟩
      cases e with
      | normal => exact ⟨he, I1⟩
      | exit j =>
        exfalso
        cases ex <;> simp only [exRel] at he
        exact h1 _ _ hr
      | goto l => exact ⟨he, I1⟩
      | ret => exact ⟨he, I1⟩
      | panic ch => exact ⟨he, I1⟩
      | outgrown => exact ⟨he, I1⟩
  | loop b ih =>
    intro hs hs' ec hc st st' ex hr a w I
    cases hs with
    | nil => simp [compileCode] at hc
    | cons live hs =>
      simp only [compileCode, Option.map_eq_some_iff, Prod.mk.injEq] at hc
      obtain ⟨⟨b', hs1⟩, hb, rfl, _⟩ := hc
      simp only [ECode.run] at hr
      have key : ∀ (k : Nat) (st : St) (a : Act) (w : World), iter (ECode.run C b') (St.tidy C live) k st = some (ex, st') → CI X C st a w → Code.rounds P b (Post X C ex st') k a w := by
        intro k
        induction k with
        | zero => intro st a w h; simp [iter] at h
        | succ k ihk =>
          intro st a w h I
          unfold iter at h
          split at h
          · cases h
          · rename_i st1 ht
            have I1 := tidy_sound A O ht I
            rw [rounds_succ]
            split at h
            · rename_i st2 h2
              refine wp_mono (ih _ _ _ hb _ _ _ h2 a w I1) ?_
              rintro e a1 w1 ⟨he, I2⟩
              cases e <;> simp only [exRel] at he
              exact ihk st2 a1 w1 h I2
            · rename_i h2
              refine wp_mono (ih _ _ _ hb _ _ _ h a w I1) ?_
              rintro e a1 w1 ⟨he, I2⟩
              cases e with
              | normal =>
                exfalso
                cases ex <;> simp only [exRel] at he
                exact h2 _ h
              | exit j => exact ⟨he, I2⟩
              | goto l => exact ⟨he, I2⟩
              | ret => exact ⟨he, I2⟩
              | panic ch => exact ⟨he, I2⟩
              | outgrown => exact ⟨he, I2⟩
      exact wp_loop_rounds C.fuel (key C.fuel st a w hr I)
  | exit id =>
    intro hs hs' ec hc st st' ex hr a w I
    simp only [compileCode, Option.some.injEq, Prod.mk.injEq] at hc
    obtain ⟨rfl, _⟩ := hc
    simp only [ECode.run, Option.some.injEq, Prod.mk.injEq] at hr
    obtain ⟨rfl, rfl⟩ := hr
    exact wp_exit ⟨rfl, I⟩
  | ret =>
    intro hs hs' ec hc st st' ex hr a w I
    simp only [compileCode, Option.some.injEq, Prod.mk.injEq] at hc
    obtain ⟨rfl, _⟩ := hc
    simp only [ECode.run, Option.some.injEq, Prod.mk.injEq] at hr
    obtain ⟨rfl, rfl⟩ := hr
    exact wp_ret ⟨trivial, I⟩
  | rangeFunc _ _ _ _ _ _ => intro hs hs' ec hc; simp [compileCode] at hc
  | scope _ _ => intro hs hs' ec hc; simp [compileCode] at hc
  | label _ => intro hs hs' ec hc; simp [compileCode] at hc
  | goto _ => intro hs hs' ec hc; simp [compileCode] at hc
  | refuse _ => intro hs hs' ec hc; simp [compileCode] at hc
end

/-- The results of a function. -/
theorem results_sound {P : Program} {fn : Func} {rs : List ERes} (hc : fn.results.toList.mapM (compileRes P) = some rs) {st : St} {vs : List Value} (hr : rs.mapM (ERes.get st) = some vs) {ρ : Ren} {Own : Nat → Prop} {a : Act} {w : World}
    (hf : FRel ρ st.f a.tmps) (hs : Sim Own ρ st.h.get w) : ∃ v', (results fn a.tmps).run P w = .ok v' w ∧ VRel ρ (retVal vs) v' := by
  have one : ∀ (x : ResultVar) (r : ERes) (v : Value), compileRes P x = some r → r.get st = some v → ∃ v', (match x with
      | .tmp t => pure (a.tmps.getD t undef)
      | .cell p t => do loadVar t (← asAddr (a.tmps.getD p undef)) : Sem Value).run P w = .ok v' w ∧ VRel ρ v v' := by
    intro x r v hx hr
    cases x with
    | tmp t =>
      simp only [compileRes, Option.some.injEq] at hx; subst hx
      obtain ⟨v', q1, q2⟩ := hf t v hr
      refine ⟨v', ?_, q2⟩
      simp only [Array.getD_eq_getD_getElem?, q1, Option.getD_some, Sem.run_pure]
    | cell p ty =>
      simp only [compileRes] at hx
      split at hx
      · rename_i g s hg hsz
        cases hx
        simp only [ERes.get] at hr
        split at hr
        · rename_i b off hp
          obtain ⟨v0, q1, q2⟩ := hf p _ hp
          obtain ⟨L, hL, hpe⟩ := q2.ptr_inv
          have hkd := q2.ptr_kind hL
          subst hpe
          have e1 : a.tmps.getD p undef = .pointer (some ⟨L.blk, L.off + off, none⟩) := by rw [Array.getD_eq_getD_getElem?, q1]; rfl
          split at hr
          · rename_i k hk
            have hb := hs.blk b k L hk hL
            split at hr
            · rename_i hgt
              subst hgt
              split at hr
              · rename_i hle
                cases hr
                obtain ⟨us, r1, r2, r3⟩ := hb.cells hkd hle
                refine ⟨.agg us.toArray, ?_, VRel.agg_mk r1⟩
                simp only [e1, asAddr, Sem.run_bind, Sem.run_pure, Result.andThen_ok]
                exact run_loadVar_agg hg hsz us r2 r3
              · cases hr
            · rename_i hgf
              have hgf : g = false := by simpa using hgf
              subst hgf
              obtain ⟨cur, e, fz, c1, c2, c3, _, c5⟩ := hb.1 hkd
              obtain ⟨v', q1, q2⟩ := c5 _ _ hr
              refine ⟨v', ?_, q2⟩
              simp only [e1, asAddr, Sem.run_bind, Sem.run_pure, Result.andThen_ok]
              exact run_loadVar_one hg (by rw [cell_at c1]; exact q1)
          · cases hr
        · cases hr
      · cases hx
  have all : ∀ (xs : List ResultVar) (rs : List ERes) (vs : List Value), xs.mapM (compileRes P) = some rs → rs.mapM (ERes.get st) = some vs →
      ∃ us, (xs.mapM fun x => (match x with
        | .tmp t => pure (a.tmps.getD t undef)
        | .cell p t => do loadVar t (← asAddr (a.tmps.getD p undef)) : Sem Value)).run P w = .ok us w ∧ LRel (VRel ρ) vs us := by
    intro xs
    induction xs with
    | nil =>
      intro rs vs h1 h2
      simp at h1; subst h1
      simp at h2; subst h2
      exact ⟨[], by simp, trivial⟩
    | cons x xs ih =>
      intro rs vs h1 h2
      rw [List.mapM_cons] at h1
      simp only [bind, Option.bind_eq_some_iff, pure, Option.some.injEq] at h1
      obtain ⟨r, hr, rs', hrs, rfl⟩ := h1
      rw [List.mapM_cons] at h2
      simp only [bind, Option.bind_eq_some_iff, pure, Option.some.injEq] at h2
      obtain ⟨v, hv, vs', hvs, rfl⟩ := h2
      obtain ⟨v', q1, q2⟩ := one x r v hr hv
      obtain ⟨us, q3, q4⟩ := ih rs' vs' hrs hvs
      refine ⟨v' :: us, ?_, q2, q4⟩
      rw [List.mapM_cons]
      simp only [Sem.run_bind, q1, Result.andThen_ok, q3, Sem.run_pure]
  obtain ⟨us, q1, q2⟩ := all _ _ _ hc hr
  refine ⟨if h : us.toArray.size = 1 then us.toArray[0] else .tuple us.toArray, ?_, ?_⟩
  · unfold results
    rw [Array.mapM_eq_mapM_toList]
    simp only [Sem.run_bind, Sem.run_map, Sem.run_pure]
    exact congrArg (fun r : Result (List Value) => (r.andThen fun a w' => Result.ok a.toArray w').andThen fun (a : Array Value) w' => Result.ok (if h : a.size = 1 then a[0] else .tuple a) w') q1
  · match vs, us, q2 with
    | [v], [u], q2 => exact q2.1
    | [], [], q2 => exact .tuple rfl (fun i x y hx => by simp at hx)
    | v1 :: v2 :: vs, u1 :: u2 :: us, q2 =>
      rw [dif_neg (by simp)]
      exact VRel.tuple_mk q2

theorem argFrame_rel {ρ : Ren} {pre : List Value} : ∀ {vs us : List Value} {k : Nat} {rest : List Value}, LRel (VRel ρ) vs us → pre.length = k → FRel ρ (argFrame k vs) (pre ++ us ++ rest).toArray
  | [], [], k, rest, _, _ => fun t v h => by simp [argFrame, AFrame.get] at h
  | v :: vs, u :: us, k, rest, h, hk => by
    intro t x hx
    simp only [argFrame, AFrame.get] at hx
    by_cases q : k = t
    · subst q
      simp at hx; subst hx
      refine ⟨u, ?_, h.1⟩
      rw [← hk]; simp
    · rw [if_neg q] at hx
      have := argFrame_rel (pre := pre ++ [u]) (rest := rest) h.2 (by simp [hk]) t x hx
      simpa using this
  | [], _ :: _, _, _, h, _ => h.elim
  | _ :: _, [], _, _, h, _ => h.elim

/-- What the abstract code leaves, in the abstract alone. -/
theorem exec_kept {P : Program} {C : Ctx} (hcall : ∀ lim f vs h v h', lim ≤ h.length → C.call lim f vs h = some (v, h') → CallOk P C.glob f lim vs h v h') {e : EOp} {frz : Bool} {f : AFrame} {h h' : Heap} {v : Value} {rd wr : List Nat}
    (hl : C.lim ≤ h.length) (hx : e.exec C frz f h = some (v, h', rd, wr)) : h.length ≤ h'.length ∧ Kept C.lim h h' := by
  cases e
  case call gf args =>
    simp only [EOp.exec] at hx
    split at hx
    · simp only [Option.map_eq_some_iff] at hx
      obtain ⟨⟨u, k⟩, hc, hx⟩ := hx
      cases hx
      obtain ⟨_, q2, q3, _⟩ := callAt_ok hcall hl hc
      exact ⟨q2, q3⟩
    · cases hx
  case callVal x args =>
    simp only [EOp.exec] at hx
    split at hx
    · simp only [Option.map_eq_some_iff] at hx
      obtain ⟨⟨u, k⟩, hc, hx⟩ := hx
      cases hx
      obtain ⟨_, q2, q3, _⟩ := callAt_ok hcall hl hc
      exact ⟨q2, q3⟩
    · cases hx
  all_goals
    simp only [EOp.exec, Option.map_eq_some_iff] at hx
    obtain ⟨out, hr, hx⟩ := hx
    cases hx
    exact ⟨Eff.length_le _ _, EOp.run_kept hr hl⟩

theorem ops_kept {P : Program} {C : Ctx} (hcall : ∀ lim f vs h v h', lim ≤ h.length → C.call lim f vs h = some (v, h') → CallOk P C.glob f lim vs h v h') : ∀ (es : List EOper) (k : Nat) (l : Log) (st st' : St), C.lim ≤ st.h.length → runOps C es k l st = some st' →
    st.h.length ≤ st'.h.length ∧ Kept C.lim st.h st'.h
  | [], k, l, st, st', _, h => by simp [runOps] at h; subst h; exact ⟨Nat.le_refl _, .refl _ _⟩
  | e :: es, k, l, st, st', hl, h => by
    unfold runOps at h
    split at h
    · split at h
      · rename_i v hh rd wr hx
        split at h
        · cases h
        · obtain ⟨q1, q2⟩ := exec_kept hcall hl hx
          obtain ⟨q3, q4⟩ := ops_kept hcall es _ _ _ _ (by simp only; omega) h
          exact ⟨by simp only at q3; omega, q2.trans q4⟩
      · cases h
    · exact ops_kept hcall es _ _ ⟨st.f.put e.dst undef, st.h⟩ _ hl h
    · cases h

theorem code_kept {P : Program} {C : Ctx} (hcall : ∀ lim f vs h v h', lim ≤ h.length → C.call lim f vs h = some (v, h') → CallOk P C.glob f lim vs h v h') (hlb : C.lim ≤ C.base) : ∀ (c : ECode) (st st' : St) (ex : Ex), C.base ≤ st.h.length → c.run C st = some (ex, st') →
    C.base ≤ st'.h.length ∧ Kept C.lim st.h st'.h := by
  intro c
  induction c with
  | skip => intro st st' ex hb hr; simp only [ECode.run, Option.some.injEq, Prod.mk.injEq] at hr; obtain ⟨_, rfl⟩ := hr; exact ⟨hb, .refl _ _⟩
  | exit id => intro st st' ex hb hr; simp only [ECode.run, Option.some.injEq, Prod.mk.injEq] at hr; obtain ⟨_, rfl⟩ := hr; exact ⟨hb, .refl _ _⟩
  | ret => intro st st' ex hb hr; simp only [ECode.run, Option.some.injEq, Prod.mk.injEq] at hr; obtain ⟨_, rfl⟩ := hr; exact ⟨hb, .refl _ _⟩
  | region draw ops =>
    intro st st' ex hb hr
    simp only [ECode.run, Option.map_eq_some_iff] at hr
    obtain ⟨st1, hr, he⟩ := hr
    cases he
    obtain ⟨q1, q2⟩ := ops_kept hcall _ _ _ _ _ (by omega) hr
    exact ⟨by omega, q2⟩
  | seq a b iha ihb =>
    intro st st' ex hb hr
    simp only [ECode.run] at hr
    split at hr
    · rename_i st1 h1
      obtain ⟨q1, q2⟩ := iha _ _ _ hb h1
      obtain ⟨q3, q4⟩ := ihb _ _ _ q1 hr
      exact ⟨q3, q2.trans q4⟩
    · exact iha _ _ _ hb hr
  | cond c a b iha ihb =>
    intro st st' ex hb hr
    simp only [ECode.run] at hr
    split at hr
    · split at hr
      · exact iha _ _ _ hb hr
      · exact ihb _ _ _ hb hr
    · cases hr
  | block id b ih =>
    intro st st' ex hb hr
    simp only [ECode.run] at hr
    split at hr
    · rename_i j st1 h1
      obtain ⟨q1, q2⟩ := ih _ _ _ hb h1
      split at hr <;> cases hr <;> exact ⟨q1, q2⟩
    · exact ih _ _ _ hb hr
  | loop live b ih =>
    intro st st' ex hb hr
    simp only [ECode.run] at hr
    have tk : ∀ (st st' : St), C.base ≤ st.h.length → St.tidy C live st = some st' → C.base ≤ st'.h.length ∧ Kept C.lim st.h st'.h := by
      intro st st' hb h
      unfold St.tidy at h
      split at h
      · cases h; exact ⟨hb, .refl _ _⟩
      · split at h
        · split at h
          · split at h
            · cases h
              refine ⟨by simp; omega, Kept.of_same fun i hi => ?_⟩
              rw [Heap.get_append_lt (by simp; omega)]
              simp [Heap.get, show i < C.base by omega]
            · cases h
          · cases h; exact ⟨hb, .refl _ _⟩
        · cases h
    have key : ∀ (k : Nat) (st : St), C.base ≤ st.h.length → iter (ECode.run C b) (St.tidy C live) k st = some (ex, st') → C.base ≤ st'.h.length ∧ Kept C.lim st.h st'.h := by
      intro k
      induction k with
      | zero => intro st _ h; simp [iter] at h
      | succ k ihk =>
        intro st hb h
        unfold iter at h
        split at h
        · cases h
        · rename_i st1 ht
          obtain ⟨q1, q2⟩ := tk _ _ hb ht
          split at h
          · rename_i st2 h2
            obtain ⟨q3, q4⟩ := ih _ _ _ q1 h2
            obtain ⟨q5, q6⟩ := ihk st2 q3 h
            exact ⟨q5, q2.trans (q4.trans q6)⟩
          · obtain ⟨q3, q4⟩ := ih _ _ _ q1 h
            exact ⟨q3, q2.trans q4⟩
    exact key C.fuel st hb hr

/-- A function's body. -/
theorem body_ok {P : Program} (hmix : P.follows .mixedOrders = true) {f : FuncId} {hints : List (Option (List Nat))} {mode : FMode} {F : EFun} {C : Ctx} (hF : compileFun P C.glob f hints mode = some F) {vs : List Value} {h h' : Heap} {v : Value}
    (hbase : C.base = h.length) (hlim : C.lim ≤ h.length) (hgc : C.gc = true → C.lim = h.length)
    (hcall : ∀ lim f vs h v h', lim ≤ h.length → C.call lim f vs h = some (v, h') → CallOk P C.glob f lim vs h v h') (hr : F.run C vs h = some (v, h')) : CallOk P C.glob f C.lim vs h v h' := by
  unfold compileFun at hF
  split at hF
  · rename_i fn hfn
    split at hF
    · rename_i c hbody
      split at hF
      · rename_i code rs hcode hrs
        split at hF
        · rename_i hcl
          cases hF
          unfold EFun.run at hr
          simp only at hr
          split at hr
          · rename_i hargs
            have main : ∀ (ex : Ex) (st : St), code.run C ⟨argFrame 0 vs, h⟩ = some (ex, st) → (ex = .normal ∨ ex = .ret) → (rs.mapM (ERes.get st)).map (fun vs => (retVal vs, st.h)) = some (v, h') → CallOk P C.glob f C.lim vs h v h' := by
              intro ex st hrun hex hres
              simp only [Option.map_eq_some_iff, Prod.mk.injEq] at hres
              obtain ⟨us, hus, rfl, rfl⟩ := hres
              obtain ⟨k1, k2⟩ := code_kept hcall (by omega) code _ _ _ (by simp only; omega) hrun
              refine ⟨hcl, by omega, k2, ?_⟩
              intro ρ w Own args hown hglob hs hd hrel
              let X : Fix := ⟨Own, ρ, h, w, fn.ntmps⟩
              have A : Around P X C := ⟨hown, hglob, hd, hbase, hlim, hcall⟩
              have O : Old X C := ⟨hgc, fun i b L e1 e2 v hv => (hs.blk i b L e1 e2).rel hv⟩
              have hlen := hrel.len
              have hsz : (args.toArray ++ Array.replicate (fn.ntmps - args.toArray.size) undef).size = fn.ntmps := by simp; omega
              have I0 : CI X C ⟨argFrame 0 vs, h⟩ { tmps := args.toArray ++ Array.replicate (fn.ntmps - args.toArray.size) undef, defers := [] } w := by
                refine ⟨⟨ρ, ?_, hs, hd, fun _ _ => rfl, fun i L e1 e2 => ?_⟩, .refl _ _, .refl _ _, rfl, hsz, Nat.le_refl _⟩
                · have := argFrame_rel (pre := []) (rest := List.replicate (fn.ntmps - args.toArray.size) undef) hrel rfl
                  have e : ([] ++ args ++ List.replicate (fn.ntmps - args.toArray.size) undef).toArray = args.toArray ++ Array.replicate (fn.ntmps - args.toArray.size) undef := Array.ext' (by simp)
                  rw [e] at this
                  exact this
                · have := hd i L e1
                  simp only [X] at e2; omega
              refine calls_of_wp hfn hbody (wp_mono (code_sound A O hmix c _ _ _ hcode _ _ _ hrun _ w I0) ?_)
              rintro e a' w' ⟨he, ⟨⟨ρ', hf, hs', hd', h0', hnew'⟩, _, hfr, hdef, _, _⟩⟩
              obtain ⟨v', r1, r2⟩ := results_sound hrs hus hf hs'
              have goal : a'.defers = [] ∧ ∃ v, (results fn a'.tmps).run P w' = .ok v w' ∧ ∃ v' ρ', Ending.returned v = .returned v' ∧ (∀ i, i < h.length → ρ' i = ρ i) ∧ VRel ρ' (retVal us) v' ∧ Sim Own ρ' st.h.get w' ∧
                  (∀ i L, ρ' i = some L → i < st.h.length) ∧ (∀ i L, ρ' i = some L → h.length ≤ i → Own L.blk) ∧ Frame Own w w' :=
                ⟨hdef, v', r1, v', ρ', rfl, h0', r2, hs', hd', hnew', hfr⟩
              rcases hex with rfl | rfl
              · cases e <;> simp only [exRel] at he
                exact goal
              · cases e <;> simp only [exRel] at he
                exact goal
            split at hr
            · rename_i st hrun; exact main _ st hrun (.inl rfl) hr
            · rename_i st hrun; exact main _ st hrun (.inr rfl) hr
            · cases hr
          · cases hr
        · cases hF
      · cases hF
    · cases hF
  · cases hF

theorem CallOk.mono {P : Program} {glob : List Nat} {f : FuncId} {lim lim' : Nat} {vs : List Value} {h h' : Heap} {v : Value} (hc : CallOk P glob f lim vs h v h') (hl : lim' ≤ lim) : CallOk P glob f lim' vs h v h' :=
  ⟨hc.1, hc.2.1, hc.2.2.1.mono hl, hc.2.2.2⟩

/-- Behind a call: what is not reached is forgotten. -/
theorem collect_ok {P : Program} {glob : List Nat} {f : FuncId} {vs : List Value} {h h1 : Heap} {v v' : Value} {bs : List (Option Blk)} (hc : CallOk P glob f h.length vs h v h1) (hcol : collect h.length [v] h1 = some ([v'], bs)) :
    CallOk P glob f h.length vs h v' (h1.take h.length ++ bs) := by
  obtain ⟨c1, c2, c3, c4⟩ := hc
  have hlen : (h1.take h.length).length = h.length := by simp; omega
  have same : ∀ i, i < h.length → Heap.get (h1.take h.length ++ bs) i = h1.get i := by
    intro i hi
    rw [Heap.get_append_lt (by omega)]
    simp [Heap.get, hi]
  refine ⟨c1, by simp; omega, ?_, ?_⟩
  · exact c3.trans (Kept.of_same same)
  · intro ρ w Own args hown hg hs hd hr
    refine (c4 ρ w Own args hown hg hs hd hr).mono ?_
    rintro e w' ⟨u, ρ', rfl, q1, q2, q3, q4, q5, q6⟩
    have hold : ∀ i b L, h.get i = some b → ρ i = some L → ∀ v ∈ b.cells, ∃ v0, VRel ρ v v0 := by
      intro i b L e1 e2 v hv
      exact (hs.blk i b L e1 e2).rel hv
    obtain ⟨ρ2, p1, p2, p3, p4, p5⟩ := collect_spec hcol q3 q4 c2 (fun i L e1 e2 => q5 i L e1 e2) (us := [u]) ⟨q2, trivial⟩ c3 q1 hold hd
    exact ⟨u, ρ2, rfl, fun i hi => by rw [p1 i hi, q1 i hi], p2.1, p3, p4, p5, q6⟩

/-- All functions are compiled. -/
structure ProgOk (P : Program) (E : EProg) : Prop where
  mix : P.follows .mixedOrders = true
  fn : ∀ f F, E.fn f = some F → ∃ hints, compileFun P E.glob f hints F.mode = some F

/-- THE THEOREM: what the abstract evaluator gives for a call, the call gives. -/
theorem prog_sound {P : Program} {E : EProg} (hE : ProgOk P E) : ∀ (d lim : Nat) (f : FuncId) (vs : List Value) (h : Heap) (v : Value) (h' : Heap), lim ≤ h.length → E.call d lim f vs h = some (v, h') → CallOk P E.glob f lim vs h v h' := by
  intro d
  induction d with
  | zero => intro lim f vs h v h' _ hc; simp [EProg.call] at hc
  | succ d ih =>
    intro lim f vs h v h' hl hc
    unfold EProg.call at hc
    split at hc
    · cases hc
    · rename_i F hF
      obtain ⟨hints, hcomp⟩ := hE.fn f F hF
      split at hc
      · -- pure
        rename_i hmode
        split at hc
        · rename_i u h1 hr
          have hb := body_ok hE.mix (C := ⟨EProg.call E d, h.length, h.length, true, E.glob, E.fuel⟩) (h := h.freeze) hcomp (by simp) (by simp) (fun _ => by simp) ih hr
          split at hc
          · rename_i v' bs hcol
            cases hc
            have hb' : CallOk P E.glob f h.freeze.length vs h.freeze u h1 := by rw [Heap.length_freeze]; exact hb
            have h2 := collect_ok (h := h.freeze) hb' (by rw [Heap.length_freeze]; exact hcol)
            rw [Heap.length_freeze] at h2
            have h3 := (h2.mono hl).frozen hl
            have hlen : h.length ≤ h1.length := by have := hb.2.1; simpa using this
            have e : (h1.take h.length ++ bs).drop h.length = bs := by
              rw [List.drop_append_of_le_length (by simp; omega)]
              simp
            rw [e] at h3
            exact h3
          · cases hc
        · cases hc
      · -- trunc
        split at hc
        · rename_i u h1 hr
          have hb := body_ok hE.mix (C := ⟨EProg.call E d, h.length, h.length, true, E.glob, E.fuel⟩) (h := h) hcomp rfl (Nat.le_refl _) (fun _ => rfl) ih hr
          split at hc
          · rename_i v' bs hcol
            cases hc
            exact (collect_ok hb hcol).mono hl
          · cases hc
        · cases hc
      · -- full
        exact body_ok hE.mix (C := ⟨EProg.call E d, h.length, lim, false, E.glob, E.fuel⟩) (h := h) hcomp rfl hl (fun q => by cases q) ih hc
end Go.Abs
