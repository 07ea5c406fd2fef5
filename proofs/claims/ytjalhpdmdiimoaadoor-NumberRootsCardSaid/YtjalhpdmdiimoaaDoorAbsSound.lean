/- Code, functions, programs: what the abstract evaluator gives, the program gives. -/
import Derived.Test.YtjalhpdmdiimoaaDoorAbsDraw5
set_option linter.unusedSimpArgs false
set_option linter.unusedVariables false
namespace Go.Abs

def compileRegion (P : Program) (glob : List Nat) (n : Nat) (ops : Array Oper) (draw : Bool) : Option ECode :=
  match compileOps P glob n ops ops.toList with
  | some es => if draw = true then (if drawOk ops (decorate ops es) = true then some (.region true (decorate ops es)) else none) else some (.region false es)
  | none => none

def compileCode (P : Program) (glob : List Nat) (n : Nat) : Code → List (Option (List Nat)) → Option (ECode × List (Option (List Nat)))
  | .skip, hs => some (.skip, hs)
  | .region _ ops draw, hs => (compileRegion P glob n ops draw).map fun c => (c, hs)
  | .seq a b, hs => match compileCode P glob n a hs with
    | some (a', hs') => match compileCode P glob n b hs' with
      | some (b', hs'') => some (.seq a' b', hs'')
      | none => none
    | none => none
  | .cond c a b, hs => if opdOk glob c = true then match compileCode P glob n a hs with
    | some (a', hs') => match compileCode P glob n b hs' with
      | some (b', hs'') => some (.cond c a' b', hs'')
      | none => none
    | none => none else none
  | .block id b, hs => (compileCode P glob n b hs).map fun (b', hs') => (.block id b', hs')
  | .loop b, hs => match hs with
    | [] => none
    | l :: hs => (compileCode P glob n b hs).map fun (b', hs') => (.loop l b', hs')
  | .exit id, hs => some (.exit id, hs)
  | .ret, hs => some (.ret, hs)
  | _, _ => none

def compileRes (P : Program) : ResultVar → Option ERes
  | .tmp t => some (.tmp t)
  | .cell t ty => match isAggT P ty, sizeT P ty with
    | some g, some s => some (.cell t g s)
    | _, _ => none

def compileFun (P : Program) (glob : List Nat) (f : FuncId) (hints : List (Option (List Nat))) (mode : FMode) : Option EFun :=
  match P.funcs[f]? with
  | some fn => match fn.body with
    | some c => match compileCode P glob fn.ntmps c hints, fn.results.toList.mapM (compileRes P) with
      | some (code, []), some rs => if callable P f = true then some ⟨code, rs, mode, fn.ntmps⟩ else none
      | _, _ => none
    | none => none
  | none => none

theorem compileOps_spec {P : Program} {glob : List Nat} {n : Nat} {ops : Array Oper} : ∀ (l : List Oper) (es : List EOper), compileOps P glob n ops l = some es →
    es.length = l.length ∧ ∀ (j : Nat) o e, l[j]? = some o → es[j]? = some e → OperOk P glob n o e ∧ compileGuard ops o.guard = some e.guard ∧ e.conf = []
  | [], es, h => by simp [compileOps] at h; subst h; exact ⟨rfl, by simp⟩
  | o :: r, es, h => by
    unfold compileOps at h
    split at h
    · rename_i e g es' h1 h2 h3
      rw [Option.ite_none_right_eq_some] at h
      obtain ⟨hc, h⟩ := h
      have h := Option.some.inj h
      subst h
      obtain ⟨i1, i2⟩ := compileOps_spec r es' h3
      refine ⟨by simp [i1], fun j o' e' ho he => ?_⟩
      cases j with
      | zero =>
        simp at ho he; subst ho he
        refine ⟨⟨h1, fun x hx => List.all_eq_true.1 hc.1 x (by simpa using hx), rfl, fun t ht => ?_⟩, h2, rfl⟩
        have := hc.2
        rw [ht] at this
        simpa using this
      | succ j => exact i2 j o' e' (by simpa using ho) (by simpa using he)
    · cases h

theorem decorate_spec (ops : Array Oper) (es : List EOper) : (decorate ops es).length = es.length ∧ ∀ (j : Nat) e, (decorate ops es)[j]? = some e → ∃ e0, es[j]? = some e0 ∧ e.op = e0.op ∧ e.dst = e0.dst ∧ e.guard = e0.guard := by
  unfold decorate
  refine ⟨by simp, fun j e h => ?_⟩
  simp only [List.getElem?_map, List.getElem?_zipIdx, Option.map_map, Option.map_eq_some_iff, Nat.zero_add] at h
  obtain ⟨e0, h0, rfl⟩ := h
  exact ⟨e0, h0, rfl, rfl, rfl⟩

section
variable {P : Program} {X : Fix} {C : Ctx}

theorem wanted_text {ops : Array Oper} {o : Oper} {e : EOper} {f : AFrame} {a : Act} {ρ : Ren} {b : Bool} (hg : compileGuard ops o.guard = some e.guard) (hw : EOper.wanted f e.guard = some b) (hf : FRel ρ f a.tmps) :
    Region.wanted o (yielded ops a.tmps) = b := by
  unfold compileGuard at hg
  split at hg
  · rename_i hgo
    rw [← Option.some.inj hg] at hw
    simp only [EOper.wanted, Option.some.injEq] at hw
    unfold Region.wanted; rw [hgo, ← hw]
  · rename_i g b' hgo
    split at hg
    · rename_i og hog
      split at hg
      · rename_i d hd
        rw [← Option.some.inj hg] at hw
        simp only [EOper.wanted] at hw
        unfold Region.wanted
        rw [hgo]
        simp only
        split at hw
        · rename_i b'' hb
          obtain ⟨v', q1, q2⟩ := hf d _ hb
          obtain rfl := q2.bool_inv
          rw [← Option.some.inj hw]
          simp [yielded, hog, hd, q1]
        · rename_i cs hu
          split at hw
          · obtain ⟨v', q1, q2⟩ := hf d _ hu
            obtain ⟨ys, rfl, hy⟩ := q2.tuple_inv
            rw [← Option.some.inj hw]
            simp [yielded, hog, hd, q1]
          · cases hw
        · cases hw
      · cases hg
    · cases hg

theorem undef_rel {ρ : Ren} : VRel ρ undef undef := .tuple rfl (fun i x y hx => by simp at hx)

theorem CI.skip {st : St} {a : Act} {w : World} (I : CI X C st a w) {d : Option Nat} (hd : ∀ t, d = some t → t < X.n) : CI X C ⟨st.f.put d undef, st.h⟩ (a.put d undef) w := by
  obtain ⟨⟨ρ, hf, r⟩, h1, h2, h3, h4, h5⟩ := I
  exact ⟨⟨ρ, hf.put (fun t ht => by rw [h4]; exact hd t ht) undef_rel, r⟩, h1, h2, by rw [put_defers']; exact h3, by rw [put_size]; exact h4, h5⟩

/-- A region in the order of the text. -/
theorem text_sound (A : Around P X C) {ops : Array Oper} {es : List EOper} (hok : ∀ (j : Nat) o e, ops[j]? = some o → es[j]? = some e → OperOk P C.glob X.n o e ∧ compileGuard ops o.guard = some e.guard) (hlen : es.length = ops.size)
    {Q : Exit → Act → World → Prop} : ∀ (m k : Nat) (l : Log) (st st' : St) (a : Act) (w : World), k + m = ops.size → runOps C (es.drop k) k l st = some st' → CI X C st a w →
      (∀ a' w', CI X C st' a' w' → Q .normal a' w') → wpOps P ops Q (List.range' k m) a w := by
  intro m
  induction m with
  | zero =>
    intro k l st st' a w hk hr hI hQ
    have : es.drop k = [] := by apply List.drop_eq_nil_of_le; omega
    rw [this] at hr
    simp only [runOps, Option.some.injEq] at hr
    subst hr
    simpa [wpOps] using hQ a w hI
  | succ m ih =>
    intro k l st st' a w hk hr hI hQ
    have hkl : k < es.length := by omega
    have hko : k < ops.size := by omega
    rw [List.drop_eq_getElem_cons hkl] at hr
    have ho : ops[k]? = some ops[k] := by simp
    have he : es[k]? = some es[k] := by simp
    obtain ⟨hop, hg⟩ := hok k _ _ ho he
    rw [List.range'_succ, wpOps_cons]
    unfold wpOp
    rw [ho]
    simp only
    unfold runOps at hr
    have hI' := hI
    obtain ⟨⟨ρ, hf, _⟩, _⟩ := hI'
    split at hr
    · rename_i hw
      rw [wanted_text hg hw hf, if_pos rfl]
      split at hr
      · rename_i v hh rd wr hx
        split at hr
        · cases hr
        · left
          exact exec_sound A hop hx hI fun a' w' hI' => ih (k + 1) _ _ _ _ _ (by omega) hr hI' hQ
      · cases hr
    · rename_i hw
      rw [wanted_text hg hw hf, if_neg (by simp)]
      have hI2 := hI.skip (d := es[k].dst) (fun t ht => hop.fits t (by rw [← hop.dst]; exact ht))
      rw [hop.dst] at hI2 hr
      exact ih (k + 1) _ _ _ _ _ (by omega) hr hI2 hQ
    · cases hr

theorem unl_lt {l : Array Bool} {j : Nat} (hj : j < l.size) (hl : l.getD j false = false) : ∀ (L : List Nat), j ∈ L →
    (L.filter fun i => !(l.setIfInBounds j true).getD i false).length < (L.filter fun i => !l.getD i false).length := by
  have hle : ∀ (L : List Nat), (L.filter fun i => !(l.setIfInBounds j true).getD i false).length ≤ (L.filter fun i => !l.getD i false).length := by
    intro L
    induction L with
    | nil => simp
    | cons i L ih =>
      simp only [List.filter_cons]
      by_cases h : l.getD i false = true
      · have : (l.setIfInBounds j true).getD i false = true := (isL_set (i := i) hj).2 (.inl h)
        rw [h, this]; simpa using ih
      · have h' : l.getD i false = false := by simpa using h
        rw [h']
        simp only [Bool.not_false, if_true, List.length_cons]
        split
        · simp only [List.length_cons]; omega
        · omega
  intro L
  induction L with
  | nil => intro h; simp at h
  | cons i L ih =>
    intro h
    simp only [List.filter_cons]
    by_cases hij : i = j
    · subst hij
      have : (l.setIfInBounds i true).getD i false = true := (isL_set (i := i) hj).2 (.inr rfl)
      rw [this, hl]
      have := hle L
      simp only [Bool.not_true, Bool.false_eq_true, if_false, Bool.not_false, if_true, List.length_cons]
      omega
    · have hm : j ∈ L := by
        rcases List.mem_cons.1 h with q | q
        · exact absurd q.symm hij
        · exact q
      have := ih hm
      by_cases hi : l.getD i false = true
      · have h2 : (l.setIfInBounds j true).getD i false = true := (isL_set (i := i) hj).2 (.inl hi)
        rw [hi, h2]; simpa using this
      · have hi' : l.getD i false = false := by simpa using hi
        have h2 : (l.setIfInBounds j true).getD i false = false := by
          cases q : (l.setIfInBounds j true).getD i false with
          | false => rfl
          | true =>
            rcases (isL_set (i := i) hj).1 q with p | p
            · exact absurd p hi
            · exact absurd p hij
        rw [hi', h2]
        simp only [Bool.not_false, if_true, List.length_cons]; omega

theorem all_listed {ops : Array Oper} {l : Array Bool} (hs : l.size = ops.size) (he : edgesOk ops = true) (hr : Region.ready .any ops l = []) : ∀ i, i < ops.size → isL l i := by
  intro i
  induction i using Nat.strongRecOn with
  | _ i ih =>
    intro hi
    cases hl : l.getD i false with
    | true => exact hl
    | false =>
      exfalso
      have hmem : i ∈ Region.ready .any ops l := by
        unfold Region.ready
        rw [List.mem_filter]
        refine ⟨by simpa using hi, ?_⟩
        have ho : ops[i]? = some ops[i] := by simp
        rw [ho]
        simp only [Option.map_some, Option.getD_some, Bool.and_eq_true, Bool.not_eq_true']
        refine ⟨?_, ?_⟩
        · rw [Array.getD_eq_getD_getElem?, Array.getElem?_eq_getElem (by omega)] at hl ⊢
          simpa using hl
        · rw [Array.all_eq_true_iff_forall_mem]
          intro e hem
          cases hb : Region.binds .any e with
          | false => rfl
          | true =>
            have h1 := List.all_eq_true.1 he i (by simpa using hi)
            rw [ho] at h1
            have h2 := List.all_eq_true.1 h1 e (by simpa using hem)
            simp only [hb, Bool.not_true, Bool.false_or, decide_eq_true_eq] at h2
            have := ih e.on h2 (by omega)
            simpa [isL] using this
      rw [hr] at hmem; simp at hmem

theorem Reg.kept {ops : Array Oper} {es : List EOper} {st st' : St} (R : Reg P X C ops es st st') (hk : Kept C.lim X.h0 st.h) : ∀ j, j ≤ ops.size → Kept C.lim X.h0 (R.T.H j) := by
  intro j
  induction j with
  | zero => intro _; rw [R.T.H0]; exact hk
  | succ j ih =>
    intro hj
    obtain ⟨o, e, _, he, _, _⟩ := R.op (show j < ops.size by omega)
    have h1 := ih (by omega)
    cases hw : R.T.Wn j with
    | true => exact h1.trans (R.facts (by omega) he hw).kept
    | false => rw [(R.T.skip j e he hw).2.1]; exact h1

/-- A region in any order. -/
theorem any_sound {ops : Array Oper} {es : List EOper} {st st' : St} (R : Reg P X C ops es st st') (hkept : Kept C.lim X.h0 st.h) {Q : Exit → Act → World → Prop} (hQ : ∀ a' w', CI X C st' a' w' → Q .normal a' w') :
    ∀ (fuel : Nat) (l : Array Bool) (a : Act) (w : World), ((List.range ops.size).filter fun i => !l.getD i false).length ≤ fuel → DInv R l a w → wpAny P .any ops Q fuel l a w := by
  have hedges : edgesOk ops = true := by
    have := R.draw; unfold drawOk at this; simp only [Bool.and_eq_true] at this; exact this.1
  have fin : ∀ (l : Array Bool) (a : Act) (w : World), (∀ i, i < ops.size → isL l i) → DInv R l a w → Q .normal a w := by
    intro l a w hall I
    obtain ⟨⟨ρ, g, hF, hs, hg, hdom, h0, hnew, _⟩, _, _, hframe, hdef, hsize⟩ := I
    refine hQ a w ⟨⟨ρ, ?_, ?_, ?_, h0, hnew⟩, ?_, hframe, hdef, hsize, ?_⟩
    · intro t u hu
      rw [← R.T.Fn] at hu
      rw [R.len] at hu
      exact hF ops.size t u (Nat.le_refl _) hu fun i o ho _ => by
        have := (Array.getElem?_eq_some_iff.1 ho).1
        exact ⟨fun _ => this, fun _ => hall i this⟩
    · have sub : ∀ x b L, st'.h.get x = some b → ρ x = some L → g x = some b := by
        intro x b L q1 q2
        rw [← R.T.Hn, R.len] at q1
        exact hg x ops.size b L (Nat.le_refl _) (fun i hi _ => ⟨fun _ => hi, fun _ => hall i hi⟩) q1 q2
      exact ⟨fun i b L q1 q2 => hs.blk i b L (sub i b L q1 q2) q2, fun i b L q1 q2 q3 => hs.own i b L (sub i b L q1 q2) q2 q3,
        fun i k b c L M q q1 q2 q3 q4 q5 => hs.excl i k b c L M q (sub i b L q1 q4) q2 (sub k c M q3 q5) q4 q5⟩
    · intro x L hx
      rw [← R.T.Hn, R.len]
      rcases hdom x L hx with q | ⟨j, q1, _, _, q4⟩
      · have := (R.base_le ops.size (Nat.le_refl _)).2 0 (by omega); omega
      · have := (R.base_le ops.size (Nat.le_refl _)).2 (j + 1) (by omega); omega
    · rw [← R.T.Hn, R.len]; exact R.kept hkept _ (Nat.le_refl _)
    · rw [← R.T.Hn, R.len]; exact (R.base_le ops.size (Nat.le_refl _)).1
  intro fuel
  induction fuel with
  | zero =>
    intro l a w hf I
    have hall : ∀ i, i < ops.size → isL l i := by
      intro i hi
      cases hl : l.getD i false with
      | true => exact hl
      | false =>
        have hm : i ∈ (List.range ops.size).filter fun i => !l.getD i false := by rw [List.mem_filter]; exact ⟨by simpa using hi, by rw [hl]; rfl⟩
        have := List.length_pos_of_mem hm
        omega
    refine ⟨?_, fin l a w hall I⟩
    unfold Region.ready
    rw [List.filter_eq_nil_iff]
    intro i hi
    have hi' : i < ops.size := by simpa using hi
    have h1 := hall i hi'
    unfold isL at h1
    have hsl := I.sizeL
    rw [Array.getD_eq_getD_getElem?, Array.getElem?_eq_getElem (by omega)] at h1
    simp only [Bool.and_eq_true, Bool.not_eq_true', not_and]
    intro h2
    rw [Array.getD_eq_getD_getElem?, Array.getElem?_eq_getElem (by omega)] at h2
    simp at h1 h2
    rw [h1] at h2; cases h2
  | succ fuel ih =>
    intro l a w hf I
    refine ⟨fun hr => fin l a w (all_listed I.sizeL hedges hr) I, fun i hi => ?_⟩
    have N := next_of_ready R hi I.sizeL
    refine R.step I hi fun a' w' I' => ih _ _ _ ?_ I'
    have hl : l.getD i false = false := by
      cases q : l.getD i false with
      | false => rfl
      | true => exact absurd q N.out
    have := unl_lt (l := l) (j := i) (by rw [I.sizeL]; exact N.lt) hl (List.range ops.size) (by simpa using N.lt)
    omega

theorem CI.drew {st : St} {a : Act} {w : World} (I : CI X C st a w) : CI X C st a { w with drawn := w.drawn + 1 } := by
  obtain ⟨⟨ρ, hf, hs, r⟩, h1, h2, h3, h4, h5⟩ := I
  exact ⟨⟨ρ, hf, ⟨hs.blk, hs.own, hs.excl⟩, r⟩, h1, ⟨h2.os, h2.tape, h2.output, h2.size, h2.block⟩, h3, h4, h5⟩

theorem region_sound (A : Around P X C) (hmix : P.follows .mixedOrders = true) {id : Nat} {ops : Array Oper} {draw : Bool} {c : ECode} (hc : compileRegion P C.glob X.n ops draw = some c) {st st' : St} {ex : Ex} (hr : c.run C st = some (ex, st'))
    {a : Act} {w : World} (I : CI X C st a w) {Q : Exit → Act → World → Prop} (hQ2 : ∀ a' w', CI X C st' a' w' → Q .normal a' w') : ex = .normal ∧ (Code.region id ops draw).wp P Q a w := by
  unfold compileRegion at hc
  split at hc
  · rename_i es hes
    obtain ⟨l1, l2⟩ := compileOps_spec _ _ hes
    have hok : ∀ (j : Nat) o e, ops[j]? = some o → es[j]? = some e → OperOk P C.glob X.n o e ∧ compileGuard ops o.guard = some e.guard := fun j o e h1 h2 => ⟨(l2 j o e (by simpa using h1) h2).1, (l2 j o e (by simpa using h1) h2).2.1⟩
    split at hc
    · rename_i hd
      subst hd
      split at hc
      · rename_i hdraw
        cases hc
        simp only [ECode.run, Option.map_eq_some_iff] at hr
        obtain ⟨st1, hr, he⟩ := hr
        cases he
        obtain ⟨d1, d2⟩ := decorate_spec ops es
        obtain ⟨T, hL, hlog⟩ := trace_of _ _ _ _ _ hr
        have hok' : ∀ (j : Nat) o e, ops[j]? = some o → (decorate ops es)[j]? = some e → OperOk P C.glob X.n o e ∧ compileGuard ops o.guard = some e.guard := by
          intro j o e h1 h2
          obtain ⟨e0, q1, q2, q3, q4⟩ := d2 j e h2
          obtain ⟨⟨p1, p2, p3, p4⟩, p5⟩ := hok j o e0 h1 q1
          exact ⟨⟨by rw [q2]; exact p1, p2, by rw [q3]; exact p3, p4⟩, by rw [q4]; exact p5⟩
        let R : Reg P X C ops (decorate ops es) st st' := ⟨A, T, by rw [d1, l1]; simp, hok', hdraw, fun j e q1 q2 q3 => by have := hlog j e q1 q2 q3; simpa using this, I.len⟩
        refine ⟨rfl, wp_region_any hmix ?_⟩
        refine any_sound R I.kept hQ2 ops.size _ _ _ ?_ ?_
        · have := List.length_filter_le (fun i => !(Array.replicate ops.size false).getD i false) (List.range ops.size)
          simpa using this
        · obtain ⟨⟨ρ, hf, hs, hdm, h0, hnew⟩, h1, h2, h3, h4, h5⟩ := I.drew
          have nol : ∀ i, ¬ isL (Array.replicate ops.size false) i := by
            intro i q
            unfold isL at q
            rw [Array.getD_eq_getD_getElem?, Array.getElem?_replicate] at q
            split at q <;> simp at q
          refine ⟨⟨ρ, st.h.get, ?_, hs, ?_, ?_, h0, hnew, fun i x _ q => absurd q (nol i)⟩, fun i o q => absurd q (nol i), by simp, h2, h3, h4⟩
          · intro j0 t u hj0 hu hct
            have : (R.T.F j0).get t = (R.T.F 0).get t := by
              refine unwritten_get (fun j e he => R.T.next j e he) R.len j0 (by omega) hj0 fun k e _ hk he hd => ?_
              obtain ⟨o, e', ho, he', hoo, _⟩ := R.op (show k < ops.size by omega)
              rw [he] at he'; cases he'
              exact nol k ((hct k o ho (by rw [← hoo.dst]; exact hd)).2 hk)
            rw [this, R.T.F0] at hu
            exact hf t u hu
          · intro x j0 b L hj0 hct hb _
            have hx : ∀ k, 0 ≤ k → k < j0 → ¬ R.touch x k := fun k _ hk ht => nol k ((hct k (by omega) ht).2 hk)
            by_cases hx0 : x < (R.T.H 0).length
            · rw [R.untouched_range j0 (by omega) hj0 hx0 hx, R.T.H0] at hb; exact hb
            · exfalso
              have hlt := Heap.get_lt hb
              -- made on the way
              have born : ∀ j, j ≤ j0 → x < (R.T.H j).length → ∃ k, k < j ∧ (R.T.H k).length ≤ x ∧ x < (R.T.H (k + 1)).length := by
                intro j
                induction j with
                | zero => intro _ h; exact absurd h hx0
                | succ j ihj =>
                  intro hj h
                  by_cases hq : x < (R.T.H j).length
                  · obtain ⟨k, k1, k2⟩ := ihj (by omega) hq
                    exact ⟨k, by omega, k2⟩
                  · exact ⟨j, by omega, by omega, h⟩
              obtain ⟨k, k1, k2, k3⟩ := born j0 (Nat.le_refl _) hlt
              exact hx k (by omega) k1 (.inr (.inl ⟨k2, k3⟩))
          · intro x L hx; rw [R.T.H0]; exact .inl (hdm x L hx)
      · cases hc
    · rename_i hd
      have hd : draw = false := by simpa using hd
      subst hd
      cases hc
      simp only [ECode.run, Option.map_eq_some_iff] at hr
      obtain ⟨st1, hr, he⟩ := hr
      cases he
      refine ⟨rfl, wp_region ?_⟩
      rw [List.range_eq_range']
      exact text_sound A hok (by rw [l1]; simp) ops.size 0 [] st st' a w (by omega) (by simpa using hr) I hQ2
  · cases hc
end
end Go.Abs
