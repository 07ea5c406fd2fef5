/- Code, functions, programs: what the abstract evaluator gives, the program gives. -/
import Derived.Test.YtllhkifkiabkbaaGreatDoorAbsDrawM
import Derived.LoopNIn
set_option linter.unusedSimpArgs false
set_option linter.unusedVariables false
/- Code, functions, programs: what the abstract evaluator gives, the program gives. -/
namespace Go.Abs
variable {K : LoopKind}

def compileRegion (P : Program) (glob : List Nat) (n : Nat) (t : Bool) (ops : Array Oper) (draw : Bool) : Option ECode :=
  match compileOps P glob n t ops ops.toList with
  | some es => if draw = true then (if drawOk ops (decorate ops es) = true then some (.region true (decorate ops es)) else none) else some (.region false es)
  | none => none

def compileCode (P : Program) (glob : List Nat) (n : Nat) (t : Bool) (f : FuncId) : Bool → Code → List (Option (List Nat)) → Option (ECode × List (Option (List Nat)))
  | _, .skip, hs => some (.skip, hs)
  | _, .region _ ops draw, hs => (compileRegion P glob n t ops draw).map fun c => (c, hs)
  | r, .seq a b, hs => match compileCode P glob n t f r a hs with
    | some (a', hs') => match compileCode P glob n t f r b hs' with
      | some (b', hs'') => some (.seq a' b', hs'')
      | none => none
    | none => none
  | r, .cond c a b, hs => if opdOk glob c = true then match compileCode P glob n t f r a hs with
    | some (a', hs') => match compileCode P glob n t f r b hs' with
      | some (b', hs'') => some (.cond c a' b', hs'')
      | none => none
    | none => none else none
  | r, .block id b, hs => (compileCode P glob n t f r b hs).map fun (b', hs') => (.block id b', hs')
  | r, .loop b, hs => match hs with
    | [] => none
    | l :: hs => (compileCode P glob n t f r b hs).map fun (b', hs') => (.loop l b', hs')
  | _, .exit id, hs => some (.exit id, hs)
  | _, .ret, hs => some (.ret, hs)
  | false, .rangeFunc g ps assign body, hs => match hs with
    | some (i :: fl :: sl) :: hs => if opdOk glob g = true ∧ ps.toList.all (fun p => decide (p < n)) = true then
        match compileCode P glob n t f true assign [], compileCode P glob n t f true body hs with
        | some (a', []), some (b', hs') => some (.rangeF g f i (fl == 1) sl ps.toList a' b', hs')
        | _, _ => none
      else none
    | _ => none
  | _, _, _ => none

def noRepeat : List Nat → Bool
  | [] => true
  | x :: xs => !xs.contains x && noRepeat xs

def compileRes (P : Program) : ResultVar → Option ERes
  | .tmp t => some (.tmp t)
  | .cell t ty => match isAggT P ty, sizeT P ty with
    | some g, some s => some (.cell t g s)
    | _, _ => none

def modeT : FMode → Bool
  | .full => true
  | _ => false

/-- Whether a function is not compiled. -/
def modeN : FMode → Bool
  | .nat _ => true
  | _ => false

def compileFun (P : Program) (glob : List Nat) (f : FuncId) (hints : List (Option (List Nat))) (mode : FMode) : Option EFun :=
  match P.funcs[f]? with
  | some fn => match fn.body with
    | some c => match compileCode P glob fn.ntmps (modeT mode) f false c hints, fn.results.toList.mapM (compileRes P) with
      | some (code, []), some rs => if callable P f = true ∧ noRepeat (code.nodes.map Prod.fst) = true then some ⟨code, rs, mode, fn.ntmps⟩ else none
      | _, _ => none
    | none => none
  | none => none

theorem compileFun_mode {P : Program} {glob : List Nat} {f : FuncId} {hints : List (Option (List Nat))} {m : FMode} {F : EFun} (h : compileFun P glob f hints m = some F) : F.mode = m := by
  unfold compileFun at h
  split at h
  · split at h
    · split at h
      · split at h
        · cases h; rfl
        · cases h
      · cases h
    · cases h
  · cases h

theorem compileOps_spec {P : Program} {glob : List Nat} {n : Nat} {t : Bool} {ops : Array Oper} : ∀ (l : List Oper) (es : List EOper), compileOps P glob n t ops l = some es →
    es.length = l.length ∧ ∀ (j : Nat) o e, l[j]? = some o → es[j]? = some e → OperOk P glob n o e ∧ compileGuard ops o.guard = some e.guard ∧ e.conf = []
  | [], es, h => by simp [compileOps] at h; subst h; exact ⟨rfl, by simp⟩
  | o :: r, es, h => by
    unfold compileOps at h
    split at h
    · rename_i e g es' h1 h2 h3
      rw [Option.ite_none_right_eq_some] at h
      obtain ⟨hc, h⟩ := h
      have h := Option.some.inj h
      subst h
      obtain ⟨i1, i2⟩ := compileOps_spec r es' h3
      refine ⟨by simp [i1], fun j o' e' ho he => ?_⟩
      cases j with
      | zero =>
        simp at ho he; subst ho he
        refine ⟨⟨CompOp.of_if h1 t, fun x hx => List.all_eq_true.1 hc.1 x (by simpa using hx), rfl, fun t ht => ?_⟩, h2, rfl⟩
        have := hc.2
        rw [ht] at this
        simpa using this
      | succ j => exact i2 j o' e' (by simpa using ho) (by simpa using he)
    · cases h

theorem decorate_spec (ops : Array Oper) (es : List EOper) : (decorate ops es).length = es.length ∧ ∀ (j : Nat) e, (decorate ops es)[j]? = some e → ∃ e0, es[j]? = some e0 ∧ e.op = e0.op ∧ e.dst = e0.dst ∧ e.guard = e0.guard := by
  unfold decorate
  refine ⟨by simp, fun j e h => ?_⟩
  simp only [List.getElem?_map, List.getElem?_zipIdx, Option.map_map, Option.map_eq_some_iff, Nat.zero_add] at h
  obtain ⟨e0, h0, rfl⟩ := h
  exact ⟨e0, h0, rfl, rfl, rfl⟩

section
variable {P : Program} {X : Fix} {C : Ctx}

theorem wanted_text {ops : Array Oper} {o : Oper} {e : EOper} {f : AFrame} {a : Act} {ρ : Ren} {b : Bool} (hg : compileGuard ops o.guard = some e.guard) (hw : EOper.wanted f e.guard = some b) (hf : FRel ρ f a.tmps) :
    Region.wanted o (yielded ops a.tmps) = b := by
  unfold compileGuard at hg
  split at hg
  · rename_i hgo
    rw [← Option.some.inj hg] at hw
    simp only [EOper.wanted, Option.some.injEq] at hw
    unfold Region.wanted; rw [hgo, ← hw]
  · rename_i g b' hgo
    split at hg
    · rename_i og hog
      split at hg
      · rename_i d hd
        rw [← Option.some.inj hg] at hw
        simp only [EOper.wanted] at hw
        unfold Region.wanted
        rw [hgo]
        simp only
        split at hw
        · rename_i b'' hb
          obtain ⟨v', q1, q2⟩ := hf d _ hb
          obtain rfl := q2.bool_inv
          rw [← Option.some.inj hw]
          simp [yielded, hog, hd, q1]
        · rename_i cs hu
          split at hw
          · obtain ⟨v', q1, q2⟩ := hf d _ hu
            obtain ⟨ys, rfl, hy⟩ := q2.tuple_inv
            rw [← Option.some.inj hw]
            simp [yielded, hog, hd, q1]
          · cases hw
        · cases hw
      · cases hg
    · cases hg

theorem undef_rel {ρ : Ren} : VRel ρ undef undef := .tuple rfl (fun i x y hx => by simp at hx)

theorem CI.skip {st : St} {a : Act} {w : World} (I : CI X C st a w) {d : Option Nat} (hd : ∀ t, d = some t → t < X.n) : CI X C ⟨st.f.put d undef, st.h⟩ (a.put d undef) w := by
  obtain ⟨⟨ρ, hf, r⟩, h1, h2, h3, h4, h5⟩ := I
  exact ⟨⟨ρ, hf.put (fun t ht => by rw [h4]; exact hd t ht) undef_rel, r⟩, h1, h2, by rw [put_defers']; exact h3, by rw [put_size]; exact h4, h5⟩

/-- A region in the order of the text. -/
theorem text_sound (A : Around P X C) {ops : Array Oper} {es : List EOper} (hok : ∀ (j : Nat) o e, ops[j]? = some o → es[j]? = some e → OperOk P C.glob X.n o e ∧ compileGuard ops o.guard = some e.guard) (hlen : es.length = ops.size)
    {ro : Option Nat} {Q : Exit → Act → World → Prop} : ∀ (m k : Nat) (l : Log) (st st' : St) (a : Act) (w : World), k + m = ops.size → runOps C (es.drop k) k l st = some st' → CI X C st a w →
      (∀ a' w', CI X C st' a' w' → Q .normal a' w') → wpOpsIn (FW ro) 0 P ops Q (List.range' k m) a w := by
  intro m
  induction m with
  | zero =>
    intro k l st st' a w hk hr hI hQ
    have : es.drop k = [] := by apply List.drop_eq_nil_of_le; omega
    rw [this] at hr
    simp only [runOps, Option.some.injEq] at hr
    subst hr
    simpa [wpOpsIn] using hQ a w hI
  | succ m ih =>
    intro k l st st' a w hk hr hI hQ
    have hkl : k < es.length := by omega
    have hko : k < ops.size := by omega
    rw [List.drop_eq_getElem_cons hkl] at hr
    have ho : ops[k]? = some ops[k] := by simp
    have he : es[k]? = some es[k] := by simp
    obtain ⟨hop, hg⟩ := hok k _ _ ho he
    rw [List.range'_succ, wpOpsIn_cons]
    unfold wpOpIn
    rw [ho]
    simp only
    unfold runOps at hr
    have hI' := hI
    obtain ⟨⟨ρ, hf, _⟩, _⟩ := hI'
    split at hr
    · rename_i hw
      rw [wanted_text hg hw hf, if_pos rfl]
      split at hr
      · rename_i v hh rd wr hx
        split at hr
        · cases hr
        · exact exec_sound A hop hx hI fun a' w' hI' => ih (k + 1) _ _ _ _ _ (by omega) hr hI' hQ
      · cases hr
    · rename_i hw
      rw [wanted_text hg hw hf, if_neg (by simp)]
      have hI2 := hI.skip (d := es[k].dst) (fun t ht => hop.fits t (by rw [← hop.dst]; exact ht))
      rw [hop.dst] at hI2 hr
      exact ⟨fun _ _ => trivial, ih (k + 1) _ _ _ _ _ (by omega) hr hI2 hQ⟩
    · cases hr

theorem unl_lt {l : Array Bool} {j : Nat} (hj : j < l.size) (hl : l.getD j false = false) : ∀ (L : List Nat), j ∈ L →
    (L.filter fun i => !(l.setIfInBounds j true).getD i false).length < (L.filter fun i => !l.getD i false).length := by
  have hle : ∀ (L : List Nat), (L.filter fun i => !(l.setIfInBounds j true).getD i false).length ≤ (L.filter fun i => !l.getD i false).length := by
    intro L
    induction L with
    | nil => simp
    | cons i L ih =>
      simp only [List.filter_cons]
      by_cases h : l.getD i false = true
      · have : (l.setIfInBounds j true).getD i false = true := (isL_set (i := i) hj).2 (.inl h)
        rw [h, this]; simpa using ih
      · have h' : l.getD i false = false := by simpa using h
        rw [h']
        simp only [Bool.not_false, if_true, List.length_cons]
        split
        · simp only [List.length_cons]; omega
        · omega
  intro L
  induction L with
  | nil => intro h; simp at h
  | cons i L ih =>
    intro h
    simp only [List.filter_cons]
    by_cases hij : i = j
    · subst hij
      have : (l.setIfInBounds i true).getD i false = true := (isL_set (i := i) hj).2 (.inr rfl)
      rw [this, hl]
      have := hle L
      simp only [Bool.not_true, Bool.false_eq_true, if_false, Bool.not_false, if_true, List.length_cons]
      omega
    · have hm : j ∈ L := by
        rcases List.mem_cons.1 h with q | q
        · exact absurd q.symm hij
        · exact q
      have := ih hm
      by_cases hi : l.getD i false = true
      · have h2 : (l.setIfInBounds j true).getD i false = true := (isL_set (i := i) hj).2 (.inl hi)
        rw [hi, h2]; simpa using this
      · have hi' : l.getD i false = false := by simpa using hi
        have h2 : (l.setIfInBounds j true).getD i false = false := by
          cases q : (l.setIfInBounds j true).getD i false with
          | false => rfl
          | true =>
            rcases (isL_set (i := i) hj).1 q with p | p
            · exact absurd p hi
            · exact absurd p hij
        rw [hi', h2]
        simp only [Bool.not_false, if_true, List.length_cons]; omega

theorem all_listed {ops : Array Oper} {l : Array Bool} (hs : l.size = ops.size) (he : edgesOk ops = true) (hr : Region.ready .any ops l = []) : ∀ i, i < ops.size → isL l i := by
  intro i
  induction i using Nat.strongRecOn with
  | _ i ih =>
    intro hi
    cases hl : l.getD i false with
    | true => exact hl
    | false =>
      exfalso
      have hmem : i ∈ Region.ready .any ops l := by
        unfold Region.ready
        rw [List.mem_filter]
        refine ⟨by simpa using hi, ?_⟩
        have ho : ops[i]? = some ops[i] := by simp
        rw [ho]
        simp only [Option.map_some, Option.getD_some, Bool.and_eq_true, Bool.not_eq_true']
        refine ⟨?_, ?_⟩
        · rw [Array.getD_eq_getD_getElem?, Array.getElem?_eq_getElem (by omega)] at hl ⊢
          simpa using hl
        · rw [Array.all_eq_true_iff_forall_mem]
          intro e hem
          cases hb : Region.binds .any e with
          | false => rfl
          | true =>
            have h1 := List.all_eq_true.1 he i (by simpa using hi)
            rw [ho] at h1
            have h2 := List.all_eq_true.1 h1 e (by simpa using hem)
            simp only [hb, Bool.not_true, Bool.false_or, decide_eq_true_eq] at h2
            have := ih e.on h2 (by omega)
            simpa [isL] using this
      rw [hr] at hmem; simp at hmem

theorem Reg.kept {ops : Array Oper} {es : List EOper} {st st' : St} (R : Reg P X C ops es st st') (hk : Kept C.lim X.h0 st.h) : ∀ j, j ≤ ops.size → Kept C.lim X.h0 (R.T.H j) := by
  intro j
  induction j with
  | zero => intro _; rw [R.T.H0]; exact hk
  | succ j ih =>
    intro hj
    obtain ⟨o, e, _, he, _, _⟩ := R.op (show j < ops.size by omega)
    have h1 := ih (by omega)
    cases hw : R.T.Wn j with
    | true => exact h1.trans (R.facts (by omega) he hw).kept
    | false => rw [(R.T.skip j e he hw).2.1]; exact h1

/-- A region in any order. -/
theorem any_sound {ops : Array Oper} {es : List EOper} {st st' : St} (R : Reg P X C ops es st st') (hkept : Kept C.lim X.h0 st.h) {Q : Exit → Act → World → Prop} (hQ : ∀ a' w', CI X C st' a' w' → Q .normal a' w') {ro : Option Nat} :
    ∀ (fuel : Nat) (l : Array Bool) (a : Act) (w : World), ((List.range ops.size).filter fun i => !l.getD i false).length ≤ fuel → DInv R l a w → wpAnyIn (FW ro) 0 P .any ops Q fuel l a w := by
  have hedges : edgesOk ops = true := by
    have := R.draw; unfold drawOk at this; simp only [Bool.and_eq_true] at this; exact this.1
  have fin : ∀ (l : Array Bool) (a : Act) (w : World), (∀ i, i < ops.size → isL l i) → DInv R l a w → Q .normal a w := by
    intro l a w hall I
    obtain ⟨⟨ρ, g, hF, hs, hg, hdom, h0, hnew, _⟩, _, _, hframe, hdef, hsize⟩ := I
    refine hQ a w ⟨⟨ρ, ?_, ?_, ?_, h0, hnew⟩, ?_, hframe, hdef, hsize, ?_⟩
    · intro t u hu
      rw [← R.T.Fn] at hu
      rw [R.len] at hu
      obtain ⟨v', q1, q2⟩ := hF ops.size t u (Nat.le_refl _) hu fun i o ho _ => by
        have := (Array.getElem?_eq_some_iff.1 ho).1
        exact ⟨fun _ => this, fun _ => hall i this⟩
      exact ⟨v', q1, q2.mono (Ren.below_le _ _)⟩
    · have sub : ∀ x b L, st'.h.get x = some b → ρ x = some L → g x = some b := by
        intro x b L q1 q2
        rw [← R.T.Hn, R.len] at q1
        exact (hg x ops.size b L (Nat.le_refl _) (fun i hi _ => ⟨fun _ => hi, fun _ => hall i hi⟩) q1 q2).1
      exact ⟨fun i b L q1 q2 => hs.blk i b L (sub i b L q1 q2) q2, fun i b L q1 q2 q3 => hs.own i b L (sub i b L q1 q2) q2 q3,
        fun i k b c L M q q1 q2 q3 q4 q5 => hs.excl i k b c L M q (sub i b L q1 q4) q2 (sub k c M q3 q5) q4 q5⟩
    · intro x L hx
      rw [← R.T.Hn, R.len]
      rcases hdom x L hx with q | ⟨j, q1, _, _, q4⟩
      · have := (R.base_le ops.size (Nat.le_refl _)).2 0 (by omega); omega
      · have := (R.base_le ops.size (Nat.le_refl _)).2 (j + 1) (by omega); omega
    · rw [← R.T.Hn, R.len]; exact R.kept hkept _ (Nat.le_refl _)
    · rw [← R.T.Hn, R.len]; exact (R.base_le ops.size (Nat.le_refl _)).1
  intro fuel
  induction fuel with
  | zero =>
    intro l a w hf I
    have hall : ∀ i, i < ops.size → isL l i := by
      intro i hi
      cases hl : l.getD i false with
      | true => exact hl
      | false =>
        have hm : i ∈ (List.range ops.size).filter fun i => !l.getD i false := by rw [List.mem_filter]; exact ⟨by simpa using hi, by rw [hl]; rfl⟩
        have := List.length_pos_of_mem hm
        omega
    refine ⟨?_, fin l a w hall I⟩
    unfold Region.ready
    rw [List.filter_eq_nil_iff]
    intro i hi
    have hi' : i < ops.size := by simpa using hi
    have h1 := hall i hi'
    unfold isL at h1
    have hsl := I.sizeL
    rw [Array.getD_eq_getD_getElem?, Array.getElem?_eq_getElem (by omega)] at h1
    simp only [Bool.and_eq_true, Bool.not_eq_true', not_and]
    intro h2
    rw [Array.getD_eq_getD_getElem?, Array.getElem?_eq_getElem (by omega)] at h2
    simp at h1 h2
    rw [h1] at h2; cases h2
  | succ fuel ih =>
    intro l a w hf I
    refine ⟨fun hr => fin l a w (all_listed I.sizeL hedges hr) I, fun i hi => ?_⟩
    have N := next_of_ready R hi I.sizeL
    refine R.step I hi fun a' w' I' => ih _ _ _ ?_ I'
    have hl : l.getD i false = false := by
      cases q : l.getD i false with
      | false => rfl
      | true => exact absurd q N.out
    have := unl_lt (l := l) (j := i) (by rw [I.sizeL]; exact N.lt) hl (List.range ops.size) (by simpa using N.lt)
    omega

theorem CI.drew {st : St} {a : Act} {w : World} (I : CI X C st a w) : CI X C st a { w with drawn := w.drawn + 1 } := by
  obtain ⟨⟨ρ, hf, hs, r⟩, h1, h2, h3, h4, h5⟩ := I
  exact ⟨⟨ρ, hf, ⟨hs.blk, hs.own, hs.excl⟩, r⟩, h1, ⟨h2.os, h2.tape, h2.output, h2.size, h2.block⟩, h3, h4, h5⟩

theorem region_sound (A : Around P X C) (hmix : P.follows .mixedOrders = true) {t : Bool} {id : Nat} {ops : Array Oper} {draw : Bool} {c : ECode} (hc : compileRegion P C.glob X.n t ops draw = some c) {st st' : St} {ex : Ex} (hr : c.run C st = some (ex, st'))
    {a : Act} {w : World} (I : CI X C st a w) {Q : Exit → Act → World → Prop} (hQ2 : ∀ a' w', CI X C st' a' w' → Q .normal a' w') {ro : Option Nat} : ex = .normal ∧ (Code.region id ops draw).wpIn (FW ro) 0 P Q a w := by
  unfold compileRegion at hc
  split at hc
  · rename_i es hes
    obtain ⟨l1, l2⟩ := compileOps_spec _ _ hes
    have hok : ∀ (j : Nat) o e, ops[j]? = some o → es[j]? = some e → OperOk P C.glob X.n o e ∧ compileGuard ops o.guard = some e.guard := fun j o e h1 h2 => ⟨(l2 j o e (by simpa using h1) h2).1, (l2 j o e (by simpa using h1) h2).2.1⟩
    split at hc
    · rename_i hd
      subst hd
      split at hc
      · rename_i hdraw
        cases hc
        simp only [ECode.run, Option.map_eq_some_iff] at hr
        obtain ⟨st1, hr, he⟩ := hr
        cases he
        obtain ⟨d1, d2⟩ := decorate_spec ops es
        obtain ⟨T, hL, hlog⟩ := trace_of _ _ _ _ _ hr
        have hok' : ∀ (j : Nat) o e, ops[j]? = some o → (decorate ops es)[j]? = some e → OperOk P C.glob X.n o e ∧ compileGuard ops o.guard = some e.guard := by
          intro j o e h1 h2
          obtain ⟨e0, q1, q2, q3, q4⟩ := d2 j e h2
          obtain ⟨⟨p1, p2, p3, p4⟩, p5⟩ := hok j o e0 h1 q1
          exact ⟨⟨by rw [q2]; exact p1, p2, by rw [q3]; exact p3, p4⟩, by rw [q4]; exact p5⟩
        let R : Reg P X C ops (decorate ops es) st st' := ⟨A, T, by rw [d1, l1]; simp, hok', hdraw, fun j e q1 q2 q3 => by have := hlog j e q1 q2 q3; simpa using this, I.len⟩
        refine ⟨rfl, wpIn_region_any hmix ?_⟩
        refine any_sound R I.kept hQ2 ops.size _ _ _ ?_ ?_
        · have := List.length_filter_le (fun i => !(Array.replicate ops.size false).getD i false) (List.range ops.size)
          simpa using this
        · obtain ⟨⟨ρ, hf, hs, hdm, h0, hnew⟩, h1, h2, h3, h4, h5⟩ := I.drew
          have nol : ∀ i, ¬ isL (Array.replicate ops.size false) i := by
            intro i q
            unfold isL at q
            rw [Array.getD_eq_getD_getElem?, Array.getElem?_replicate] at q
            split at q <;> simp at q
          have hbel : ∀ j0, j0 ≤ ops.size → ρ.le (ρ.below (R.T.H j0).length) := fun j0 hj0 => Ren.le_below ρ.le_refl fun i L q => by
            have := hdm i L q
            have := (R.base_le j0 hj0).2 0 (by omega)
            rw [R.T.H0] at this; omega
          refine ⟨⟨ρ, st.h.get, ?_, hs, ?_, ?_, h0, hnew, fun i x _ q => absurd q (nol i)⟩, fun i o q => absurd q (nol i), by simp, h2, h3, h4⟩
          · intro j0 t u hj0 hu hct
            have : (R.T.F j0).get t = (R.T.F 0).get t := by
              refine unwritten_get (fun j e he => R.T.next j e he) R.len j0 (by omega) hj0 fun k e _ hk he hd => ?_
              obtain ⟨o, e', ho, he', hoo, _⟩ := R.op (show k < ops.size by omega)
              rw [he] at he'; cases he'
              exact nol k ((hct k o ho (by rw [← hoo.dst]; exact hd)).2 hk)
            rw [this, R.T.F0] at hu
            obtain ⟨v', q1, q2⟩ := hf t u hu
            exact ⟨v', q1, q2.mono (hbel j0 hj0)⟩
          · intro x j0 b L hj0 hct hb hLx
            suffices hst : st.h.get x = some b from ⟨hst, (hs.blk x b L hst hLx).mono (hbel j0 hj0)⟩
            have hx : ∀ k, 0 ≤ k → k < j0 → ¬ R.touch x k := fun k _ hk ht => nol k ((hct k (by omega) ht).2 hk)
            by_cases hx0 : x < (R.T.H 0).length
            · rw [R.untouched_range j0 (by omega) hj0 hx0 hx, R.T.H0] at hb; exact hb
            · exfalso
              have hlt := Heap.get_lt hb
              -- made on the way
              have born : ∀ j, j ≤ j0 → x < (R.T.H j).length → ∃ k, k < j ∧ (R.T.H k).length ≤ x ∧ x < (R.T.H (k + 1)).length := by
                intro j
                induction j with
                | zero => intro _ h; exact absurd h hx0
                | succ j ihj =>
                  intro hj h
                  by_cases hq : x < (R.T.H j).length
                  · obtain ⟨k, k1, k2⟩ := ihj (by omega) hq
                    exact ⟨k, by omega, k2⟩
                  · exact ⟨j, by omega, by omega, h⟩
              obtain ⟨k, k1, k2, k3⟩ := born j0 (Nat.le_refl _) hlt
              exact hx k (by omega) k1 (.inr (.inl ⟨k2, k3⟩))
          · intro x L hx; rw [R.T.H0]; exact .inl (hdm x L hx)
      · cases hc
    · rename_i hd
      have hd : draw = false := by simpa using hd
      subst hd
      cases hc
      simp only [ECode.run, Option.map_eq_some_iff] at hr
      obtain ⟨st1, hr, he⟩ := hr
      cases he
      refine ⟨rfl, wpIn_region ?_⟩
      rw [List.range_eq_range']
      exact text_sound A hok (by rw [l1]; simp) ops.size 0 [] st st' a w (by omega) (by simpa using hr) I hQ2
  · cases hc
end
end Go.Abs
/- Code, functions, programs: what the abstract evaluator gives, the program gives. -/
namespace Go.Abs
variable {K : LoopKind}

def exRel : Ex → Exit → Prop
  | .normal, .normal => True
  | .exit i, .exit j => i = j
  | .ret, .ret => True
  | _, _ => False

theorem only_rel {ρ : Ren} {f : AFrame} {tmps : Array Value} (hf : FRel ρ f tmps) : ∀ {l : List Nat} {vs : List Value}, f.only l = some vs → LRel (VRel ρ) vs (l.map fun t => tmps.getD t undef) ∧ ∀ t ∈ l, t < tmps.size
  | [], vs, h => by simp [AFrame.only] at h; subst h; exact ⟨trivial, by simp⟩
  | t :: l, vs, h => by
    unfold AFrame.only at h
    split at h
    · rename_i v vs' hv hvs
      cases h
      obtain ⟨h1, h2⟩ := only_rel hf hvs
      obtain ⟨v', q1, q2⟩ := hf t v hv
      have hlt := (Array.getElem?_eq_some_iff.1 q1).1
      refine ⟨⟨?_, h1⟩, ?_⟩
      · show VRel ρ v (tmps.getD t undef)
        rw [Array.getD_eq_getD_getElem?, q1]; exact q2
      · intro s hs
        rcases List.mem_cons.1 hs with rfl | q
        · exact hlt
        · exact h2 s q
    · cases h

theorem zip_rel {ρ : Ren} {tmps : Array Value} : ∀ {l : List Nat} {vs : List Value}, LRel (VRel ρ) vs (l.map fun t => tmps.getD t undef) → (∀ t ∈ l, t < tmps.size) → FRel ρ (l.zip vs) tmps
  | [], vs, _, _ => fun t v h => by simp [AFrame.get] at h
  | t :: l, [], h, _ => h.elim
  | t :: l, v :: vs, h, hs => by
    intro s u hu
    simp only [List.zip_cons_cons, AFrame.get] at hu
    by_cases q : t = s
    · subst q
      simp at hu; subst hu
      have := hs t (by simp)
      refine ⟨tmps[t], by simp [this], ?_⟩
      have h1 : VRel ρ v (tmps.getD t undef) := h.1
      rw [Array.getD_eq_getD_getElem?, Array.getElem?_eq_getElem this] at h1
      exact h1
    · rw [if_neg q] at hu
      exact zip_rel h.2 (fun x hx => hs x (by simp [hx])) s u hu

section
variable {P : Program} {X : Fix} {C : Ctx}

/-- What a function needs to know of the heap that it found. -/
structure Old (X : Fix) (C : Ctx) : Prop where
  gc : C.gc = true → C.lim = X.h0.length
  old : ∀ i b L, X.h0.get i = some b → X.ρ0 i = some L → ∀ v ∈ b.cells, ∃ v0, VRel X.ρ0 v v0

theorem tidy_sound (A : Around P X C) (O : Old X C) {live : Option (List Nat)} {st st' : St} (h : St.tidy C live st = some st') {a : Act} {w : World} (I : CI X C st a w) : CI X C st' a w := by
  unfold St.tidy at h
  split at h
  · cases h; exact I
  · rename_i l
    split at h
    · rename_i vs hvs
      obtain ⟨⟨ρ, hf, hs, hd, h0, hnew⟩, hk, hfr, hdef, hsz, hlen⟩ := I
      obtain ⟨r1, r2⟩ := only_rel hf hvs
      split at h
      · rename_i hgc
        split at h
        · rename_i vs' bs hc
          cases h
          rw [A.base] at hc ⊢
          have hk' : Kept X.h0.length X.h0 st.h := by rw [← O.gc hgc]; exact hk
          obtain ⟨ρ', q1, q2, q3, q4, q5⟩ := collect_spec hc hs hd hlen (fun i L e1 e2 => hnew i L e1 e2) r1 hk' h0 O.old A.dom
          refine ⟨⟨ρ', zip_rel q2 r2, q3, q4, fun i hi => by rw [q1 i hi]; exact h0 i hi, q5⟩, ?_, hfr, hdef, hsz, ?_⟩
          · have hkk : Kept X.h0.length st.h (st.h.take X.h0.length ++ bs) := Kept.of_same fun i hi => by
              rw [Heap.get_append_lt (by simp; omega)]
              simp [Heap.get, hi]
            exact hk.trans (hkk.mono A.lim)
          · simp; omega
        · cases h
      · cases h
        exact ⟨⟨ρ, zip_rel r1 r2, hs, hd, h0, hnew⟩, hk, hfr, hdef, hsz, hlen⟩
    · cases h

/-- The surroundings behind code: marks may have come. -/
structure Ext (X X' : Fix) : Prop where
  K : X'.K = X.K
  ρ0 : X'.ρ0 = X.ρ0
  h0 : X'.h0 = X.h0
  n : X'.n = X.n
  own : ∀ k, X'.Own k → X.Own k
  frame : Frame X.Own X.w0 X'.w0
  marks : ∀ D ∈ X'.marks, D ∈ X.marks ∨ X.w0.heap.size ≤ D

theorem Ext.refl (X : Fix) : Ext X X := ⟨rfl, rfl, rfl, rfl, fun _ h => h, .refl _ _, fun _ h => .inl h⟩
theorem Ext.trans {X Y Z : Fix} (h : Ext X Y) (k : Ext Y Z) : Ext X Z :=
  ⟨k.K.trans h.K, k.ρ0.trans h.ρ0, k.h0.trans h.h0, k.n.trans h.n, fun i q => h.own i (k.own i q), h.frame.trans (k.frame.weaken fun i _ q => h.own i q), fun D q => by
    rcases k.marks D q with r | r
    · exact h.marks D r
    · exact .inr (Nat.le_trans h.frame.size r)⟩

/-- Behind code. -/
def Post (P : Program) (X : Fix) (C : Ctx) (ex : Ex) (st : St) : Exit → Act → World → Prop :=
  fun e a w => exRel ex e ∧ ∃ X', Ext X X' ∧ Around P X' C ∧ Old X' C ∧ CI X' C st a w

theorem Post.ext {X X' : Fix} (h : Ext X X') {ex : Ex} {st : St} {e : Exit} {a : Act} {w : World} (p : Post P X' C ex st e a w) : Post P X C ex st e a w :=
  let ⟨q, Y, a, b⟩ := p; ⟨q, Y, h.trans a, b⟩

/-- A loop over a function, as it is compiled. -/
def KNode (P : Program) (glob : List Nat) (n : Nat) (t : Bool) (f : FuncId) (r : ERound) (ps : Array Tmp) (assign body : Code) : Prop :=
  r.ps = ps.toList ∧ (∀ p ∈ ps.toList, p < n) ∧ compileCode P glob n t f true assign [] = some (r.assign, []) ∧ ∃ hs hs', compileCode P glob n t f true body hs = some (r.body, hs')

def NodesOk (P : Program) (glob : List Nat) (n : Nat) (t : Bool) (f : FuncId) (K : LoopKind) (ec : ECode) : Prop :=
  ∀ i r, (i, r) ∈ ec.nodes → ∀ (tmps : Array Value) ps assign body, tmps.size = n → KNode P glob n t f r ps assign body → (∀ t ∈ r.slots, t < n) → K f i tmps ps assign body (r.slots.map fun t => tmps.getD t undef)

theorem nodes_nil {glob : List Nat} {n : Nat} {t : Bool} {f : FuncId} : ∀ (c : Code) (hs hs' : List (Option (List Nat))) (ec : ECode), compileCode P glob n t f true c hs = some (ec, hs') → ec.nodes = [] := by
  intro c
  induction c with
  | seq x y ihx ihy =>
    intro hs hs' ec hc
    simp only [compileCode] at hc
    split at hc
    · rename_i x' hs1 hx
      split at hc
      · rename_i y' hs2 hy
        cases hc
        simp [ECode.nodes, ihx _ _ _ hx, ihy _ _ _ hy]
      · cases hc
    · cases hc
  | cond cnd x y ihx ihy =>
    intro hs hs' ec hc
    simp only [compileCode] at hc
    split at hc
    · split at hc
      · rename_i x' hs1 hx
        split at hc
        · rename_i y' hs2 hy
          cases hc
          simp [ECode.nodes, ihx _ _ _ hx, ihy _ _ _ hy]
        · cases hc
      · cases hc
    · cases hc
  | block id b ih =>
    intro hs hs' ec hc
    simp only [compileCode, Option.map_eq_some_iff, Prod.mk.injEq] at hc
    obtain ⟨⟨b', hs1⟩, hb, rfl, _⟩ := hc
    simpa [ECode.nodes] using ih _ _ _ hb
  | loop b ih =>
    intro hs hs' ec hc
    cases hs with
    | nil => simp [compileCode] at hc
    | cons live hs =>
      simp only [compileCode, Option.map_eq_some_iff, Prod.mk.injEq] at hc
      obtain ⟨⟨b', hs1⟩, hb, rfl, _⟩ := hc
      simpa [ECode.nodes] using ih _ _ _ hb
  | region id ops draw =>
    intro hs hs' ec hc
    simp only [compileCode, Option.map_eq_some_iff, Prod.mk.injEq] at hc
    obtain ⟨c', hc, rfl, _⟩ := hc
    unfold compileRegion at hc
    split at hc
    · split at hc
      · split at hc
        · cases hc; rfl
        · cases hc
      · cases hc; rfl
    · cases hc
  | skip => intro hs hs' ec hc; simp only [compileCode, Option.some.injEq, Prod.mk.injEq] at hc; obtain ⟨rfl, _⟩ := hc; rfl
  | exit _ => intro hs hs' ec hc; simp only [compileCode, Option.some.injEq, Prod.mk.injEq] at hc; obtain ⟨rfl, _⟩ := hc; rfl
  | ret => intro hs hs' ec hc; simp only [compileCode, Option.some.injEq, Prod.mk.injEq] at hc; obtain ⟨rfl, _⟩ := hc; rfl
  | rangeFunc _ _ _ _ _ _ => intro hs hs' ec hc; simp [compileCode] at hc
  | scope _ _ => intro hs hs' ec hc; simp [compileCode] at hc
  | label _ => intro hs hs' ec hc; simp [compileCode] at hc
  | goto _ => intro hs hs' ec hc; simp [compileCode] at hc
  | refuse _ => intro hs hs' ec hc; simp [compileCode] at hc

theorem Sim.weaken {Own Own' : Nat → Prop} {ρ : Ren} {g : Nat → Option Blk} {w : World} (h : Sim K Own ρ g w) (k : ∀ i, i < w.heap.size → Own i → Own' i) : Sim K Own' ρ g w :=
  ⟨h.blk, fun i b L e1 e2 e3 => k _ (h.lt i b L e1 e2) (h.own i b L e1 e2 e3), h.excl⟩

/-- What is known stays where the known objects stay. -/
theorem Sim.same {Own : Nat → Prop} {ρ : Ren} {g : Nat → Option Blk} {w w' : World} (h : Sim K Own ρ g w) (k : ∀ (i : Nat) (x : Obj), w.heap[i]? = some x → (∀ d, x ≠ Obj.deferred d) → w'.heap[i]? = some x) : Sim K Own ρ g w' := by
  refine ⟨fun i b L e1 e2 => ?_, h.own, h.excl⟩
  have hb := h.blk i b L e1 e2
  obtain ⟨x, q1, q2⟩ := hb.there
  rw [k _ x q1 q2, ← q1]; exact hb

theorem Kept.put_none {n : Nat} (h : Heap) (r : Nat) : Kept n h (h.put r none) := by
  intro i _ b' e
  by_cases hi : r = i
  · subst hi
    by_cases hr : r < h.length
    · rw [Heap.get_put_eq _ hr] at e; cases e
    · rw [Heap.get_ge (by simp; omega)] at e; cases e
  · rw [Heap.get_put_ne _ hi] at e
    exact ⟨b', e, fun _ hv => .inr hv⟩

theorem rangeEnd_spec {r : Nat} {f : AFrame} {h : Heap} {ex : Ex} {st : St} (he : rangeEnd r f h = some (ex, st)) : ∃ a b k s us, h.get r = some ⟨a :: b :: .int k s :: us, true⟩ ∧ jumpEx s = some ex ∧ st = ⟨f, h.put r none⟩ := by
  unfold rangeEnd at he
  split at he
  · rename_i s hs
    simp only [Option.map_eq_some_iff, Prod.mk.injEq] at he
    obtain ⟨ex', hj, rfl, rfl⟩ := he
    unfold Heap.loopSt at hs
    split at hs
    · rename_i a b k s' us hg
      cases hs
      exact ⟨a, b, k, _, us, hg, hj, rfl⟩
    · cases hs
  · cases he

/-- What a state's number says of the jump. -/
theorem jump_spec {s : Int} {ex : Ex} {st : LoopState} {pe : Option Code} (h : LoopSt s st pe) (hj : jumpEx s = some ex) : st ≠ .busy ∧ ((ex = .normal ∧ pe = none) ∨ (ex = .ret ∧ pe = some .ret) ∨ ∃ id, ex = .exit id ∧ pe = some (.exit id)) := by
  unfold jumpEx at hj
  rcases h with ⟨rfl, rfl, rfl⟩ | ⟨rfl, rfl⟩ | ⟨rfl, rfl, rfl⟩ | ⟨id, rfl, rfl, rfl⟩
  · simp at hj; subst hj; exact ⟨by simp, .inl ⟨rfl, rfl⟩⟩
  · simp at hj
  · simp at hj; subst hj; exact ⟨by simp, .inr (.inl ⟨rfl, rfl⟩)⟩
  · rw [if_neg (by omega), if_neg (by omega), if_pos (by omega)] at hj
    cases hj
    exact ⟨by simp, .inr (.inr ⟨id, by congr 1; omega, rfl⟩)⟩

theorem roundsIn_mono {F : Fence} {m : Nat} {c : Code} {Q Q' : Exit → Act → World → Prop} (hq : ∀ e a w, Q e a w → Q' e a w) : ∀ (k : Nat) (a : Act) (w : World), Code.roundsIn F m P c Q k a w → Code.roundsIn F m P c Q' k a w
  | 0, _, _, h => h
  | k + 1, a, w, h => by
    rw [roundsIn_succ] at h ⊢
    refine wpIn_mono h fun e a w p => ?_
    cases e <;> first | exact hq _ _ _ p | exact roundsIn_mono hq k a w p

theorem code_sound (hmix : P.follows .mixedOrders = true) {K0 : LoopKind} {n : Nat} {t : Bool} {f : FuncId} {ro : Option Nat} : ∀ (c : Code) (inr : Bool) (hs hs' : List (Option (List Nat))) (ec : ECode), compileCode P C.glob n t f inr c hs = some (ec, hs') →
    (inr = false → ro = none) → NodesOk P C.glob n t f K0 ec → ∀ (X : Fix), X.n = n → X.K = K0 → Around P X C → Old X C →
    ∀ (st st' : St) (ex : Ex), ec.run C st = some (ex, st') → ∀ a w, CI X C st a w → c.wpIn (FW ro) 0 P (Post P X C ex st') a w := by
  intro c
  induction c with
  | skip =>
    intro inr hs hs' ec hc hro hN X hXn hXK A O st st' ex hr a w I
    simp only [compileCode, Option.some.injEq, Prod.mk.injEq] at hc
    obtain ⟨rfl, _⟩ := hc
    simp only [ECode.run, Option.some.injEq, Prod.mk.injEq] at hr
    obtain ⟨rfl, rfl⟩ := hr
    exact wpIn_skip ⟨trivial, X, .refl X, A, O, I⟩
  | region id ops draw =>
    intro inr hs hs' ec hc hro hN X hXn hXK A O st st' ex hr a w I
    simp only [compileCode, Option.map_eq_some_iff, Prod.mk.injEq] at hc
    obtain ⟨c', hc, rfl, _⟩ := hc
    rw [← hXn] at hc
    obtain ⟨hex, _⟩ := region_sound A hmix (id := id) hc hr I (Q := fun _ _ _ => True) (fun _ _ _ => trivial) (ro := ro)
    subst hex
    exact (region_sound A hmix (id := id) hc hr I (Q := Post P X C .normal st') (fun a' w' I' => ⟨trivial, X, .refl X, A, O, I'⟩)).2
  | seq x y ihx ihy =>
    intro inr hs hs' ec hc hro hN X hXn hXK A O st st' ex hr a w I
    simp only [compileCode] at hc
    split at hc
    · rename_i x' hs1 hx
      split at hc
      · rename_i y' hs2 hy
        simp only [Option.some.injEq, Prod.mk.injEq] at hc
        obtain ⟨rfl, _⟩ := hc
        simp only [ECode.run] at hr
        split at hr
        · rename_i st1 h1
          refine wpIn_seq (wpIn_mono (ihx _ _ _ _ hx hro (fun i r hm => hN i r (by simp [ECode.nodes, hm])) X hXn hXK A O _ _ _ h1 a w I) ?_)
          rintro e a1 w1 ⟨he, X1, E1, A1, O1, I1⟩
          cases e <;> simp only [exRel] at he
          exact wpIn_mono (ihy _ _ _ _ hy hro (fun i r hm => hN i r (by simp [ECode.nodes, hm])) X1 (E1.n.trans hXn) (E1.K.trans hXK) A1 O1 _ _ _ hr a1 w1 I1) fun _ _ _ p => p.ext E1
        · rename_i h1
          refine wpIn_seq (wpIn_mono (ihx _ _ _ _ hx hro (fun i r hm => hN i r (by simp [ECode.nodes, hm])) X hXn hXK A O _ _ _ hr a w I) ?_)
          rintro e a1 w1 ⟨he, I1⟩
          cases e with
          | normal =>
            exfalso
            cases ex <;> simp only [exRel] at he
            exact h1 _ hr
          | exit id => exact ⟨he, I1⟩
          | goto l => exact ⟨he, I1⟩
          | ret => exact ⟨he, I1⟩
          | panic ch => exact ⟨he, I1⟩
          | outgrown => exact ⟨he, I1⟩
      · cases hc
    · cases hc
  | cond cnd x y ihx ihy =>
    intro inr hs hs' ec hc hro hN X hXn hXK A O st st' ex hr a w I
    simp only [compileCode] at hc
    split at hc
    · rename_i hopd
      split at hc
      · rename_i x' hs1 hx
        split at hc
        · rename_i y' hs2 hy
          simp only [Option.some.injEq, Prod.mk.injEq] at hc
          obtain ⟨rfl, _⟩ := hc
          simp only [ECode.run] at hr
          split at hr
          · rename_i t ht
            obtain ⟨⟨ρ, hf, _, _, h0, _⟩, _⟩ := id I
            have hv := (eval_rel hf (A.globOk h0) hopd ht).bool_inv
            refine wpIn_cond hv ?_
            cases t
            · exact ihy _ _ _ _ hy hro (fun i r hm => hN i r (by simp [ECode.nodes, hm])) X hXn hXK A O _ _ _ (by simpa using hr) a w I
            · exact ihx _ _ _ _ hx hro (fun i r hm => hN i r (by simp [ECode.nodes, hm])) X hXn hXK A O _ _ _ (by simpa using hr) a w I
          · cases hr
        · cases hc
      · cases hc
    · cases hc
  | block id b ih =>
    intro inr hs hs' ec hc hro hN X hXn hXK A O st st' ex hr a w I
    simp only [compileCode, Option.map_eq_some_iff, Prod.mk.injEq] at hc
    obtain ⟨⟨b', hs1⟩, hb, rfl, _⟩ := hc
    simp only [ECode.run] at hr
    split at hr
    · rename_i j st1 h1
      refine wpIn_block (wpIn_mono (ih _ _ _ _ hb hro (fun i r hm => hN i r (by simpa [ECode.nodes] using hm)) X hXn hXK A O _ _ _ h1 a w I) ?_)
      rintro e a1 w1 ⟨he, I1⟩
      cases e <;> simp only [exRel] at he
      subst he
      simp only [Exit.inBlock]
      split at hr
      · rename_i hj
        cases hr
        rw [if_pos hj]; exact ⟨trivial, I1⟩
      · rename_i hj
        cases hr
        rw [if_neg hj]; exact ⟨rfl, I1⟩
    · rename_i h1
      refine wpIn_block (wpIn_mono (ih _ _ _ _ hb hro (fun i r hm => hN i r (by simpa [ECode.nodes] using hm)) X hXn hXK A O _ _ _ hr a w I) ?_)
      rintro e a1 w1 ⟨he, I1⟩
      cases e with
      | normal => exact ⟨he, I1⟩
      | exit j =>
        exfalso
        cases ex <;> simp only [exRel] at he
        exact h1 _ _ hr
      | goto l => exact ⟨he, I1⟩
      | ret => exact ⟨he, I1⟩
      | panic ch => exact ⟨he, I1⟩
      | outgrown => exact ⟨he, I1⟩
  | loop b ih =>
    intro inr hs hs' ec hc hro hN X hXn hXK A O st st' ex hr a w I
    cases hs with
    | nil => simp [compileCode] at hc
    | cons live hs =>
      simp only [compileCode, Option.map_eq_some_iff, Prod.mk.injEq] at hc
      obtain ⟨⟨b', hs1⟩, hb, rfl, _⟩ := hc
      simp only [ECode.run] at hr
      have key : ∀ (k : Nat) (X : Fix) (st : St) (a : Act) (w : World), X.n = n → X.K = K0 → Around P X C → Old X C → iter (ECode.run C b') (St.tidy C live) k st = some (ex, st') → CI X C st a w → Code.roundsIn (FW ro) 0 P b (Post P X C ex st') k a w := by
        intro k
        induction k with
        | zero => intro X st a w _ _ _ _ h; simp [iter] at h
        | succ k ihk =>
          intro X st a w hXn hXK A O h I
          unfold iter at h
          split at h
          · cases h
          · rename_i st1 ht
            have I1 := tidy_sound A O ht I
            rw [roundsIn_succ]
            split at h
            · rename_i st2 h2
              refine wpIn_mono (ih _ _ _ _ hb hro (fun i r hm => hN i r (by simpa [ECode.nodes] using hm)) X hXn hXK A O _ _ _ h2 a w I1) ?_
              rintro e a1 w1 ⟨he, X1, E1, A1, O1, I2⟩
              cases e <;> simp only [exRel] at he
              exact roundsIn_mono (fun _ _ _ p => p.ext E1) k a1 w1 (ihk X1 st2 a1 w1 (E1.n.trans hXn) (E1.K.trans hXK) A1 O1 h I2)
            · rename_i h2
              refine wpIn_mono (ih _ _ _ _ hb hro (fun i r hm => hN i r (by simpa [ECode.nodes] using hm)) X hXn hXK A O _ _ _ h a w I1) ?_
              rintro e a1 w1 ⟨he, I2⟩
              cases e with
              | normal =>
                exfalso
                cases ex <;> simp only [exRel] at he
                exact h2 _ h
              | exit j => exact ⟨he, I2⟩
              | goto l => exact ⟨he, I2⟩
              | ret => exact ⟨he, I2⟩
              | panic ch => exact ⟨he, I2⟩
              | outgrown => exact ⟨he, I2⟩
      exact wpIn_loop_rounds C.fuel (key C.fuel X st a w hXn hXK A O hr I)
  | exit id =>
    intro inr hs hs' ec hc hro hN X hXn hXK A O st st' ex hr a w I
    simp only [compileCode, Option.some.injEq, Prod.mk.injEq] at hc
    obtain ⟨rfl, _⟩ := hc
    simp only [ECode.run, Option.some.injEq, Prod.mk.injEq] at hr
    obtain ⟨rfl, rfl⟩ := hr
    exact wpIn_exit ⟨rfl, X, .refl X, A, O, I⟩
  | ret =>
    intro inr hs hs' ec hc hro hN X hXn hXK A O st st' ex hr a w I
    simp only [compileCode, Option.some.injEq, Prod.mk.injEq] at hc
    obtain ⟨rfl, _⟩ := hc
    simp only [ECode.run, Option.some.injEq, Prod.mk.injEq] at hr
    obtain ⟨rfl, rfl⟩ := hr
    exact wpIn_ret ⟨trivial, X, .refl X, A, O, I⟩
  | rangeFunc g ps assign body _ _ =>
    intro inr hs hs' ec hc hro hN X hXn hXK A O st st' ex hr a w I
    cases inr with
    | true => simp [compileCode] at hc
    | false =>
    obtain rfl := hro rfl
    simp only [compileCode] at hc
    split at hc
    · rename_i i fl sl hs1
      split at hc
      · rename_i hcond
        obtain ⟨hopd, hps⟩ := hcond
        split at hc
        · rename_i a' b' hs2 ha hb
          cases hc
          simp only [ECode.run] at hr
          split at hr
          · rename_i gf first captured us hgv hus
            split at hr
            · rename_i v h1 hcall
              obtain ⟨⟨ρ, hf, hsim, hd, h0, hnew⟩, hkept, hframe, hdef, hsize, hlen⟩ := I
              obtain ⟨c1, c2, k1, s, us1, e1, e2, rfl⟩ := rangeEnd_spec hr
              have hlim := A.lim
              have hown : ∀ k, w.heap.size ≤ k → X.Own k := fun k hk => A.own k (by have := hframe.size; omega)
              have hglob := A.globOk h0
              obtain ⟨fi, ca, hge, l1, l2⟩ := (eval_rel hf hglob hopd hgv).func_inv
              obtain ⟨o1, o2⟩ := only_rel hf hus
              have hslots : ∀ t ∈ sl, t < n := fun t ht => by have := o2 t ht; omega
              have hkind := hN i ⟨fl == 1, sl, ps.toList, a', b'⟩ (by simp [ECode.nodes]) a.tmps ps assign body (by omega) ⟨rfl, fun p hp => by simpa using List.all_eq_true.1 hps p hp, ha, hs1, _, hb⟩ hslots
              have hid : ρ st.h.length = none := by
                cases q : ρ st.h.length with
                | none => rfl
                | some L => have := hd _ _ q; omega
              refine wpIn_rangeFunc fun fn _ => ?_
              let D := w.heap.size
              let rec0 : Loop := { state := .ready, pending := none, fn := fn, tmps := a.tmps, params := ps, assign := assign, body := body, defers := w.heap.size }
              let wd := w.alloc (.deferred (some []))
              let w1 := wd.alloc (.loop rec0)
              let L : Loc := ⟨w.heap.size + 1, 0, 1, true⟩
              let ρ1 := upd ρ st.h.length L
              let Own1 : Nat → Prop := fun k => X.Own k ∧ k ≠ w.heap.size
              have hle : ρ.le ρ1 := le_upd hid
              have szd : wd.heap.size = w.heap.size + 1 := by show (w.heap.push _).size = _; simp
              have sz1 : w1.heap.size = w.heap.size + 2 := by show (wd.heap.push _).size = _; simp [szd]
              have oldd : ∀ k, k < w.heap.size → wd.heap[k]? = w.heap[k]? := fun k hk => (MapKept.heap_alloc w _).2 k hk
              have old1 : ∀ k, k < wd.heap.size → w1.heap[k]? = wd.heap[k]? := fun k hk => (MapKept.heap_alloc wd _).2 k hk
              have hD : w1.heap[w.heap.size]? = some (.deferred (some [])) := by rw [old1 _ (by omega)]; exact (MapKept.heap_alloc w _).1
              have hL : w1.heap[w.heap.size + 1]? = some (.loop rec0) := by have := (MapKept.heap_alloc wd (.loop rec0)).1; rwa [szd] at this
              have simd : Sim X.K Own1 ρ st.h.get wd := by
                refine ⟨fun i b M q1 q2 => ?_, fun i b M q1 q2 q3 => ⟨hsim.own i b M q1 q2 q3, ?_⟩, hsim.excl⟩
                · rw [oldd _ (hsim.lt i b M q1 q2)]; exact hsim.blk i b M q1 q2
                · have := hsim.lt i b M q1 q2; omega
              have eff : EffOk X.K ρ st.h.length wd w1 ρ1 (.push (loopBlk f i us)) := by
                refine ⟨L, rfl, szd.symm, by omega, old1, LoopOk.ok (?_ : LoopOk X.K ρ _ _) rfl rfl⟩
                refine ⟨rec0, f, i, 0, us, _, hL, rfl, by rw [hXK]; exact hkind, o1, .inl ⟨rfl, rfl, rfl⟩⟩
              have hown1 : ∀ k, wd.heap.size ≤ k → Own1 k := fun k hk => ⟨hown k (by omega), by omega⟩
              obtain ⟨sim1, fr1, _, dom1⟩ := sim_step simd eff ⟨rfl, rfl, rfl⟩ (fun _ => hid) hown1 trivial
              have hh1 : (Eff.push (loopBlk f i us)).upd st.h.get st.h.length = (st.h.push (loopBlk f i us)).get := (Eff.upd_apply st.h (.push (loopBlk f i us)) trivial).symm
              rw [hh1] at sim1
              have hd1 : ∀ j M, ρ1 j = some M → j < (st.h.push (loopBlk f i us)).length := fun j M q => by
                rw [Heap.length_push]
                rcases dom1 j M q with p | ⟨p, _⟩
                · have := hd j M p; omega
                · omega
              have hlow : ∀ j, j < st.h.length → ρ1 j = ρ j := fun j hj => by simp [ρ1, upd, Nat.ne_of_lt hj]
              have hglob1 : GlobOk C.glob ρ1 := fun g0 i0 q => by
                obtain ⟨M, m1, m2⟩ := hglob g0 i0 q
                exact ⟨M, hle _ _ m1, m2⟩
              have hrL : ρ1 st.h.length = some L := by simp [ρ1, upd]
              obtain ⟨q1, q2, q3, q4⟩ := A.call _ _ _ _ _ _ (by rw [Heap.length_push]; omega) hcall
              have hargs : LRel (VRel ρ1) (first.toList ++ [yieldVal st.h.length] ++ captured.toList) (fi.toList ++ [.func (.yield (w.heap.size + 1)) #[] #[]] ++ ca.toList) :=
                ((l1.mono fun _ _ q => q.mono hle).append (show LRel (VRel ρ1) [yieldVal st.h.length] [Value.func (.yield (w.heap.size + 1)) #[] #[]] from ⟨VRel.yield (L := L) hrL rfl rfl, trivial⟩)).append (l2.mono fun _ _ q => q.mono hle)
              have hfr0 : Frame X.Own w w1 := ⟨rfl, rfl, rfl, by omega, fun k hk _ => by rw [old1 k (by omega), oldd k hk]⟩
              have hlaid1 : LaidOk P C.glob Own1 w1 := ((A.laid.frame hframe).frame hfr0).own fun _ _ q => q.1
              have hc4 := q4 ρ1 w1 Own1 _ (fun k hk => hown1 k (by omega)) ⟨hglob1, hlaid1⟩ sim1 hd1 hargs
              have earr : (fi ++ #[Value.func (.yield (w.heap.size + 1)) #[] #[]] ++ ca : Array Value) = (fi.toList ++ [Value.func (.yield (w.heap.size + 1)) #[] #[]] ++ ca.toList).toArray := Array.ext' (by simp)
              refine ⟨w.heap.size + 1, [{ target := .collected w.heap.size, args := #[] }], w1, { target := .fn (.func gf) ca, args := fi ++ #[.func (.yield (w.heap.size + 1)) #[] #[]] }, w1, gf, _, w1, run_enterLoop_outer _ _ _ _ _, ?_, fun _ _ => trivial, ?_, fun q => absurd q (FW_depth none), (callsIn_FW hc4).mono ?_⟩
              · have hev : a.eval g = .func (.func gf) fi ca := hge
                simp [resolve, hev, Deferred.ofValue, show ∀ v, a.eval (.const v) = v from fun _ => rfl]
              · simp only [invoke]
                rw [earr]
                exact callFunc_run q1 _ _
              · rintro e w' ⟨v', ρ', rfl, p1, p2, p3, p4, p5, p6⟩
                have hrL' : ρ' st.h.length = some L := by rw [p1 _ (by rw [Heap.length_push]; omega)]; exact hrL
                obtain ⟨r1, f1, i1, s1, vs1, us2, z1, z2, z3, z4, z5⟩ := (p3.blk _ _ L e1 hrL').2.2 rfl (show L.tot ≠ 0 from Nat.one_ne_zero)
                simp only [List.cons.injEq, Value.int.injEq] at z2
                obtain ⟨_, _, ⟨_, rfl⟩, _⟩ := z2
                obtain ⟨j1, j2⟩ := jump_spec z5 e2
                let w4 := w'.putObj (w.heap.size + 1) (.loop { r1 with state := .exhausted })
                have hend := run_endLoop (P := P) (w := w') (l := w.heap.size + 1) z1 j1
                have hl' : w.heap.size + 1 < w'.heap.size := (Array.getElem?_eq_some_iff.1 z1).1
                have hoth : ∀ k, k ≠ w.heap.size + 1 → w4.heap[k]? = w'.heap[k]? := fun k hk => World.putObj_heap_other hk
                have fr4 : Frame Own1 w' w4 := ⟨rfl, rfl, rfl, by simp [w4], fun k _ ho => hoth k fun q => ho (by rw [q]; exact hown1 _ (by omega))⟩
                let X' : Fix := { X with Own := Own1, w0 := w1, marks := w.heap.size :: X.marks }
                have hfr1 : Frame X.Own w w1 := ⟨rfl, rfl, rfl, by omega, fun k hk _ => by rw [old1 k (by omega), oldd k hk]⟩
                have hmk : ∀ D ∈ X.marks, D < w.heap.size ∧ w1.heap[D]? = some (.deferred (some [])) ∧ ¬ Own1 D := fun D hm => by
                  obtain ⟨m1, m2, m3⟩ := A.marks D hm
                  have := hframe.size
                  refine ⟨by omega, ?_, fun q => m3 q.1⟩
                  rw [old1 D (by omega), oldd D (by omega), hframe.block D m1 m3]; exact m2
                have A' : Around P X' C := ⟨fun k hk => hown1 k (by have : w1.heap.size ≤ k := hk; omega), A.glob, hlaid1, A.dom, A.base, A.lim, A.call, A.round, fun D hm => by
                    rcases List.mem_cons.1 hm with rfl | hm
                    · exact ⟨by show _ < w1.heap.size; omega, hD, fun q => q.2 rfl⟩
                    · obtain ⟨m1, m2, m3⟩ := hmk D hm
                      exact ⟨by show _ < w1.heap.size; omega, m2, m3⟩,
                  List.nodup_cons.2 ⟨fun hm => by have := (hmk _ hm).1; omega, A.nodup⟩⟩
                have O' : Old X' C := ⟨O.gc, O.old⟩
                have E' : Ext X X' := ⟨rfl, rfl, rfl, rfl, fun k q => q.1, hframe.trans hfr1, fun D hm => by
                  rcases List.mem_cons.1 hm with rfl | hm
                  · exact .inr hframe.size
                  · exact .inl hm⟩
                have I' : CI X' C ⟨st.f, h1.put st.h.length none⟩ { a with defers := [{ target := .collected w.heap.size, args := #[] }] ++ a.defers } w4 := by
                  rw [Heap.length_push] at q2 p1 p5
                  refine ⟨⟨ρ', ?_, ⟨?_, ?_, ?_⟩, fun j M q => by simp only [Heap.length_put]; exact p4 j M q, fun j hj => ?_, fun j M q hj => ?_⟩, ?_, p6.trans fr4, ?_, hsize, ?_⟩
                  · exact hf.mono fun j M q => by rw [p1 j (by have := hd j M q; omega)]; exact hle _ _ q
                  · intro j b M m1 m2
                    have hne : st.h.length ≠ j := fun q => by subst q; simp only at m1; rw [Heap.get_put_eq _ (Heap.get_lt e1)] at m1; cases m1
                    simp only at m1
                    rw [Heap.get_put_ne _ hne] at m1
                    rw [hoth _ fun q => p3.excl _ _ _ _ L M hne e1 rfl m1 hrL' m2 q.symm]
                    exact p3.blk j b M m1 m2
                  · intro j b M m1 m2 m3
                    have hne : st.h.length ≠ j := fun q => by subst q; simp only at m1; rw [Heap.get_put_eq _ (Heap.get_lt e1)] at m1; cases m1
                    simp only at m1
                    rw [Heap.get_put_ne _ hne] at m1
                    exact p3.own j b M m1 m2 m3
                  · intro i j b c M N hij m1 m2 m3 m4 m5
                    have hne : st.h.length ≠ i := fun q => by subst q; simp only at m1; rw [Heap.get_put_eq _ (Heap.get_lt e1)] at m1; cases m1
                    have hne2 : st.h.length ≠ j := fun q => by subst q; simp only at m3; rw [Heap.get_put_eq _ (Heap.get_lt e1)] at m3; cases m3
                    simp only at m1 m3
                    rw [Heap.get_put_ne _ hne] at m1
                    rw [Heap.get_put_ne _ hne2] at m3
                    exact p3.excl i j b c M N hij m1 m2 m3 m4 m5
                  · have hj' : j < X.h0.length := hj
                    rw [p1 j (by omega), hlow j (by omega)]; exact h0 j hj'
                  · rcases Nat.lt_or_ge j (st.h.length + 1) with m | m
                    · rw [p1 j m] at q
                      rcases dom1 j M q with m2 | ⟨m2, _⟩
                      · obtain ⟨u1, u2⟩ := hnew j M m2 hj
                        exact ⟨⟨u1, by omega⟩, by have := p6.size; simp only [w4, World.putObj_size]; omega⟩
                      · subst m2
                        rw [hrL] at q; cases q
                        exact ⟨hown1 _ (by show _ ≤ w.heap.size + 1; omega), by simp only [w4, World.putObj_size]; exact hl'⟩
                    · obtain ⟨u1, u2⟩ := p5 j M q m
                      exact ⟨u1, by simp only [w4, World.putObj_size]; exact u2⟩
                  · exact (hkept.trans (Kept.push _ (by omega))).trans (q3.trans (Kept.put_none _ _))
                  · show [_] ++ a.defers = _
                    rw [hdef]; rfl
                  · simp only [Heap.length_put]; show X.h0.length ≤ _; omega
                refine ⟨r1.pending, w4, hend, ?_⟩
                rcases j2 with ⟨rfl, hp⟩ | ⟨rfl, hp⟩ | ⟨id, rfl, hp⟩
                · rw [hp]; exact ⟨trivial, X', E', A', O', I'⟩
                · rw [hp]; exact wpIn_ret ⟨trivial, X', E', A', O', I'⟩
                · rw [hp]; exact wpIn_exit ⟨rfl, X', E', A', O', I'⟩
            · cases hr
          · cases hr
        · cases hc
      · cases hc
    · cases hc
  | scope _ _ => intro inr hs hs' ec hc; simp [compileCode] at hc
  | label _ => intro inr hs hs' ec hc; simp [compileCode] at hc
  | goto _ => intro inr hs hs' ec hc; simp [compileCode] at hc
  | refuse _ => intro inr hs hs' ec hc; simp [compileCode] at hc
end

/-- The results of a function. -/
theorem results_sound {P : Program} {fn : Func} {rs : List ERes} (hc : fn.results.toList.mapM (compileRes P) = some rs) {st : St} {vs : List Value} (hr : rs.mapM (ERes.get st) = some vs) {ρ : Ren} {Own : Nat → Prop} {a : Act} {w : World}
    (hf : FRel ρ st.f a.tmps) (hs : Sim K Own ρ st.h.get w) : ∃ v', (results fn a.tmps).run P w = .ok v' w ∧ VRel ρ (retVal vs) v' := by
  have one : ∀ (x : ResultVar) (r : ERes) (v : Value), compileRes P x = some r → r.get st = some v → ∃ v', (match x with
      | .tmp t => pure (a.tmps.getD t undef)
      | .cell p t => do loadVar t (← asAddr (a.tmps.getD p undef)) : Sem Value).run P w = .ok v' w ∧ VRel ρ v v' := by
    intro x r v hx hr
    cases x with
    | tmp t =>
      simp only [compileRes, Option.some.injEq] at hx; subst hx
      obtain ⟨v', q1, q2⟩ := hf t v hr
      refine ⟨v', ?_, q2⟩
      simp only [Array.getD_eq_getD_getElem?, q1, Option.getD_some, Sem.run_pure]
    | cell p ty =>
      simp only [compileRes] at hx
      split at hx
      · rename_i g s hg hsz
        cases hx
        simp only [ERes.get] at hr
        split at hr
        · rename_i b off hp
          obtain ⟨v0, q1, q2⟩ := hf p _ hp
          obtain ⟨L, hL, hpe⟩ := q2.ptr_inv
          have hkd := q2.ptr_kind hL
          subst hpe
          have e1 : a.tmps.getD p undef = .pointer (some ⟨L.blk, L.off + off, none⟩) := by rw [Array.getD_eq_getD_getElem?, q1]; rfl
          split at hr
          · rename_i k hk
            have hb := hs.blk b k L hk hL
            split at hr
            · rename_i hgt
              subst hgt
              split at hr
              · rename_i hle
                cases hr
                obtain ⟨us, r1, r2, r3⟩ := hb.cells hkd hle
                refine ⟨.agg us.toArray, ?_, VRel.agg_mk r1⟩
                simp only [e1, asAddr, Sem.run_bind, Sem.run_pure, Result.andThen_ok]
                exact run_loadVar_agg hg hsz us r2 r3
              · cases hr
            · rename_i hgf
              have hgf : g = false := by simpa using hgf
              subst hgf
              obtain ⟨cur, e, fz, c1, c2, c3, _, c5⟩ := hb.1 hkd
              obtain ⟨v', q1, q2⟩ := c5 _ _ hr
              refine ⟨v', ?_, q2⟩
              simp only [e1, asAddr, Sem.run_bind, Sem.run_pure, Result.andThen_ok]
              exact run_loadVar_one hg (by rw [cell_at c1]; exact q1)
          · cases hr
        · cases hr
      · cases hx
  have all : ∀ (xs : List ResultVar) (rs : List ERes) (vs : List Value), xs.mapM (compileRes P) = some rs → rs.mapM (ERes.get st) = some vs →
      ∃ us, (xs.mapM fun x => (match x with
        | .tmp t => pure (a.tmps.getD t undef)
        | .cell p t => do loadVar t (← asAddr (a.tmps.getD p undef)) : Sem Value)).run P w = .ok us w ∧ LRel (VRel ρ) vs us := by
    intro xs
    induction xs with
    | nil =>
      intro rs vs h1 h2
      simp at h1; subst h1
      simp at h2; subst h2
      exact ⟨[], by simp, trivial⟩
    | cons x xs ih =>
      intro rs vs h1 h2
      rw [List.mapM_cons] at h1
      simp only [bind, Option.bind_eq_some_iff, pure, Option.some.injEq] at h1
      obtain ⟨r, hr, rs', hrs, rfl⟩ := h1
      rw [List.mapM_cons] at h2
      simp only [bind, Option.bind_eq_some_iff, pure, Option.some.injEq] at h2
      obtain ⟨v, hv, vs', hvs, rfl⟩ := h2
      obtain ⟨v', q1, q2⟩ := one x r v hr hv
      obtain ⟨us, q3, q4⟩ := ih rs' vs' hrs hvs
      refine ⟨v' :: us, ?_, q2, q4⟩
      rw [List.mapM_cons]
      simp only [Sem.run_bind, q1, Result.andThen_ok, q3, Sem.run_pure]
  obtain ⟨us, q1, q2⟩ := all _ _ _ hc hr
  refine ⟨if h : us.toArray.size = 1 then us.toArray[0] else .tuple us.toArray, ?_, ?_⟩
  · unfold results
    rw [Array.mapM_eq_mapM_toList]
    simp only [Sem.run_bind, Sem.run_map, Sem.run_pure]
    exact congrArg (fun r : Result (List Value) => (r.andThen fun a w' => Result.ok a.toArray w').andThen fun (a : Array Value) w' => Result.ok (if h : a.size = 1 then a[0] else .tuple a) w') q1
  · match vs, us, q2 with
    | [v], [u], q2 => exact q2.1
    | [], [], q2 => exact .tuple rfl (fun i x y hx => by simp at hx)
    | v1 :: v2 :: vs, u1 :: u2 :: us, q2 =>
      rw [dif_neg (by simp)]
      exact VRel.tuple_mk q2

theorem argFrame_rel {ρ : Ren} {pre : List Value} : ∀ {vs us : List Value} {k : Nat} {rest : List Value}, LRel (VRel ρ) vs us → pre.length = k → FRel ρ (argFrame k vs) (pre ++ us ++ rest).toArray
  | [], [], k, rest, _, _ => fun t v h => by simp [argFrame, AFrame.get] at h
  | v :: vs, u :: us, k, rest, h, hk => by
    intro t x hx
    simp only [argFrame, AFrame.get] at hx
    by_cases q : k = t
    · subst q
      simp at hx; subst hx
      refine ⟨u, ?_, h.1⟩
      rw [← hk]; simp
    · rw [if_neg q] at hx
      have := argFrame_rel (pre := pre ++ [u]) (rest := rest) h.2 (by simp [hk]) t x hx
      simpa using this
  | [], _ :: _, _, _, h, _ => h.elim
  | _ :: _, [], _, _, h, _ => h.elim

/-- What the abstract code leaves, in the abstract alone. -/
theorem exec_kept {P : Program} {C : Ctx} (hcall : ∀ lim f vs h v h', lim ≤ h.length → C.call lim f vs h = some (v, h') → CallOk P K C.glob f lim vs h v h') (hround : ∀ lim b vs h v h', lim ≤ h.length → C.round lim b vs h = some (v, h') → RoundOk P K C.glob lim b vs h v h') {e : EOp} {frz : Bool} {f : AFrame} {h h' : Heap} {v : Value} {rd wr : List Nat}
    (hl : C.lim ≤ h.length) (hx : e.exec C frz f h = some (v, h', rd, wr)) : h.length ≤ h'.length ∧ Kept C.lim h h' := by
  cases e
  case call gf args =>
    simp only [EOp.exec] at hx
    split at hx
    · simp only [Option.map_eq_some_iff] at hx
      obtain ⟨⟨u, k⟩, hc, hx⟩ := hx
      cases hx
      obtain ⟨_, q2, q3, _⟩ := callAt_ok hcall hl hc
      exact ⟨q2, q3⟩
    · cases hx
  case callVal x args =>
    simp only [EOp.exec] at hx
    split at hx
    · simp only [Option.map_eq_some_iff] at hx
      obtain ⟨⟨u, k⟩, hc, hx⟩ := hx
      cases hx
      obtain ⟨_, q2, q3, _⟩ := callAt_ok hcall hl hc
      exact ⟨q2, q3⟩
    · split at hx
      · simp only [Option.map_eq_some_iff] at hx
        obtain ⟨⟨u, k⟩, hc, hx⟩ := hx
        cases hx
        obtain ⟨_, q2, q3, _⟩ := roundAt_ok hround hl hc
        exact ⟨q2, q3⟩
      · cases hx
    · cases hx
  all_goals
    simp only [EOp.exec, Option.map_eq_some_iff] at hx
    obtain ⟨out, hr, hx⟩ := hx
    cases hx
    exact ⟨Eff.length_le _ _, EOp.run_kept hr hl⟩

theorem ops_kept {P : Program} {C : Ctx} (hcall : ∀ lim f vs h v h', lim ≤ h.length → C.call lim f vs h = some (v, h') → CallOk P K C.glob f lim vs h v h') (hround : ∀ lim b vs h v h', lim ≤ h.length → C.round lim b vs h = some (v, h') → RoundOk P K C.glob lim b vs h v h') : ∀ (es : List EOper) (k : Nat) (l : Log) (st st' : St), C.lim ≤ st.h.length → runOps C es k l st = some st' →
    st.h.length ≤ st'.h.length ∧ Kept C.lim st.h st'.h
  | [], k, l, st, st', _, h => by simp [runOps] at h; subst h; exact ⟨Nat.le_refl _, .refl _ _⟩
  | e :: es, k, l, st, st', hl, h => by
    unfold runOps at h
    split at h
    · split at h
      · rename_i v hh rd wr hx
        split at h
        · cases h
        · obtain ⟨q1, q2⟩ := exec_kept hcall hround hl hx
          obtain ⟨q3, q4⟩ := ops_kept hcall hround es _ _ _ _ (by simp only; omega) h
          exact ⟨by simp only at q3; omega, q2.trans q4⟩
      · cases h
    · exact ops_kept hcall hround es _ _ ⟨st.f.put e.dst undef, st.h⟩ _ hl h
    · cases h

theorem code_kept {P : Program} {C : Ctx} (hcall : ∀ lim f vs h v h', lim ≤ h.length → C.call lim f vs h = some (v, h') → CallOk P K C.glob f lim vs h v h') (hround : ∀ lim b vs h v h', lim ≤ h.length → C.round lim b vs h = some (v, h') → RoundOk P K C.glob lim b vs h v h') (hlb : C.lim ≤ C.base) : ∀ (c : ECode) (st st' : St) (ex : Ex), C.base ≤ st.h.length → c.run C st = some (ex, st') →
    C.base ≤ st'.h.length ∧ Kept C.lim st.h st'.h := by
  intro c
  induction c with
  | skip => intro st st' ex hb hr; simp only [ECode.run, Option.some.injEq, Prod.mk.injEq] at hr; obtain ⟨_, rfl⟩ := hr; exact ⟨hb, .refl _ _⟩
  | exit id => intro st st' ex hb hr; simp only [ECode.run, Option.some.injEq, Prod.mk.injEq] at hr; obtain ⟨_, rfl⟩ := hr; exact ⟨hb, .refl _ _⟩
  | ret => intro st st' ex hb hr; simp only [ECode.run, Option.some.injEq, Prod.mk.injEq] at hr; obtain ⟨_, rfl⟩ := hr; exact ⟨hb, .refl _ _⟩
  | region draw ops =>
    intro st st' ex hb hr
    simp only [ECode.run, Option.map_eq_some_iff] at hr
    obtain ⟨st1, hr, he⟩ := hr
    cases he
    obtain ⟨q1, q2⟩ := ops_kept hcall hround _ _ _ _ _ (by omega) hr
    exact ⟨by omega, q2⟩
  | seq a b iha ihb =>
    intro st st' ex hb hr
    simp only [ECode.run] at hr
    split at hr
    · rename_i st1 h1
      obtain ⟨q1, q2⟩ := iha _ _ _ hb h1
      obtain ⟨q3, q4⟩ := ihb _ _ _ q1 hr
      exact ⟨q3, q2.trans q4⟩
    · exact iha _ _ _ hb hr
  | cond c a b iha ihb =>
    intro st st' ex hb hr
    simp only [ECode.run] at hr
    split at hr
    · split at hr
      · exact iha _ _ _ hb hr
      · exact ihb _ _ _ hb hr
    · cases hr
  | block id b ih =>
    intro st st' ex hb hr
    simp only [ECode.run] at hr
    split at hr
    · rename_i j st1 h1
      obtain ⟨q1, q2⟩ := ih _ _ _ hb h1
      split at hr <;> cases hr <;> exact ⟨q1, q2⟩
    · exact ih _ _ _ hb hr
  | loop live b ih =>
    intro st st' ex hb hr
    simp only [ECode.run] at hr
    have tk : ∀ (st st' : St), C.base ≤ st.h.length → St.tidy C live st = some st' → C.base ≤ st'.h.length ∧ Kept C.lim st.h st'.h := by
      intro st st' hb h
      unfold St.tidy at h
      split at h
      · cases h; exact ⟨hb, .refl _ _⟩
      · split at h
        · split at h
          · split at h
            · cases h
              refine ⟨by simp; omega, Kept.of_same fun i hi => ?_⟩
              rw [Heap.get_append_lt (by simp; omega)]
              simp [Heap.get, show i < C.base by omega]
            · cases h
          · cases h; exact ⟨hb, .refl _ _⟩
        · cases h
    have key : ∀ (k : Nat) (st : St), C.base ≤ st.h.length → iter (ECode.run C b) (St.tidy C live) k st = some (ex, st') → C.base ≤ st'.h.length ∧ Kept C.lim st.h st'.h := by
      intro k
      induction k with
      | zero => intro st _ h; simp [iter] at h
      | succ k ihk =>
        intro st hb h
        unfold iter at h
        split at h
        · cases h
        · rename_i st1 ht
          obtain ⟨q1, q2⟩ := tk _ _ hb ht
          split at h
          · rename_i st2 h2
            obtain ⟨q3, q4⟩ := ih _ _ _ q1 h2
            obtain ⟨q5, q6⟩ := ihk st2 q3 h
            exact ⟨q5, q2.trans (q4.trans q6)⟩
          · obtain ⟨q3, q4⟩ := ih _ _ _ q1 h
            exact ⟨q3, q2.trans q4⟩
    exact key C.fuel st hb hr
  | rangeF g f i full sl ps a b _ _ =>
    intro st st' ex hb hr
    simp only [ECode.run] at hr
    split at hr
    · split at hr
      · rename_i v h1 hc
        obtain ⟨_, _, _, _, _, _, _, rfl⟩ := rangeEnd_spec hr
        obtain ⟨_, q2, q3, _⟩ := hcall _ _ _ _ _ _ (by rw [Heap.length_push]; omega) hc
        rw [Heap.length_push] at q2
        exact ⟨by simp only [Heap.length_put]; omega, (Kept.push _ (by omega)).trans (q3.trans (Kept.put_none _ _))⟩
      · cases hr
    · cases hr

theorem Heap.setLoop_spec {h h' : Heap} {r : Nat} {s : Int} (e : h.setLoop r s = some h') : ∃ a b c us, h.get r = some ⟨a :: b :: c :: us, true⟩ ∧ h' = h.put r (some ⟨a :: b :: .int .i64 s :: us, true⟩) := by
  unfold Heap.setLoop at e
  split at e
  · rename_i a b c us hg
    cases e
    exact ⟨a, b, c, us, hg, rfl⟩
  · cases e

theorem Heap.setLoop_kept {h h' : Heap} {r : Nat} {s : Int} (e : h.setLoop r s = some h') (n : Nat) : h'.length = h.length ∧ Kept n h h' := by
  obtain ⟨a, b, c, us, hg, rfl⟩ := Heap.setLoop_spec e
  refine ⟨by simp, fun i _ b' e => ?_⟩
  by_cases hi : r = i
  · subst hi
    rw [Heap.get_put_eq _ (Heap.get_lt hg)] at e
    cases e
    refine ⟨_, hg, fun v hv => ?_⟩
    simp only [List.mem_cons] at hv ⊢
    rcases hv with q | q | q | q
    · exact .inr (.inl q)
    · exact .inr (.inr (.inl q))
    · subst q; exact .inl rfl
    · exact .inr (.inr (.inr (.inr q)))
  · rw [Heap.get_put_ne _ hi] at e
    exact ⟨b', e, fun _ hv => .inr hv⟩

/-- A loop's record gets another state. -/
theorem setLoop_sound {P : Program} {X : Fix} {C : Ctx} (A : Around P X C) {f : AFrame} {h h' : Heap} {r : Nat} {s : Int} (e : h.setLoop r s = some h') {L : Loc} (hL : X.ρ0 r = some L) (hk : L.map = true) (ht : L.tot = 1) {a : Act} {w : World} (I : CI X C ⟨f, h⟩ a w) :
    ∃ rc, w.heap[L.blk]? = some (.loop rc) ∧ (∀ s0, h.loopSt r = some s0 → LoopSt s0 rc.state rc.pending) ∧ ∀ st pe, LoopSt s st pe → CI X C ⟨f, h'⟩ a (w.putObj L.blk (.loop { rc with state := st, pending := pe })) := by
  have hkk := Heap.setLoop_kept e C.lim
  obtain ⟨c1, c2, c3, us, hg, rfl⟩ := Heap.setLoop_spec e
  obtain ⟨⟨ρ, hf, hs, hd, h0, hnew⟩, hkept, hframe, hdef, hsize, hlen⟩ := I
  simp only at hf hs hd hkept hlen
  have hr : r < X.h0.length := A.dom r L hL
  have hρ : ρ r = some L := by rw [h0 r hr]; exact hL
  obtain ⟨rc, f1, i1, s1, vs1, us1, z1, z2, z3, z4, z5⟩ := (hs.blk _ _ L hg hρ).2.2 hk (by omega)
  simp only [List.cons.injEq] at z2
  obtain ⟨rfl, rfl, rfl, rfl⟩ := z2
  have hlt : L.blk < w.heap.size := (Array.getElem?_eq_some_iff.1 z1).1
  refine ⟨rc, z1, ?_, ?_⟩
  · intro s0 q
    unfold Heap.loopSt at q
    rw [hg] at q
    cases q; exact z5
  · intro st pe hst
    have eff : EffOk X.K ρ h.length w (w.putObj L.blk (.loop { rc with state := st, pending := pe })) ρ (.write r ⟨.int .i64 f1 :: .int .i64 i1 :: .int .i64 s :: us, true⟩) :=
      ⟨rfl, L, hρ, by simp, fun k hk => World.putObj_heap_other hk, LoopOk.ok ⟨_, f1, i1, s, us, us1, World.putObj_heap_same hlt, rfl, z3, z4, hst⟩ hk ht⟩
    have hok : (Eff.write r ⟨.int .i64 f1 :: .int .i64 i1 :: .int .i64 s :: us, true⟩).okAt h.get := ⟨_, hg, rfl⟩
    obtain ⟨s1, s2, _, _⟩ := sim_step hs eff ⟨rfl, rfl, rfl⟩ (fun q => by cases q) (fun k hk => A.own k (by have := hframe.size; omega)) hok
    rw [← Eff.upd_apply h _ hok] at s1
    refine ⟨⟨ρ, hf, s1, fun i M q => by simp only [Heap.length_put]; exact hd i M q, h0, fun i M q1 q2 => by rw [World.putObj_size]; exact hnew i M q1 q2⟩, hkept.trans hkk.2, hframe.trans s2, hdef, hsize, by simp only [Heap.length_put]; exact hlen⟩

/-- What a record is in a compiled program. -/
def EProg.kind (E : EProg) (P : Program) : LoopKind := fun f i tmps ps assign body us =>
  ∃ F r t, E.fn f = some F ∧ lookupN F.code.nodes i = some r ∧ KNode P E.glob tmps.size t f r ps assign body ∧ us = (r.slots.map fun t => tmps.getD t undef) ∧ ∀ t ∈ r.slots, t < tmps.size

theorem lookupN_mem : ∀ {l : List (Nat × ERound)} {i : Nat} {r : ERound}, noRepeat (l.map Prod.fst) = true → (i, r) ∈ l → lookupN l i = some r
  | [], _, _, _, h => by simp at h
  | (j, q) :: l, i, r, hn, h => by
    simp only [List.map_cons, noRepeat, Bool.and_eq_true, Bool.not_eq_true', List.contains_eq_mem, decide_eq_false_iff_not] at hn
    unfold lookupN
    rcases List.mem_cons.1 h with e | h
    · cases e; rw [if_pos rfl]
    · rw [if_neg (fun e => hn.1 (by rw [e]; exact List.mem_map.2 ⟨_, h, rfl⟩))]
      exact lookupN_mem hn.2 h

theorem round_tmps {ρ : Ren} : ∀ {ps : List Nat} {vs us : List Value} {f : AFrame} {tmps : Array Value}, LRel (VRel ρ) vs us → ps.length = vs.length → (∀ p ∈ ps, p < tmps.size) → FRel ρ f tmps →
    FRel ρ ((ps.zip vs).reverse ++ f) ((ps.zip us).foldl (fun t (p : Nat × Value) => t.setIfInBounds p.1 p.2) tmps) ∧ ((ps.zip us).foldl (fun t (p : Nat × Value) => t.setIfInBounds p.1 p.2) tmps).size = tmps.size
  | [], [], [], f, tmps, _, _, _, hf => ⟨hf, rfl⟩
  | p :: ps, v :: vs, u :: us, f, tmps, h, hl, hp, hf => by
    have h1 : FRel ρ ((p, v) :: f) (tmps.setIfInBounds p u) := by
      intro t x hx
      simp only [AFrame.get] at hx
      by_cases q : p = t
      · subst q
        simp at hx; subst hx
        exact ⟨u, by simp [hp p (by simp)], h.1⟩
      · rw [if_neg q] at hx
        obtain ⟨x', e1, e2⟩ := hf t x hx
        exact ⟨x', by rw [Array.getElem?_setIfInBounds_ne q]; exact e1, e2⟩
    obtain ⟨r1, r2⟩ := round_tmps (f := (p, v) :: f) (tmps := tmps.setIfInBounds p u) h.2 (by simpa using hl) (fun x hx => by simpa using hp x (by simp [hx])) h1
    refine ⟨?_, by simpa using r2⟩
    simpa using r1
  | _ :: _, [], _, _, _, _, hl, _, _ => by simp at hl
  | [], _ :: _, _, _, _, _, hl, _, _ => by simp at hl
  | _, [], _ :: _, _, _, h, _, _, _ => h.elim
  | _, _ :: _, [], _, _, h, _, _, _ => h.elim

/-- THE THEOREM ON ROUNDS: what the abstract evaluator gives for a round, the round gives. -/
theorem round_ok {P : Program} {E : EProg} (hmix : P.follows .mixedOrders = true) {call : Nat → FuncId → List Value → Heap → Option (Value × Heap)} (hcall : ∀ lim f vs h v h', lim ≤ h.length → call lim f vs h = some (v, h') → CallOk P (E.kind P) E.glob f lim vs h v h')
    {lim b : Nat} {vs : List Value} {h h' : Heap} {v : Value} (hl : lim ≤ h.length) (hr : EProg.roundOf E call lim b vs h = some (v, h')) : RoundOk P (E.kind P) E.glob lim b vs h v h' := by
  unfold EProg.roundOf at hr
  split at hr
  · rename_i k1 f0 k2 i0 k3 s0 us hget
    split at hr
    · rename_i F hF
      split at hr
      · rename_i r hlk
        split at hr
        · rename_i hvl
          generalize hC : (⟨call, h.length, if r.full then lim else h.length, !r.full, E.glob, E.fuel, noRound⟩ : Ctx) = C at hr
          have hCcall : C.call = call := by rw [← hC]
          have hCbase : C.base = h.length := by rw [← hC]
          have hCglob : C.glob = E.glob := by rw [← hC]
          have hClim : C.lim = if r.full then lim else h.length := by rw [← hC]
          have hCgc : C.gc = !r.full := by rw [← hC]
          have hCround : C.round = noRound := by rw [← hC]
          have hcall' : ∀ lim f vs h v h', lim ≤ h.length → C.call lim f vs h = some (v, h') → CallOk P (E.kind P) C.glob f lim vs h v h' := by rw [hCcall, hCglob]; exact hcall
          have hround' : ∀ lim b vs h v h', lim ≤ h.length → C.round lim b vs h = some (v, h') → RoundOk P (E.kind P) C.glob lim b vs h v h' := by rw [hCround]; intro _ _ _ _ _ _ _ q; cases q
          have hlim1 : C.lim ≤ h.length := by rw [hClim]; split <;> omega
          have hlim2 : lim ≤ C.lim := by rw [hClim]; split <;> omega
          have hlb : C.lim ≤ C.base := by omega
          unfold ERound.run at hr
          split at hr
          · rename_i st1 ha
            split at hr
            · rename_i s1 hh1 hls hset
              split at hr
              · rename_i hs1
                subst hs1
                split at hr
                · rename_i ex st2 hb
                  split at hr
                  · rename_i hh2 hset2
                    cases hr
                    obtain ⟨a1, a2⟩ := code_kept hcall' hround' hlb _ _ _ _ (by simp only; omega) ha
                    obtain ⟨a3, a4⟩ := Heap.setLoop_kept hset C.lim
                    obtain ⟨b1, b2⟩ := code_kept hcall' hround' hlb _ _ _ _ (by simp only; omega) hb
                    obtain ⟨b3, b4⟩ := Heap.setLoop_kept hset2 C.lim
                    have hkall : Kept C.lim h hh2 := a2.trans (a4.trans (b2.trans b4))
                    have hlall : h.length ≤ hh2.length := by omega
                    refine ⟨?_, ?_, ?_⟩
                    · split
                      · exact hlall
                      · simp; omega
                    · split
                      · exact hkall.mono hlim2
                      · refine (hkall.mono hlim2).trans (Kept.of_same fun i hi => ?_)
                        simp [Heap.get, show i < h.length by omega]
                    · intro ρ w Own args L hown hglob hs hd hrel hL hk ht
                      obtain ⟨rc, f, i, s, vs0, us', z1, z2, z3, z4, z5⟩ := (hs.blk _ _ L hget hL).2.2 hk (by omega)
                      simp only [List.cons.injEq, Value.int.injEq] at z2
                      obtain ⟨⟨rfl, rfl⟩, ⟨rfl, rfl⟩, ⟨rfl, rfl⟩, rfl⟩ := z2
                      obtain ⟨F', r', tt, y1, y2, ⟨y3, y4, y5, hsb, hsb', y6⟩, y7, y8⟩ := z3
                      simp only [Int.toNat_natCast] at hF hlk
                      rw [hF] at y1; cases y1
                      rw [hlk] at y2; cases y2
                      have hsz : args.toArray.size = rc.params.size := by
                        have := hrel.len
                        have e2 : r.ps.length = rc.params.size := by rw [y3]; simp
                        simp; omega
                      refine ⟨rc.fn, _, rc.assign, rc.body, run_yield z1 hsz, ?_⟩
                      have hslot : FRel ρ (r.slots.zip us) rc.tmps := zip_rel (by rw [y7] at z4; exact z4) y8
                      have hz : (rc.params.zip args.toArray).foldl (fun tmps (x : Tmp × Value) => match x with | (t, a) => tmps.setIfInBounds t a) rc.tmps = (r.ps.zip args).foldl (fun t (p : Nat × Value) => t.setIfInBounds p.1 p.2) rc.tmps := by
                        rw [← Array.foldl_toList, Array.toList_zip, y3]
                      rw [hz]
                      obtain ⟨fr1, fr2⟩ := round_tmps (ps := r.ps) hrel (by omega) (by rw [y3]; exact y4) hslot
                      let X : Fix := ⟨E.kind P, [], Own, ρ, h, w, rc.tmps.size⟩
                      have A : Around P X C := ⟨hown, by rw [hCglob]; exact hglob.1, by rw [hCglob]; exact hglob.2, hd, hCbase, hlim1, hcall', hround', fun D hm => (by cases hm), List.nodup_nil⟩
                      have O : Old X C := ⟨fun q => by rw [hCgc] at q; rw [hClim]; simp at q; simp [q]; rfl, fun i b L e1 e2 v hv => (hs.blk i b L e1 e2).rel hv⟩
                      have I0 : CI X C ⟨roundFrame r.ps vs (r.slots.zip us), h⟩ { tmps := (r.ps.zip args).foldl (fun t (p : Nat × Value) => t.setIfInBounds p.1 p.2) rc.tmps, defers := [] } w :=
                        ⟨⟨ρ, fr1, hs, hd, fun _ _ => rfl, fun i L e1 e2 => absurd (hd i L e1) (by have : h.length ≤ i := e2; omega)⟩, .refl _ _, .refl _ _, rfl, fr2, Nat.le_refl _⟩
                      refine roundIn_of_wpIn (F := FW none) trivial ?_
                      show rc.assign.wpIn (FW (some L.blk)) 0 P _ _ w
                      have N0 : NodesOk P C.glob rc.tmps.size tt f (E.kind P) r.assign := fun i r hm => by rw [nodes_nil _ _ _ _ y5] at hm; simp at hm
                      have N1 : NodesOk P C.glob rc.tmps.size tt f (E.kind P) r.body := fun i r hm => by rw [nodes_nil _ _ _ _ y6] at hm; simp at hm
                      refine wpIn_mono (code_sound hmix rc.assign true [] [] r.assign (by rw [hCglob]; exact y5) (by simp) N0 X rfl rfl A O _ _ _ ha _ w I0) ?_
                      rintro e a1 w1 ⟨he, X1, E1, A1, O1, I1⟩
                      cases e <;> simp only [exRel] at he
                      obtain ⟨rc1, m1, m2, m3⟩ := setLoop_sound A1 hset (L := L) (by rw [E1.ρ0]; exact hL) hk ht I1
                      have hready : rc1.state = .ready := by
                        rcases m2 _ hls with ⟨_, q, _⟩ | ⟨q, _⟩ | ⟨q, _⟩ | ⟨id, q, _⟩
                        · exact q
                        · omega
                        · omega
                        · omega
                      refine ⟨_, run_beginRound m1 hready, ?_⟩
                      have I2 : CI X1 C ⟨st1.f, hh1⟩ a1 (w1.putObj L.blk (.loop { rc1 with state := .busy })) := m3 .busy rc1.pending (.inr (.inl ⟨rfl, rfl⟩))
                      refine wpIn_mono (code_sound hmix rc.body true hsb hsb' r.body (by rw [hCglob]; exact y6) (by simp) N1 X1 E1.n E1.K A1 O1 _ _ _ hb _ _ I2) ?_
                      rintro e a2 w2 ⟨he2, X2, E2, A2, O2, I3⟩
                      obtain ⟨rc2, n1, _, n3⟩ := setLoop_sound A2 hset2 (L := L) (by rw [E2.ρ0, E1.ρ0]; exact hL) hk ht I3
                      have E3 := E1.trans E2
                      have hh : X2.h0 = h := E3.h0
                      have hρ2 : X2.ρ0 = ρ := E3.ρ0
                      have hK2 : X2.K = E.kind P := E3.K
                      have fin : ∀ sst pe, LoopSt (exNum ex) sst pe → ∃ v' ρ', Ending.returned (.bool (decide (ex = .normal))) = .returned v' ∧ (∀ i, i < h.length → ρ' i = ρ i) ∧ VRel ρ' (.bool (decide (ex = .normal))) v' ∧
                          Sim (E.kind P) Own ρ' (if r.full = true then hh2 else hh2.take h.length).get (w2.putObj L.blk (.loop { rc2 with state := sst, pending := pe })) ∧ (∀ i L, ρ' i = some L → i < (if r.full = true then hh2 else hh2.take h.length).length) ∧
                          (∀ i M, ρ' i = some M → h.length ≤ i → Own M.blk ∧ M.blk < (w2.putObj L.blk (.loop { rc2 with state := sst, pending := pe })).heap.size) ∧ Frame Own w (w2.putObj L.blk (.loop { rc2 with state := sst, pending := pe })) := by
                        intro sst pe hst
                        have I4 := n3 sst pe hst
                        generalize w2.putObj L.blk (.loop { rc2 with state := sst, pending := pe }) = w3 at I4 ⊢
                        obtain ⟨⟨ρ3, _, s3, d3, h3, new3⟩, _, frm3, _, _, len3⟩ := I4
                        simp only at s3 d3
                        rw [hK2] at s3
                        rw [hh] at h3 new3
                        rw [hρ2] at h3
                        have s4 : Sim (E.kind P) Own ρ3 hh2.get w3 := Sim.weaken s3 fun i _ q => E3.own i q
                        have new4 : ∀ i M, ρ3 i = some M → h.length ≤ i → Own M.blk ∧ M.blk < w3.heap.size := fun i M q1 q2 => ⟨E3.own _ (new3 i M q1 q2).1, (new3 i M q1 q2).2⟩
                        have frm4 : Frame Own w w3 := E3.frame.trans (frm3.weaken fun i _ q => E3.own i q)
                        by_cases hfull : r.full = true
                        · rw [if_pos hfull]
                          exact ⟨_, ρ3, rfl, h3, .plain rfl, s4, d3, new4, frm4⟩
                        · rw [if_neg hfull]
                          have hcol : collect h.length [] hh2 = some ([], []) := by simp [collect, reach]
                          have hkk : Kept h.length h hh2 := by
                            have : C.lim = h.length := by rw [hClim, if_neg hfull]
                            rw [← this]; exact hkall
                          obtain ⟨ρ4, t1, _, t3, t4, t5⟩ := collect_spec hcol s4 d3 hlall new4 (us := []) trivial hkk h3 (fun i b L e1 e2 v hv => (hs.blk i b L e1 e2).rel hv) hd
                          rw [List.append_nil] at t3 t4
                          exact ⟨_, ρ4, rfl, fun i hi => by rw [t1 i hi, h3 i hi], .plain rfl, t3, t4, t5, frm4⟩
                      cases e with
                      | normal =>
                        cases ex <;> simp only [exRel] at he2
                        exact ⟨_, _, run_endRound none n1, fin .ready none (.inl ⟨rfl, rfl, rfl⟩)⟩
                      | ret =>
                        cases ex <;> simp only [exRel] at he2
                        exact ⟨_, _, run_endRound (some .ret) n1, fin .done (some .ret) (.inr (.inr (.inl ⟨rfl, rfl, rfl⟩)))⟩
                      | exit id =>
                        cases ex <;> simp only [exRel] at he2
                        subst he2
                        exact ⟨_, _, run_endRound (some (.exit _)) n1, fin .done (some (.exit _)) (.inr (.inr (.inr ⟨_, rfl, rfl, rfl⟩)))⟩
                      | goto l => exfalso; cases ex <;> simp only [exRel] at he2
                      | panic c => exfalso; cases ex <;> simp only [exRel] at he2
                      | outgrown => exfalso; cases ex <;> simp only [exRel] at he2
                  · cases hr
                · cases hr
              · cases hr
            · cases hr
          · cases hr
        · cases hr
      · cases hr
    · cases hr
  · cases hr

theorem leaves_marks {P : Program} {fn : Func} {tmps : Array Value} {R : Ending → World → Prop} : ∀ (ms : List Nat) (w : World), (∀ D ∈ ms, w.heap[D]? = some (.deferred (some []))) → ms.Nodup →
    (∀ w' : World, w'.os = w.os → w'.tape = w.tape → w'.output = w.output → w'.heap.size = w.heap.size → (∀ k, k ∉ ms → w'.heap[k]? = w.heap[k]?) → ∃ v, (results fn tmps).run P w' = .ok v w' ∧ R (.returned v) w') →
    LeavesInM (FW none) 0 P fn tmps R (ms.map fun D => { target := .collected D, args := #[] }) .returning w
  | [], w, _, _, h => h w rfl rfl rfl rfl (fun _ _ => rfl)
  | D :: ms, w, hm, hn, h => by
    obtain ⟨n1, n2⟩ := List.nodup_cons.1 hn
    refine ⟨by simp, .inl ⟨D, _, rfl, run_takeDeferred (hm D (by simp)), leaves_marks ms (w.putObj D (.deferred none)) (fun D' h' => ?_) n2 fun w' a b c d e => h w' a b c (by simpa using d) fun k hk => ?_⟩⟩
    · rw [World.putObj_heap_other (by rintro rfl; exact n1 h')]; exact hm D' (by simp [h'])
    · rw [e k (fun q => hk (by simp [q])), World.putObj_heap_other (by rintro rfl; exact hk (by simp))]

/-- A function's body. -/
theorem body_ok {P : Program} (hmix : P.follows .mixedOrders = true) {E : EProg} {f : FuncId} {hints : List (Option (List Nat))} {mode : FMode} {F : EFun} {C : Ctx} (hCg : C.glob = E.glob) (hEf : E.fn f = some F) (hF : compileFun P C.glob f hints mode = some F) {vs : List Value} {h h' : Heap} {v : Value}
    (hbase : C.base = h.length) (hlim : C.lim ≤ h.length) (hgc : C.gc = true → C.lim = h.length)
    (hcall : ∀ lim f vs h v h', lim ≤ h.length → C.call lim f vs h = some (v, h') → CallOk P (E.kind P) C.glob f lim vs h v h')
    (hround : ∀ lim b vs h v h', lim ≤ h.length → C.round lim b vs h = some (v, h') → RoundOk P (E.kind P) C.glob lim b vs h v h') (hr : F.run C vs h = some (v, h')) : CallOk P (E.kind P) C.glob f C.lim vs h v h' := by
  unfold compileFun at hF
  split at hF
  · rename_i fn hfn
    split at hF
    · rename_i c hbody
      split at hF
      · rename_i code rs hcode hrs
        split at hF
        · rename_i hcl
          obtain ⟨hcl, hnr⟩ := hcl
          have hF := Option.some.inj hF
          subst hF
          unfold EFun.run at hr
          simp only at hr
          have hN : NodesOk P C.glob fn.ntmps (modeT mode) f (E.kind P) code := fun i r hm tmps ps assign body hsz hk hsl =>
            ⟨_, r, _, hEf, lookupN_mem hnr hm, by rw [← hCg, hsz]; exact hk, rfl, fun t ht => by rw [hsz]; exact hsl t ht⟩
          split at hr
          · rename_i hargs
            have main : ∀ (ex : Ex) (st : St), code.run C ⟨argFrame 0 vs, h⟩ = some (ex, st) → (ex = .normal ∨ ex = .ret) → (rs.mapM (ERes.get st)).map (fun vs => (retVal vs, st.h)) = some (v, h') → CallOk P (E.kind P) C.glob f C.lim vs h v h' := by
              intro ex st hrun hex hres
              simp only [Option.map_eq_some_iff, Prod.mk.injEq] at hres
              obtain ⟨us, hus, rfl, rfl⟩ := hres
              obtain ⟨k1, k2⟩ := code_kept hcall hround (by omega) code _ _ _ (by simp only; omega) hrun
              refine ⟨hcl, by omega, k2, ?_⟩
              intro ρ w Own args hown hglob hs hd hrel
              let X : Fix := ⟨E.kind P, [], Own, ρ, h, w, fn.ntmps⟩
              have A : Around P X C := ⟨hown, hglob.1, hglob.2, hd, hbase, hlim, hcall, hround, fun D hm => by (cases hm), List.nodup_nil⟩
              have O : Old X C := ⟨hgc, fun i b L e1 e2 v hv => (hs.blk i b L e1 e2).rel hv⟩
              have hlen := hrel.len
              have hsz : (args.toArray ++ Array.replicate (fn.ntmps - args.toArray.size) undef).size = fn.ntmps := by simp; omega
              have I0 : CI X C ⟨argFrame 0 vs, h⟩ { tmps := args.toArray ++ Array.replicate (fn.ntmps - args.toArray.size) undef, defers := [] } w := by
                refine ⟨⟨ρ, ?_, hs, hd, fun _ _ => rfl, fun i L e1 e2 => ?_⟩, .refl _ _, .refl _ _, rfl, hsz, Nat.le_refl _⟩
                · have := argFrame_rel (pre := []) (rest := List.replicate (fn.ntmps - args.toArray.size) undef) hrel rfl
                  have e : ([] ++ args ++ List.replicate (fn.ntmps - args.toArray.size) undef).toArray = args.toArray ++ Array.replicate (fn.ntmps - args.toArray.size) undef := Array.ext' (by simp)
                  rw [e] at this
                  exact this
                · have := hd i L e1
                  simp only [X] at e2; omega
              refine calls_FW (n := 0) (ro := none) (callsIn_of_wp_marks hfn hbody trivial (wpIn_mono (code_sound hmix c false _ _ _ hcode (fun _ => rfl) hN X rfl rfl A O _ _ _ hrun _ w I0) ?_))
              rintro e a' w' ⟨he, X1, E1, A1, O1, ⟨⟨ρ', hf, hs', hd', h0', hnew'⟩, _, hfr, hdef, _, _⟩⟩
              have hh : X1.h0 = h := E1.h0
              have hρ1 : X1.ρ0 = ρ := E1.ρ0
              have hK1 : X1.K = E.kind P := E1.K
              rw [hh] at h0' hnew'
              rw [hρ1] at h0'
              rw [hK1] at hs'
              have hmk : ∀ D ∈ X1.marks, w'.heap[D]? = some (.deferred (some [])) := fun D hm => by
                obtain ⟨m1, m2, m3⟩ := A1.marks D hm
                rw [hfr.block D m1 m3]; exact m2
              have hw : Frame Own w w' := E1.frame.trans (hfr.weaken fun i _ q => E1.own i q)
              have goal : LeavesInM (FW none) 0 P fn a'.tmps (fun e w' => ∃ v' ρ', e = .returned v' ∧ (∀ i, i < h.length → ρ' i = ρ i) ∧ VRel ρ' (retVal us) v' ∧ Sim (E.kind P) Own ρ' st.h.get w' ∧
                  (∀ i L, ρ' i = some L → i < st.h.length) ∧ (∀ i L, ρ' i = some L → h.length ≤ i → Own L.blk ∧ L.blk < w'.heap.size) ∧ Frame Own w w') a'.defers .returning w' := by
                rw [hdef]
                refine leaves_marks X1.marks w' hmk A1.nodup fun w2 g1 g2 g3 g4 g5 => ?_
                have hs2 : Sim (E.kind P) X1.Own ρ' st.h.get w2 := Sim.same hs' fun i x q1 q2 => by
                  rw [g5 i (fun hm => by rw [hmk i hm] at q1; cases q1; exact q2 _ rfl)]; exact q1
                obtain ⟨v', r1, r2⟩ := results_sound hrs hus hf hs2
                refine ⟨v', r1, v', ρ', rfl, h0', r2, Sim.weaken hs2 fun i _ q => E1.own i q, hd', fun i L q1 q2 => ⟨E1.own _ (hnew' i L q1 q2).1, by rw [g4]; exact (hnew' i L q1 q2).2⟩, ?_⟩
                refine hw.trans ⟨g1, g2, g3, by omega, fun k _ ho => g5 k fun hm => ?_⟩
                rcases E1.marks k hm with q | q
                · cases q
                · exact ho (hown k q)
              rcases hex with rfl | rfl
              · cases e <;> simp only [exRel] at he
                exact goal
              · cases e <;> simp only [exRel] at he
                exact goal
            split at hr
            · rename_i st hrun; exact main _ st hrun (.inl rfl) hr
            · rename_i st hrun; exact main _ st hrun (.inr rfl) hr
            · cases hr
          · cases hr
        · cases hF
      · cases hF
    · cases hF
  · cases hF

theorem CallOk.mono {P : Program} {glob : List Nat} {f : FuncId} {lim lim' : Nat} {vs : List Value} {h h' : Heap} {v : Value} (hc : CallOk P K glob f lim vs h v h') (hl : lim' ≤ lim) : CallOk P K glob f lim' vs h v h' :=
  ⟨hc.1, hc.2.1, hc.2.2.1.mono hl, hc.2.2.2⟩

/-- Behind a call: what is not reached is forgotten. -/
theorem collect_ok {P : Program} {glob : List Nat} {f : FuncId} {vs : List Value} {h h1 : Heap} {v v' : Value} {bs : List (Option Blk)} (hc : CallOk P K glob f h.length vs h v h1) (hcol : collect h.length [v] h1 = some ([v'], bs)) :
    CallOk P K glob f h.length vs h v' (h1.take h.length ++ bs) := by
  obtain ⟨c1, c2, c3, c4⟩ := hc
  have hlen : (h1.take h.length).length = h.length := by simp; omega
  have same : ∀ i, i < h.length → Heap.get (h1.take h.length ++ bs) i = h1.get i := by
    intro i hi
    rw [Heap.get_append_lt (by omega)]
    simp [Heap.get, hi]
  refine ⟨c1, by simp; omega, ?_, ?_⟩
  · exact c3.trans (Kept.of_same same)
  · intro ρ w Own args hown hg hs hd hr
    refine (c4 ρ w Own args hown hg hs hd hr).mono ?_
    rintro e w' ⟨u, ρ', rfl, q1, q2, q3, q4, q5, q6⟩
    have hold : ∀ i b L, h.get i = some b → ρ i = some L → ∀ v ∈ b.cells, ∃ v0, VRel ρ v v0 := by
      intro i b L e1 e2 v hv
      exact (hs.blk i b L e1 e2).rel hv
    obtain ⟨ρ2, p1, p2, p3, p4, p5⟩ := collect_spec hcol q3 q4 c2 (fun i L e1 e2 => q5 i L e1 e2) (us := [u]) ⟨q2, trivial⟩ c3 q1 hold hd
    exact ⟨u, ρ2, rfl, fun i hi => by rw [p1 i hi, q1 i hi], p2.1, p3, p4, p5, q6⟩

/-- All functions are compiled. -/
structure ProgOk (P : Program) (E : EProg) : Prop where
  mix : P.follows .mixedOrders = true
  fn : ∀ f F, E.fn f = some F → (∃ hints m, modeN m = false ∧ compileFun P E.glob f hints m = some F) ∨
    ∃ N, F.mode = .nat N ∧ ∀ lim vs h v h', lim ≤ h.length → N vs h = some (v, h') → CallOk P (E.kind P) E.glob f lim vs h v h'

/-- THE THEOREM: what the abstract evaluator gives for a call, the call gives. -/
theorem prog_sound {P : Program} {E : EProg} (hE : ProgOk P E) : ∀ (d lim : Nat) (f : FuncId) (vs : List Value) (h : Heap) (v : Value) (h' : Heap), lim ≤ h.length → E.call d lim f vs h = some (v, h') → CallOk P (E.kind P) E.glob f lim vs h v h' := by
  intro d
  induction d with
  | zero => intro lim f vs h v h' _ hc; simp [EProg.call] at hc
  | succ d ih =>
    intro lim f vs h v h' hl hc
    unfold EProg.call at hc
    split at hc
    · cases hc
    · rename_i F hF
      rcases hE.fn f F hF with ⟨hints, m, hm, hcomp⟩ | ⟨N, hN, hs⟩
      rotate_left
      · rw [hN] at hc
        exact hs lim vs h v h' hl hc
      obtain rfl := compileFun_mode hcomp
      split at hc
      · -- pure
        rename_i hmode
        split at hc
        · rename_i u h1 hr
          have hb := body_ok hE.mix (E := E) (C := ⟨EProg.call E d, h.length, h.length, true, E.glob, E.fuel, EProg.roundOf E (EProg.call E d)⟩) (h := h.freeze) rfl hF hcomp (by simp) (by simp) (fun _ => by simp) ih (fun _ _ _ _ _ _ hl hr => round_ok hE.mix ih hl hr) hr
          split at hc
          · rename_i v' bs hcol
            cases hc
            have hb' : CallOk P (E.kind P) E.glob f h.freeze.length vs h.freeze u h1 := by rw [Heap.length_freeze]; exact hb
            have h2 := collect_ok (h := h.freeze) hb' (by rw [Heap.length_freeze]; exact hcol)
            rw [Heap.length_freeze] at h2
            have h3 := (h2.mono hl).frozen hl
            have hlen : h.length ≤ h1.length := by have := hb.2.1; simpa using this
            have e : (h1.take h.length ++ bs).drop h.length = bs := by
              rw [List.drop_append_of_le_length (by simp; omega)]
              simp
            rw [e] at h3
            exact h3
          · cases hc
        · cases hc
      · -- trunc
        split at hc
        · rename_i u h1 hr
          have hb := body_ok hE.mix (E := E) (C := ⟨EProg.call E d, h.length, h.length, true, E.glob, E.fuel, EProg.roundOf E (EProg.call E d)⟩) (h := h) rfl hF hcomp rfl (Nat.le_refl _) (fun _ => rfl) ih (fun _ _ _ _ _ _ hl hr => round_ok hE.mix ih hl hr) hr
          split at hc
          · rename_i v' bs hcol
            cases hc
            exact (collect_ok hb hcol).mono hl
          · cases hc
        · cases hc
      · -- full
        exact body_ok hE.mix (E := E) (C := ⟨EProg.call E d, h.length, lim, false, E.glob, E.fuel, EProg.roundOf E (EProg.call E d)⟩) (h := h) rfl hF hcomp rfl hl (fun q => by cases q) ih (fun _ _ _ _ _ _ hl hr => round_ok hE.mix ih hl hr) hc
      · -- not compiled
        rename_i hmode
        rw [hmode] at hm
        cases hm
end Go.Abs
